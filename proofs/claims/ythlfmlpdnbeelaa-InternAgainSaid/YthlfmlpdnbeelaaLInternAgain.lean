/- For every list of ids seepagelaw03.InternAgain returns true, and its argument reads as before. No condition. -/
import Derived.Test.YthlfmlpdnbeelaaL3Fill
import Derived.Test.YthlfmlpdnbeelaaClose
set_option linter.unusedSimpArgs false
set_option linter.unusedVariables false
namespace Go.Proofs.Ythlfmlpdnbeelaa
open Go.ChangeShapes Go.WideShapes Go.ChangeAt Go.RowKit
namespace InternAgain

/-- A table from which nothing was removed. -/
theorem put_plain {T : It} (h : T.Ok) (hs : T.ar.stack = []) {x : Nat} (hl : T.len < T.ar.slots) : (T.put x).ar.stack = [] ∧ (T.putR x).1 ≤ T.ar.fresh ∧ (T.put x).ar.fresh = max T.ar.fresh ((T.putR x).1 + 1) := by
  rcases It.put_cases h x with ⟨i, hg, hr, e⟩ | ⟨_, hf, _, _⟩ | ⟨i, hg, _, hi, hr, e⟩
  · have := Ar.used_lt ((It.get_some h).1 hg).1
    rw [e, hr]
    exact ⟨hs, by simp only; omega, by simp only; omega⟩
  · omega
  · rw [e, hr]
    have h1 := Ar.take_fresh h.ar hi
    have hif : i = T.ar.fresh := by
      rcases (Ar.p_next_inv h.ar hi).2.2 with ⟨h2, _⟩ | ⟨_, s, h2⟩
      · exact h2
      · rw [hs] at h2; simp at h2
    refine ⟨by simp [It.add, Ar.take, hs], by simp only; omega, ?_⟩
    show (T.ar.take i).fresh = _
    rw [h1, if_pos hif]; simp only; omega
theorem fill_plain {n : Nat} (hn : n ≤ 65536) {xs : List Nat} (hx : ∀ x ∈ xs, x < 18446744073709551616) (hl : xs.length ≤ n) (k : Nat) (hk : k ≤ xs.length) : (It.fill n (xs.take k)).ar.stack = [] := by
  induction k with
  | zero => rfl
  | succ k ih =>
    obtain ⟨h1, h2, h3⟩ := It.fill_inv hn hx k (by omega)
    rw [It.fill_succ n (by omega)]
    exact (put_plain h1 (ih (by omega)) (by omega)).1

/-- The indexes from m on were given back, the last one first. -/
def back (T : It) (m : Nat) : It := ⟨{ T.ar with stack := List.range' m (T.ar.fresh - m) }, T.ids⟩
theorem back_all {T : It} (hs : T.ar.stack = []) : back T T.ar.fresh = T := by
  unfold back
  rw [Nat.sub_self]
  obtain ⟨⟨a, b, c, d⟩, e⟩ := T
  simp only at hs
  subst hs
  rfl
theorem back_used (T : It) (m i : Nat) : (back T m).ar.used i = true ↔ i < m ∧ i < T.ar.fresh := by
  unfold back Ar.used
  simp only [decide_eq_true_eq, List.mem_range']
  constructor
  · rintro ⟨h1, h2⟩
    refine ⟨?_, h1⟩
    refine Classical.byContradiction fun h => h2 ⟨i - m, by omega, by omega⟩
  · rintro ⟨h1, h2⟩
    exact ⟨h2, fun ⟨j, hj, e⟩ => by omega⟩
theorem back_step {T : It} {m : Nat} (hm : m < T.ar.fresh) (h : (back T (m + 1)).Ok) : (back T (m + 1)).idAt (m : Int) = some (T.ids m) ∧ (back T (m + 1)).del (T.ids m) = back T m ∧ (back T (m + 1)).delE (T.ids m) = 0 := by
  have hu := (back_used T (m + 1) m).2 ⟨by omega, hm⟩
  have hg : (back T (m + 1)).get (T.ids m) = some m := (It.get_some h).2 ⟨hu, rfl⟩
  refine ⟨?_, ?_, (It.del_some hg).2⟩
  · unfold It.idAt
    rw [if_pos ((usedAt_iff (m : Int)).2 ⟨m, rfl, hu⟩)]
    rfl
  · rw [(It.del_some hg).1]
    unfold back Ar.freed
    simp only
    congr 2
    rw [show T.ar.fresh - m = (T.ar.fresh - (m + 1)) + 1 by omega, List.range'_succ]

/-- The same ids with the same indexes, and the same ones to come. -/
structure Like (U T : It) : Prop where
  slots : U.ar.slots = T.ar.slots
  le : T.ar.fresh ≤ U.ar.fresh
  stack : U.ar.stack = List.range' T.ar.fresh (U.ar.fresh - T.ar.fresh)
  plain : T.ar.stack = []
  ids : ∀ i, i < T.ar.fresh → U.ids i = T.ids i
theorem Like.used {U T : It} (h : Like U T) (i : Nat) : U.ar.used i = true ↔ T.ar.used i = true := by
  unfold Ar.used
  rw [h.stack, h.plain]
  simp only [decide_eq_true_eq, List.mem_range', List.not_mem_nil, not_false_eq_true, and_true]
  have hl := h.le
  constructor
  · rintro ⟨h1, h2⟩
    refine Classical.byContradiction fun hn => h2 ⟨i - T.ar.fresh, by omega, by omega⟩
  · intro h1
    exact ⟨by omega, fun ⟨j, hj, e⟩ => by omega⟩
theorem Like.get {U T : It} (h : Like U T) (hu : U.Ok) (ht : T.Ok) (x : Nat) : U.get x = T.get x := by
  cases hg : T.get x with
  | some i =>
    obtain ⟨h1, h2⟩ := (It.get_some ht).1 hg
    exact (It.get_some hu).2 ⟨(h.used i).2 h1, by rw [h.ids i (Ar.used_lt h1), h2]⟩
  | none =>
    rw [It.get_none hu]
    intro i hi e
    have h1 := (h.used i).1 hi
    exact (It.get_none ht).1 hg i h1 (by rw [← h.ids i (Ar.used_lt h1)]; exact e)
theorem Like.next {U T : It} (h : Like U T) (hu : U.Ok) : U.ar.next = T.ar.next := by
  have hl := h.le
  have hf := hu.ar.fresh
  unfold Ar.next
  rw [h.plain, h.stack]
  by_cases e : T.ar.fresh = U.ar.fresh
  · rw [e, Nat.sub_self, ← h.slots]; rfl
  · rw [show U.ar.fresh - T.ar.fresh = (U.ar.fresh - T.ar.fresh - 1) + 1 by omega, List.range'_succ]
    have hs := h.slots
    simp only
    rw [if_pos (by omega)]
theorem Like.put {U T : It} (h : Like U T) (hu : U.Ok) (ht : T.Ok) (x : Nat) : U.putR x = T.putR x ∧ Like (U.put x) (T.put x) := by
  have hg := h.get hu ht x
  have hn := h.next hu
  unfold It.putR It.put
  rw [hg, hn]
  cases hgx : T.get x with
  | some i => exact ⟨rfl, h⟩
  | none =>
    cases hnx : T.ar.next with
    | none => exact ⟨rfl, h⟩
    | some i =>
      refine ⟨rfl, ?_⟩
      have hif : i = T.ar.fresh := by
        rcases (Ar.p_next_inv ht.ar hnx).2.2 with ⟨h2, _⟩ | ⟨_, s, h2⟩
        · exact h2
        · rw [h.plain] at h2; simp at h2
      have hl := h.le
      have f1 := Ar.take_fresh ht.ar hnx
      have f2 := Ar.take_fresh hu.ar (hn.trans hnx)
      rw [if_pos hif] at f1
      have s2 : (U.ar.take i).stack = U.ar.stack.tail := rfl
      refine ⟨h.slots, ?_, ?_, ?_, ?_⟩
      · show (T.ar.take i).fresh ≤ (U.ar.take i).fresh
        rw [f1, f2]; split <;> omega
      · show (U.ar.take i).stack = List.range' (T.ar.take i).fresh ((U.ar.take i).fresh - (T.ar.take i).fresh)
        rw [s2, h.stack, f1, f2]
        by_cases e : T.ar.fresh = U.ar.fresh
        · rw [if_pos (by omega), e, Nat.sub_self, Nat.sub_self]; rfl
        · rw [if_neg (by omega), show U.ar.fresh - T.ar.fresh = (U.ar.fresh - (T.ar.fresh + 1)) + 1 by omega, List.range'_succ]
          rfl
      · show (T.ar.take i).stack = []
        simp [Ar.take, h.plain]
      · intro j hj
        have hj' : j < T.ar.fresh + 1 := by rw [← f1]; exact hj
        show (if j = i then x else U.ids j) = (if j = i then x else T.ids j)
        by_cases e : j = i
        · rw [if_pos e, if_pos e]
        · rw [if_neg e, if_neg e]; exact h.ids j (by omega)
theorem Like.start {T : It} {n : Nat} (hs : T.ar.slots = n) : Like (back T 0) (It.new n) :=
  ⟨hs, Nat.zero_le _, rfl, rfl, fun i hi => by simp [It.new, Ar.new] at hi⟩

set_option maxHeartbeats 8000000
set_option maxRecDepth 100000 in
theorem walk (a : Option Addr) (len cap : Nat) (zs : List Int) (w : World) (hin : IntsIn w .u64 a len cap zs) :
    Calls Try.prog 7 #[.slice a len cap] w fun e w' => e = .returned (.bool true) ∧ Below w.heap.size w w' := by
  have hle := hin.hle
  have hmax := hin.hmax
  have hlen := hin.hlen
  by_cases hl : len ≤ 300
  · obtain ⟨hn1, hn2⟩ := hin.nat
    obtain ⟨xs, hxs⟩ : ∃ xs, natsOf zs = xs := ⟨_, rfl⟩
    rw [hxs] at hn1 hn2
    have hxl : xs.length = len := by rw [← hxs, natsOf_len]; exact hlen
    obtain ⟨T, hT⟩ : ∃ T, It.fill 300 xs = T := ⟨_, rfl⟩
    have hfull : xs.take len = xs := by rw [← hxl, List.take_length]
    have hinv := fun k hk => It.fill_inv (n := 300) (by omega) hn1 k hk
    have hpl := fun k hk => fill_plain (n := 300) (by omega) hn1 (by omega) k hk
    have hstep : ∀ k, k < len → It.atOf 300 xs k ≤ (It.fill 300 (xs.take k)).ar.fresh ∧ (It.fill 300 (xs.take (k + 1))).ar.fresh = max (It.fill 300 (xs.take k)).ar.fresh (It.atOf 300 xs k + 1) := fun k hk => by
      obtain ⟨h1, h2, h3⟩ := hinv k (by omega)
      have := put_plain h1 (hpl k (by omega)) (x := xs.getD k 0) (by omega)
      rw [It.fill_succ 300 (by omega)]
      exact ⟨this.2.1, this.2.2⟩
    have hF : T.ar.fresh ≤ 300 := by
      obtain ⟨h1, h2, h3⟩ := hinv len (by omega)
      rw [hfull, hT] at h1 h2
      have := h1.ar.fresh; omega
    have HIN := Lib.hid hin
    have HX := Lib.hid (And.intro hxs (And.intro hT (And.intro hfull hxl)))
    have HN := Lib.hid (And.intro hn1 hn2)
    have HINV := Lib.hid hinv
    have HPL := Lib.hid hpl
    have HST := Lib.hid hstep
    have HF0 := Lib.hid (show (It.fill 300 (xs.take 0)).ar.fresh = 0 from rfl)
    have HFL := Lib.hid (show (It.fill 300 (xs.take len)).ar.fresh = T.ar.fresh by rw [hfull, hT])
    clear hin hn1 hn2 hxs hxl hT hfull hinv hpl hstep hlen
    go_enter Try.func7, Try.ntmps7
    go_wp2_with (go_at_call 24; refine (Sep.l3filled (Sep.start w) HIN.out 300 (by omega) hl).mono ?_; rintro e w1 ⟨t, S1, a1, c1, rfl, q1, m1, h⟩; rw [HX.out.1, HX.out.2.1] at h; have H1 := Lib.hid h; clear h)
    go_loopw [2, 6, 7] (fun u m y wr => ∃ (k : Nat), u = .bool false ∧ m = .int .i64 (((It.fill 300 (xs.take k)).ar.fresh : Int) - 1) ∧ y = .int .i64 k ∧ k ≤ len ∧ Sep w wr [tabT w.heap.size t T S1, intsT .i64 a1 len c1 (atL 300 xs len)]) (fun _ _ y _ => len - (intOf y).toNat)
    case atStart => exact ⟨0, rfl, by rw [HF0.out]; rfl, rfl, Nat.zero_le _, H1.out⟩
    case round =>
      obtain ⟨k, rfl, rfl, rfl, hk, hsep1⟩ := hrel
      have HW := Lib.hid hsep1
      clear hsep1
      by_cases hlt : k < len
      · obtain ⟨b1, o1, ha1⟩ := IntsIn.addr (show IntsIn wr .i64 a1 len c1 _ from HW.out.get 1 rfl) (by omega)
        subst ha1
        have kc := IntsIn.cellAt (show IntsIn wr .i64 (some ⟨b1, o1, none⟩) len c1 (atL 300 xs len) from HW.out.get 1 rfl) hlt
        rw [atL_at xs hlt] at kc
        obtain ⟨s1, s2⟩ := HST.out k hlt
        have hfl : (It.fill 300 (xs.take k)).ar.fresh ≤ 300 := by
          obtain ⟨h1, h2, h3⟩ := HINV.out k (by have := HX.out.2.2.2; omega)
          have := h1.ar.fresh; omega
        have HS2 := Lib.hid s2
        generalize (It.fill 300 (xs.take k)).ar.fresh = f at s1 hfl HS2 ⊢
        generalize It.atOf 300 xs k = g at kc s1 HS2
        clear s2
        by_cases hgf : g = f
        · have h1 : (f : Int) - 1 < g := by omega
          have HQ := Lib.hid (show ((It.fill 300 (xs.take (k + 1))).ar.fresh : Int) - 1 = g by rw [HS2.out]; omega)
          clear hgf
          go_wp2
          go_roundw
          case rel => exact ⟨k + 1, rfl, by rw [HQ.out], by simp, by omega, HW.out⟩
          case measure => simp [intOf]; omega
        · have h1 : (g : Int) ≤ (f : Int) - 1 := by omega
          have HQ := Lib.hid (show ((It.fill 300 (xs.take (k + 1))).ar.fresh : Int) - 1 = (f : Int) - 1 by rw [HS2.out]; omega)
          clear hgf
          go_wp2
          go_roundw
          case rel => exact ⟨k + 1, rfl, by rw [HQ.out], by simp, by omega, HW.out⟩
          case measure => simp [intOf]; omega
      · obtain rfl : k = len := by omega
        rw [HFL.out]
        have HTP := Lib.hid (show T.ar.stack = [] by have := HPL.out k (by have := HX.out.2.2.2; omega); rwa [HX.out.2.2.1, HX.out.2.1] at this)
        clear hlt
        go_wp2
        obtain ⟨F, hFe⟩ : ∃ F, T.ar.fresh = F := ⟨_, rfl⟩
        have HFE := Lib.hid hFe
        rw [hFe] at hF ⊢
        clear hFe
        go_loopw [2, 8] (fun u y wr => ∃ (m : Nat) (S : Nat → Prop), u = .bool false ∧ y = .int .i64 ((m : Int) - 1) ∧ m ≤ F ∧ Sep w wr [tabT w.heap.size t (back T m) S, intsT .i64 a1 k c1 (atL 300 xs k)]) (fun _ y _ => (intOf y + 1).toNat)
        case atStart => exact ⟨F, S1, rfl, rfl, Nat.le_refl _, by rw [← HFE.out, back_all HTP.out]; exact HW.out⟩
        case round =>
          obtain ⟨m, S, rfl, rfl, hm, hsep⟩ := hrel
          have HSM := Lib.hid hsep
          by_cases hm0 : 0 < m
          · obtain ⟨q, rfl⟩ : ∃ q, m = q + 1 := ⟨m - 1, by omega⟩
            have hok := hsep.tab_it
            obtain ⟨b1, b2, b3⟩ := back_step (T := T) (m := q) (by rw [HFE.out]; omega) hok
            have hids := hok.idlt q (by show q < T.ar.fresh; rw [HFE.out]; omega)
            have hids' : T.ids q < 18446744073709551616 := hids
            have HB := Lib.hid (And.intro b1 (And.intro b2 b3))
            have hq : ((q + 1 : Nat) : Int) - 1 = (q : Int) := by omega
            rw [hq]
            generalize T.ids q = x at hids' HB
            clear hsep hok b1 b2 b3 hids hq
            go_wp2_with (first
              | (go_at_call 28; refine (Sep.iID HSM.out (q : Int)).mono ?_; rintro e wz ⟨rfl, rfl⟩; rw [HB.out.1]; simp only [idV])
              | (go_at_call 21; refine (Sep.iDel HSM.out x hids').mono ?_; rintro e w2 ⟨rfl, S2, h⟩; rw [HB.out.2.2]; rw [HB.out.2.1] at h; have H2 := Lib.hid h; clear h))
            go_roundw
            case rel => exact ⟨q, S2, rfl, by simp, by omega, H2.out⟩
            case measure => simp [intOf]
          · obtain rfl : m = 0 := by omega
            have HLK := Lib.hid (Like.start (T := T) (n := 300) (by obtain ⟨_, h2, _⟩ := HINV.out k (by have := HX.out.2.2.2; omega); rwa [HX.out.2.2.1, HX.out.2.1] at h2))
            have hlen0 : (back T 0).ar.list.length = 0 := by
              rw [List.length_eq_zero_iff, List.eq_nil_iff_forall_not_mem]
              intro i hi
              have := (back_used T 0 i).1 ((Ar.p_mem_list hsep.tab_it.ar i).1 hi)
              omega
            have HL0 := Lib.hid hlen0
            clear hsep hm0 hlen0
            go_wp2_with (go_at_call 23; refine (Sep.iLenEq HSM.out HL0.out).mono ?_; rintro e wz ⟨rfl, rfl⟩)
            go_loopw [2, 11] (fun u y wr => ∃ (j : Nat) (U : It) (S : Nat → Prop), u = .bool false ∧ y = .int .i64 j ∧ j ≤ k ∧ Like U (It.fill 300 (xs.take j)) ∧ Sep w wr [tabT w.heap.size t U S, intsT .i64 a1 k c1 (atL 300 xs k)]) (fun _ y _ => k - (intOf y).toNat)
            case atStart => exact ⟨0, _, S, rfl, rfl, Nat.zero_le _, HLK.out, HSM.out⟩
            case round =>
              obtain ⟨j, U, S', rfl, rfl, hj, hlike, hsep⟩ := hrel
              have HSJ := Lib.hid hsep
              by_cases hjk : j < k
              · obtain ⟨b1, o1, ha1⟩ := IntsIn.addr (show IntsIn _ .i64 a1 k c1 _ from hsep.get 1 rfl) (by omega)
                subst ha1
                obtain ⟨b0, off, ha0, hb0, hc⟩ := HIN.out.hcell j hjk
                subst ha0
                have kd := (hsep.below.cell (p := ⟨b0, off + j, none⟩) hb0).trans hc
                rw [HN.out.2 j hjk] at kd
                obtain ⟨i1, i2, i3⟩ := HINV.out j (by have := HX.out.2.2.2; omega)
                obtain ⟨p1, p2⟩ := hlike.put hsep.tab_it i1 (xs.getD j 0)
                have pr := It.putR_room i1 (xs.getD j 0) (by omega)
                have hst := It.fill_succ 300 (xs := xs) (k := j) (by have := HX.out.2.2.2; omega)
                rw [← hst] at p2
                obtain ⟨R, hR⟩ : ∃ R, (It.fill 300 (xs.take j)).putR (xs.getD j 0) = R := ⟨_, rfl⟩
                obtain ⟨ix, ib, ie⟩ := R
                have hat : It.atOf 300 xs j = ix := by show ((It.fill 300 (xs.take j)).putR (xs.getD j 0)).1 = ix; rw [hR]
                rw [hR] at p1 pr
                simp only at pr
                subst pr
                have hx64 := It.getD_lt HN.out.1 j
                have HP := Lib.hid (And.intro p1 p2)
                have HAT := Lib.hid (show (atL 300 xs k).getD j 0 = (ix : Int) by rw [atL_at xs hjk, hat])
                generalize xs.getD j 0 = x at kd hx64 HP
                clear hsep hlike i1 i2 i3 p1 p2 hst hR hat hc
                go_wp2_with (go_at_call 22; refine (Sep.iPut HSJ.out x hx64).mono ?_; rintro e w2 ⟨rfl, S2, h⟩; rw [HP.out.1]; simp only [putV]; have kc := IntsIn.cellAt (show IntsIn w2 .i64 (some ⟨b1, o1, none⟩) k c1 (atL 300 xs k) from h.get 1 rfl) hjk; rw [HAT.out] at kc; have H2 := Lib.hid h; clear h)
                go_roundw
                case rel => exact ⟨j + 1, _, S2, rfl, by simp, by omega, HP.out.2, H2.out⟩
                case measure => simp [intOf]; omega
              · clear hsep hlike
                go_wp2_with (go_at_call 19; refine (Sep.l3works HSJ.out).mono ?_; rintro e w8 ⟨rfl, h⟩; have H8 := Lib.hid h; clear h)
                go_ret
                exact ⟨by simp, H8.out.below⟩
  · have HS := Lib.hid (Sep.start w)
    clear hin
    go_enter Try.func7, Try.ntmps7
    go_wp2_with (go_at_call 19; refine (Sep.l3works HS.out).mono ?_; rintro e w8 ⟨rfl, h⟩; have H8 := Lib.hid h; clear h)
    go_ret
    exact ⟨by simp, H8.out.below⟩
end InternAgain
end Go.Proofs.Ythlfmlpdnbeelaa
