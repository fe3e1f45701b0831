/- For every list of times seepagelaw35.ExpiryOrder returns true, and its argument reads as before. No condition. -/
import Derived.Test.YtmlbacbcdjfioaaExpT
import Derived.Test.YtmlbacbcdjfioaaClose
set_option linter.unusedSimpArgs false
set_option linter.unusedVariables false
namespace Go.Proofs.Ytmlbacbcdjfioaa
open Go.ChangeShapes Go.WideShapes Go.ChangeAt Go.RowKit
namespace ExpiryOrder

/-- Which slots are no longer scheduled. -/
def seenB (A : Hp) (len i : Nat) : Bool := decide (i < len) && (A.keys i).isNone
def seenJ (A : Hp) (len : Nat) (D : List Ent) (j i : Nat) : Bool := seenB A len i || decide (i ∈ (D.take j).map Prod.fst)
theorem seenJ_zero (A : Hp) (len : Nat) (D : List Ent) : seenJ A len D 0 = seenB A len := by funext i; simp [seenJ]
theorem seenJ_step (A : Hp) (len : Nat) {D : List Ent} {j : Nat} (hj : j < D.length) : (fun i => Value.bool (seenJ A len D (j + 1) i)) = fun i => if i = (entAt D j).1 then .bool true else .bool (seenJ A len D j i) := by
  funext i
  unfold seenJ
  rw [List.take_succ_eq_append_getElem hj, entAt_eq hj]
  by_cases h : i = (entAt D j).1
  · simp [h]
  · simp [h]
theorem nats_at {D : List Ent} {j : Nat} (hj : j < D.length) : (nats D).getD j 0 = ((entAt D j).1 : Int) := by
  unfold nats
  rw [← entAt_eq hj]
  simp [List.getD, hj]

theorem cell_ints {w : World} {k : IntKind} {a : Option Addr} {n c : Nat} {xs : List Int} (h : IntsIn w k a n c xs) (hn : 0 < n) : ∃ b o, a = some ⟨b, o, none⟩ ∧ ∀ i, i < n → w.cell? ⟨b, o + i, none⟩ = some (.int k (xs.getD i 0)) := by
  obtain ⟨b, o, ha, _, _⟩ := h.hcell 0 hn
  refine ⟨b, o, ha, ?_⟩
  intro i hi
  obtain ⟨b2, o2, h2, _, h3⟩ := h.hcell i hi
  rw [ha] at h2
  simp only [Option.some.injEq, Addr.mk.injEq] at h2
  rw [h2.1, h2.2.1]
  exact h3

theorem ints_at {w : World} {k : IntKind} {b o n c : Nat} {xs : List Int} (h : IntsIn w k (some ⟨b, o, none⟩) n c xs) : ∀ i, i < n → w.cell? ⟨b, o + i, none⟩ = some (.int k (xs.getD i 0)) := by
  intro i hi
  obtain ⟨b2, o2, h2, _, h3⟩ := h.hcell i hi
  simp only [Option.some.injEq, Addr.mk.injEq] at h2
  rw [h2.1, h2.2.1]
  exact h3

structure Facts (A : Hp) (x : Ent) (R D M : List Ent) : Prop where
  pos : 0 < D.length
  first : entAt D 0 = x
  key : ∀ j, j < D.length → A.keys (entAt D j).1 = some x.2
  asc : ∀ j, 0 < j → j < D.length → (entAt D (j - 1)).1 < (entAt D j).1
  new : ∀ j, j < D.length → (entAt D j).1 ∉ (D.take j).map Prod.fst
  len : D.length + M.length = R.length
  late : ∀ y ∈ M, x.2 < y.2

theorem facts {A : Hp} {x : Ent} {R' : List Ent} (h : Srt A (x :: R')) : Facts A x (x :: R') (dueOf (x :: R') x.2) (lateOf (x :: R') x.2) := by
  have hd : dueOf (x :: R') x.2 = x :: dueOf R' x.2 := by unfold dueOf; rw [List.filter_cons, if_pos (by simp)]
  have hge : ∀ y ∈ x :: R', x.2 ≤ y.2 := by
    intro y hy
    rcases List.mem_cons.1 hy with rfl | hy
    · exact Int.le_refl _
    · have := (List.pairwise_cons.1 h.ord).1 y hy
      rw [before_iff] at this
      omega
  have hord : (dueOf (x :: R') x.2).Pairwise (fun a b => before a b = true) := h.ord.filter _
  have hkey : ∀ j (hj : j < (dueOf (x :: R') x.2).length), (dueOf (x :: R') x.2)[j].2 = x.2 ∧ A.keys (dueOf (x :: R') x.2)[j].1 = some x.2 := by
    intro j hj
    have hm := List.getElem_mem hj
    have hm2 : (dueOf (x :: R') x.2)[j] ∈ (x :: R').filter (fun y => decide (y.2 ≤ x.2)) := hm
    rw [List.mem_filter] at hm2
    have h1 := hge _ hm2.1
    have h2 : (dueOf (x :: R') x.2)[j].2 ≤ x.2 := by simpa using hm2.2
    have h3 : (dueOf (x :: R') x.2)[j].2 = x.2 := by omega
    exact ⟨h3, ((h.mem _ _).2 hm2.1).trans (congrArg some h3)⟩
  have hasc : ∀ i j (hij : i < j) (hj : j < (dueOf (x :: R') x.2).length), ((dueOf (x :: R') x.2)[i]'(by omega)).1 < (dueOf (x :: R') x.2)[j].1 := by
    intro i j hij hj
    have := List.pairwise_iff_getElem.1 hord i j (by omega) hj hij
    rw [before_iff] at this
    have h1 := (hkey i (by omega)).1
    have h2 := (hkey j hj).1
    omega
  refine ⟨by rw [hd]; simp, by rw [← entAt_eq (by rw [hd]; simp)]; simp [hd], ?_, ?_, ?_, ?_, ?_⟩
  · intro j hj; rw [← entAt_eq hj]; exact (hkey j hj).2
  · intro j h0 hj; rw [← entAt_eq hj, ← entAt_eq (show j - 1 < _ by omega)]; exact hasc (j - 1) j (by omega) hj
  · intro j hj hm
    rw [← entAt_eq hj, List.mem_map] at hm
    obtain ⟨y, hy, e⟩ := hm
    obtain ⟨i, hi, e2⟩ := List.getElem_of_mem hy
    rw [List.length_take] at hi
    rw [List.getElem_take] at e2
    have := hasc i j (by omega) hj
    rw [e2, e] at this
    omega
  · unfold dueOf lateOf
    generalize x :: R' = L
    induction L with
    | nil => rfl
    | cons y L ih =>
      simp only [List.filter_cons]
      by_cases h : y.2 ≤ x.2
      · rw [if_neg (show ¬ (decide (x.2 < y.2) = true) by simp; omega), if_pos (by simpa using h)]
        simp only [List.length_cons]; omega
      · rw [if_pos (show decide (x.2 < y.2) = true by simp; omega), if_neg (by simpa using h)]
        simp only [List.length_cons]; omega
  · intro y hy
    have := (List.mem_filter.1 hy).2
    simpa using this
theorem seen_end {A A' : Hp} {len : Nat} {x : Ent} {R : List Ent} (h : Srt A R) (hx : ∀ y ∈ R, x.2 ≤ y.2) (h' : Srt A' (lateOf R x.2)) (hlt : ∀ i v, A.keys i = some v → i < len) : seenJ A len (dueOf R x.2) (dueOf R x.2).length = seenB A' len := by
  funext i
  unfold seenJ
  rw [List.take_length]
  have hl := h.late h' i
  have hm : i ∈ (dueOf R x.2).map Prod.fst ↔ ∃ v, A.keys i = some v ∧ v ≤ x.2 := by
    rw [List.mem_map]
    constructor
    · rintro ⟨y, hy, rfl⟩
      unfold dueOf at hy
      rw [List.mem_filter] at hy
      exact ⟨y.2, (h.mem _ _).2 hy.1, by simpa using hy.2⟩
    · rintro ⟨v, h1, h2⟩
      refine ⟨(i, v), ?_, rfl⟩
      unfold dueOf
      rw [List.mem_filter]
      exact ⟨(h.mem _ _).1 h1, by simpa using h2⟩
  unfold seenB
  rw [hl]
  cases hk : A.keys i with
  | none =>
    have : ¬ i ∈ (dueOf R x.2).map Prod.fst := by rw [hm, hk]; simp
    simp [this]
  | some v =>
    have hi := hlt i v hk
    by_cases hv : x.2 < v
    · have : ¬ i ∈ (dueOf R x.2).map Prod.fst := by rw [hm, hk]; simp; omega
      simp [this, hv]
    · have : i ∈ (dueOf R x.2).map Prod.fst := by rw [hm, hk]; exact ⟨v, rfl, by omega⟩
      simp [this, hv, hi]

set_option maxHeartbeats 1000000
set_option maxRecDepth 100000 in
theorem walk (a : Option Addr) (len cap : Nat) (zs : List Int) (w : World) (hin : IntsIn w .i64 a len cap zs) :
    Calls Try.prog 5 #[.slice a len cap] w fun e w' => e = .returned (.bool true) ∧ Below w.heap.size w w' := by
  have hle := hin.hle
  have hmax := hin.hmax
  by_cases hl : len ≤ 300
  · have HI := Lib.hid hin
    have ho := upto_ok35 hin hl
    obtain ⟨L, hL⟩ : ∃ L, Srt (Hp.upto zs len) L := ⟨_, Hp.sorted_srt ho⟩
    have HL := Lib.hid (And.intro hL ho)
    have HLL := Lib.hid (srt_upto_len hL ho)
    clear hin ho hL
    go_enter Try.func5, Try.ntmps5
    go_wp2_with (first
      | (at_make; refine wpList_makeN _ _ 26 rfl rfl infoBool35 Try.underlying26 _ _ _ _ 300 rfl rfl (by omega) (by omega) (by omega) (by unfold maxLen; omega) ?_; intro w3 hown hgr; have hb3 : Below w1.heap.size w1 w3 := (Below.refl _ _).grown hgr (Nat.le_refl _) (fun k hk => by simp at hk); have h3 := H1.out.add hb3 (rowT w1.heap.size 300 (fun i => .bool (seenB (Hp.upto zs len) len i))) ⟨fun i hi => by rw [hown.cellAt _ (by omega), made_bool35 300 i hi]; by_cases hh : i < len <;> simp [seenB, Hp.upto, hh], hown.frozenAt, (hown.lt _ rfl).2⟩ (by rintro q rfl; exact Nat.le_refl _); have H3 := Lib.hid h3; clear hown hgr hb3 h3)
      | (go_at_call 30; refine (Sep.eLenEq H1.out 0 rfl HL.out.1 HLL.out).mono ?_; rintro r wz ⟨rfl, rfl⟩)
      | (go_at_call 29; refine (Sep.l35filled (Sep.start w) false HI.out hl).mono ?_; rintro r w1 ⟨e1, b1, S1, rfl, h⟩; have H1 := Lib.hid h; clear h))
    go_loopw [2, 5, 6] (fun u c y wr => ∃ (R : List Ent) (A : Hp) (S : Nat → Prop) (n : Nat) (last : Int), u = .bool false ∧ c = .int .i64 n ∧ y = .int .i64 last ∧ n + R.length = len ∧ Srt A R ∧ A.Ok ∧ (∀ i v, A.keys i = some v → i < len ∧ v = zs.getD i 0) ∧ (0 < n → ∀ z ∈ R, last < z.2) ∧
      Sep w wr [rowT w1.heap.size 300 (fun i => .bool (seenB A len i)), schedT w.heap.size e1 b1 A S]) (fun _ c _ _ => len - (intOf c).toNat)
    case atStart => exact ⟨L, Hp.upto zs len, S1, 0, 0, rfl, rfl, rfl, by rw [HLL.out]; omega, HL.out.1, HL.out.2, fun i v h => by
      simp only [Hp.upto] at h
      split at h
      · rename_i hh; simp only [Option.some.injEq] at h; exact ⟨hh, h.symm⟩
      · simp at h, fun h => by omega, H3.out⟩
    case round =>
      obtain ⟨R, A, S, n, last, rfl, rfl, rfl, hn, hsrt, hok, hsub, hlast, hsep⟩ := hrel
      cases R with
      | nil =>
        have HS := Lib.hid hsep
        have HSR := Lib.hid hsrt
        have hn' : n = len := by simpa using hn
        subst hn'
        have HM := Lib.hid (show minV ([] : List Ent).head? = .tuple #[.agg #[.int .i64 0, .int .i64 0], .bool false] from rfl)
        clear hsep hsrt hsub hlast hok hn
        go_wp2_with (first
          | (go_at_call 28; refine (Sep.l35works H5.out).mono ?_; rintro r w9 ⟨rfl, h⟩; have H9 := Lib.hid h; clear h)
          | (go_at_call 30; refine (Sep.eLenEq H5.out 1 rfl HSR.out rfl).mono ?_; rintro r wz ⟨rfl, rfl⟩; simp only [List.length_nil])
          | (go_at_call 31; refine (Sep.eNext HS.out 1 rfl HSR.out).mono ?_; rintro r w5 ⟨rfl, h, _⟩; rw [HM.out]; have H5 := Lib.hid (h.alloc (.cells #[.int .i64 0, .int .i64 0] 28)); clear h HS))
        go_ret
        exact ⟨by simp, H9.out.below⟩
      | cons x R' =>
        obtain ⟨xi, xk⟩ := x
        obtain ⟨D, hD⟩ : ∃ D, dueOf ((xi, xk) :: R') xk = D := ⟨_, rfl⟩
        obtain ⟨M, hM⟩ : ∃ M, lateOf ((xi, xk) :: R') xk = M := ⟨_, rfl⟩
        have hF := facts hsrt
        simp only at hF
        rw [hD, hM] at hF
        have hxk := hok.wf _ _ ((hsrt.mem xi xk).2 (by simp))
        have hge : ∀ y ∈ (xi, xk) :: R', xk ≤ y.2 := by
          intro y hy
          rcases List.mem_cons.1 hy with rfl | hy
          · exact Int.le_refl _
          · have := (List.pairwise_cons.1 hsrt.ord).1 y hy
            rw [before_iff] at this
            simp only at this
            omega
        have hDl : D.length + M.length = R'.length + 1 := by have := hF.len; simpa using this
        have hn2 : n + (D.length + M.length) = len := by rw [hDl]; simpa using hn
        have hD300 : D.length ≤ 300 := by omega
        have hDp := hF.pos
        have HF := Lib.hid hF
        have HD := Lib.hid (And.intro hD (And.intro hM trivial))
        have HSR := Lib.hid hsrt
        have HS := Lib.hid hsep
        have HSUB := Lib.hid (And.intro hsub (And.intro hge hok))
        have HM := Lib.hid (show minV ((xi, xk) :: R').head? = .tuple #[.agg #[.int .i64 (xi : Int), .int .i64 xk], .bool true] from rfl)
        have hcase : (n : Int) ≤ 0 ∨ (0 < (n : Int) ∧ last < xk) := by
          rcases Nat.eq_zero_or_pos n with h | h
          · exact Or.inl (by omega)
          · exact Or.inr ⟨by omega, hlast h (xi, xk) (by simp)⟩
        have hD0 : ((D.length : Int) == 0) = false := by rw [beq_eq_false_iff_ne]; omega
        clear hsep hsrt hsub hge hok hF hD hM hlast hn hDl
        rcases hcase with hn0 | ⟨hn0, hlk⟩
        all_goals
          go_wp2_with (first
            | (go_at_call 32; refine (Sep.eDueEq H5.out 2 rfl HSR.out _ HD.out.1 HD.out.2.1).mono ?_; rintro r w6 ⟨a6, c6, A6, T6, rfl, hsl, hx6, _, h⟩; have kb := h.get 1 rfl; obtain ⟨k0, k1, kf, _⟩ := row_two kb; have HX6 := Lib.hid hx6; have H6 := Lib.hid h; clear h hx6 hsl H5 kb)
            | (go_at_call 31; refine (Sep.eNext HS.out 1 rfl HSR.out).mono ?_; rintro r w5 ⟨rfl, h, _⟩; rw [HM.out]; have h5 := h.add ((Below.refl _ _).alloc (Nat.le_refl _) (.cells #[.int .i64 (xi : Int), .int .i64 xk] 28)) (blockT w5.heap.size (.cells #[.int .i64 (xi : Int), .int .i64 xk] 28)) (heap_alloc_new _ _) (by rintro q rfl; exact Nat.le_refl _); have H5 := Lib.hid h5; clear h h5 HS))
          have hdn := cell_ints (show IntsIn w6 .i64 a6 D.length c6 (nats D) from H6.out.get 0 rfl) hDp
          obtain ⟨bD, oD, rfl, hdn⟩ := hdn
          have hd0 := hdn 0 hDp
          rw [nats_at hDp, HF.out.first, Nat.add_zero] at hd0
          clear hdn
          go_quiet (fail)
          go_wp2
          clear hd0 k0
          go_loopw [2, 5, 62] (fun u c y wr => ∃ (j : Nat), u = .bool false ∧ c = .int .i64 ((n : Int) + j) ∧ y = .int .i64 j ∧ j ≤ D.length ∧
            Sep w wr [intsT .i64 (some ⟨bD, oD, none⟩) D.length c6 (nats D), blockT w5.heap.size (.cells #[.int .i64 (xi : Int), .int .i64 xk] 28 (0, 0)), rowT w1.heap.size 300 (fun i => .bool (seenJ A len D j i)), schedT w.heap.size e1 b1 A6 T6]) (fun _ _ y _ => D.length - (intOf y).toNat)
          case atStart => exact ⟨0, rfl, by simp, rfl, Nat.zero_le _, by rw [seenJ_zero]; exact H6.out.drewN _⟩
          case round =>
            obtain ⟨j, rfl, rfl, rfl, hj, hsep⟩ := hrel
            by_cases hlt : j < D.length
            · have hin := ints_at (hsep.get 0 rfl : IntsIn wr .i64 (some ⟨bD, oD, none⟩) D.length c6 (nats D))
              have hc := hin j hlt
              rw [nats_at hlt] at hc
              have hkey := HF.out.key j hlt
              have hsb : (entAt D j).1 < len ∧ xk = zs.getD (entAt D j).1 0 := HSUB.out.1 _ _ hkey
              have hnew := HF.out.new j hlt
              have hmz := hsb.1
              have hst := seenJ_step A len hlt
              have hseen : seenJ A len D j (entAt D j).1 = false := by
                unfold seenJ seenB
                rw [hkey, decide_eq_false hnew]
                simp
              obtain ⟨b0, off, ha, hb0, hcz⟩ := HI.out.hcell _ hmz
              have hcz2 := (hsep.below.cell (p := ⟨b0, off + (entAt D j).1, none⟩) hb0).trans hcz
              rw [← hsb.2] at hcz2
              have hrow := hsep.row 2 rfl (show (entAt D j).1 < 300 by omega)
              rw [hseen] at hrow
              have hrs := fun k => (hsep.drewN k).row_set 2 rfl (show (entAt D j).1 < 300 by omega) (.bool true)
              have hrowf := (hsep.get 2 rfl).2
              obtain ⟨_, k1, kf, _⟩ := row_two (hsep.get 1 rfl : wr.heap[w5.heap.size]? = some (.cells #[.int .i64 (xi : Int), .int .i64 xk] 28 (0, 0)))
              have hprev : 0 < j → wr.cell? ⟨bD, oD + (j - 1), none⟩ = some (.int .i64 ((entAt D (j - 1)).1 : Int)) ∧ (entAt D (j - 1)).1 < (entAt D j).1 := fun h0 => by
                refine ⟨?_, HF.out.asc j h0 hlt⟩
                have := hin (j - 1) (by omega)
                rwa [nats_at (by omega)] at this
              obtain ⟨m, hm⟩ : ∃ m, (entAt D j).1 = m := ⟨_, rfl⟩
              rw [hm] at hc hmz hcz2 hrow hrs hprev hst
              have HST := Lib.hid (show ∀ k, Sep w ((wr.drewN k).setCell ⟨w1.heap.size, m, none⟩ (.bool true)) [intsT .i64 (some ⟨bD, oD, none⟩) D.length c6 (nats D), blockT w5.heap.size (.cells #[.int .i64 (xi : Int), .int .i64 xk] 28 (0, 0)), rowT w1.heap.size 300 (fun i => .bool (seenJ A len D (j + 1) i)), schedT w.heap.size e1 b1 A6 T6] by
                intro k; rw [hst]; exact hrs k)
              have hf1 := hrowf.1
              have hmlen : (m : Int) < len := by omega
              have hm300 : (m : Int) < 300 := by omega
              have hm301 : m < 300 := by omega
              subst ha
              clear hin hsep hkey hsb hnew hseen hrs hrowf hst hcz hm
              by_cases hj0 : 0 < j
              · obtain ⟨hp1, hp2⟩ := hprev hj0
                have hp1' : wr.cell? ⟨bD, oD + ((j : Int) - 1).toNat, none⟩ = some (.int .i64 ((entAt D (j - 1)).1 : Int)) := by rw [show ((j : Int) - 1).toNat = j - 1 by omega]; exact hp1
                generalize (entAt D (j - 1)).1 = mp at hp1 hp1' hp2
                have hj2 : (0 : Int) ≤ (j : Int) - 1 := by omega
                have hj3 : (j : Int) - 1 < D.length := by omega
                clear hprev
                go_wp2
                have hm0 : ¬ (m : Int) < 0 := by omega
                have hml : ¬ len ≤ m := by omega
                have hj4 : ¬ m ≤ mp := by omega
                have hj5 : 0 < j := hj0
                go_quiet (fail)
                go_wp2
                go_roundw
                case rel => exact ⟨j + 1, rfl, by simp; omega, by simp, by omega, HST.out _⟩
                case measure => simp [intOf]; omega
              · have hj1 : ¬ 0 < j := hj0
                clear hprev
                go_wp2
                have hm0 : ¬ (m : Int) < 0 := by omega
                have hml : ¬ len ≤ m := by omega
                have hj5 : ¬ 0 < j := by omega
                go_quiet (fail)
                go_wp2
                go_roundw
                case rel => exact ⟨j + 1, rfl, by simp; omega, by simp, by omega, HST.out _⟩
                case measure => simp [intOf]; omega
            · obtain rfl : j = D.length := by omega
              have hok6 : A6.Ok := (hsep.sched 3 rfl).ok
              have hend : seenJ A len D D.length = seenB A6 len := by
                have := seen_end (A' := A6) (x := (xi, xk)) HSR.out HSUB.out.2.1 (show Srt A6 (lateOf ((xi, xk) :: R') xk) by rw [HD.out.2.1]; exact HX6.out) (fun i v h => (HSUB.out.1 i v h).1)
                simp only at this
                rwa [HD.out.1] at this
              have hsub6 : ∀ i v, A6.keys i = some v → i < len ∧ v = zs.getD i 0 := by
                intro i v h
                have hl := HSR.out.late (now := xk) (by rw [HD.out.2.1]; exact HX6.out) i
                rw [h] at hl
                cases hk : A.keys i with
                | none => rw [hk] at hl; simp at hl
                | some u =>
                  rw [hk] at hl
                  simp only at hl
                  split at hl
                  · simp only [Option.some.injEq] at hl
                    subst hl
                    exact HSUB.out.1 i v hk
                  · simp at hl
              rw [hend] at hsep
              have HS6 := Lib.hid (hsep.tail.tail)
              have HK6 := Lib.hid (And.intro hok6 hsub6)
              clear hsep hok6 hend hsub6
              go_wp2
              go_roundw
              case rel => exact ⟨M, A6, T6, n + D.length, xk, rfl, by simp, rfl, by omega, HX6.out, HK6.out.1, HK6.out.2, fun _ z hz => HF.out.late z hz, HS6.out⟩
              case measure => simp [intOf]; omega
  · clear hin
    go_enter Try.func5, Try.ntmps5
    go_wp2_with (go_at_call 28; refine (l35works_any _).mono ?_; rintro e w' ⟨rfl, hb⟩)
    go_ret
    exact ⟨by simp, by assumption⟩
end ExpiryOrder
end Go.Proofs.Ytmlbacbcdjfioaa
