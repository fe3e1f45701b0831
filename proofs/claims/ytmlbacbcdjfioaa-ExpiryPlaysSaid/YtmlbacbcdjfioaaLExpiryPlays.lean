/- seepagelaw35.ExpiryPlays returns true for every number of slots, every script, every slot and time; its arguments read as before. No condition. -/
import Derived.Test.YtmlbacbcdjfioaaPlayE
import Derived.Test.YtmlbacbcdjfioaaClose
set_option linter.unusedSimpArgs false
set_option linter.unusedVariables false
namespace Go.Proofs.Ytmlbacbcdjfioaa
open Go.ChangeShapes Go.WideShapes Go.ChangeAt Go.RowKit
namespace ExpiryPlays
def sk3 : Nat → IntKind := fun _ => .i64

theorem Pl.block {w0 w : World} {pe pr : Option Addr} (h : Pl w0 w pe pr []) (o : Obj) : Pl w0 (w.alloc o) pe pr [blockT w.heap.size o] := by
  have hb : Below w.heap.size w (w.alloc o) := (Below.refl _ _).alloc (Nat.le_refl _) o
  rcases h with ⟨h1, h2, h⟩ | ⟨e, b, g, A, S, L, bk, h1, h2, h3, h⟩
  · exact Or.inl ⟨h1, h2, h.add hb _ (heap_alloc_new _ _) (by rintro q rfl; exact Nat.le_refl _)⟩
  · refine Or.inr ⟨e, b, g, A, S, L, bk, h1, h2, h3, ?_⟩
    refine (h.add hb (blockT w.heap.size o) (heap_alloc_new _ _) (by rintro q rfl; exact Nat.le_refl _)).sub (fun i => if i = 0 then 1 else if i = 1 then 2 else if i = 2 then 0 else i) _ ?_ ?_
    · intro i j e
      rcases i with _ | _ | _ | i <;> rcases j with _ | _ | _ | j <;> simp_all
    · intro i z hi
      match i, hi with
      | 0, hi => exact hi
      | 1, hi => exact hi
      | 2, hi => exact hi
      | i + 3, hi => simp at hi
theorem Pl.forget {w0 w : World} {pe pr : Option Addr} {l : List Thing} (h : Pl w0 w pe pr l) : Pl w0 w pe pr [] := by
  rcases h with ⟨h1, h2, h⟩ | ⟨e, b, g, A, S, L, bk, h1, h2, h3, h⟩
  · exact Or.inl ⟨h1, h2, h.sub id [] (fun _ _ e => e) (fun i x hi => by simp at hi)⟩
  · refine Or.inr ⟨e, b, g, A, S, L, bk, h1, h2, h3, h.sub id _ (fun _ _ e => e) ?_⟩
    intro i z hi
    match i, hi with
    | 0, hi => exact hi
    | 1, hi => exact hi
    | i + 2, hi => simp at hi

theorem start (n : Int) (w : World) : ∃ p : Int, Calls Try.prog 25 #[.int .i64 n] w fun e w1 => ∃ pa, e = .returned (.tuple #[.pointer pa, .int .i64 p]) ∧
    Calls Try.prog 26 #[.int .i64 n] w1 fun e w' => ∃ pr, e = .returned (.tuple #[.pointer pr, .int .i64 p]) ∧ (pa.isNone == pr.isNone) = true ∧ Pl w w' pa pr [] := by
  by_cases h : 0 ≤ n ∧ n ≤ 65536
  · obtain ⟨m, rfl⟩ := Int.eq_ofNat_of_zero_le h.1
    have hm : m ≤ 65536 := by omega
    refine ⟨0, (eNew_ok m w hm).mono fun e w1 ⟨sb, b, S, he, h1⟩ => ⟨some ⟨sb, 0, none⟩, he, ?_⟩⟩
    refine (s35New_ok m w1 hm).mono fun e w' ⟨g, he, hr, hg, hb⟩ => ⟨some ⟨g, 0, none⟩, he, rfl, Or.inr ⟨sb, b, g, Hp.new m, S, [], none, rfl, rfl, Srt.new m, ?_⟩⟩
    have h2 := ((Sep.start w).sched_new h1).add hb (refT w.heap.size g m [] none) ⟨_, rfl, hr.row, World.ownsRow_nil _ _ _ _, hr.ns, hr.hl, hr.wf⟩ (by rintro q (rfl | hq); exact hg; simp at hq)
    refine h2.sub (fun i => if i = 0 then 1 else if i = 1 then 0 else i) _ ?_ ?_
    · intro i j e
      rcases i with _ | _ | i <;> rcases j with _ | _ | j <;> simp_all
    · intro i z hi
      match i, hi with
      | 0, hi => exact hi
      | 1, hi => exact hi
      | i + 2, hi => simp at hi
  · exact ⟨2, (eNew_bad n w (by omega)).mono fun e w1 ⟨he, hw⟩ => ⟨none, he, by subst hw; exact (s35New_bad n w (by omega)).mono fun e w' ⟨he, hw⟩ => ⟨none, he, rfl, by subst hw; exact Or.inl ⟨rfl, rfl, Sep.start w⟩⟩⟩⟩

/-- Due of the last time, in both; then nothing is left. -/
theorem Pl.last {w0 w : World} {pe pr : Option Addr} (h : Pl w0 w pe pr []) :
    Calls Try.prog 32 #[.pointer pe, .int .i64 9223372036854775807] w fun r w1 => ∃ a1 n1 c1, r = .returned (.slice a1 n1 c1) ∧
      Calls Try.prog 40 #[.pointer pr, .int .i64 9223372036854775807] w1 fun r w2 => ∃ a2 n2 c2, r = .returned (.slice a2 n2 c2) ∧
        Calls Try.prog 33 #[.slice a1 n1 c1, .slice a2 n2 c2] w2 fun r w3 => r = .returned (.bool true) ∧ Below w0.heap.size w0 w3 ∧
          Calls Try.prog 30 #[.pointer pe] w3 fun r w' => r = .returned (.int .i64 0) ∧ w3 = w' := by
  rcases h with ⟨rfl, rfl, h⟩ | ⟨e, b, g, A, S, L, bk, rfl, rfl, hs, h⟩
  · refine (xeDue (Or.inl rfl) _).mono ?_
    rintro r w1 ⟨rfl, hb⟩
    have h1 := h.keep hb
    refine ⟨none, 0, 0, rfl, (xs35Due _ _).mono ?_⟩
    rintro r w' ⟨rfl, rfl⟩
    refine ⟨none, 0, 0, rfl, ?_⟩
    have hn : ∀ w : World, IntsIn w .i64 none 0 0 [] := fun w => ⟨rfl, Nat.le_refl _, by decide, fun i hi => by omega, by simp⟩
    refine (Sep.l35sameEq h1 rfl (hn _) (hn _)).mono ?_
    rintro r w' ⟨rfl, h2⟩
    exact ⟨rfl, h2.below, xeLen (Or.inl rfl)⟩
  · have hok := (h.sched 0 rfl).ok
    refine (h.eDue 0 rfl hs _).mono ?_
    rintro r w1 ⟨a1, c1, A1, S1, rfl, hsl, hs1, _, h1⟩
    have h1' : Sep w0 w1 (intsT .i64 a1 (dueOf L 9223372036854775807).length c1 (nats (dueOf L 9223372036854775807)) :: schedT w0.heap.size e b A1 S1 :: refT w0.heap.size g A.slots L bk :: []) := h1
    refine ⟨a1, _, c1, rfl, (h1'.s35Due (i := 2) rfl hs hok rfl _ (by omega)).mono ?_⟩
    rintro r w2 ⟨a2, c2, bk2, rfl, h2⟩
    have h2' : Sep w0 w2 (intsT .i64 a2 (dueOf L 9223372036854775807).length c2 (nats (dueOf L 9223372036854775807)) :: intsT .i64 a1 (dueOf L 9223372036854775807).length c1 (nats (dueOf L 9223372036854775807)) :: schedT w0.heap.size e b A1 S1 :: refT w0.heap.size g A.slots (lateOf L 9223372036854775807) bk2 :: []) := h2
    refine ⟨a2, _, c2, rfl, ?_⟩
    refine (Sep.l35sameEq h2' rfl (h2'.get 1 rfl : IntsIn _ _ _ _ _ _) (h2'.get 0 rfl : IntsIn _ _ _ _ _ _)).mono ?_
    rintro r w' ⟨rfl, h4⟩
    rw [(due_all hs hok).2] at hs1
    exact ⟨rfl, h4.below, Sep.eLenEq h4 2 rfl hs1 rfl⟩

set_option maxHeartbeats 2000000
set_option maxRecDepth 100000 in
theorem walk (n : Int) (hn : -9223372036854775808 ≤ n ∧ n ≤ 9223372036854775807) (a : Option Addr) (len cap : Nat) (zs : Nat → Nat → Int) (slot : Int) (hslot : -9223372036854775808 ≤ slot ∧ slot ≤ 9223372036854775807) (now : Int) (hnow : -9223372036854775808 ≤ now ∧ now ≤ 9223372036854775807) (w : World) (hin : RowsIn w 3 sk3 a len cap zs) :
    Calls Try.prog 11 #[.int .i64 n, .slice a len cap, .int .i64 slot, .int .i64 now] w fun e w' => e = .returned (.bool true) ∧ Below w.heap.size w w' := by
  have hle := hin.hle
  have hmax := hin.hmax
  have HIN := Lib.hid hin
  obtain ⟨p, hs⟩ := start n w
  have HS := Lib.hid hs
  clear hs hin
  go_enter Try.func11, Try.ntmps11
  go_wp2_with fail
  refine HS.out.mono ?_
  rintro e w1 ⟨pa, rfl, hr⟩
  have HR := Lib.hid hr
  clear hr
  go_wp2_with fail
  refine HR.out.mono ?_
  rintro e w2 ⟨pr, rfl, hxy, hst⟩
  have HST := Lib.hid hst
  clear hst
  by_cases hbig : 200 < len
  · go_wp2_with (go_at_call 28; refine (l35works_any _).mono ?_; rintro e w4 ⟨rfl, hb⟩; have HW := Lib.hid (HST.out.keep hb); clear hb)
    go_ret
    exact ⟨by simp, HW.out.below⟩
  · go_wp2
    go_loopw [8, 9, 11, 13] (fun u va vr vk wr => ∃ k : Nat, ∃ pa pr, u = .bool false ∧ k ≤ len ∧ va = .pointer pa ∧ vr = .pointer pr ∧ vk = .int .i64 k ∧ Pl w wr pa pr []) (fun _ _ _ vk _ => len - (intOf vk).toNat)
    case atStart => exact ⟨0, pa, pr, rfl, Nat.zero_le _, rfl, rfl, rfl, HST.out⟩
    case round =>
      clear hxy HST
      obtain ⟨k, pa, pr, rfl, hk, rfl, rfl, rfl, hrel⟩ := hrel
      by_cases hlt : k < len
      · obtain ⟨bi, oi, rfl, hbi, hci⟩ := HIN.out.hcell k hlt
        have e0 := (hrel.below.cell (p := ⟨bi, oi + k * 3 + 0, none⟩) hbi).trans (hci 0 (by omega))
        have e1 := (hrel.below.cell (p := ⟨bi, oi + k * 3 + 1, none⟩) hbi).trans (hci 1 (by omega))
        have e2 := (hrel.below.cell (p := ⟨bi, oi + k * 3 + 2, none⟩) hbi).trans (hci 2 (by omega))
        have hz2 : -9223372036854775808 ≤ zs k 2 ∧ zs k 2 ≤ 9223372036854775807 := wf_i64 (HIN.out.hwf k hlt 2 (by omega))
        simp only [sk3, Nat.add_zero] at e0 e1 e2
        clear hci
        generalize zs k 0 = z0 at *
        generalize zs k 1 = z1 at *
        generalize zs k 2 = z2 at *
        have HX := Lib.hid (fun o => (Pl.block hrel o))
        clear hrel
        by_cases h0 : z0 = 0
        · subst h0
          go_wp2
          have HD := Lib.hid ((HX.out (.cells #[.int .i64 0, .int .i64 z1, .int .i64 z2] 61)).keep ((Below.refl _ _).drew))
          go_region_held3 (fun w' => w'.cell? ⟨wr.heap.size, 1, none⟩ = some (.int .i64 z1) ∧ w'.cell? ⟨wr.heap.size, 2, none⟩ = some (.int .i64 z2)) (go_keep)
            (first
              | (go_at_call 37; refine (HD.out.set z1 z2 hz2).mono ?_; rintro r w3 ⟨c, rfl, hl, hc⟩; have kk := (hl 0 _ rfl : (blockT _ _).P _); obtain ⟨_, k1, k2, _⟩ := row_three kk; have H3 := Lib.hid hc; clear hl hc kk)
              | (go_at_call 38; refine H3.out.mono ?_; rintro r w4 ⟨rfl, hp⟩; have kk := (hp.get 0 rfl : (blockT _ _).P _); obtain ⟨k0, k1, k2, _⟩ := row_three kk; have H4 := Lib.hid hp; clear hp kk))
          go_wp2_with (first
            | (go_at_call 27; have _t := tok; refine (H5.out.agree _ _ hz2).mono ?_; rintro r w6 ⟨rfl, hp⟩; have H6 := Lib.hid hp; clear hp tok H5)
            | (go_at_call 27; refine (H4.out.agree _ _ hnow).mono ?_; rintro r w5 ⟨rfl, hp⟩; have kk := (hp.get 0 rfl : (blockT _ _).P _); obtain ⟨q0, q1, q2, _⟩ := row_three kk; have tok := trivial; have H5 := Lib.hid hp; clear hp kk))
          go_roundw
          case rel => exact ⟨k + 1, _, _, rfl, by omega, rfl, rfl, by simp, Pl.forget H6.out⟩
          case measure => simp [intOf]; omega
        · by_cases h1 : z0 = 1
          · subst h1
            go_wp2
            have HD := Lib.hid ((HX.out (.cells #[.int .i64 1, .int .i64 z1, .int .i64 z2] 61)).keep ((Below.refl _ _).drew))
            go_region_held3 (fun w' => w'.cell? ⟨wr.heap.size, 1, none⟩ = some (.int .i64 z1) ∧ w'.cell? ⟨wr.heap.size, 2, none⟩ = some (.int .i64 z2)) (go_keep)
              (first
                | (go_at_call 35; refine (HD.out.drop z1).mono ?_; rintro r w3 ⟨c, rfl, hl, hc⟩; have kk := (hl 0 _ rfl : (blockT _ _).P _); obtain ⟨_, k1, k2, _⟩ := row_three kk; have H3 := Lib.hid hc; clear hl hc kk)
                | (go_at_call 39; refine H3.out.mono ?_; rintro r w4 ⟨rfl, hp⟩; have kk := (hp.get 0 rfl : (blockT _ _).P _); obtain ⟨k0, k1, k2, _⟩ := row_three kk; have H4 := Lib.hid hp; clear hp kk))
            go_wp2_with (first
              | (go_at_call 27; have _t := tok; refine (H5.out.agree _ _ hz2).mono ?_; rintro r w6 ⟨rfl, hp⟩; have H6 := Lib.hid hp; clear hp tok H5)
              | (go_at_call 27; refine (H4.out.agree _ _ hnow).mono ?_; rintro r w5 ⟨rfl, hp⟩; have kk := (hp.get 0 rfl : (blockT _ _).P _); obtain ⟨q0, q1, q2, _⟩ := row_three kk; have tok := trivial; have H5 := Lib.hid hp; clear hp kk))
            go_roundw
            case rel => exact ⟨k + 1, _, _, rfl, by omega, rfl, rfl, by simp, Pl.forget H6.out⟩
            case measure => simp [intOf]; omega
          · by_cases h2 : z0 = 2
            · subst h2
              go_wp2
              have HD := Lib.hid ((HX.out (.cells #[.int .i64 2, .int .i64 z1, .int .i64 z2] 61)).keep ((Below.refl _ _).drew))
              go_region_held3 (fun w' => w'.cell? ⟨wr.heap.size, 1, none⟩ = some (.int .i64 z1) ∧ w'.cell? ⟨wr.heap.size, 2, none⟩ = some (.int .i64 z2)) (go_keep)
                (first
                  | (go_at_call 32; refine (HD.out.due z2 hz2).mono ?_; rintro r w3 ⟨a1, n1, c1, rfl, hl, hc⟩; have kk := (hl 0 _ rfl : (blockT _ _).P _); obtain ⟨_, k1, k2, _⟩ := row_three kk; have H3 := Lib.hid hc; clear hl hc kk)
                  | (go_at_call 40; refine H3.out.mono ?_; rintro r w4 ⟨a2, n2, c2, rfl, hp, hsame⟩; have kk := (hp.get 0 rfl : (blockT _ _).P _); obtain ⟨k0, k1, k2, _⟩ := row_three kk; have H4 := Lib.hid hsame; clear hp kk hsame)
                  | (go_at_call 33; refine (H4.out 0).mono ?_; rintro r w8 ⟨rfl, hp⟩; have kk := (hp.get 0 rfl : (blockT _ _).P _); obtain ⟨k0, k1, k2, _⟩ := row_three kk; have H8 := Lib.hid hp; clear hp kk))
              go_wp2_with (first
                | (go_at_call 27; have _t := tok; refine (H5.out.agree _ _ hz2).mono ?_; rintro r w6 ⟨rfl, hp⟩; have H6 := Lib.hid hp; clear hp tok H5)
                | (go_at_call 27; refine (H8.out.agree _ _ hnow).mono ?_; rintro r w5 ⟨rfl, hp⟩; have kk := (hp.get 0 rfl : (blockT _ _).P _); obtain ⟨q0, q1, q2, _⟩ := row_three kk; have tok := trivial; have H5 := Lib.hid hp; clear hp kk))
              go_roundw
              case rel => exact ⟨k + 1, _, _, rfl, by omega, rfl, rfl, by simp, Pl.forget H6.out⟩
              case measure => simp [intOf]; omega
            · have b0 : (z0 == 0) = false := by simpa using h0
              have b1 : (z0 == 1) = false := by simpa using h1
              have b2 : (z0 == 2) = false := by simpa using h2
              clear h0 h1 h2
              by_cases h3 : z0 = 3
              · subst h3
                clear b0 b1 b2
                go_wp2_with (first
                  | (go_at_call 27; have _t := tok; refine (H5.out.agree _ _ hz2).mono ?_; rintro r w6 ⟨rfl, hp⟩; have H6 := Lib.hid hp; clear hp tok H5)
                  | (go_at_call 27; refine (H4.out.agree _ _ hnow).mono ?_; rintro r w5 ⟨rfl, hp⟩; have kk := (hp.get 0 rfl : (blockT _ _).P _); obtain ⟨q0, q1, q2, _⟩ := row_three kk; have tok := trivial; have H5 := Lib.hid hp; clear hp kk)
                  | (go_at_call 36; refine (HX.out _).copy.mono ?_; rintro r w3 ⟨pe', rfl, hc⟩; have H3 := Lib.hid hc; clear hc)
                  | (go_at_call 41; refine H3.out.mono ?_; rintro r w4 ⟨pr', rfl, hp⟩; have kk := (hp.get 0 rfl : (blockT _ _).P _); obtain ⟨k0, k1, k2, _⟩ := row_three kk; have H4 := Lib.hid hp; clear hp kk))
                go_roundw
                case rel => exact ⟨k + 1, _, _, rfl, by omega, rfl, rfl, by simp, Pl.forget H6.out⟩
                case measure => simp [intOf]; omega
              · have b3 : (z0 == 3) = false := by simpa using h3
                clear h3
                go_wp2_with (first
                  | (go_at_call 27; have _t := tok; refine (H5.out.agree _ _ hz2).mono ?_; rintro r w6 ⟨rfl, hp⟩; have H6 := Lib.hid hp; clear hp tok H5)
                  | (go_at_call 27; refine ((HX.out _).agree _ _ hnow).mono ?_; rintro r w5 ⟨rfl, hp⟩; have kk := (hp.get 0 rfl : (blockT _ _).P _); obtain ⟨q0, q1, q2, _⟩ := row_three kk; have tok := trivial; have H5 := Lib.hid hp; clear hp kk))
                go_roundw
                case rel => exact ⟨k + 1, _, _, rfl, by omega, rfl, rfl, by simp, Pl.forget H6.out⟩
                case measure => simp [intOf]; omega
      · obtain rfl : k = len := by omega
        have HL := Lib.hid (Pl.last hrel)
        clear hrel
        go_wp2_with (first
          | (go_at_call 28; refine (l35works_any _).mono ?_; rintro e w4 ⟨rfl, hb⟩; have HW := Lib.hid hb; clear hb)
          | (go_at_call 30; refine H3.out.2.mono ?_; rintro r wz ⟨rfl, rfl⟩)
          | (go_at_call 33; refine H2.out.mono ?_; rintro r w5 ⟨rfl, h⟩; have H3 := Lib.hid h; clear h)
          | (go_at_call 40; refine H1.out.mono ?_; rintro r w4 ⟨a2, n2, c2, rfl, h⟩; have H2 := Lib.hid h; clear h)
          | (go_at_call 32; refine HL.out.mono ?_; rintro r w3 ⟨a1, n1, c1, rfl, h⟩; have H1 := Lib.hid h; clear h))
        go_ret
        exact ⟨by simp, H3.out.1.trans (HW.out.mono H3.out.1.size)⟩
end ExpiryPlays
end Go.Proofs.Ytmlbacbcdjfioaa
