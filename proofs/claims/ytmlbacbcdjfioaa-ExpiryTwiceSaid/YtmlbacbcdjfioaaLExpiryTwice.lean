/- For every list of times and every two times seepagelaw35.ExpiryTwice returns true, and its arguments read as before. No condition. -/
import Derived.Test.YtmlbacbcdjfioaaExpS
import Derived.Test.YtmlbacbcdjfioaaAppAny
import Derived.Test.YtmlbacbcdjfioaaClose
set_option linter.unusedSimpArgs false
set_option linter.unusedVariables false
namespace Go.Proofs.Ytmlbacbcdjfioaa
open Go.ChangeShapes Go.WideShapes Go.ChangeAt Go.RowKit
namespace ExpiryTwice

theorem late_late (L : List Ent) {a b : Int} (h : a ≤ b) : lateOf (lateOf L a) b = lateOf L b := by
  unfold lateOf
  rw [List.filter_filter]
  congr 1; funext x
  by_cases h1 : b < x.2
  · simp [h1]; omega
  · simp [h1]
theorem due_late {L : List Ent} (a : Int) : dueOf (lateOf L a) a = [] := by
  unfold dueOf lateOf
  rw [List.filter_filter, List.filter_eq_nil_iff]
  intro x hx; simp <;> omega
theorem late_same {L : List Ent} {a b : Int} (h : a ≤ b) : lateOf (lateOf L b) a = lateOf L b := by
  unfold lateOf
  rw [List.filter_filter]
  congr 1; funext x
  by_cases h1 : b < x.2
  · simp [h1]; try omega
  · simp [h1]
theorem due_empty {L : List Ent} {a b : Int} (h : a ≤ b) : dueOf (lateOf L b) a = [] := by
  unfold dueOf lateOf
  rw [List.filter_filter, List.filter_eq_nil_iff]
  intro x hx; simp <;> omega
theorem upto_ok {w : World} {a : Option Addr} {len cap : Nat} {zs : List Int} (h : IntsIn w .i64 a len cap zs) (hl : len ≤ 300) : (Hp.upto zs len).Ok := by
  refine ⟨by simp [Hp.upto], ?_, ?_⟩
  · intro i v hi
    simp only [Hp.upto] at hi ⊢
    split at hi
    · omega
    · simp at hi
  · intro i v hi
    simp only [Hp.upto] at hi
    split at hi
    · rename_i h1
      simp at hi
      have := wf_i64 (h.getD_wf i h1)
      simp [List.getD] at this
      omega
    · simp at hi
/-- Those that are due first come first. -/
theorem due_two : ∀ {L : List Ent} {a b : Int}, L.Pairwise (fun x y => before x y = true) → a ≤ b → dueOf L b = dueOf L a ++ dueOf (lateOf L a) b
  | [], _, _, _, _ => rfl
  | x :: L, a, b, h, hab => by
    rw [List.pairwise_cons] at h
    have ih := due_two (a := a) (b := b) h.2 hab
    unfold dueOf lateOf at *
    by_cases h1 : x.2 ≤ a
    · simp only [List.filter_cons, h1, decide_true, if_true, show x.2 ≤ b by omega, show ¬ a < x.2 by omega, decide_false, Bool.false_eq_true, if_false, List.cons_append]
      rw [ih]
    · have hn : L.filter (fun y => decide (y.2 ≤ a)) = [] := by
        rw [List.filter_eq_nil_iff]
        intro y hy
        have := h.1 y hy
        rw [before_iff] at this
        simp; omega
      have hl : L.filter (fun y => decide (a < y.2)) = L := by
        rw [List.filter_eq_self]
        intro y hy
        have := h.1 y hy
        rw [before_iff] at this
        simp; omega
      simp only [List.filter_cons, h1, decide_false, Bool.false_eq_true, if_false, show a < x.2 by omega, decide_true, if_true, hn, hl, List.nil_append]

set_option maxHeartbeats 2000000
set_option maxRecDepth 100000 in
theorem walk (a : Option Addr) (len cap : Nat) (zs : List Int) (p : Int) (hp : -9223372036854775808 ≤ p ∧ p ≤ 9223372036854775807) (q : Int) (hq : -9223372036854775808 ≤ q ∧ q ≤ 9223372036854775807) (w : World) (hin : IntsIn w .i64 a len cap zs) :
    Calls Try.prog 6 #[.slice a len cap, .int .i64 p, .int .i64 q] w fun e w' => e = .returned (.bool true) ∧ Below w.heap.size w w' := by
  have hle := hin.hle
  have hmax := hin.hmax
  by_cases hl : len ≤ 300
  · have HI := Lib.hid hin
    clear hin
    obtain ⟨L, hL⟩ : ∃ L, Srt (Hp.upto zs len) L := ⟨_, Hp.sorted_srt (upto_ok HI.out hl)⟩
    have HL := Lib.hid hL
    clear hL
    obtain ⟨lo, hi, hlh, hpq⟩ : ∃ lo hi : Int, lo ≤ hi ∧ ((lo = p ∧ hi = q ∧ p < q) ∨ (lo = q ∧ hi = p ∧ q < p) ∨ (lo = p ∧ hi = p ∧ p ≤ q ∧ q ≤ p)) := by
      by_cases h : p ≤ q
      · by_cases h2 : p < q
        · exact ⟨p, q, h, Or.inl ⟨rfl, rfl, h2⟩⟩
        · exact ⟨p, p, Int.le_refl _, Or.inr (Or.inr ⟨rfl, rfl, by omega, by omega⟩)⟩
      · exact ⟨q, p, by omega, Or.inr (Or.inl ⟨rfl, rfl, by omega⟩)⟩
    have HR := Lib.hid (And.intro (due_late (L := L) lo) (And.intro (late_same (L := L) (Int.le_refl lo)) (And.intro (late_late L hlh) (And.intro (due_empty (L := L) hlh) (late_same (L := L) hlh)))))
    obtain ⟨da, hda⟩ : ∃ da, dueOf L lo = da := ⟨_, rfl⟩
    obtain ⟨db, hdb⟩ : ∃ db, dueOf (lateOf L lo) hi = db := ⟨_, rfl⟩
    obtain ⟨dc, hdc⟩ : ∃ dc, dueOf L hi = dc := ⟨_, rfl⟩
    have HDA := Lib.hid (And.intro hda trivial)
    have HDB := Lib.hid (And.intro hdb trivial)
    have HDC := Lib.hid (And.intro hdc trivial)
    have hd1 : da.length ≤ 300 := by rw [← hda]; exact Nat.le_trans (List.length_filter_le _ _) (by rw [← HL.out.len (upto_ok HI.out hl)]; exact Hp.len_le)
    have hd2 : db.length ≤ 300 := by rw [← hdb]; exact Nat.le_trans (List.length_filter_le _ _) (Nat.le_trans (List.length_filter_le _ _) (by rw [← HL.out.len (upto_ok HI.out hl)]; exact Hp.len_le))
    have HD := Lib.hid (due_two HL.out.ord hlh)
    have HD2 := Lib.hid (show decide (nats da ++ nats db = nats dc) = true by rw [← hda, ← hdb, ← hdc, HD.out]; simp [nats])
    have HWF := Lib.hid (show ∀ x ∈ nats da ++ nats db, (Lit.int .i64 x).wf = true by
      rw [← hda, ← hdb]
      intro x hx
      have hb : ∀ y ∈ L, y.1 < 65536 := fun y hy => by
        have := (upto_ok HI.out hl).lt _ _ ((HL.out.mem y.1 y.2).2 hy)
        simp only [Hp.upto] at this
        omega
      have : ∃ y ∈ L, x = (y.1 : Int) := by
        rw [List.mem_append] at hx
        simp only [nats, dueOf, lateOf, List.mem_map, List.mem_filter] at hx
        rcases hx with ⟨y, h1, h2⟩ | ⟨y, h1, h2⟩
        · exact ⟨y, h1.1, h2.symm⟩
        · exact ⟨y, h1.1.1, h2.symm⟩
      obtain ⟨y, hy, rfl⟩ := this
      have := hb y hy
      simp only [Lit.wf, IntKind.min, IntKind.max, IntKind.signed, IntKind.bits, Bool.and_eq_true, decide_eq_true_eq, if_true]
      omega)
    clear hda hdb hdc
    obtain ⟨y0, y1, ok, hm, hok⟩ : ∃ (y0 y1 : Int) (ok : Bool), minV (lateOf L hi).head? = .tuple #[.agg #[.int .i64 y0, .int .i64 y1], .bool ok] ∧ (ok = true → hi < y1) := by
      cases hh : lateOf L hi with
      | nil => exact ⟨0, 0, false, rfl, by simp⟩
      | cons x M =>
        refine ⟨x.1, x.2, true, rfl, fun _ => ?_⟩
        have : x ∈ lateOf L hi := by rw [hh]; simp
        have := (List.mem_filter.1 this).2
        simpa using this
    have HM := Lib.hid hm
    have HOK : ok = false ∨ (ok = true ∧ hi < y1) := by
      cases ok with
      | false => exact Or.inl rfl
      | true => exact Or.inr ⟨rfl, hok rfl⟩
    clear hm hok
    rcases HOK with rfl | ⟨rfl, hy⟩
    all_goals rcases hpq with ⟨rfl, rfl, hlt⟩ | ⟨rfl, rfl, hlt⟩ | ⟨rfl, rfl, hlt, hlt2⟩
    all_goals
      go_enter Try.func6, Try.ntmps6
      go_wp2_with (first
        | (go_at_call 28; refine (Sep.l35works (Sep.alloc H12.out _)).mono ?_; rintro r w13 ⟨rfl, h⟩; have H13 := Lib.hid h; clear h)
        | (go_at_call 31; refine (Sep.eNext (Sep.alloc H11.out _) 6 rfl HX9.out).mono ?_; rintro r w12 ⟨rfl, h, hb⟩; rw [HM.out]; have kk := (hb.block w11.heap.size (by simp)).trans (heap_alloc_new _ _); obtain ⟨g0, g1, gf, gl⟩ := row_two kk; have H12 := Lib.hid h; clear h hb kk H11)
        | (go_at_call 31; refine (Sep.eNext H10.out 7 rfl HX6.out).mono ?_; rintro r w11 ⟨rfl, h, _⟩; rw [HM.out]; have H11 := Lib.hid h; clear h H10)
        | (go_at_call 30; have _t := tokM; refine (Sep.eLen H10.out 6 rfl HX9.out).mono ?_; rintro r wz ⟨rfl, rfl⟩; clear tokM)
        | (go_at_call 30; refine (Sep.eLen H10.out 7 rfl HX6.out).mono ?_; rintro r wz ⟨rfl, rfl⟩; have tokM := trivial)
        | (go_at_call 33; refine (Sep.l35same H9.out (H9.out.get 1 rfl) (H9.out.get 0 rfl)).mono ?_; rintro r w10 ⟨rfl, h⟩; rw [HD2.out]; have H10 := Lib.hid h; clear h H9)
        | (go_at_call 32; refine (Sep.eDueEq H8.out 5 rfl HL.out _ HDC.out.1 rfl).mono ?_; rintro r w9 ⟨a9, c9, A9, T9, rfl, _, hx, _, h⟩; have H9 := Lib.hid h; have HX9 := Lib.hid hx; clear h hx H8)
        | (at_builtin; refine wpList_append_anyG (.tmp 56) (.tmp 57) 43 rfl rfl infoInt Try.underlying43 rfl (by decide) (news := (nats (db)).map (Value.int .i64)) rfl rfl HN5.out H7.out.1 (by simp [nats]) ((show IntsIn w6 .i64 a5 _ c5 _ from H6.out.get 1 rfl).of_below H7.out.2).news (int_oneCell _ _) (by unfold maxLen; omega) (by omega) (Nat.le_trans (Nat.le_refl _) H7.out.2.size) ?_; intro v8 w8 hown8 hgr8 hblk8; have hb8 := H7.out.2.grown hgr8 H7.out.2.size (fun k hk => (H7.out.1.lt k hk).1); rw [← List.map_append] at hown8; obtain ⟨a8, c8, rfl, ha8, hi8⟩ := IntsIn.of_owns hown8 HWF.out; have h8 := H6.out.add hb8 (intsT .i64 a8 _ c8 _) hi8 (by rintro q ⟨_, ad, hq, rfl⟩; exact (ha8 ad hq).1); have H8 := Lib.hid h8; clear hown8 hgr8 hblk8 hb8 ha8 hi8 h8 H6 H7)
        | (at_builtin; refine wpList_append_anyG (.tmp 54) (.tmp 55) 43 rfl rfl infoInt Try.underlying43 rfl (by decide) (news := (nats (da)).map (Value.int .i64)) rfl rfl HN3.out (World.ownsRow_lit w6 #[] 0 (Nat.le_refl _) (by unfold maxLen; omega) rfl) (by simp [nats]) ((show IntsIn w6 .i64 a3 _ c3 _ from H6.out.get 3 rfl).of_below ((Below.refl _ _).alloc (Nat.le_refl _) _)).news (int_oneCell _ _) (by unfold maxLen; omega) (by omega) (by simp) ?_; intro v7 w7 hown7 hgr7 hblk7; rw [Nat.zero_add, List.nil_append] at hown7; have hb7 : Below w6.heap.size w6 w7 := ((Below.refl _ w6).alloc (Nat.le_refl _) _).grown hgr7 (by simp) (fun k hk => by have e : some w6.heap.size = some k := hk; injection e with e; exact Nat.le_of_eq e); have H7 := Lib.hid (And.intro hown7 hb7); clear hown7 hgr7 hblk7 hb7)
        | (go_at_call 32; refine (Sep.eDueEq H5.out 4 rfl HX5.out _ HR.out.2.2.2.1 HR.out.2.2.2.2).mono ?_; rintro r w6 ⟨a6, c6, A6, T6, rfl, _, hx, _, h⟩; have H6 := Lib.hid h; have HX6 := Lib.hid hx; clear h hx H5 HX5)
        | (go_at_call 32; refine (Sep.eDueEq H4.out 3 rfl HX4.out _ HDB.out.1 HR.out.2.2.1).mono ?_; rintro r w5 ⟨a5, c5, A5, T5, rfl, _, hx, hn5, h⟩; have H5 := Lib.hid h; have HX5 := Lib.hid hx; have HN5 := Lib.hid hn5; clear h hx hn5 H4 HX4)
        | (go_at_call 32; refine (Sep.eDueEq H3.out 2 rfl HX3.out _ HR.out.1 HR.out.2.1).mono ?_; rintro r w4 ⟨a4, c4, A4, T4, rfl, _, hx, _, h⟩; have H4 := Lib.hid h; have HX4 := Lib.hid hx; clear h hx H3 HX3)
        | (go_at_call 32; refine (Sep.eDueEq H2.out 1 rfl HL.out _ HDA.out.1 rfl).mono ?_; rintro r w3 ⟨a3, c3, A3, T3, rfl, _, hx, hn3, h⟩; have H3 := Lib.hid h; have HX3 := Lib.hid hx; have HN3 := Lib.hid hn3; clear h hx hn3 H2)
        | (go_at_call 29; refine (Sep.l35filled H1.out true (HI.out.of_below H1.out.below) hl).mono ?_; rintro r w2 ⟨e2, b2, S2, rfl, h⟩; have H2 := Lib.hid h; clear h H1)
        | (go_at_call 29; refine (Sep.l35filled (Sep.start w) false HI.out hl).mono ?_; rintro r w1 ⟨e1, b1, S1, rfl, h⟩; have H1 := Lib.hid h; clear h))
      go_ret
      exact ⟨by simp, H13.out.below⟩
  · clear hin
    go_enter Try.func6, Try.ntmps6
    go_wp2_with (go_at_call 28; refine (l35works_any _).mono ?_; rintro e w' ⟨rfl, hb⟩)
    go_ret
    exact ⟨by simp, by assumption⟩
end ExpiryTwice
end Go.Proofs.Ytmlbacbcdjfioaa
