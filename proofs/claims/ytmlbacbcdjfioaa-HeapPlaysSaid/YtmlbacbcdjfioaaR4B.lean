/- R4B: layer 4: the document's heap among the things that a law holds: Push, Remove, Change, Copy. -/
import Derived.Test.YtmlbacbcdjfioaaR4A
set_option linter.unusedSimpArgs false
set_option linter.unusedVariables false
namespace Go.Proofs.Ytmlbacbcdjfioaa
open Go.ChangeShapes Go.WideShapes Go.ChangeAt Go.RowKit

def ref4T (B g n : Nat) (L : List Ent) (bk : Option Nat) : Thing where
  P w := ∃ v, v.ownBlock = bk ∧ Ref4 B w g n v L
  S q := q = g ∨ bk = some q
  st w w' h hk hs := by
    obtain ⟨v, hv, h⟩ := h
    exact ⟨v, hv, ⟨(hk g (Or.inl rfl)).trans h.row, ownT.owns_keep h.own (fun q hq => hk q (Or.inr (by rw [← hv]; exact hq))), h.ns, h.hl, h.ne⟩⟩
  lt w h q hq := by
    obtain ⟨v, hv, h⟩ := h
    rcases hq with rfl | hq
    · exact (row_three h.row).2.2.2.2
    · exact (h.own.lt q (by rw [hv]; exact hq)).2

section
variable {B : Nat} {w : World} {g n : Nat} {v : Value} {L : List Ent}
/-- A new list is stored. -/
theorem Ref4.store {w1 : World} {L' : List Ent} {v' : Value} (h : Ref4 B w g n v L) (hb : Below w.heap.size w w1) (hown : w1.ownsRow w.heap.size 28 2 v' L'.length (flat L'.length (entAt L'))) (hB : B ≤ w.heap.size)
    (hl : L'.length ≤ n) :
    Ref4 B (w1.setCell ⟨g, 2, none⟩ v') g n v' L' ∧ Upd (fun q => q = g) w (w1.setCell ⟨g, 2, none⟩ v') ∧ (∀ q, v'.ownBlock = some q → w.heap.size ≤ q) := by
  have hg := (row_three h.row).2.2.2.2
  have hge : ∀ q, v'.ownBlock = some q → w.heap.size ≤ q := fun q hq => (hown.lt q hq).1
  refine ⟨⟨row_three_set ((hb.block g hg).trans h.row) v', owns_same (ownsRow_base hown hB) (fun q hq => Below.heap_setCell _ _ _ _ (by have := hge q hq; simp; omega)), h.ns, hl, fun e => by have := hge g e; omega⟩, ?_, hge⟩
  exact ((Upd.of_below hb).mono (G := fun q => q = g) (fun i hi hx => absurd hi (by omega))).setCell (p := ⟨g, 2, none⟩) (fun _ => rfl) v'
end

section
variable {w0 w : World} {l : List Thing} {g n : Nat} {L : List Ent} {bk : Option Nat}
theorem Sep.ref4 (h : Sep w0 w l) (i : Nat) (hi : l[i]? = some (ref4T w0.heap.size g n L bk)) : ∃ v, v.ownBlock = bk ∧ Ref4 w0.heap.size w g n v L := h.get i hi
theorem Sep.ref4_store {i : Nat} (h : Sep w0 w l) (hi : l[i]? = some (ref4T w0.heap.size g n L bk)) {w1 : World} {L' : List Ent} {v' : Value} (hb : Below w.heap.size w w1)
    (hown : w1.ownsRow w.heap.size 28 2 v' L'.length (flat L'.length (entAt L'))) (hl : L'.length ≤ n) :
    Sep w0 (w1.setCell ⟨g, 2, none⟩ v') (l.set i (ref4T w0.heap.size g n L' v'.ownBlock)) := by
  obtain ⟨v, hv, hr⟩ := h.ref4 i hi
  obtain ⟨h1, h2, h3⟩ := hr.store hb hown h.size hl
  refine h.set i hi h2 (fun q hq => Or.inl (Or.inl hq)) _ ⟨v', rfl, h1⟩ ?_
  rintro q (rfl | hq)
  · exact Or.inl (Or.inl rfl)
  · exact Or.inr (h3 q hq)

set_option maxHeartbeats 2000000
set_option maxRecDepth 100000
theorem Sep.r4Remove {i : Nat} (h : Sep w0 w l) (hi : l[i]? = some (ref4T w0.heap.size g n L bk)) {A : Hp} (hs : Lst A L) (ho : A.Ok) (hA : A.slots = n) (k : Int) :
    Calls Try.prog 54 #[.pointer (some ⟨g, 0, none⟩), .int .i64 k] w fun r w' => r = .returned (.int .i64 (A.remE k)) ∧ ∃ L' bk', Lst (A.remA k) L' ∧ Sep w0 w' (l.set i (ref4T w0.heap.size g n L' bk')) := by
  obtain ⟨v, hv, hr⟩ := h.ref4 i hi
  have hset : l.set i (ref4T w0.heap.size g n L bk) = l := by
    rw [List.getElem?_eq_some_iff] at hi
    obtain ⟨h1, h2⟩ := hi
    rw [← h2, List.set_getElem_self]
  have HV := Lib.hid (r4Valid_any hr)
  have HF := Lib.hid (r4Find_any hr k)
  have HSAME := Lib.hid (And.intro (show Sep w0 w (l.set i (ref4T w0.heap.size g n L bk)) by rw [hset]; exact h) hs)
  have hrow := hr.row
  obtain ⟨c0, c1, c2, cf, hg⟩ := row_three hr.row
  by_cases hin : 0 ≤ k ∧ k < (n : Int)
  · have h0 : 0 ≤ k := hin.1
    have h1 : k < (n : Int) := hin.2
    obtain ⟨m, rfl⟩ := Int.eq_ofNat_of_zero_le h0
    have HK := Lib.hid (show ∀ j, FindR L (m : Int) j → (j = -1 ∧ A.remE (m : Int) = 5 ∧ A.remA (m : Int) = A) ∨ ∃ q : Nat, j = q ∧ q < L.length ∧ A.remE (m : Int) = 0 ∧ Lst (A.remA (m : Int)) (dropAt L (q : Int)) from fun j hj => by
      rcases hj with ⟨rfl, hno⟩ | ⟨q, rfl, hq, he⟩
      · left
        have hk := hs.none_of hno
        refine ⟨rfl, ?_, ?_⟩
        · unfold Hp.remE; rw [if_pos ⟨by omega, by omega⟩]; simp [hk]
        · unfold Hp.remA; rw [if_neg (by simp [hk])]
      · right
        have e : (entAt L q).1 = m := by omega
        have hk := hs.at_ hq
        rw [e] at hk
        refine ⟨q, rfl, hq, ?_, ?_⟩
        · unfold Hp.remE; rw [if_pos ⟨by omega, by omega⟩]; simp [hk]
        · have : A.remA (m : Int) = A.del m := by unfold Hp.remA; rw [if_pos ⟨by omega, by omega, by simp [hk]⟩]; simp
          rw [this, ← e]
          exact hs.del hq)
    have HW := Lib.hid (show ∀ q : Nat, Calls Try.prog 86 #[v, .int .i64 (q : Int)] w fun r w' => ∃ v', r = .returned v' ∧ w'.ownsRow w.heap.size 28 2 v' (dropAt L q).length (flat (dropAt L q).length (entAt (dropAt L q))) ∧ Below w.heap.size w w' from fun q => by
      obtain ⟨a, cap, rfl, he⟩ := hr.list
      exact r4Without_any he (by have := hr.hl; have := hr.ns; omega) q (by omega))
    have HST := Lib.hid (fun (q : Nat) (w1 : World) (v' : Value) (hb : Below w.heap.size w w1) (hown : w1.ownsRow w.heap.size 28 2 v' (dropAt L q).length (flat (dropAt L q).length (entAt (dropAt L q)))) => h.ref4_store hi hb hown (Nat.le_trans (dropAt_len _ _) hr.hl))
    have HB := Lib.hid (fun (w1 : World) (hb : Below w.heap.size w w1) => (hb.block g hg).trans hrow)
    obtain ⟨a, cap, rfl, _⟩ := hr.list
    clear h hi hr hs ho hset hrow hin
    go_enter Try.func54, Try.ntmps54
    go_wp2_with (go_at_call 84; refine HV.out.mono ?_; rintro r wz ⟨rfl, rfl⟩)
    refine HF.out.mono ?_
    rintro r wz ⟨⟨j, rfl, hj⟩, rfl⟩
    rcases HK.out j hj with ⟨rfl, hE, hR⟩ | ⟨q, rfl, hq, hE, hR⟩
    · have HR := Lib.hid (And.intro hE hR)
      clear hE hR hj
      go_wp2
      go_ret
      refine ⟨by rw [HR.out.1]; rfl, L, bk, ?_, HSAME.out.1⟩
      rw [HR.out.2]; exact HSAME.out.2
    · have HR := Lib.hid (And.intro hE hR)
      clear hE hR hj
      go_wp2_with (go_at_call 86; refine (HW.out q).mono ?_; rintro r w1 ⟨v', rfl, hown, hb⟩; obtain ⟨a9, c9, rfl⟩ := owns_shape hown; obtain ⟨n0, n1, n2, nf, ng⟩ := row_three (HB.out _ hb); have H1 := Lib.hid (And.intro hown hb); clear hown hb)
      go_ret
      exact ⟨by rw [HR.out.1]; rfl, _, _, HR.out.2, HST.out q _ _ H1.out.2 H1.out.1⟩
  · have HR := Lib.hid (show A.remE k = 3 ∧ A.remA k = A by
      constructor
      · unfold Hp.remE; rw [if_neg (by rw [hA]; exact hin)]
      · unfold Hp.remA; rw [if_neg (fun h => hin ⟨h.1, by rw [← hA]; exact h.2.1⟩)])
    clear h hi hr hs ho hset hrow HF
    by_cases h0 : k < 0
    · clear hin
      go_enter Try.func54, Try.ntmps54
      go_wp2_with (go_at_call 84; refine HV.out.mono ?_; rintro r wz ⟨rfl, rfl⟩)
      go_ret
      refine ⟨by rw [HR.out.1]; rfl, L, bk, ?_, HSAME.out.1⟩
      rw [HR.out.2]; exact HSAME.out.2
    · have h1 : (n : Int) ≤ k := by omega
      have h2 : 0 ≤ k := by omega
      clear hin h0
      go_enter Try.func54, Try.ntmps54
      go_wp2_with (go_at_call 84; refine HV.out.mono ?_; rintro r wz ⟨rfl, rfl⟩)
      go_ret
      refine ⟨by rw [HR.out.1]; rfl, L, bk, ?_, HSAME.out.1⟩
      rw [HR.out.2]; exact HSAME.out.2

theorem Sep.r4Push {i : Nat} (h : Sep w0 w l) (hi : l[i]? = some (ref4T w0.heap.size g n L bk)) {A : Hp} (hs : Lst A L) (ho : A.Ok) (hA : A.slots = n) (k x : Int) (hx : -9223372036854775808 ≤ x ∧ x ≤ 9223372036854775807) :
    Calls Try.prog 52 #[.pointer (some ⟨g, 0, none⟩), .int .i64 k, .int .i64 x] w fun r w' => r = .returned (.int .i64 (A.pushE k)) ∧ ∃ L' bk', Lst (A.pushA k x) L' ∧ Sep w0 w' (l.set i (ref4T w0.heap.size g n L' bk')) := by
  obtain ⟨v, hv, hr⟩ := h.ref4 i hi
  have hset : l.set i (ref4T w0.heap.size g n L bk) = l := by
    rw [List.getElem?_eq_some_iff] at hi
    obtain ⟨h1, h2⟩ := hi
    rw [← h2, List.set_getElem_self]
  have HV := Lib.hid (r4Valid_any hr)
  have HF := Lib.hid (r4Find_any hr k)
  have HSAME := Lib.hid (And.intro (show Sep w0 w (l.set i (ref4T w0.heap.size g n L bk)) by rw [hset]; exact h) hs)
  have hrow := hr.row
  obtain ⟨c0, c1, c2, cf, hg⟩ := row_three hr.row
  by_cases hin : 0 ≤ k ∧ k < (n : Int)
  · have h0 : 0 ≤ k := hin.1
    have h1 : k < (n : Int) := hin.2
    obtain ⟨m, rfl⟩ := Int.eq_ofNat_of_zero_le h0
    have HK := Lib.hid (show ∀ j, FindR L (m : Int) j → (j = -1 ∧ A.keys m = none ∧ A.pushE (m : Int) = 0 ∧ A.pushA (m : Int) x = A.put m x) ∨ ∃ q : Nat, j = q ∧ q < L.length ∧ A.pushE (m : Int) = 6 ∧ A.pushA (m : Int) x = A from fun j hj => by
      rcases hj with ⟨rfl, hno⟩ | ⟨q, rfl, hq, he⟩
      · left
        have hk := hs.none_of hno
        refine ⟨rfl, hk, ?_, ?_⟩
        · unfold Hp.pushE; rw [if_pos ⟨by omega, by omega⟩]; simp [hk]
        · unfold Hp.pushA; rw [if_pos ⟨by omega, by omega, by simp [hk]⟩]; simp
      · right
        have e : (entAt L q).1 = m := by omega
        have hk := hs.at_ hq
        rw [e] at hk
        refine ⟨q, rfl, hq, ?_, ?_⟩
        · unfold Hp.pushE; rw [if_pos ⟨by omega, by omega⟩]; simp [hk]
        · unfold Hp.pushA; rw [if_neg (by simp [hk])])
    have HLST := Lib.hid (fun (hk : A.keys m = none) => show (L ++ [(m, x)]).length ≤ n ∧ Lst (A.put m x) (L ++ [(m, x)]) from by
      have h2 := hs.push x hk
      exact ⟨by rw [← hA]; exact h2.len_le (Hp.put_ok ho (by omega) hx), h2⟩)
    have HROW := Lib.hid hr
    have HSEP := Lib.hid h
    have HI := Lib.hid hi
    have HVB := Lib.hid hv
    have hn := hr.ns
    have hl := hr.hl
    clear h hi hs ho hset hrow hin hv
    go_enter Try.func52, Try.ntmps52
    go_wp2_with (go_at_call 84; refine HV.out.mono ?_; rintro r wz ⟨rfl, rfl⟩)
    refine HF.out.mono ?_
    rintro r wz ⟨⟨j, rfl, hj⟩, rfl⟩
    rcases HK.out j hj with ⟨rfl, hkn, hE, hR⟩ | ⟨q, rfl, hq, hE, hR⟩
    · have HR := Lib.hid (And.intro hE (And.intro hR hkn))
      have hl2 := (HLST.out hkn).1
      simp only [List.length_append, List.length_cons, List.length_nil] at hl2
      have hsz : w0.heap.size ≤ w.heap.size := HSEP.out.size
      clear hE hR hj hkn hr
      go_wp2_with (at_builtin; go_loud (refine wpList_append2 _ _ 68 rfl rfl infoEntry Try.underlying68 rfl (by decide) rfl rfl (HROW.out.own.alloc _) (news := [.int .i64 (m : Int), .int .i64 x]) rfl (cell_two (u := .int .i64 (m : Int)) (v := .int .i64 x) (ad := ⟨w.heap.size, 0, none⟩) (World.cell?_alloc_at _ _ _ _ (by simp)) (World.cell?_alloc_at _ _ _ 1 (by simp))) (two_oneCell rfl rfl) (by unfold maxLen; omega) (by omega) (by simp; omega) ?_); intro v1 w1 hown1 hgr1 hnil1 hblk1; rw [flat_app (x := (m, x))] at hown1; obtain ⟨a9, c9, rfl⟩ := owns_shape hown1; have hgb : w1.heap[g]? = w.heap[g]? := by {rw [hgr1.block g (by simp; omega) (fun e => HROW.out.ne e.symm)]; exact Below.heap_alloc _ _ _ hg}; obtain ⟨n0, n1, n2, nf, ng⟩ := row_three (hgb.trans HROW.out.row); have H1 := Lib.hid (And.intro hown1 (And.intro hgr1 (And.intro hnil1 hblk1))); clear hown1 hgr1 hnil1 hblk1 hgb)
      go_ret
      obtain ⟨hown, hgr, hnil, hblk⟩ := H1.out
      have hr := HROW.out
      have hz2 := hgr.size
      simp only [World.size_alloc] at hz2
      have hne : ∀ q, (Value.slice a9 (L.length + 1) c9).ownBlock = some q → q ≠ g := by
        intro q hq e
        rw [hq, e] at hblk
        rcases hblk with hb | hb
        · exact hr.ne hb.symm
        · simp at hb; omega
      have hown2 : w1.ownsRow w0.heap.size 28 2 (Value.slice a9 (L.length + 1) c9) (L ++ [(m, x)]).length (flat (L ++ [(m, x)]).length (entAt (L ++ [(m, x)]))) := by simpa using hown
      refine ⟨by rw [HR.out.1]; rfl, L ++ [(m, x)], (Value.slice a9 (L.length + 1) c9).ownBlock, by rw [HR.out.2.1]; exact (HLST.out HR.out.2.2).2, ?_⟩
      have hu : Upd (fun q => q = g ∨ v.ownBlock = some q) w (w1.setCell ⟨g, 2, none⟩ (Value.slice a9 (L.length + 1) c9)) := by
        have h1 : Upd (fun q => q = g ∨ v.ownBlock = some q) w w1 := ((Upd.refl _ w).alloc _).grown hgr (fun q hq _ => Or.inr hq)
        exact h1.setCell (p := ⟨g, 2, none⟩) (fun _ => Or.inl rfl) _
      refine HSEP.out.set i HI.out hu (fun q hq => by
        rcases hq with hq | hq
        · exact Or.inl (Or.inl hq)
        · exact Or.inl (Or.inr (HVB.out ▸ hq))) _ ⟨_, rfl, ⟨row_three_set ((hgr.block g (by simp; omega) (fun e => hr.ne e.symm)).trans ((Below.heap_alloc _ _ _ hg).trans hr.row)) _, owns_same hown2 (fun q hq => Below.heap_setCell _ _ _ _ (fun e => hne q hq e)), hr.ns, (HLST.out HR.out.2.2).1, fun e => hne g e rfl⟩⟩ ?_
      rintro q (rfl | hq)
      · exact Or.inl (Or.inl rfl)
      · rcases hblk with hb | hb
        · exact Or.inl (Or.inr (by rw [← HVB.out]; exact hb.symm.trans hq))
        · rw [hb] at hq
          simp at hq
          exact Or.inr (by omega)
    · have HR := Lib.hid (And.intro hE hR)
      clear hE hR hj hr
      go_wp2
      go_ret
      refine ⟨by rw [HR.out.1]; rfl, L, bk, ?_, HSAME.out.1⟩
      rw [HR.out.2]; exact HSAME.out.2
  · have HR := Lib.hid (show A.pushE k = 3 ∧ A.pushA k x = A by
      constructor
      · unfold Hp.pushE; rw [if_neg (by rw [hA]; exact hin)]
      · unfold Hp.pushA; rw [if_neg (fun h => hin ⟨h.1, by rw [← hA]; exact h.2.1⟩)])
    clear h hi hr hs ho hset hrow HF
    by_cases h0 : k < 0
    · clear hin
      go_enter Try.func52, Try.ntmps52
      go_wp2_with (go_at_call 84; refine HV.out.mono ?_; rintro r wz ⟨rfl, rfl⟩)
      go_ret
      refine ⟨by rw [HR.out.1]; rfl, L, bk, ?_, HSAME.out.1⟩
      rw [HR.out.2]; exact HSAME.out.2
    · have h1 : (n : Int) ≤ k := by omega
      have h2 : 0 ≤ k := by omega
      clear hin h0
      go_enter Try.func52, Try.ntmps52
      go_wp2_with (go_at_call 84; refine HV.out.mono ?_; rintro r wz ⟨rfl, rfl⟩)
      go_ret
      refine ⟨by rw [HR.out.1]; rfl, L, bk, ?_, HSAME.out.1⟩
      rw [HR.out.2]; exact HSAME.out.2
end
end Go.Proofs.Ytmlbacbcdjfioaa
