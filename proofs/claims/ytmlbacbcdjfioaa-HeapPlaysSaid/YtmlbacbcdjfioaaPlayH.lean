/- PlayH: layer 4: a heap and the document's, side by side, step by step; nil ones too. -/
import Derived.Test.YtmlbacbcdjfioaaR4N
import Derived.Test.YtmlbacbcdjfioaaHeapN
set_option linter.unusedSimpArgs false
set_option linter.unusedVariables false
namespace Go.Proofs.Ytmlbacbcdjfioaa
open Go.ChangeShapes Go.WideShapes Go.ChangeAt Go.RowKit

theorem Sep.r4ListEq {w0 w : World} {l : List Thing} {i g n : Nat} {A : Hp} {L M : List Ent} {bk : Option Nat} (h : Sep w0 w l) (hi : l[i]? = some (ref4T w0.heap.size g n L bk)) (hs : Lst A L) (ho : A.Ok) (hM : Srt A M) :
    Calls Try.prog 82 #[.pointer (some ⟨g, 0, none⟩)] w fun r w' => ∃ a cap, r = .returned (.slice a M.length cap) ∧ M.length ≤ cap ∧ cap ≤ 9223372036854775807 ∧ Sep w0 w' (entsT a M.length cap M :: l) := by
  obtain ⟨v, hv, hr⟩ := h.ref4 i hi
  refine (r4List_any hr hs ho hM).mono ?_
  rintro r w' ⟨a, cap, rfl, h1, h2, h3⟩
  refine ⟨a, cap, rfl, h1.hle, h1.hmax, h.add h3 _ h1 ?_⟩
  rintro q ⟨_, ad, ha, rfl⟩
  exact h2 ad ha

/-- Both are nil, or both are in the same state; l: what else is there. -/
def Pl4 (w0 w : World) (pe pr : Option Addr) (l : List Thing) : Prop := (pe = none ∧ pr = none ∧ Sep w0 w l) ∨
  ∃ (b g : Nat) (A : Hp) (S : Nat → Prop) (L : List Ent) (bk : Option Nat), pe = some ⟨b, 0, none⟩ ∧ pr = some ⟨g, 0, none⟩ ∧ Lst A L ∧ Sep w0 w (heapT w0.heap.size b A S :: ref4T w0.heap.size g A.slots L bk :: l)

set_option maxHeartbeats 4000000 in
set_option maxRecDepth 100000 in
theorem agree4_l {w0 w : World} {l : List Thing} {b g : Nat} {A : Hp} {S : Nat → Prop} {bk : Option Nat} {L : List Ent} (h : Sep w0 w (heapT w0.heap.size b A S :: ref4T w0.heap.size g A.slots L bk :: l)) (hs : Lst A L) (i : Int) :
    Calls Try.prog 47 #[.pointer (some ⟨b, 0, none⟩), .pointer (some ⟨g, 0, none⟩), .int .i64 i] w fun r w' => r = .returned (.bool true) ∧ Sep w0 w' (heapT w0.heap.size b A S :: ref4T w0.heap.size g A.slots L bk :: l) := by
  have ho := h.heap_ok 0 rfl
  obtain ⟨M, hM⟩ : ∃ M, Srt A M := ⟨_, Hp.sorted_srt ho⟩
  obtain ⟨n, hn⟩ : ∃ n, M.length = n := ⟨_, rfl⟩
  have hln := hs.len hM
  rw [hn] at hln
  obtain ⟨x0, x1, x2, hx⟩ := minV_shape M.head?
  obtain ⟨d0, d1, hd⟩ := keyV_shape (A.keyAt i)
  have HS := Lib.hid h
  have HR := Lib.hid (And.intro hs (And.intro ho hM))
  have HN := Lib.hid (And.intro hn hln)
  have HX := Lib.hid hx
  have HD := Lib.hid hd
  clear h hs ho hM hx hd hn hln
  go_enter Try.func47, Try.ntmps47
  go_wp2_with (first
    | (go_at_call 43; refine (Sep.l4sameEq H4.out rfl (H4.out.get 1 rfl) (H4.out.get 0 rfl)).mono ?_; rintro r w5 ⟨rfl, h⟩; have H5 := Lib.hid h; clear h H4)
    | (go_at_call 82; refine (Sep.r4ListEq (i := 4) H3.out rfl HR.out.1 HR.out.2.1 HR.out.2.2).mono ?_; rintro r w4 ⟨a4, c4, rfl, q4, m4, h⟩; rw [HN.out.1] at q4 h ⊢; have H4 := Lib.hid h; clear h H3)
    | (go_at_call 42; refine (Sep.hListEq H2.out 2 rfl HR.out.2.2 HN.out.1).mono ?_; rintro r w3 ⟨a3, c3, rfl, q3, m3, h⟩; have H3 := Lib.hid h; clear h H2)
    | (go_at_call 81; refine (r4Len_any (Sep.ref4 H2.out 3 rfl).choose_spec.2).mono ?_; rintro r wz ⟨rfl, rfl⟩; rw [HN.out.2])
    | (go_at_call 24; refine (Sep.hLenEq H2.out 2 rfl HR.out.2.2 HN.out.1).mono ?_; rintro r wz ⟨rfl, rfl⟩)
    | (go_at_call 80; refine (r4Key_any (Sep.ref4 H2.out 3 rfl).choose_spec.2 HR.out.1 HR.out.2.1 rfl i).mono ?_; rintro r wz ⟨rfl, rfl⟩; rw [HD.out])
    | (go_at_call 51; refine (Sep.hKey H2.out 2 rfl i).mono ?_; rintro r wz ⟨rfl, rfl⟩; rw [HD.out])
    | (go_at_call 79; refine (Sep.r4Min (i := 2) H1.out rfl HR.out.1 HR.out.2.1 HR.out.2.2).mono ?_; rintro r w2 ⟨rfl, h, _⟩; rw [HX.out]; have h2 := h.add ((Below.refl _ _).alloc (Nat.le_refl _) (.cells #[.int .i64 x0, .int .i64 x1] 28)) (blockT w2.heap.size (.cells #[.int .i64 x0, .int .i64 x1] 28)) (heap_alloc_new _ _) (by rintro q rfl; exact Nat.le_refl _); have kb1 := (h2.get 1 rfl : (blockT _ _).P _); have kb0 := (h2.get 0 rfl : (blockT _ _).P _); obtain ⟨k0, k1, kf, _⟩ := row_two kb0; obtain ⟨l0, l1, lf, _⟩ := row_two kb1; have H2 := Lib.hid h2; clear h h2 H1 kb0 kb1)
    | (go_at_call 57; refine (Sep.hMin HS.out 0 rfl HR.out.2.2).mono ?_; rintro r w1 ⟨rfl, h, _⟩; rw [HX.out]; have h1 := h.add ((Below.refl _ _).alloc (Nat.le_refl _) (.cells #[.int .i64 x0, .int .i64 x1] 28)) (blockT w1.heap.size (.cells #[.int .i64 x0, .int .i64 x1] 28)) (heap_alloc_new _ _) (by rintro q rfl; exact Nat.le_refl _); have H1 := Lib.hid h1; clear h h1 HS))
  go_ret
  exact ⟨by simp, H5.out.tail.tail.tail.tail⟩

set_option maxHeartbeats 4000000 in
set_option maxRecDepth 100000 in
theorem agree4_nil {w0 w : World} {l : List Thing} (h : Sep w0 w l) (i : Int) :
    Calls Try.prog 47 #[.pointer none, .pointer none, .int .i64 i] w fun r w' => r = .returned (.bool true) ∧ Sep w0 w' l := by
  have HS := Lib.hid h
  have HN := Lib.hid (fun w : World => show NoHeap w none from Or.inl rfl)
  clear h
  go_enter Try.func47, Try.ntmps47
  go_wp2_with (first
    | (go_at_call 43; refine (Sep.l4sameEq H2.out rfl (EntsIn.nil _) (EntsIn.nil _)).mono ?_; rintro r w5 ⟨rfl, h⟩; have H5 := Lib.hid h; clear h H2)
    | (go_at_call 82; refine (xr4List _).mono ?_; rintro r wz ⟨rfl, rfl⟩)
    | (go_at_call 42; refine (xhList (HN.out _)).mono ?_; rintro r wz ⟨rfl, rfl⟩)
    | (go_at_call 81; refine (xr4Len _).mono ?_; rintro r wz ⟨rfl, rfl⟩)
    | (go_at_call 24; refine (xhLen (HN.out _)).mono ?_; rintro r wz ⟨rfl, rfl⟩)
    | (go_at_call 80; refine (xr4Key _ _).mono ?_; rintro r wz ⟨rfl, rfl⟩)
    | (go_at_call 51; refine (xhKey (HN.out _) _).mono ?_; rintro r wz ⟨rfl, rfl⟩)
    | (go_at_call 79; refine (xr4Min _).mono ?_; rintro r w2 ⟨rfl, hb⟩; have h2 := (H1.out.keep hb).add ((Below.refl _ _).alloc (Nat.le_refl _) (.cells #[.int .i64 0, .int .i64 0] 28)) (blockT w2.heap.size (.cells #[.int .i64 0, .int .i64 0] 28)) (heap_alloc_new _ _) (by rintro q rfl; exact Nat.le_refl _); have kb1 := (h2.get 1 rfl : (blockT _ _).P _); have kb0 := (h2.get 0 rfl : (blockT _ _).P _); obtain ⟨k0, k1, kf, _⟩ := row_two kb0; obtain ⟨l0, l1, lf, _⟩ := row_two kb1; have H2 := Lib.hid h2; clear h2 hb H1 kb0 kb1)
    | (go_at_call 57; refine (xhMin (HN.out _)).mono ?_; rintro r w1 ⟨rfl, hb⟩; have h1 := (HS.out.keep hb).add ((Below.refl _ _).alloc (Nat.le_refl _) (.cells #[.int .i64 0, .int .i64 0] 28)) (blockT w1.heap.size (.cells #[.int .i64 0, .int .i64 0] 28)) (heap_alloc_new _ _) (by rintro q rfl; exact Nat.le_refl _); have H1 := Lib.hid h1; clear hb h1 HS))
  go_ret
  exact ⟨by simp, H5.out.tail.tail⟩

section
variable {w0 w : World} {pe pr : Option Addr} {l : List Thing}
namespace Pl4
theorem get (h : Pl4 w0 w pe pr l) (i : Nat) {t : Thing} (hi : l[i]? = some t) : t.P w := by
  rcases h with ⟨_, _, h⟩ | ⟨b, g, A, S, L, bk, _, _, _, h⟩
  · exact h.get i hi
  · exact h.get (i + 2) (by simpa using hi)
theorem below (h : Pl4 w0 w pe pr l) : Below w0.heap.size w0 w := by
  rcases h with ⟨_, _, h⟩ | ⟨b, g, A, S, L, bk, _, _, _, h⟩
  · exact h.below
  · exact h.below
theorem keep {w' : World} (h : Pl4 w0 w pe pr l) (hb : Below w.heap.size w w') : Pl4 w0 w' pe pr l := by
  rcases h with ⟨h1, h2, h⟩ | ⟨b, g, A, S, L, bk, h1, h2, h3, h⟩
  · exact Or.inl ⟨h1, h2, h.keep hb⟩
  · exact Or.inr ⟨b, g, A, S, L, bk, h1, h2, h3, h.keep hb⟩
theorem remA_slots (A : Hp) (k : Int) : (A.remA k).slots = A.slots := by unfold Hp.remA; split <;> rfl
theorem pushA_slots (A : Hp) (k x : Int) : (A.pushA k x).slots = A.slots := by unfold Hp.pushA; split <;> rfl
theorem chgA_slots (A : Hp) (k x : Int) : (A.chgA k x).slots = A.slots := by unfold Hp.chgA; split <;> rfl
theorem popA_slots (A : Hp) : A.popA.slots = A.slots := by unfold Hp.popA; split <;> rfl

theorem push (h : Pl4 w0 w pe pr l) (k x : Int) (hx : -9223372036854775808 ≤ x ∧ x ≤ 9223372036854775807) :
    Calls Try.prog 50 #[.pointer pe, .int .i64 k, .int .i64 x] w fun r w1 => ∃ c, r = .returned (.int .i64 c) ∧ (∀ (i : Nat) (t : Thing), l[i]? = some t → t.P w1) ∧
      Calls Try.prog 52 #[.pointer pr, .int .i64 k, .int .i64 x] w1 fun r w' => r = .returned (.int .i64 c) ∧ Pl4 w0 w' pe pr l := by
  rcases h with ⟨rfl, rfl, h⟩ | ⟨b, g, A, S, L, bk, rfl, rfl, hs, h⟩
  · refine (xhPush (Or.inl rfl) k x).mono ?_
    rintro r w1 ⟨rfl, rfl⟩
    refine ⟨1, rfl, fun i t hi => h.get i hi, (xr4Push _ _ _).mono ?_⟩
    rintro r w' ⟨rfl, rfl⟩
    exact ⟨rfl, Or.inl ⟨rfl, rfl, h⟩⟩
  · have hok := h.heap_ok 0 rfl
    refine (h.hPush 0 rfl k x hx).mono ?_
    rintro r w1 ⟨rfl, S1, h1⟩
    have h1' : Sep w0 w1 (heapT w0.heap.size b (A.pushA k x) S1 :: ref4T w0.heap.size g A.slots L bk :: l) := h1
    refine ⟨_, rfl, fun i t hi => h1'.get (i + 2) (by simpa using hi), (h1'.r4Push (i := 1) rfl hs hok rfl k x hx).mono ?_⟩
    rintro r w' ⟨rfl, L', bk', hs', h2⟩
    exact ⟨rfl, Or.inr ⟨b, g, A.pushA k x, S1, L', bk', rfl, rfl, hs', by rw [pushA_slots]; exact h2⟩⟩
theorem change (h : Pl4 w0 w pe pr l) (k x : Int) (hx : -9223372036854775808 ≤ x ∧ x ≤ 9223372036854775807) :
    Calls Try.prog 49 #[.pointer pe, .int .i64 k, .int .i64 x] w fun r w1 => ∃ c, r = .returned (.int .i64 c) ∧ (∀ (i : Nat) (t : Thing), l[i]? = some t → t.P w1) ∧
      Calls Try.prog 53 #[.pointer pr, .int .i64 k, .int .i64 x] w1 fun r w' => r = .returned (.int .i64 c) ∧ Pl4 w0 w' pe pr l := by
  rcases h with ⟨rfl, rfl, h⟩ | ⟨b, g, A, S, L, bk, rfl, rfl, hs, h⟩
  · refine (xhChange (Or.inl rfl) k x).mono ?_
    rintro r w1 ⟨rfl, rfl⟩
    refine ⟨1, rfl, fun i t hi => h.get i hi, (xr4Change _ _ _).mono ?_⟩
    rintro r w' ⟨rfl, rfl⟩
    exact ⟨rfl, Or.inl ⟨rfl, rfl, h⟩⟩
  · have hok := h.heap_ok 0 rfl
    refine (h.hChange 0 rfl k x hx).mono ?_
    rintro r w1 ⟨rfl, S1, h1⟩
    have h1' : Sep w0 w1 (heapT w0.heap.size b (A.chgA k x) S1 :: ref4T w0.heap.size g A.slots L bk :: l) := h1
    refine ⟨_, rfl, fun i t hi => h1'.get (i + 2) (by simpa using hi), (h1'.r4Change (i := 1) rfl hs hok rfl k x hx).mono ?_⟩
    rintro r w' ⟨rfl, L', bk', hs', h2⟩
    exact ⟨rfl, Or.inr ⟨b, g, A.chgA k x, S1, L', bk', rfl, rfl, hs', by rw [chgA_slots]; exact h2⟩⟩
theorem remove (h : Pl4 w0 w pe pr l) (k : Int) :
    Calls Try.prog 44 #[.pointer pe, .int .i64 k] w fun r w1 => ∃ c, r = .returned (.int .i64 c) ∧ (∀ (i : Nat) (t : Thing), l[i]? = some t → t.P w1) ∧
      Calls Try.prog 54 #[.pointer pr, .int .i64 k] w1 fun r w' => r = .returned (.int .i64 c) ∧ Pl4 w0 w' pe pr l := by
  rcases h with ⟨rfl, rfl, h⟩ | ⟨b, g, A, S, L, bk, rfl, rfl, hs, h⟩
  · refine (xhRemove (Or.inl rfl) k).mono ?_
    rintro r w1 ⟨rfl, rfl⟩
    refine ⟨1, rfl, fun i t hi => h.get i hi, (xr4Remove _ _).mono ?_⟩
    rintro r w' ⟨rfl, rfl⟩
    exact ⟨rfl, Or.inl ⟨rfl, rfl, h⟩⟩
  · have hok := h.heap_ok 0 rfl
    refine (h.hRemove 0 rfl k).mono ?_
    rintro r w1 ⟨rfl, S1, h1⟩
    have h1' : Sep w0 w1 (heapT w0.heap.size b (A.remA k) S1 :: ref4T w0.heap.size g A.slots L bk :: l) := h1
    refine ⟨_, rfl, fun i t hi => h1'.get (i + 2) (by simpa using hi), (h1'.r4Remove (i := 1) rfl hs hok rfl k).mono ?_⟩
    rintro r w' ⟨rfl, L', bk', hs', h2⟩
    exact ⟨rfl, Or.inr ⟨b, g, A.remA k, S1, L', bk', rfl, rfl, hs', by rw [remA_slots]; exact h2⟩⟩
theorem perm3 {x y z : Thing} (h : Sep w0 w (x :: y :: z :: l)) : Sep w0 w (y :: z :: x :: l) := by
  refine h.sub (fun i => if i = 0 then 1 else if i = 1 then 2 else if i = 2 then 0 else i) _ ?_ ?_
  · intro i j e
    rcases i with _ | _ | _ | i <;> rcases j with _ | _ | _ | j <;> simp_all
  · intro i z hi
    match i, hi with
    | 0, hi => exact hi
    | 1, hi => exact hi
    | 2, hi => exact hi
    | i + 3, hi => simpa using hi
/-- Both Pops, one after the other, give the same. -/
theorem pop (h : Pl4 w0 w pe pr l) :
    Calls Try.prog 23 #[.pointer pe] w fun r w1 => ∃ x0 x1 x2, r = .returned (.tuple #[.agg #[.int .i64 x0, .int .i64 x1], .bool x2]) ∧
      ∀ o, Calls Try.prog 55 #[.pointer pr] (w1.alloc o) fun r w' => r = .returned (.tuple #[.agg #[.int .i64 x0, .int .i64 x1], .bool x2]) ∧ Pl4 w0 w' pe pr (blockT w1.heap.size o :: l) := by
  rcases h with ⟨rfl, rfl, h⟩ | ⟨b, g, A, S, L, bk, rfl, rfl, hs, h⟩
  · refine (xhPop (Or.inl rfl)).mono ?_
    rintro r w1 ⟨rfl, hb1⟩
    refine ⟨0, 0, false, rfl, fun o => (xr4Pop _).mono ?_⟩
    rintro r w' ⟨rfl, hb3⟩
    exact ⟨rfl, Or.inl ⟨rfl, rfl, ((h.keep hb1).add ((Below.refl _ _).alloc (Nat.le_refl _) o) (blockT w1.heap.size o) (heap_alloc_new _ _) (by rintro q rfl; exact Nat.le_refl _)).keep hb3⟩⟩
  · have hok := h.heap_ok 0 rfl
    obtain ⟨M, hM⟩ : ∃ M, Srt A M := ⟨_, Hp.sorted_srt hok⟩
    obtain ⟨x0, x1, x2, hx⟩ := minV_shape M.head?
    refine (h.hPop 0 rfl hM).mono ?_
    rintro r w1 ⟨rfl, S1, h1⟩
    refine ⟨x0, x1, x2, by rw [hx], fun o => ?_⟩
    have h1' : Sep w0 (w1.alloc o) (blockT w1.heap.size o :: heapT w0.heap.size b A.popA S1 :: ref4T w0.heap.size g A.slots L bk :: l) := Sep.add h1 ((Below.refl _ _).alloc (Nat.le_refl _) o) (blockT w1.heap.size o) (heap_alloc_new _ _) (by rintro q rfl; exact Nat.le_refl _)
    refine (h1'.r4Pop (i := 2) rfl hs hok rfl hM).mono ?_
    rintro r w' ⟨rfl, L', bk', hs', h2⟩
    refine ⟨by rw [hx], Or.inr ⟨b, g, A.popA, S1, L', bk', rfl, rfl, hs', ?_⟩⟩
    rw [popA_slots]
    exact perm3 h2
theorem block (h : Pl4 w0 w pe pr l) (o : Obj) : Pl4 w0 (w.alloc o) pe pr (blockT w.heap.size o :: l) := by
  have hb : Below w.heap.size w (w.alloc o) := (Below.refl _ _).alloc (Nat.le_refl _) o
  rcases h with ⟨h1, h2, h⟩ | ⟨b, g, A, S, L, bk, h1, h2, h3, h⟩
  · exact Or.inl ⟨h1, h2, h.add hb _ (heap_alloc_new _ _) (by rintro q rfl; exact Nat.le_refl _)⟩
  · exact Or.inr ⟨b, g, A, S, L, bk, h1, h2, h3, perm3 (h.add hb (blockT w.heap.size o) (heap_alloc_new _ _) (by rintro q rfl; exact Nat.le_refl _))⟩
theorem forget (h : Pl4 w0 w pe pr l) : Pl4 w0 w pe pr [] := by
  rcases h with ⟨h1, h2, h⟩ | ⟨b, g, A, S, L, bk, h1, h2, h3, h⟩
  · exact Or.inl ⟨h1, h2, h.sub id [] (fun _ _ e => e) (fun i x hi => by simp at hi)⟩
  · refine Or.inr ⟨b, g, A, S, L, bk, h1, h2, h3, h.sub id _ (fun _ _ e => e) ?_⟩
    intro i z hi
    match i, hi with
    | 0, hi => exact hi
    | 1, hi => exact hi
    | i + 2, hi => simp at hi
theorem start (n : Int) (w : World) : ∃ p : Int, Calls Try.prog 45 #[.int .i64 n] w fun e w1 => ∃ pa, e = .returned (.tuple #[.pointer pa, .int .i64 p]) ∧
    Calls Try.prog 46 #[.int .i64 n] w1 fun e w' => ∃ pr, e = .returned (.tuple #[.pointer pr, .int .i64 p]) ∧ (pa.isNone == pr.isNone) = true ∧ Pl4 w w' pa pr [] := by
  by_cases h : 0 ≤ n ∧ n ≤ 65536
  · obtain ⟨m, rfl⟩ := Int.eq_ofNat_of_zero_le h.1
    have hm : m ≤ 65536 := by omega
    refine ⟨0, ((Sep.start w).hNew m hm).mono fun e w1 ⟨b, S, he, h1⟩ => ⟨some ⟨b, 0, none⟩, he, ?_⟩⟩
    refine (r4New_ok m w1 hm).mono fun e w' ⟨g, he, hr, hg, hb⟩ => ⟨some ⟨g, 0, none⟩, he, rfl, Or.inr ⟨b, g, Hp.new m, S, [], none, rfl, rfl, Lst.new m, ?_⟩⟩
    have h2 := h1.add hb (ref4T w.heap.size g m [] none) ⟨_, rfl, hr.row, World.ownsRow_nil _ _ _ _, hr.ns, hr.hl, hr.ne⟩ (by rintro q (rfl | hq); exact hg; simp at hq)
    refine h2.sub (fun i => if i = 0 then 1 else if i = 1 then 0 else i) _ ?_ ?_
    · intro i j e
      rcases i with _ | _ | i <;> rcases j with _ | _ | j <;> simp_all
    · intro i z hi
      match i, hi with
      | 0, hi => exact hi
      | 1, hi => exact hi
      | i + 2, hi => simp at hi
  · exact ⟨2, (hNew_bad n w (by omega)).mono fun e w1 ⟨he, hw⟩ => ⟨none, he, by subst hw; exact (r4New_bad n w (by omega)).mono fun e w' ⟨he, hw⟩ => ⟨none, he, rfl, by subst hw; exact Or.inl ⟨rfl, rfl, Sep.start w⟩⟩⟩⟩
theorem copy (h : Pl4 w0 w pe pr l) :
    Calls Try.prog 48 #[.pointer pe] w fun r w1 => ∃ pe', r = .returned (.pointer pe') ∧
      Calls Try.prog 56 #[.pointer pr] w1 fun r w' => ∃ pr', r = .returned (.pointer pr') ∧ Pl4 w0 w' pe' pr' l := by
  rcases h with ⟨rfl, rfl, h⟩ | ⟨b, g, A, S, L, bk, rfl, rfl, hs, h⟩
  · refine (xhCopy (Or.inl rfl)).mono ?_
    rintro r w1 ⟨rfl, rfl⟩
    refine ⟨none, rfl, (xr4Copy _).mono ?_⟩
    rintro r w' ⟨rfl, rfl⟩
    exact ⟨none, rfl, Or.inl ⟨rfl, rfl, h⟩⟩
  · refine (h.hCopy 0 rfl).mono ?_
    rintro r w1 ⟨b', S', rfl, h1⟩
    refine ⟨_, rfl, (h1.r4Copy (i := 2) rfl).mono ?_⟩
    rintro r w' ⟨g', bk', rfl, h2⟩
    refine ⟨_, rfl, Or.inr ⟨b', g', A, S', L, bk', rfl, rfl, hs, ?_⟩⟩
    refine h2.sub (fun i => if i = 0 then 1 else if i = 1 then 0 else i + 2) _ ?_ ?_
    · intro i j e
      rcases i with _ | _ | i <;> rcases j with _ | _ | j <;> simp_all
    · intro i z hi
      match i, hi with
      | 0, hi => exact hi
      | 1, hi => exact hi
      | i + 2, hi => simpa using hi
theorem agree (h : Pl4 w0 w pe pr l) (i : Int) :
    Calls Try.prog 47 #[.pointer pe, .pointer pr, .int .i64 i] w fun r w' => r = .returned (.bool true) ∧ Pl4 w0 w' pe pr l := by
  rcases h with ⟨rfl, rfl, h⟩ | ⟨b, g, A, S, L, bk, rfl, rfl, hs, h⟩
  · exact (agree4_nil h i).mono fun r w' ⟨h1, h2⟩ => ⟨h1, Or.inl ⟨rfl, rfl, h2⟩⟩
  · refine (agree4_l h hs i).mono ?_
    rintro r w' ⟨h1, h2⟩
    exact ⟨h1, Or.inr ⟨b, g, A, S, L, bk, rfl, rfl, hs, h2⟩⟩
end Pl4
end
end Go.Proofs.Ytmlbacbcdjfioaa
