/- HeapL: layer 4: List. -/
import Derived.Test.YtmlbacbcdjfioaaHeapF
import Derived.Test.YtmlbacbcdjfioaaEntsIn
import Derived.Test.YtmlbacbcdjfioaaHeapC
import Derived.Shelf.SlSortCmp.WholeK
import Derived.Shelf.Lay
import Derived.Lib.OwnBridge
import Derived.Lib.AppendIntMem
import Derived.Ground.SlsfProg
set_option linter.unusedSimpArgs false
set_option linter.unusedVariables false
namespace Go.Proofs.Ytmlbacbcdjfioaa
open Go.Shelf Go.RowKit Go.Lib Go.Sort

def encEnt (x : Ent) : List Value := [.int .i64 (x.1 : Int), .int .i64 x.2]
def cmpEnt (x y : Ent) : Int := if before x y = true then -1 else 1
theorem ltEnt (x y : Ent) : ltOf cmpEnt x y = before x y := by
  unfold ltOf cmpEnt
  cases before x y <;> simp
theorem swoEnt : SWO (ltOf cmpEnt) where
  irrefl x := by rw [ltEnt]; exact before_irrefl x
  trans x y z h1 h2 := by rw [ltEnt] at *; exact before_trans h1 h2
  ntrans x y z h1 h2 := by rw [ltEnt] at *; rw [not_before_iff] at *; omega

set_option maxHeartbeats 1000000 in
theorem closure_ent (x y : Ent) (W : World) : Calls Try.prog 74 #[.agg #[.int .i64 (x.1 : Int), .int .i64 x.2], .agg #[.int .i64 (y.1 : Int), .int .i64 y.2]] W fun e w' => e = .returned (.int .i64 (cmpEnt x y)) ∧ ∃ q os', w' = grow (W.drewN q) os' := by
  cases hb : before x y with
  | true =>
    have HR := Lib.hid (show cmpEnt x y = -1 by unfold cmpEnt; rw [hb]; rfl)
    rw [before_iff] at hb
    have hc : x.2 < y.2 ∨ (y.2 ≤ x.2 ∧ (x.2 == y.2) = true ∧ (x.1 : Int) < y.1) := by
      rcases hb with h | ⟨h, h2⟩
      · exact Or.inl h
      · exact Or.inr ⟨by omega, by simp [h], by omega⟩
    clear hb
    rcases hc with h1 | ⟨h1, h2, h3⟩
    all_goals
      go_enter Try.func74, Try.ntmps74
      go_wp2
      go_ret
      exact ⟨by rw [HR.out]; rfl, 0, _, by rw [alloc_eq_grow, alloc_eq_grow, grow_grow]; rfl⟩
  | false =>
    have HR := Lib.hid (show cmpEnt x y = 1 by unfold cmpEnt; rw [hb]; rfl)
    rw [not_before_iff] at hb
    have hc : (y.2 < x.2 ∧ (x.2 == y.2) = false) ∨ (y.2 ≤ x.2 ∧ (x.2 == y.2) = true ∧ (y.1 : Int) ≤ x.1) := by
      rcases hb with h | ⟨h, h2⟩
      · exact Or.inl ⟨h, by simp; omega⟩
      · exact Or.inr ⟨by omega, by simp [h], by omega⟩
    clear hb
    rcases hc with ⟨h1, h2⟩ | ⟨h1, h2, h3⟩
    all_goals
      go_enter Try.func74, Try.ntmps74
      go_wp2
      go_ret
      exact ⟨by rw [HR.out]; rfl, 0, _, by rw [alloc_eq_grow, alloc_eq_grow, grow_grow]; rfl⟩

shelf_lay_g SlLaysF0.n6 Slsf 6 at Try 73 as Try.sortEnt

theorem cmpLays_ent (blk off size : Nat) (w : World) : CmpLays Try.prog 74 #[] encEnt 2 cmpEnt blk off size w :=
  fun _ _ _ _ x y => closure_ent x y _

/-- A table's entries, as an array. -/
def entArr (n : Nat) (f : Nat → Ent) : Array Ent := (Array.range n).map f
theorem entArr_size (n : Nat) (f : Nat → Ent) : (entArr n f).size = n := by simp [entArr]
theorem entArr_get {n : Nat} (f : Nat → Ent) {i : Nat} (h : i < n) : (entArr n f)[i]! = f i := by simp [entArr, h]

theorem holds_ents {B : Nat} {w : World} {e g n cap : Nat} {f : Nat → Ent} (h : w.ownsRow B e 2 (.slice (some ⟨g, 0, none⟩) n cap) n (flat n f)) : HoldsK encEnt 2 w g 0 (entArr n f) := by
  intro j hj
  have hj2 : j < n * 2 := by simpa [entArr_size] using hj
  refine ⟨?_, h.frozenAt _⟩
  rw [Nat.zero_add, h.cellAt j hj2, flat_at, if_pos hj2, get_flatK _ _ _ _ (by rw [entArr_size]; exact hj2), entArr_get f (by omega)]
  have h2 : j % 2 = 0 ∨ j % 2 = 1 := by omega
  rcases h2 with h2 | h2 <;> simp [h2, encEnt]

/-- What the sort leaves: the one list in order. -/
theorem sorted_ents {A : Hp} {n : Nat} {f : Nat → Ent} {L : List Ent} (hp : Rep A n f) (hs : Srt A L) {d : Array Ent} (h1 : PermIn 0 n (entArr n f) d) (h2 : SortedIn (ltOf cmpEnt) 0 n d) : d.toList = L := by
  obtain ⟨hz, _, hperm⟩ := h1
  rw [entArr_size] at hz
  have e1 : d.extract 0 n = d := by rw [← hz]; simp
  have e2 : (entArr n f).extract 0 n = entArr n f := by
    conv => lhs; rw [show n = (entArr n f).size from (entArr_size n f).symm]
    simp [entArr_size]
  rw [e1, e2] at hperm
  have hl : (entArr n f).toList = (List.range n).map f := by simp [entArr]
  rw [hl] at hperm
  have hnd : ((List.range n).map f).Nodup := by
    rw [List.nodup_iff_pairwise_ne, List.pairwise_map]
    have := List.nodup_range (n := n)
    rw [List.nodup_iff_pairwise_ne] at this
    refine this.imp_of_mem ?_
    intro a b ha hb hab e
    exact hab (hp.inj a b (List.mem_range.1 ha) (List.mem_range.1 hb) (by rw [e]))
  have hnd2 : d.toList.Nodup := (hperm.nodup_iff).2 hnd
  have hlen : d.toList.length = n := by simpa using hz
  refine srt_ext ?_ hs.ord ?_
  · rw [List.pairwise_iff_getElem]
    intro i j hi hj hij
    have hb := h2 i j (Nat.zero_le _) hij (by omega)
    rw [ltEnt] at hb
    have gi : d[i]! = d.toList[i] := by rw [getElem!_pos d i (by simpa using hi)]; simp
    have gj : d[j]! = d.toList[j] := by rw [getElem!_pos d j (by simpa using hj)]; simp
    rw [gi, gj] at hb
    cases hb2 : before d.toList[i] d.toList[j] with
    | true => rfl
    | false =>
      have := before_total hb2 hb
      rw [List.nodup_iff_pairwise_ne, List.pairwise_iff_getElem] at hnd2
      exact absurd this (hnd2 i j hi hj hij)
  · intro x
    rw [hperm.mem_iff, List.mem_map]
    constructor
    · rintro ⟨k, hk, rfl⟩
      exact (hs.mem _ _).1 (hp.to k (List.mem_range.1 hk))
    · intro hx
      obtain ⟨k, hk, e⟩ := hp.back x.1 x.2 ((hs.mem x.1 x.2).2 hx)
      exact ⟨k, List.mem_range.2 hk, e⟩

theorem below_sorted {B : Nat} {w0 w : World} (hb : Below B w0 w) (hB : B ≤ w.heap.size) {g : Nat} (hg : B ≤ g) (m : Nat) (d : Array Ent) (os : Array Obj) : Below B w0 (sortWorldK encEnt 2 w g 0 m d os) := by
  have h1 := Lib.below_putRow (enc := id) (q := m) (d := flatK encEnt 2 d) hb hg
  have hz : w.heap.size ≤ (putRow id (Sort.ahead w m) g 0 (flatK encEnt 2 d)).heap.size := by
    have := size_putRowK encEnt 2 (Sort.ahead w m) g 0 d
    unfold putRowK at this
    rw [this]; exact Nat.le_refl _
  exact h1.trans (Lib.below_grow B _ (Nat.le_trans hB hz) 0 os)

theorem ents_sorted {w : World} {g n cap m : Nat} {f : Nat → Ent} {d : Array Ent} {os : Array Obj} {L : List Ent} (hH : HoldsK encEnt 2 w g 0 (entArr n f)) (hg : g < w.heap.size) (hd : d.toList = L) (hn : L.length = n) (hc : n ≤ cap) (hm : cap ≤ 9223372036854775807) :
    EntsIn (sortWorldK encEnt 2 w g 0 m d os) (some ⟨g, 0, none⟩) n cap L := by
  have hz : d.size = n := by rw [← hn, ← hd]; simp
  have hk := holdsK_sortWorldK_c encEnt 2 w g 0 _ d m os hH hg (by rw [entArr_size]; exact hz)
  refine ⟨hn, hc, hm, fun i hi => ⟨g, 0, rfl, Nat.lt_of_lt_of_le hg (size_sortWorldK_c encEnt 2 w g 0 m d os), ?_, ?_⟩⟩
  all_goals
    have e : d[i]! = entAt L i := by
      rw [← hd, getElem!_pos d i (by omega)]
      simp [entAt, List.getD, List.getElem?_eq_getElem (show i < d.toList.length by simpa using (show i < d.size by omega))]
  · have := (hk.cell (i := i) (c := 0) (by omega) (by omega)).1
    rw [e] at this
    exact this
  · have := (hk.cell (i := i) (c := 1) (by omega) (by omega)).1
    rw [e] at this
    exact this

set_option maxHeartbeats 1000000 in
theorem hClip_any (a : Option Addr) (n cap : Nat) (hc : n ≤ cap) (hm : cap ≤ 9223372036854775807) (w : World) :
    Calls Try.prog 75 #[.slice a n cap] w fun e w' => e = .returned (.slice a n n) ∧ w = w' := by
  go_enter Try.func75, Try.ntmps75
  go_wp2
  go_ret
  exact ⟨by simp, rfl⟩

set_option maxHeartbeats 1000000 in
theorem hSort_any {w : World} {g n cap : Nat} {f : Nat → Ent} (hH : HoldsK encEnt 2 w g 0 (entArr n f)) (hg : g < w.heap.size) (hn : n ≤ 65536) :
    Calls Try.prog 73 #[.slice (some ⟨g, 0, none⟩) n cap, .func (.func 74) #[] #[]] w fun e w' => e = .returned (.tuple #[]) ∧ ∃ d m os, PermIn 0 n (entArr n f) d ∧ SortedIn (ltOf cmpEnt) 0 n d ∧ w' = sortWorldK encEnt 2 w g 0 m d os := by
  have eg : ∀ args w, (callFunc 74 args).run Try.prog w = .ok (.enter 74 args) w := enters_of Try.func74 (by kernel_rfl) rfl
  have hcon := AnyQ.slices_SortFunc Try.sortEnt 2 Try.isAgg28 Try.sizeOf28 encEnt (fun _ => rfl) (fun x v hv => by simp [encEnt] at hv; rcases hv with rfl | rfl <;> rfl) cmpEnt swoEnt 74 #[] g 0 cap (entArr n f) w eg (cmpLays_ent g 0 _ w) hH hg (by rw [entArr_size]; omega)
  rw [entArr_size] at hcon
  exact hcon

section
variable {B : Nat} {w : World} {b : Nat} {A : Hp} {S : Nat → Prop}
set_option maxHeartbeats 1000000 in
theorem hList_at (h : HAt B w b A S) {L : List Ent} (hs : Srt A L) :
    Calls Try.prog 42 #[.pointer (some ⟨b, 0, none⟩)] w fun e w' => ∃ a cap, e = .returned (.slice a L.length cap) ∧ EntsIn w' a L.length cap L ∧ (∀ ad, a = some ad → w.heap.size ≤ ad.block) ∧ Below w.heap.size w w' := by
  have hlA := hs.len h.ok
  have HL0 := hLen_at h
  rw [hlA] at HL0
  have HL := Lib.hid HL0
  clear HL0
  obtain ⟨pb, v, n, f, hr, ho, hp, hok, rfl, h1, h2⟩ := h
  have hn : L.length = n := by rw [hp.len hok, hlA]
  rw [hn] at HL
  by_cases h0 : n = 0
  · subst h0
    have hL : L = [] := List.length_eq_zero_iff.1 hn
    subst hL
    clear hr ho hp hok hs hlA hn
    go_enter Try.func42, Try.ntmps42
    go_wp2_with (go_at_call 24; refine HL.out.mono ?_; rintro e w' ⟨rfl, rfl⟩)
    go_ret
    exact ⟨none, 0, by simp, EntsIn.nil _, by simp, Below.refl _ _⟩
  · obtain ⟨a, cap, hv, hnc, hcm⟩ := hr.shape
    have c3 := hr.c3
    have hns := hr.n_le
    have hs2 := hr.hs
    have HC := Lib.hid (hCloneL_any B v n (flat n f) w (by omega) hr.own (flat_oneCell n f))
    have HP := Lib.hid (And.intro hp (And.intro hs hn))
    clear hr ho hp hok hs hlA hn
    subst hv
    have hnp : 0 < n := by omega
    go_enter Try.func42, Try.ntmps42
    go_wp2_with (first
      | (go_at_call 24; refine HL.out.mono ?_; rintro e w' ⟨rfl, rfl⟩)
      | (go_at_call 72; refine HC.out.mono ?_; rintro e w1 ⟨v', rfl, hown, _, hb⟩; rcases hown.2 with ⟨_, hz0⟩ | ⟨g, c, cur, rfl, hg, hh, hc1, hc2, _, _⟩; {omega}; have HO := Lib.hid (And.intro hown hb); have hglt := (hown.lt g rfl).2; have hc3 : c ≤ 9223372036854775807 := (by simpa [maxLen] using hc2); clear hown hb hh hc2)
      | (go_at_call 73; refine (hSort_any (holds_ents HO.out.1) hglt (by omega)).mono ?_; rintro e w2 ⟨rfl, d, m, os, hp1, hp2, rfl⟩; have HD := Lib.hid (And.intro (sorted_ents HP.out.1 HP.out.2.1 hp1 hp2) trivial); clear hp1 hp2)
      | (go_at_call 75; refine (hClip_any _ _ _ hc1 hc3 _).mono ?_; rintro e w3 ⟨rfl, rfl⟩))
    go_ret
    have hn := HP.out.2.2
    refine ⟨some ⟨g, 0, none⟩, n, by rw [hn]; rfl, ?_, by simpa using hg, below_sorted HO.out.2 HO.out.2.size hg _ _ _⟩
    rw [hn]
    exact ents_sorted (holds_ents HO.out.1) hglt HD.out.1 hn (Nat.le_refl _) (by omega)
end
end Go.Proofs.Ytmlbacbcdjfioaa
