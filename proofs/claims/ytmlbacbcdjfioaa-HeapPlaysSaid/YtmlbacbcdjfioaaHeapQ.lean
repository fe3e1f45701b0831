/- HeapQ: layer 4: the heap as a whole: check, Len, Min, Key. -/
import Derived.Test.YtmlbacbcdjfioaaHeapR
set_option linter.unusedSimpArgs false
set_option linter.unusedVariables false
namespace Go.Proofs.Ytmlbacbcdjfioaa
open Go.ChangeShapes Go.WideShapes Go.ChangeAt Go.RowKit

/-- The heap at block b is A; S: the blocks in which it lies. -/
def HAt (B : Nat) (w : World) (b : Nat) (A : Hp) (S : Nat → Prop) : Prop :=
  ∃ pb v n f, HeapRaw B w b pb v A.slots n f ∧ HeapOrd n f ∧ Rep A n f ∧ A.Ok ∧ S = HFoot b pb v ∧ B ≤ b ∧ B ≤ pb

def entV (x : Ent) : Value := .agg #[.int .i64 (x.1 : Int), .int .i64 x.2]
def minV : Option Ent → Value
  | some e => .tuple #[entV e, .bool true]
  | none => .tuple #[.agg #[.int .i64 0, .int .i64 0], .bool false]
def keyV : Option Int → Value
  | some v => .tuple #[.int .i64 v, .bool true]
  | none => .tuple #[.int .i64 0, .bool false]

theorem results_cell2 {P : Program} {fn : Func} {p u : Tmp} {ty : TypeId} (h : fn.results = #[.cell p ty, .tmp u]) (tmps : Array Value) (w : World) (g : Nat) (t : TypeId) (cs : Array Value) (fr : Nat × Nat) (d : TypeDesc)
    (hp : tmps.getD p undef = .pointer (some ⟨g, 0, none⟩)) (hg : w.heap[g]? = some (.cells cs t fr))
    (hu : P.underlying ty = some d) (hd : (match d with | .struct _ | .array _ _ => true | _ => false) = true) (hi : (P.info? ty).map (·.size) = some cs.size) :
    (results fn tmps).run P w = .ok (.tuple #[.agg cs, tmps.getD u undef]) w := by
  rw [results_cell_tmp h, hp]
  simp [asAddr, run_loadVar_row w g t ty cs fr d hg hu hd hi]

section
variable {B : Nat} {w : World} {b : Nat} {A : Hp} {S : Nat → Prop}

theorem HAt.foot (h : HAt B w b A S) {k : Nat} (hk : S k) : B ≤ k ∧ k < w.heap.size := by
  obtain ⟨pb, v, n, f, hr, _, _, _, rfl, h1, h2⟩ := h
  refine ⟨?_, HFoot.lt hr hk⟩
  rcases hk with rfl | rfl | hk
  · exact h1
  · exact h2
  · exact (hr.own.lt k hk).1
theorem HAt.same {w' : World} (h : HAt B w b A S) (hk : ∀ k, S k → w'.heap[k]? = w.heap[k]?) (hs : w.heap.size ≤ w'.heap.size) : HAt B w' b A S := by
  obtain ⟨pb, v, n, f, hr, ho, hp, hok, rfl, h1, h2⟩ := h
  exact ⟨pb, v, n, f, hr.same hk hs, ho, hp, hok, rfl, h1, h2⟩
theorem HAt.upd {w' : World} {F : Nat → Prop} (h : HAt B w b A S) (hu : Upd F w w') (hF : ∀ k, S k → ¬ F k) : HAt B w' b A S :=
  h.same (fun k hk => hu.keep k (h.foot hk).2 (hF k hk)) hu.size
theorem HAt.below {w' : World} (h : HAt B w b A S) (hb : Below w.heap.size w w') : HAt B w' b A S :=
  h.same (fun k hk => hb.block k (h.foot hk).2) hb.size
theorem HAt.ok (h : HAt B w b A S) : A.Ok := by
  obtain ⟨pb, v, n, f, hr, ho, hp, hok, rfl, h1, h2⟩ := h
  exact hok
theorem HAt.b_lt (h : HAt B w b A S) : b < w.heap.size := by
  obtain ⟨pb, v, n, f, hr, ho, hp, hok, rfl, h1, h2⟩ := h
  exact hr.b_lt
theorem HAt.has_b (h : HAt B w b A S) : S b := by
  obtain ⟨pb, v, n, f, hr, ho, hp, hok, rfl, h1, h2⟩ := h
  exact Or.inl rfl
theorem HAt.len_del (h : HAt B w b A S) {i : Nat} {x : Int} (hi : A.keys i = some x) : (A.del i).len + 1 = A.len := by
  obtain ⟨pb, v, n, f, hr, ho, hp, hok, rfl, h1, h2⟩ := h
  obtain ⟨k, hk, e⟩ := hp.back i x hi
  have a := (hp.del hk (show (f k).1 = i by rw [e])).len (A.del_ok hok i)
  have b := hp.len hok
  omega
theorem HAt.len_put (h : HAt B w b A S) {i : Nat} (x : Int) (hi : A.keys i = none) (hs : i < A.slots) (hx : -9223372036854775808 ≤ x ∧ x ≤ 9223372036854775807) : (A.put i x).len = A.len + 1 := by
  obtain ⟨pb, v, n, f, hr, ho, hp, hok, rfl, h1, h2⟩ := h
  have a := (hp.push x hi).len (A.put_ok hok hs hx)
  have b := hp.len hok
  omega
theorem HAt.first_some (h : HAt B w b A S) (hl : 0 < A.len) : ∃ e, A.first = some e := by
  obtain ⟨pb, v, n, f, hr, ho, hp, hok, rfl, h1, h2⟩ := h
  have b := hp.len hok
  exact ⟨_, hp.first ho (by omega)⟩
theorem HAt.first_none (h : HAt B w b A S) (hl : A.len = 0) : A.first = none := by
  obtain ⟨pb, v, n, f, hr, ho, hp, hok, rfl, h1, h2⟩ := h
  have b := hp.len hok
  have : n = 0 := by omega
  subst this
  exact hp.first_none
end

section
variable {B : Nat} {w : World} {b pb : Nat} {v : Value} {slots n : Nat} {f : Nat → Ent}
set_option maxHeartbeats 1000000

theorem hCheck_out (h : HeapRaw B w b pb v slots n f) (i : Int) (hi : i < 0 ∨ (slots : Int) ≤ i) :
    Calls Try.prog 76 #[.pointer (some ⟨b, 0, none⟩), .int .i64 i] w fun e w' => e = .returned (.tuple #[.int .i64 0, .int .i64 3]) ∧ w = w' := by
  have c0 := h.c0
  have c1 := h.c1
  clear h
  go_enter Try.func76, Try.ntmps76
  go_wp2
  all_goals go_ret2
  all_goals exact ⟨by simp, rfl⟩

theorem hCheck_none (h : HeapRaw B w b pb v slots n f) (i : Nat) (hi : i < slots) (hz : ∀ k, k < n → (f k).1 ≠ i) :
    Calls Try.prog 76 #[.pointer (some ⟨b, 0, none⟩), .int .i64 i] w fun e w' => e = .returned (.tuple #[.int .i64 0, .int .i64 5]) ∧ w = w' := by
  have c0 := h.c0
  have c1 := h.c1
  have hs := h.hs
  have HA := Lib.hid (hAt_any h i hi 0 (h.zero i (by omega) hz) (by omega) (by omega))
  clear h hz
  go_enter Try.func76, Try.ntmps76
  go_wp2_with (go_at_call 90; refine HA.out.mono ?_; rintro e w' ⟨rfl, rfl⟩)
  all_goals go_ret2
  all_goals exact ⟨by simp, rfl⟩

theorem hCheck_some (h : HeapRaw B w b pb v slots n f) {k : Nat} (hk : k < n) :
    Calls Try.prog 76 #[.pointer (some ⟨b, 0, none⟩), .int .i64 ((f k).1 : Int)] w fun e w' => e = .returned (.tuple #[.int .i64 k, .int .i64 0]) ∧ w = w' := by
  have c0 := h.c0
  have c1 := h.c1
  have hs := h.hs
  have hlt := h.lt k hk
  have HA := Lib.hid (hAt_pos h hk)
  clear h
  go_enter Try.func76, Try.ntmps76
  go_wp2_with (go_at_call 90; refine HA.out.mono ?_; rintro e w' ⟨rfl, rfl⟩)
  all_goals go_ret2
  all_goals exact ⟨by simp, rfl⟩

theorem hLen_raw (h : HeapRaw B w b pb v slots n f) :
    Calls Try.prog 24 #[.pointer (some ⟨b, 0, none⟩)] w fun e w' => e = .returned (.int .i64 n) ∧ w = w' := by
  have c3 := h.c3
  obtain ⟨a, cap, rfl, _, _⟩ := h.shape
  clear h
  go_enter Try.func24, Try.ntmps24
  go_wp2
  all_goals go_ret
  all_goals exact ⟨by simp, rfl⟩
end

section
variable {B : Nat} {w : World} {b : Nat} {A : Hp} {S : Nat → Prop}
set_option maxHeartbeats 1000000
theorem hLen_at (h : HAt B w b A S) :
    Calls Try.prog 24 #[.pointer (some ⟨b, 0, none⟩)] w fun e w' => e = .returned (.int .i64 A.len) ∧ w = w' := by
  obtain ⟨pb, v, n, f, hr, ho, hp, hok, rfl, h1, h2⟩ := h
  rw [← hp.len hok]
  exact hLen_raw hr

theorem hMin_at (h : HAt B w b A S) :
    Calls Try.prog 57 #[.pointer (some ⟨b, 0, none⟩)] w fun e w' => e = .returned (minV A.first) ∧ Below w.heap.size w w' := by
  have HL0 := Lib.hid (fun (w2 : World) (hb : Below w.heap.size w w2) => hLen_at (h.below hb))
  obtain ⟨pb, v, n, f, hr, ho, hp, hok, rfl, h1, h2⟩ := h
  rw [← hp.len hok] at HL0
  by_cases hn : n = 0
  · subst hn
    have HF := Lib.hid hp.first_none
    clear hr ho hp hok
    go_enter Try.func57, Try.ntmps57
    go_wp2_with (go_at_call 24; refine (HL0.out _ ((Below.refl _ w).alloc (Nat.le_refl _) _)).mono ?_; rintro e w' ⟨rfl, rfl⟩)
    refine bodyPost_ret (results_cell2 rfl _ _ w.heap.size 28 #[.int .i64 0, .int .i64 0] (0, 0) _ rfl (heap_alloc_new _ _) Try.underlying28 rfl (by kernel_rfl)) rfl ?_
    exact ⟨by rw [HF.out]; rfl, (Below.refl _ w).alloc (Nat.le_refl _) _⟩
  · have HF := Lib.hid (hp.first ho (by omega))
    obtain ⟨g, cap, rfl, hnc, hcm, cells, _, _, _⟩ := hr.entry (show 0 < n by omega)
    have c3 := hr.c3
    have a0 := (cells 0 (by omega)).1
    have a1 := (cells 0 (by omega)).2
    have hbl := hr.b_lt
    have hgl : g < w.heap.size := World.block_lt_of_cell? w _ a0
    clear hr ho hp hok cells
    go_enter Try.func57, Try.ntmps57
    go_wp2_with (go_at_call 24; refine (HL0.out _ ((Below.refl _ w).alloc (Nat.le_refl _) _)).mono ?_; rintro e w' ⟨rfl, rfl⟩)
    refine bodyPost_ret (results_cell2 rfl _ _ w.heap.size 28 #[.int .i64 ((f 0).1 : Int), .int .i64 (f 0).2] (0, 0) _ rfl (heap_alloc_new _ _) Try.underlying28 rfl (by kernel_rfl)) rfl ?_
    exact ⟨by rw [HF.out]; rfl, (Below.refl _ w).alloc (Nat.le_refl _) _⟩

theorem hKey_at (h : HAt B w b A S) (i : Int) :
    Calls Try.prog 51 #[.pointer (some ⟨b, 0, none⟩), .int .i64 i] w fun e w' => e = .returned (keyV (A.keyAt i)) ∧ w = w' := by
  obtain ⟨pb, v, n, f, hr, ho, hp, hok, rfl, h1, h2⟩ := h
  have hlt := hok.lt
  by_cases hi : i < 0 ∨ (A.slots : Int) ≤ i
  · have HC := Lib.hid (hCheck_out hr i hi)
    have hk : A.keyAt i = none := by
      unfold Hp.keyAt
      split
      · cases hk : A.keys i.toNat with
        | none => rfl
        | some x => have := hlt _ _ hk; omega
      · rfl
    have HK := Lib.hid hk
    clear hr ho hp hok hlt hk hi
    go_enter Try.func51, Try.ntmps51
    go_wp2_with (go_at_call 76; refine HC.out.mono ?_; rintro e w' ⟨rfl, rfl⟩)
    go_ret2
    exact ⟨by rw [HK.out]; rfl, rfl⟩
  · obtain ⟨j, rfl⟩ := Int.eq_ofNat_of_zero_le (show 0 ≤ i by omega)
    cases hkj : A.keys j with
    | none =>
      have HC := Lib.hid (hCheck_none hr j (by omega) (hp.none_ne hkj))
      have HK := Lib.hid (show A.keyAt (j : Int) = none by simp [Hp.keyAt, hkj])
      clear hr ho hp hok hlt hkj hi
      go_enter Try.func51, Try.ntmps51
      go_wp2_with (go_at_call 76; refine HC.out.mono ?_; rintro e w' ⟨rfl, rfl⟩)
      go_ret2
      exact ⟨by rw [HK.out]; rfl, rfl⟩
    | some x =>
      obtain ⟨k, hk, e⟩ := hp.back j x hkj
      have HC := hCheck_some hr hk
      rw [e] at HC
      have HC := Lib.hid HC
      have HK := Lib.hid (show A.keyAt (j : Int) = some x by simp [Hp.keyAt, hkj])
      obtain ⟨g, cap, rfl, hnc, hcm, cells, _, _, _⟩ := hr.entry hk
      have c3 := hr.c3
      have a1 := (cells k hk).2
      rw [e] at a1
      simp only at a1
      have hn1 := hr.n_le
      have hn2 := hr.hs
      clear hr ho hp hok hlt hkj hi cells e
      go_enter Try.func51, Try.ntmps51
      go_wp2_with (go_at_call 76; refine HC.out.mono ?_; rintro e w' ⟨rfl, rfl⟩)
      go_ret2
      exact ⟨by rw [HK.out]; rfl, rfl⟩
end
end Go.Proofs.Ytmlbacbcdjfioaa
