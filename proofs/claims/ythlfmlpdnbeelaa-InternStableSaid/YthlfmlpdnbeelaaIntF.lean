/- IntF: layer 3: the table's Get, Put, plain; searches. -/
import Derived.Test.YthlfmlpdnbeelaaIntE
set_option linter.unusedSimpArgs false
set_option linter.unusedVariables false
namespace Go.Proofs.Ythlfmlpdnbeelaa
open Go.ChangeShapes Go.WideShapes Go.ChangeAt Go.RowKit

namespace It
def get (T : It) (x : Nat) : Option Nat := T.ar.list.find? fun i => T.ids i == x
structure Ok (T : It) : Prop where
  ar : T.ar.Ok
  idlt : ∀ i, i < T.ar.fresh → T.ids i < 18446744073709551616
  inj : ∀ i j, T.ar.used i = true → T.ar.used j = true → T.ids i = T.ids j → i = j
theorem get_some {T : It} (h : T.Ok) {x i : Nat} : T.get x = some i ↔ T.ar.used i = true ∧ T.ids i = x := by
  unfold get
  constructor
  · intro hf
    have h1 := List.find?_some hf
    have h2 := List.mem_of_find?_eq_some hf
    exact ⟨(Ar.p_mem_list h.ar i).1 h2, by simpa using h1⟩
  · rintro ⟨hu, hi⟩
    cases hf : T.ar.list.find? (fun i => T.ids i == x) with
    | none =>
      have := List.find?_eq_none.1 hf i ((Ar.p_mem_list h.ar i).2 hu)
      simp [hi] at this
    | some j =>
      have h1 := List.find?_some hf
      have h2 := (Ar.p_mem_list h.ar j).1 (List.mem_of_find?_eq_some hf)
      rw [h.inj j i h2 hu (by simp at h1; rw [h1, hi])]
theorem get_none {T : It} (h : T.Ok) {x : Nat} : T.get x = none ↔ ∀ i, T.ar.used i = true → T.ids i ≠ x := by
  constructor
  · intro hn i hu e
    rw [(get_some h).2 ⟨hu, e⟩] at hn
    simp at hn
  · intro hn
    cases hg : T.get x with
    | none => rfl
    | some i =>
      obtain ⟨hu, e⟩ := (get_some h).1 hg
      exact absurd e (hn i hu)
def add (T : It) (x i : Nat) : It := ⟨T.ar.take i, fun j => if j = i then x else T.ids j⟩
def put (T : It) (x : Nat) : It := match T.get x with
  | some _ => T
  | none => match T.ar.next with
    | some i => T.add x i
    | none => T
def putR (T : It) (x : Nat) : Nat × Bool × Nat := match T.get x with
  | some i => (i, false, 0)
  | none => match T.ar.next with
    | some i => (i, true, 0)
    | none => (0, false, 4)
def del (T : It) (x : Nat) : It := match T.get x with
  | some i => ⟨T.ar.freed i, T.ids⟩
  | none => T
def delE (T : It) (x : Nat) : Nat := match T.get x with
  | some _ => 0
  | none => 5
def new (n : Nat) : It := ⟨Ar.new n, fun _ => 0⟩
theorem new_ok {n : Nat} (h : n ≤ 65536) : (new n).Ok := ⟨Ar.new_ok' h, fun i hi => by simp [new], fun i j hi => by simp [new, Ar.new_used] at hi⟩
theorem add_ok {T : It} (h : T.Ok) {x i : Nat} (hx : x < 18446744073709551616) (hg : T.get x = none) (hi : T.ar.next = some i) : (T.add x i).Ok := by
  have hn := (get_none h).1 hg
  refine ⟨Ar.take_ok h.ar hi, ?_, ?_⟩
  · intro j hj
    simp only [add] at hj ⊢
    rw [Ar.take_fresh h.ar hi] at hj
    split
    · exact hx
    · refine h.idlt j ?_
      split at hj <;> omega
  · intro j k hj hk e
    simp only [add] at hj hk e
    rw [Ar.take_used h.ar hi] at hj hk
    have hui := (Ar.p_next_inv h.ar hi).2.1
    by_cases e1 : j = i
    · by_cases e2 : k = i
      · omega
      · rw [if_pos e1, if_neg e2] at e
        exact absurd e.symm (hn k (hk.resolve_left e2))
    · by_cases e2 : k = i
      · rw [if_neg e1, if_pos e2] at e
        exact absurd e (hn j (hj.resolve_left e1))
      · rw [if_neg e1, if_neg e2] at e
        exact h.inj j k (hj.resolve_left e1) (hk.resolve_left e2) e
theorem put_ok {T : It} (h : T.Ok) {x : Nat} (hx : x < 18446744073709551616) : (T.put x).Ok := by
  unfold put
  split
  · exact h
  · rename_i hg
    split
    · rename_i i hi; exact add_ok h hx hg hi
    · exact h
theorem del_ok {T : It} (h : T.Ok) (x : Nat) : (T.del x).Ok := by
  unfold del
  split
  · rename_i i hg
    have hu := ((get_some h).1 hg).1
    refine ⟨Ar.freed_ok h.ar hu, h.idlt, fun j k hj hk e => ?_⟩
    rw [Ar.freed_used] at hj hk
    exact h.inj j k hj.1 hk.1 e
  · exact h
end It

theorem Tab.homes {M : Nat} {c h h' : Nat → Nat} {U : Nat → Prop} (t : Tab M c h U) (e : ∀ i, U i → h' i = h i) : Tab M c h' U :=
  ⟨t.pos, fun i hi => by rw [e i hi]; exact t.home i hi, t.used, fun i hi => by rw [e i hi]; exact t.has i hi, t.inj⟩
theorem TbOk.it {T : It} {M : Nat} {c : Nat → Nat} (h : TbOk T M c) (ha : T.ar.Ok) : T.Ok := ⟨ha, h.idlt, h.inj⟩

section
variable {w0 w : World} {l r : List Thing} {t ab lb M : Nat} {T : It} {iv cv : Value} {c : Nat → Nat} {S : Nat → Prop}
theorem Sep.tab_ok (h : Sep w0 w (tabParts w0.heap.size t ab lb T.ar T.ids iv cv M c ++ r)) (ho : TbOk T M c) : T.Ok := ho.it (h.get 1 rfl : (arT ab lb T.ar).P w).1.ok
theorem Sep.tab_it (h : Sep w0 w (tabT w0.heap.size t T S :: r)) : T.Ok := by
  obtain ⟨l, ⟨ab, lb, iv, cv, M, c, ho, rfl⟩, h2⟩ := h.unpack
  exact h2.tab_ok ho

/-- A search for an id that is there. -/
theorem Sep.find_some (h : Sep w0 w (tabParts w0.heap.size t ab lb T.ar T.ids iv cv M c ++ r)) (ho : TbOk T M c) {x i : Nat} (hg : T.get x = some i) :
    ∃ k, k < M ∧ c k = i + 1 ∧ Calls Try.prog 57 #[.pointer (some ⟨t, 0, none⟩), .int .u64 (x : Int)] w fun e w' => e = .returned (.tuple #[.int .i64 (k : Nat), .bool true]) ∧ Below w.heap.size w w' := by
  obtain ⟨hu, rfl⟩ := (It.get_some (h.tab_ok ho)).1 hg
  obtain ⟨D, hE, hc⟩ := ho.tab.ends_some ho.inj hu
  refine ⟨rgo M (ihome M (T.ids i : Nat)) D, rgo_lt _ _ ho.tab.pos, hc, ?_⟩
  have := iFind_any (ho.idlt i (Ar.used_lt hu)) (h.tab_fv ho) hE
  rwa [show decide (c (rgo M (ihome M (T.ids i : Nat)) D) ≠ 0) = true by simp [hc]] at this
/-- A search for an id that is not there. -/
theorem Sep.find_none (h : Sep w0 w (tabParts w0.heap.size t ab lb T.ar T.ids iv cv M c ++ r)) (ho : TbOk T M c) {x : Nat} (hx : x < 18446744073709551616) (hg : T.get x = none) :
    ∃ D, D < M ∧ c (rgo M (ihome M (x : Nat)) D) = 0 ∧ (∀ e, e < D → c (rgo M (ihome M (x : Nat)) e) ≠ 0) ∧ Calls Try.prog 57 #[.pointer (some ⟨t, 0, none⟩), .int .u64 (x : Int)] w fun e w' => e = .returned (.tuple #[.int .i64 (rgo M (ihome M (x : Nat)) D : Nat), .bool false]) ∧ Below w.heap.size w w' := by
  have hok := h.tab_ok ho
  obtain ⟨D, hE, hc, hn⟩ := ho.tab.ends_none ((It.get_none hok).1 hg) (ho.home _) (l := T.ar.list) (fun i hi => (Ar.p_mem_list hok.ar i).2 hi) (by have := ho.load; have := ho.m6.2; omega)
  refine ⟨D, hE.lt, hc, hn, ?_⟩
  have := iFind_any hx (h.tab_fv ho) hE
  rwa [show decide (c (rgo M (ihome M (x : Nat)) D) ≠ 0) = false by simp [hc]] at this

set_option maxHeartbeats 4000000
set_option maxRecDepth 100000
theorem iValid_any {ab : Nat} (hc : w.cell? ⟨t, 0, none⟩ = some (.pointer (some ⟨ab, 0, none⟩))) : Calls Try.prog 56 #[.pointer (some ⟨t, 0, none⟩)] w fun e w' => e = .returned (.bool true) ∧ w = w' := by
  go_enter Try.func56, Try.ntmps56
  go_wp2
  go_ret
  exact ⟨by simp, rfl⟩

def getV (o : Option Nat) : Value := match o with
  | some i => .tuple #[.int .i64 (i : Int), .bool true]
  | none => .tuple #[.int .i64 0, .bool false]

theorem Sep.iGet (h : Sep w0 w (tabT w0.heap.size t T S :: r)) (x : Nat) (hx : x < 18446744073709551616) :
    Calls Try.prog 27 #[.pointer (some ⟨t, 0, none⟩), .int .u64 (x : Int)] w fun e w' => e = .returned (getV (T.get x)) ∧ Sep w0 w' (tabT w0.heap.size t T S :: r) ∧ Below w.heap.size w w' := by
  have HS := Lib.hid h
  obtain ⟨l, ⟨ab, lb, iv, cv, M, c, ho, rfl⟩, h2⟩ := h.unpack
  obtain ⟨q0, q1, q2, q3, qf, qg⟩ := row4 (h2.get 0 rfl : w.heap[t]? = _)
  have HV := Lib.hid (iValid_any q0)
  have hfv := h2.tab_fv ho
  obtain ⟨b, cap, hc3, hb1, hb2, hb3, hcell⟩ := hfv.c3
  rw [q3] at hc3
  simp only [Option.some.injEq] at hc3
  subst hc3
  have hf6 := hfv.n6
  have hM := ho.m6.1
  cases hg : T.get x with
  | none =>
    obtain ⟨D, _, _, _, hF⟩ := h2.find_none ho hx hg
    obtain ⟨k, hk⟩ : ∃ k, rgo M (ihome M (x : Nat)) D = k := ⟨_, rfl⟩
    rw [hk] at hF
    have HF := Lib.hid hF
    clear h h2 ho hfv hcell hg hF hk
    go_enter Try.func27, Try.ntmps27
    go_wp2_with (first
      | (go_at_call 56; refine HV.out.mono ?_; rintro e wz ⟨rfl, rfl⟩)
      | (go_at_call 57; refine HF.out.mono ?_; rintro e w1 ⟨rfl, hb⟩; have HB := Lib.hid hb; clear hb))
    go_ret2
    exact ⟨by simp [getV], HS.out.keep HB.out, HB.out⟩
  | some i =>
    obtain ⟨k, hk, hck, hF⟩ := h2.find_some ho hg
    have hif := ho.le k hk
    have hcl := hcell k hk
    rw [hck] at hcl hif
    have HF := Lib.hid hF
    clear h h2 ho hfv hcell hg hF hck
    go_enter Try.func27, Try.ntmps27
    go_wp2_with (first
      | (go_at_call 56; refine HV.out.mono ?_; rintro e wz ⟨rfl, rfl⟩)
      | (go_at_call 57; refine HF.out.mono ?_; rintro e w1 ⟨rfl, hb⟩; have n3 := (hb.cell (p := ⟨t, 3, none⟩) qg).trans q3; have nk := (hb.cell (p := ⟨b, k, none⟩) hb3).trans hcl; have HB := Lib.hid hb; clear hb))
    go_ret2
    exact ⟨by simp [getV], HS.out.keep HB.out, HB.out⟩
end
end Go.Proofs.Ythlfmlpdnbeelaa
