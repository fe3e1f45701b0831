/- IntK: layer 3: odd factors; a table that is filled with different ids. -/
import Derived.Test.YthlfmlpdnbeelaaIntJ
set_option linter.unusedSimpArgs false
set_option linter.unusedVariables false
namespace Go.Proofs.Ythlfmlpdnbeelaa
open Go.ChangeShapes Go.WideShapes Go.ChangeAt Go.RowKit

/-- An id under another name. -/
def nm (m c x : Nat) : Nat := (x * m + c) % 18446744073709551616
theorem nm_lt (m c x : Nat) : nm m c x < 18446744073709551616 := Nat.mod_lt _ (by omega)
theorem nm_inj {m c x y : Nat} (hm : m % 2 = 1) (hx : x < 18446744073709551616) (hy : y < 18446744073709551616) (h : nm m c x = nm m c y) : x = y := by
  unfold nm at h
  have cop : Nat.Coprime 18446744073709551616 m := by
    have : Nat.Coprime (2 ^ 64) m := Nat.Coprime.pow_left 64 (by
      show Nat.gcd 2 m = 1
      rw [Nat.gcd_rec, hm, Nat.gcd_one_left])
    exact this
  have key : ∀ a b : Nat, a ≤ b → b < 18446744073709551616 → (a * m + c) % 18446744073709551616 = (b * m + c) % 18446744073709551616 → a = b := by
    intro a b hab hb e
    have h1 : 18446744073709551616 ∣ (b - a) * m := by
      have e2 : b * m + c = (a * m + c) + (b - a) * m := by
        rw [Nat.sub_mul]; have := Nat.mul_le_mul_right m hab; omega
      rw [e2] at e
      generalize (b - a) * m = q at e ⊢
      omega
    have h2 := cop.dvd_of_dvd_mul_right h1
    rcases Nat.eq_zero_or_pos (b - a) with h3 | h3
    · omega
    · have := Nat.le_of_dvd h3 h2; omega
  rcases Nat.le_total x y with h1 | h1
  · exact key x y h1 hy h
  · exact (key y x h1 hx h.symm).symm
/-- The next odd number. -/
def oddOf (x : Int) : Nat := (BitVec.ofInt 64 x ||| BitVec.ofInt 64 1).toNat
theorem oddOf_lt (x : Int) : oddOf x < 18446744073709551616 := (BitVec.ofInt 64 x ||| BitVec.ofInt 64 1).isLt
theorem oddOf_odd (x : Int) : oddOf x % 2 = 1 := by
  unfold oddOf
  rw [BitVec.toNat_or, Nat.or_mod_two_eq_one]
  right; rfl
theorem oddOf_val (x : Int) : bits .or .u64 x 1 = (oddOf x : Int) := by
  show IntKind.u64.wrap ((BitVec.ofInt 64 x ||| BitVec.ofInt 64 1).toNat : Nat) = ((BitVec.ofInt 64 x ||| BitVec.ofInt 64 1).toNat : Int)
  have := (BitVec.ofInt 64 x ||| BitVec.ofInt 64 1).isLt
  rw [IntKind.wrap_u64]
  omega
theorem nm_val (m c x : Nat) : ((x : Int) * (m : Int) + (c : Int)) % 18446744073709551616 = ((nm m c x : Nat) : Int) := by
  unfold nm
  rw [Int.natCast_emod]
  simp

namespace It
def run (n : Nat) (f : Nat → Nat) : Nat → It
  | 0 => It.new n
  | k + 1 => (run n f k).put (f k)
structure Run (T : It) (n : Nat) (f : Nat → Nat) (k : Nat) : Prop where
  ok : T.Ok
  slots : T.ar.slots = n
  stack : T.ar.stack = []
  fresh : T.ar.fresh = k
  ids : ∀ j, j < k → T.ids j = f j
variable {n k : Nat} {f : Nat → Nat} {T : It}
theorem Run.used (h : Run T n f k) (i : Nat) : T.ar.used i = true ↔ i < k := by
  unfold Ar.used
  rw [h.stack, h.fresh]
  simp
theorem Run.none (h : Run T n f k) (hinj : ∀ i j, i ≤ n → j ≤ n → f i = f j → i = j) (hk : k ≤ n) : T.get (f k) = Option.none := by
  rw [get_none h.ok]
  intro i hi e
  have := (h.used i).1 hi
  rw [h.ids i this] at e
  have := hinj i k (by omega) hk e
  omega
theorem Run.next (h : Run T n f k) : T.ar.next = if k < n then some k else Option.none := by
  unfold Ar.next
  rw [h.stack, h.fresh, h.slots]
theorem Run.step (h : Run T n f k) (hinj : ∀ i j, i ≤ n → j ≤ n → f i = f j → i = j) (hf : ∀ i, f i < 18446744073709551616) (hk : k < n) : Run (T.put (f k)) n f (k + 1) ∧ T.putR (f k) = (k, true, 0) := by
  have hg := h.none hinj (by omega)
  have hn := h.next
  rw [if_pos hk] at hn
  have hok := put_ok h.ok (hf k)
  unfold putR
  unfold put at hok ⊢
  rw [hg, hn] at hok ⊢
  have f1 := Ar.take_fresh h.ok.ar hn
  rw [if_pos h.fresh.symm, h.fresh] at f1
  refine ⟨⟨hok, h.slots, ?_, f1, ?_⟩, rfl⟩
  · show (T.ar.take k).stack = []
    simp [Ar.take, h.stack]
  · intro j hj
    show (if j = k then f k else T.ids j) = f j
    by_cases e : j = k
    · rw [if_pos e, e]
    · rw [if_neg e]; exact h.ids j (by omega)
theorem Run.new (hn : n ≤ 65536) : Run (It.new n) n f 0 := ⟨new_ok hn, rfl, rfl, rfl, fun j hj => by omega⟩
theorem run_spec (hn : n ≤ 65536) (hinj : ∀ i j, i ≤ n → j ≤ n → f i = f j → i = j) (hf : ∀ i, f i < 18446744073709551616) (k : Nat) (hk : k ≤ n) : Run (run n f k) n f k := by
  induction k with
  | zero => exact Run.new hn
  | succ k ih => exact ((ih (by omega)).step hinj hf (by omega)).1
theorem run_put (hn : n ≤ 65536) (hinj : ∀ i j, i ≤ n → j ≤ n → f i = f j → i = j) (hf : ∀ i, f i < 18446744073709551616) (k : Nat) (hk : k < n) : (run n f k).putR (f k) = (k, true, 0) :=
  ((run_spec hn hinj hf k (by omega)).step hinj hf hk).2
theorem Run.full (h : Run T n f n) (hinj : ∀ i j, i ≤ n → j ≤ n → f i = f j → i = j) : T.putR (f n) = (0, false, 4) ∧ T.put (f n) = T ∧ T.ar.list.length = n := by
  have hg := h.none hinj (Nat.le_refl n)
  have hn := h.next
  rw [if_neg (by omega)] at hn
  rcases It.put_cases h.ok (f n) with ⟨i, h1, _⟩ | ⟨_, h1, h2, h3⟩ | ⟨i, _, _, h1, _⟩
  · rw [hg] at h1; simp at h1
  · exact ⟨h2, h3, by rw [h.slots] at h1; exact h1⟩
  · rw [hn] at h1; simp at h1
theorem Run.first (h : Run T n f n) (hinj : ∀ i j, i ≤ n → j ≤ n → f i = f j → i = j) (hf : ∀ i, f i < 18446744073709551616) (h0 : 0 < n) :
    T.putR (f 0) = (0, false, 0) ∧ T.put (f 0) = T ∧ T.delE (f 0) = 0 ∧ (T.del (f 0)).putR (f n) = (0, true, 0) ∧ ((T.del (f 0)).put (f n)).ar.list.length = n := by
  have hg : T.get (f 0) = some 0 := (get_some h.ok).2 ⟨(h.used 0).2 h0, h.ids 0 h0⟩
  have hne : f n ≠ f 0 := fun e => by have := hinj n 0 (Nat.le_refl n) (by omega) e; omega
  have hgn : (T.del (f 0)).get (f n) = Option.none := by
    rw [del_get h.ok, if_neg hne]
    exact h.none hinj (Nat.le_refl n)
  have hR := del_put h.ok hg hgn
  have hl := del_len h.ok hg
  refine ⟨by unfold putR; rw [hg], by unfold put; rw [hg], (del_some hg).2, hR, ?_⟩
  have hT := (h.full hinj).2.2
  have hdk := del_ok h.ok (f 0)
  have e1 : T.len = n := hT
  rcases It.put_cases hdk (f n) with ⟨i, h1, _⟩ | ⟨_, _, h2, _⟩ | ⟨i, _, _, h1, _, h3⟩
  · rw [hgn] at h1; simp at h1
  · rw [hR] at h2; simp at h2
  · rw [h3]
    have := add_len (x := f n) hdk h1
    show ((T.del (f 0)).add (f n) i).len = n
    omega
end It
end Go.Proofs.Ythlfmlpdnbeelaa
