/- EntsIn: lists of entries that can be read. No program here. -/
import Derived.Test.YtmlbacbcdjfioaaHpS
import Derived.Test.YtmlbacbcdjfioaaHeapW
import Derived.Test.YtmlbacbcdjfioaaSep
set_option linter.unusedSimpArgs false
set_option linter.unusedVariables false
namespace Go.Proofs.Ytmlbacbcdjfioaa
open Go.ChangeShapes Go.WideShapes Go.ChangeAt Go.RowKit

theorem getD_ent (L : List Ent) (i : Nat) (h : i < L.length) : entAt L i = L[i] := (entAt_eq h).symm
theorem flat_app (M : List Ent) (x : Ent) : flat M.length (entAt M) ++ [.int .i64 (x.1 : Int), .int .i64 x.2] = flat (M ++ [x]).length (entAt (M ++ [x])) := by
  rw [flat_push, List.length_append]
  refine flat_congr fun q hq => ?_
  show (if q = M.length then (x.1, x.2) else entAt M q) = _
  by_cases e : q = M.length
  · rw [if_pos e, e]; simp [entAt, List.getD]
  · have h2 : q < M.length := by first | omega | (simp at hq; omega)
    rw [if_neg e]
    simp [entAt, List.getD, List.getElem?_append_left h2]

structure EntsIn (w : World) (a : Option Addr) (n cap : Nat) (L : List Ent) : Prop where
  hlen : L.length = n
  hle : n ≤ cap
  hmax : cap ≤ 9223372036854775807
  hcell : ∀ i, i < n → ∃ b off, a = some ⟨b, off, none⟩ ∧ b < w.heap.size ∧ w.cell? ⟨b, off + i * 2, none⟩ = some (.int .i64 ((entAt L i).1 : Int)) ∧ w.cell? ⟨b, off + i * 2 + 1, none⟩ = some (.int .i64 (entAt L i).2)

theorem EntsIn.cellsAt {w : World} {b off n cap : Nat} {L : List Ent} (h : EntsIn w (some ⟨b, off, none⟩) n cap L) {i : Nat} (hi : i < n) : b < w.heap.size ∧ w.cell? ⟨b, off + i * 2, none⟩ = some (.int .i64 ((entAt L i).1 : Int)) ∧ w.cell? ⟨b, off + i * 2 + 1, none⟩ = some (.int .i64 (entAt L i).2) := by
  obtain ⟨b', off', ha, h0, h1, h2⟩ := h.hcell i hi
  simp only [Option.some.injEq, Addr.mk.injEq, and_true] at ha
  obtain ⟨rfl, rfl⟩ := ha
  exact ⟨h0, h1, h2⟩
theorem EntsIn.addr {w : World} {a : Option Addr} {n cap : Nat} {L : List Ent} (h : EntsIn w a n cap L) (hn : 0 < n) : ∃ b off, a = some ⟨b, off, none⟩ := by
  obtain ⟨b, off, ha, _⟩ := h.hcell 0 hn
  exact ⟨b, off, ha⟩
theorem EntsIn.nil (w : World) : EntsIn w none 0 0 [] := ⟨rfl, Nat.le_refl _, by omega, fun i h => by omega⟩
theorem EntsIn.of_below {w w' : World} {a : Option Addr} {n cap : Nat} {L : List Ent} (h : EntsIn w a n cap L) (hb : Below w.heap.size w w') : EntsIn w' a n cap L :=
  ⟨h.hlen, h.hle, h.hmax, fun i hi => by
    obtain ⟨b, off, ha, hlt, h0, h1⟩ := h.hcell i hi
    exact ⟨b, off, ha, Nat.lt_of_lt_of_le hlt hb.size, (hb.cell (p := ⟨b, off + i * 2, none⟩) hlt).trans h0, (hb.cell (p := ⟨b, off + i * 2 + 1, none⟩) hlt).trans h1⟩⟩
theorem EntsIn.drewN {w : World} {a : Option Addr} {n cap : Nat} {L : List Ent} (h : EntsIn w a n cap L) (k : Nat) : EntsIn (w.drewN k) a n cap L :=
  ⟨h.hlen, h.hle, h.hmax, h.hcell⟩
/-- A row of the call's own, as a list. -/
theorem EntsIn.of_owns {w : World} {B : Nat} {e : TypeId} {v : Value} {L : List Ent} (h : w.ownsRow B e 2 v L.length (flat L.length (entAt L))) :
    ∃ a cap, v = .slice a L.length cap ∧ EntsIn w a L.length cap L ∧ (∀ q, v.ownBlock = some q → ∀ ad, a = some ad → ad.block = q) ∧ (∀ ad, a = some ad → v.ownBlock = some ad.block) := by
  rcases h.2 with ⟨h0, h1⟩ | ⟨g, cap, cur, h0, hg, hh, hn, hm, r⟩
  · have : L = [] := List.length_eq_zero_iff.1 h1
    subst this
    subst h0
    exact ⟨none, 0, rfl, EntsIn.nil w, by simp, by simp⟩
  · subst h0
    refine ⟨_, cap, rfl, ⟨rfl, hn, by simpa [maxLen] using hm, ?_⟩, ?_, ?_⟩
    · intro i hi
      refine ⟨g, 0, rfl, (h.lt g rfl).2, ?_, ?_⟩
      · rw [Nat.zero_add, h.cellAt _ (by omega)]; exact flat_get0 _ hi
      · rw [Nat.zero_add, h.cellAt _ (by omega)]; exact flat_get1 _ hi
    · intro q hq ad ha
      simp only [Option.some.injEq] at ha
      subst ha
      have : (Value.slice (some ⟨g, 0, none⟩) L.length cap).ownBlock = some g := rfl
      rw [this] at hq
      simpa using hq
    · intro ad ha
      simp only [Option.some.injEq] at ha
      subst ha
      rfl

def entsT (a : Option Addr) (n cap : Nat) (L : List Ent) : Thing where
  P w := EntsIn w a n cap L
  S q := 0 < n ∧ ∃ ad, a = some ad ∧ q = ad.block
  st w w' h hk hs := ⟨h.hlen, h.hle, h.hmax, fun i hi => by
    obtain ⟨b, off, ha, hlt, h0, h1⟩ := h.hcell i hi
    have hq := hk b ⟨by omega, ⟨b, off, none⟩, ha, rfl⟩
    exact ⟨b, off, ha, Nat.lt_of_lt_of_le hlt hs, by rw [World.cell?_of_block (w := w) hq]; exact h0, by rw [World.cell?_of_block (w := w) hq]; exact h1⟩⟩
  lt w h q hq := by
    obtain ⟨hn, ad, ha, rfl⟩ := hq
    obtain ⟨b, off, ha', hlt, _⟩ := h.hcell 0 hn
    rw [ha] at ha'
    simp only [Option.some.injEq] at ha'
    rw [ha']; exact hlt
/-- An owned row of entries, as a list. -/
theorem Sep.own_ents {w0 w : World} {l : List Thing} (h : Sep w0 w l) (i : Nat) {B e : Nat} {v : Value} {L : List Ent} (hi : l[i]? = some (ownT B e 2 L.length v (flat L.length (entAt L)))) :
    ∃ a cap, v = .slice a L.length cap ∧ Sep w0 w (l.set i (entsT a L.length cap L)) := by
  obtain ⟨a, cap, rfl, h1, h2, h3⟩ := EntsIn.of_owns (h.get i hi)
  refine ⟨a, cap, rfl, h.turnAt i hi h1 ?_⟩
  rintro q ⟨hn, ad, ha, rfl⟩
  exact h3 ad ha
theorem ents_eq {L M : List Ent} (hl : L.length = M.length) (h : ∀ j, j < L.length → entAt L j = entAt M j) : L = M := by
  apply List.ext_getElem hl
  intro j h1 h2
  have := h j h1
  rwa [getD_ent L j h1, getD_ent M j h2] at this
end Go.Proofs.Ytmlbacbcdjfioaa
