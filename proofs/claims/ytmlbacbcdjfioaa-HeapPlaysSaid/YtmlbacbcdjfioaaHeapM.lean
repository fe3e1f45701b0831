/- HeapM: layer 4, the heap as plain mathematics: a binary heap in a table, sifting up and down; no program here. -/
set_option linter.unusedSimpArgs false
set_option linter.unusedVariables false
namespace Go.Proofs.Ytmlbacbcdjfioaa

/-- An entry: an index with its key. -/
abbrev Ent := Nat × Int

def before (x y : Ent) : Bool := decide (x.2 < y.2 ∨ (x.2 = y.2 ∧ x.1 < y.1))
theorem before_iff {x y : Ent} : before x y = true ↔ x.2 < y.2 ∨ (x.2 = y.2 ∧ x.1 < y.1) := by simp [before]
theorem not_before_iff {x y : Ent} : before x y = false ↔ y.2 < x.2 ∨ (x.2 = y.2 ∧ y.1 ≤ x.1) := by
  simp only [before, decide_eq_false_iff_not]; omega
theorem before_irrefl (x : Ent) : before x x = false := by rw [not_before_iff]; omega
theorem before_asymm {x y : Ent} (h : before x y = true) : before y x = false := by
  rw [before_iff] at h; rw [not_before_iff]; omega
/-- not after -/
theorem le_trans3 {x y z : Ent} (h : before y x = false) (k : before z y = false) : before z x = false := by
  rw [not_before_iff] at *; omega
theorem before_trans {x y z : Ent} (h : before x y = true) (k : before y z = true) : before x z = true := by
  rw [before_iff] at *; omega
theorem before_le {x y z : Ent} (h : before x y = true) (k : before z y = false) : before z x = false :=
  le_trans3 (before_asymm h) k
theorem before_total {x y : Ent} (h : before x y = false) (k : before y x = false) : x = y := by
  rw [not_before_iff] at *
  apply Prod.ext <;> omega

def swapf (f : Nat → Ent) (a b : Nat) : Nat → Ent := fun k => if k = a then f b else if k = b then f a else f k

def HeapOrd (n : Nat) (f : Nat → Ent) : Prop := ∀ k, 0 < k → k < n → before (f k) (f ((k - 1) / 2)) = false

theorem HeapOrd.root {n : Nat} {f : Nat → Ent} (h : HeapOrd n f) : ∀ k, k < n → before (f k) (f 0) = false := by
  intro k
  induction k using Nat.strongRecOn with
  | _ k ih =>
    intro hk
    by_cases h0 : k = 0
    · subst h0; exact before_irrefl _
    · exact le_trans3 (ih ((k - 1) / 2) (by omega) (by omega)) (h k (by omega) hk)

/-- All pairs are in order but those of the entry at 'at_'; its children are not before its parent. -/
structure HeapEx (n : Nat) (f : Nat → Ent) (a : Nat) : Prop where
  ord : ∀ k, 0 < k → k < n → k ≠ a → (k - 1) / 2 ≠ a → before (f k) (f ((k - 1) / 2)) = false
  gp : ∀ k, 0 < k → k < n → (k - 1) / 2 = a → 0 < a → before (f k) (f ((a - 1) / 2)) = false

/-- The entry at 'a' is not before its parent, too. -/
structure HeapDn (n : Nat) (f : Nat → Ent) (a : Nat) : Prop where
  ord : ∀ k, 0 < k → k < n → (k - 1) / 2 ≠ a → before (f k) (f ((k - 1) / 2)) = false
  gp : ∀ k, 0 < k → k < n → (k - 1) / 2 = a → 0 < a → before (f k) (f ((a - 1) / 2)) = false

def upN (f : Nat → Ent) (a : Nat) : Option Nat := if 0 < a ∧ before (f a) (f ((a - 1) / 2)) = true then some ((a - 1) / 2) else none

def kid1 (n : Nat) (f : Nat → Ent) (a : Nat) : Nat := if 2 * a + 1 < n ∧ before (f (2 * a + 1)) (f a) = true then 2 * a + 1 else a
def kid2 (n : Nat) (f : Nat → Ent) (a : Nat) : Nat := if 2 * a + 2 < n ∧ before (f (2 * a + 2)) (f (kid1 n f a)) = true then 2 * a + 2 else kid1 n f a
def dnN (n : Nat) (f : Nat → Ent) (a : Nat) : Option Nat := if kid2 n f a = a then none else some (kid2 n f a)

theorem upN_lt {f : Nat → Ent} {a t : Nat} (h : upN f a = some t) : t < a := by
  unfold upN at h; split at h <;> simp at h; omega
theorem dnN_bd {n : Nat} {f : Nat → Ent} {a t : Nat} (ha : a < n) (h : dnN n f a = some t) : a < t ∧ t < n := by
  unfold dnN at h; split at h <;> simp at h
  unfold kid2 kid1 at *
  grind

theorem HeapEx.step {n : Nat} {f : Nat → Ent} {a t : Nat} (h : HeapEx n f a) (ha : a < n) (hu : upN f a = some t) : HeapEx n (swapf f a t) t := by
  unfold upN at hu
  split at hu <;> simp at hu
  rename_i hc
  obtain ⟨h0, hb⟩ := hc
  subst hu
  have pne : (a - 1) / 2 ≠ a := by omega
  refine ⟨?_, ?_⟩
  · intro k k0 kn k1 k2
    by_cases ka : k = a
    · subst ka; exact absurd rfl k2
    · by_cases pk : (k - 1) / 2 = a
      · simp only [swapf, ka, k1, if_false, pk, if_true]
        exact h.gp k k0 kn pk h0
      · simp only [swapf, ka, k1, if_false, pk, k2]
        exact h.ord k k0 kn ka pk
  · intro k k0 kn kp p0
    have gpne : ((a - 1) / 2 - 1) / 2 ≠ a := by omega
    have gpne2 : ((a - 1) / 2 - 1) / 2 ≠ (a - 1) / 2 := by omega
    have hpg := h.ord ((a - 1) / 2) p0 (by omega) pne gpne
    by_cases ka : k = a
    · subst ka
      simp only [swapf, if_true, gpne, gpne2, if_false]
      exact hpg
    · have kp2 : k ≠ (a - 1) / 2 := by omega
      simp only [swapf, ka, kp2, if_false, gpne, gpne2]
      have := h.ord k k0 kn ka (by omega)
      rw [kp] at this
      exact le_trans3 hpg this

theorem HeapEx.done {n : Nat} {f : Nat → Ent} {a : Nat} (h : HeapEx n f a) (hu : upN f a = none) : HeapDn n f a := by
  unfold upN at hu
  split at hu <;> simp at hu
  rename_i hc
  refine ⟨?_, h.gp⟩
  intro k k0 kn hp
  by_cases ka : k = a
  · subst ka
    cases hb : before (f k) (f ((k - 1) / 2)) with
    | false => rfl
    | true => exact absurd ⟨k0, hb⟩ hc
  · exact h.ord k k0 kn ka hp

theorem kid_min {n : Nat} {f : Nat → Ent} {a t : Nat} (h : dnN n f a = some t) :
    (t = 2 * a + 1 ∨ t = 2 * a + 2) ∧ t < n ∧ before (f t) (f a) = true ∧ ∀ k, 0 < k → k < n → (k - 1) / 2 = a → before (f k) (f t) = false := by
  unfold dnN at h
  split at h <;> simp at h
  rename_i hne
  subst h
  unfold kid2 at *
  by_cases c2 : 2 * a + 2 < n ∧ before (f (2 * a + 2)) (f (kid1 n f a)) = true
  · rw [if_pos c2] at *
    unfold kid1 at c2
    by_cases c1 : 2 * a + 1 < n ∧ before (f (2 * a + 1)) (f a) = true
    · rw [if_pos c1] at c2
      refine ⟨Or.inr rfl, c2.1, before_trans c2.2 c1.2, ?_⟩
      intro k k0 kn kp
      have : k = 2 * a + 1 ∨ k = 2 * a + 2 := by omega
      rcases this with rfl | rfl
      · exact before_asymm c2.2
      · exact before_irrefl _
    · rw [if_neg c1] at c2
      refine ⟨Or.inr rfl, c2.1, c2.2, ?_⟩
      intro k k0 kn kp
      have : k = 2 * a + 1 ∨ k = 2 * a + 2 := by omega
      rcases this with rfl | rfl
      · cases hb : before (f (2 * a + 1)) (f a) with
        | true => exact absurd ⟨by omega, hb⟩ c1
        | false => exact before_le c2.2 hb
      · exact before_irrefl _
  · rw [if_neg c2] at *
    unfold kid1 at *
    by_cases c1 : 2 * a + 1 < n ∧ before (f (2 * a + 1)) (f a) = true
    · rw [if_pos c1] at *
      refine ⟨Or.inl rfl, c1.1, c1.2, ?_⟩
      intro k k0 kn kp
      have : k = 2 * a + 1 ∨ k = 2 * a + 2 := by omega
      rcases this with rfl | rfl
      · exact before_irrefl _
      · cases hb : before (f (2 * a + 2)) (f (2 * a + 1)) with
        | true => exact absurd ⟨by omega, hb⟩ c2
        | false => rfl
    · rw [if_neg c1] at hne
      exact absurd rfl hne

theorem HeapDn.step {n : Nat} {f : Nat → Ent} {a t : Nat} (h : HeapDn n f a) (hu : dnN n f a = some t) : HeapDn n (swapf f a t) t := by
  obtain ⟨ht, tn, hb, hmin⟩ := kid_min hu
  have pt : (t - 1) / 2 = a := by omega
  have at' : a ≠ t := by omega
  refine ⟨?_, ?_⟩
  · intro k k0 kn hp
    by_cases ka : k = a
    · subst ka
      have hp1 : (k - 1) / 2 ≠ k := by omega
      simp only [swapf, if_true, hp1, hp, if_false]
      exact h.gp t (by omega) tn pt k0
    · by_cases kt : k = t
      · subst kt
        simp only [swapf, ka, if_false, if_true, pt]
        exact before_asymm hb
      · by_cases pk : (k - 1) / 2 = a
        · simp only [swapf, ka, kt, if_false, pk, if_true]
          exact hmin k k0 kn pk
        · simp only [swapf, ka, kt, pk, hp, if_false]
          exact h.ord k k0 kn pk
  · intro k k0 kn kp t0
    rw [pt]
    have ka : k ≠ a := by omega
    have kt : k ≠ t := by omega
    simp only [swapf, ka, kt, if_false, if_true]
    have := h.ord k k0 kn (by omega)
    rw [kp] at this
    exact this

theorem HeapDn.done {n : Nat} {f : Nat → Ent} {a : Nat} (h : HeapDn n f a) (hu : dnN n f a = none) : HeapOrd n f := by
  intro k k0 kn
  by_cases hp : (k - 1) / 2 = a
  · unfold dnN at hu
    split at hu <;> simp at hu
    rename_i he
    rw [hp]
    unfold kid2 at he
    by_cases c2 : 2 * a + 2 < n ∧ before (f (2 * a + 2)) (f (kid1 n f a)) = true
    · rw [if_pos c2] at he; omega
    · rw [if_neg c2] at he
      rw [he] at c2
      unfold kid1 at he
      by_cases c1 : 2 * a + 1 < n ∧ before (f (2 * a + 1)) (f a) = true
      · rw [if_pos c1] at he; omega
      · have : k = 2 * a + 1 ∨ k = 2 * a + 2 := by omega
        rcases this with rfl | rfl
        · cases hb : before (f (2 * a + 1)) (f a) with
          | true => exact absurd ⟨kn, hb⟩ c1
          | false => rfl
        · cases hb : before (f (2 * a + 2)) (f a) with
          | true => exact absurd ⟨kn, hb⟩ c2
          | false => rfl
  · exact h.ord k k0 kn hp

/-- Steps of a sift. -/
inductive Sifts (nx : (Nat → Ent) → Nat → Option Nat) : (Nat → Ent) → Nat → (Nat → Ent) → Nat → Prop
  | refl (f a) : Sifts nx f a f a
  | step {f a g c t} : Sifts nx f a g c → nx g c = some t → Sifts nx f a (swapf g c t) t

/-- What both tables hold is the same. -/
structure SameEnts (n : Nat) (f g : Nat → Ent) : Prop where
  to : ∀ k, k < n → ∃ j, j < n ∧ g j = f k
  back : ∀ k, k < n → ∃ j, j < n ∧ f j = g k
  inj : (∀ j k, j < n → k < n → (f j).1 = (f k).1 → j = k) → (∀ j k, j < n → k < n → (g j).1 = (g k).1 → j = k)

theorem SameEnts.refl (n : Nat) (f : Nat → Ent) : SameEnts n f f := ⟨fun k h => ⟨k, h, rfl⟩, fun k h => ⟨k, h, rfl⟩, fun h => h⟩
theorem SameEnts.trans {n : Nat} {f g h : Nat → Ent} (a : SameEnts n f g) (b : SameEnts n g h) : SameEnts n f h :=
  ⟨fun k hk => by
    obtain ⟨j, hj, e⟩ := a.to k hk
    obtain ⟨i, hi, e2⟩ := b.to j hj
    exact ⟨i, hi, e2.trans e⟩, fun k hk => by
    obtain ⟨j, hj, e⟩ := b.back k hk
    obtain ⟨i, hi, e2⟩ := a.back j hj
    exact ⟨i, hi, e2.trans e⟩, fun h => b.inj (a.inj h)⟩
theorem SameEnts.swap {n : Nat} {f : Nat → Ent} {a t : Nat} (ha : a < n) (ht : t < n) : SameEnts n f (swapf f a t) := by
  refine ⟨?_, ?_, ?_⟩
  · intro k hk
    by_cases h1 : k = a
    · refine ⟨t, ht, ?_⟩
      by_cases h2 : t = a
      · simp [swapf, h1, h2]
      · simp [swapf, h1, h2]
    · by_cases h2 : k = t
      · exact ⟨a, ha, by simp [swapf, h2]⟩
      · exact ⟨k, hk, by simp [swapf, h1, h2]⟩
  · intro k hk
    by_cases h1 : k = a
    · exact ⟨t, ht, by simp [swapf, h1]⟩
    · by_cases h2 : k = t
      · refine ⟨a, ha, by simp [swapf, h2]; intro h; rw [h]⟩
      · exact ⟨k, hk, by simp [swapf, h1, h2]⟩
  · intro hi j k hj hk e
    have hj' := hi
    unfold swapf at e
    have h1 := hi j k hj hk
    have h2 := hi a k ha hk
    have h3 := hi t k ht hk
    have h4 := hi j a hj ha
    have h5 := hi j t hj ht
    have h6 := hi a t ha ht
    have h7 := hi t a ht ha
    grind

theorem Sifts.up {n : Nat} {f g : Nat → Ent} {a c : Nat} (h : Sifts upN f a g c) (ha : a < n) (hx : HeapEx n f a) : HeapEx n g c ∧ c < n ∧ g c = f a ∧ SameEnts n f g := by
  induction h with
  | refl => exact ⟨hx, ha, rfl, SameEnts.refl _ _⟩
  | step _ hu ih =>
    obtain ⟨h1, h2, h3, h4⟩ := ih
    have := upN_lt hu
    refine ⟨h1.step h2 hu, by omega, ?_, h4.trans (SameEnts.swap h2 (by omega))⟩
    rw [← h3]
    simp only [swapf, if_true]
    rw [if_neg (by omega)]
theorem Sifts.dn {n : Nat} {f g : Nat → Ent} {a c : Nat} (h : Sifts (dnN n) f a g c) (ha : a < n) (hx : HeapDn n f a) : HeapDn n g c ∧ c < n ∧ g c = f a ∧ SameEnts n f g := by
  induction h with
  | refl => exact ⟨hx, ha, rfl, SameEnts.refl _ _⟩
  | step _ hu ih =>
    obtain ⟨h1, h2, h3, h4⟩ := ih
    have := dnN_bd h2 hu
    refine ⟨h1.step hu, by omega, ?_, h4.trans (SameEnts.swap h2 (by omega))⟩
    rw [← h3]
    simp only [swapf, if_true]
    rw [if_neg (by omega)]

/-- A heap in which one entry has turned. -/
theorem HeapOrd.turned {n : Nat} {f : Nat → Ent} (h : HeapOrd n f) (a : Nat) (e : Ent) : HeapEx n (fun k => if k = a then e else f k) a := by
  refine ⟨?_, ?_⟩
  · intro k k0 kn ka kp
    simp only [ka, kp, if_false]
    exact h k k0 kn
  · intro k k0 kn kp a0
    have ka : k ≠ a := by omega
    have pa : (a - 1) / 2 ≠ a := by omega
    simp only [ka, pa, if_false]
    have h1 := h k k0 kn
    rw [kp] at h1
    exact le_trans3 (h a a0 (by omega)) h1

/-- A heap to which one entry is added at the end. -/
theorem HeapOrd.pushed {n : Nat} {f : Nat → Ent} (h : HeapOrd n f) (e : Ent) : HeapEx (n + 1) (fun k => if k = n then e else f k) n := by
  refine ⟨?_, ?_⟩
  · intro k k0 kn ka kp
    simp only [ka, kp, if_false]
    exact h k k0 (by omega)
  · intro k k0 kn kp a0
    omega

theorem HeapOrd.less {n m : Nat} {f : Nat → Ent} (h : HeapOrd n f) (hm : m ≤ n) : HeapOrd m f := fun k k0 kn => h k k0 (by omega)
end Go.Proofs.Ytmlbacbcdjfioaa
