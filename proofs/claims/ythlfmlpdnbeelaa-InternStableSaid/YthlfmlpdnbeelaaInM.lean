/- InM: layer 3, the table as plain mathematics: cells in a ring, probes, an entry added, an entry removed; no program here. -/
set_option linter.unusedSimpArgs false
set_option linter.unusedVariables false
namespace Go.Proofs.Ythlfmlpdnbeelaa

/-- d cells behind h, in a ring of M cells. -/
def rgo (M h d : Nat) : Nat := (h + d) % M
/-- How far p is behind a. -/
def roff (M a p : Nat) : Nat := (p + M - a) % M
theorem rgo_lt {M : Nat} (h d : Nat) (hM : 0 < M) : rgo M h d < M := Nat.mod_lt _ hM
theorem roff_lt {M : Nat} (a p : Nat) (hM : 0 < M) : roff M a p < M := Nat.mod_lt _ hM
theorem rgo_zero {M h : Nat} (hh : h < M) : rgo M h 0 = h := by unfold rgo; rw [Nat.add_zero]; exact Nat.mod_eq_of_lt hh
theorem rgo_rgo (M h d e : Nat) : rgo M (rgo M h d) e = rgo M h (d + e) := by
  unfold rgo; rw [Nat.mod_add_mod, Nat.add_assoc]
theorem rgo_off {M a p : Nat} (ha : a < M) (hp : p < M) : rgo M a (roff M a p) = p := by
  unfold rgo roff
  rw [Nat.add_mod_mod]
  rw [show a + (p + M - a) = p + M by omega, Nat.add_mod_right]
  exact Nat.mod_eq_of_lt hp
theorem roff_go {M a d : Nat} (ha : a < M) (hd : d < M) : roff M a (rgo M a d) = d := by
  unfold rgo roff
  by_cases h : a + d < M
  · rw [Nat.mod_eq_of_lt h, show a + d + M - a = d + M by omega, Nat.add_mod_right]
    exact Nat.mod_eq_of_lt hd
  · have e : (a + d) % M = a + d - M := by rw [Nat.mod_eq_sub_mod (by omega), Nat.mod_eq_of_lt (by omega)]
    rw [e, show a + d - M + M - a = d by omega]
    exact Nat.mod_eq_of_lt hd
theorem rgo_inj {M a d e : Nat} (ha : a < M) (hd : d < M) (he : e < M) (h : rgo M a d = rgo M a e) : d = e := by
  rw [← roff_go ha hd, ← roff_go ha he, h]
/-- Two ways to the same cell: by h, and by a. -/
theorem roff_via {M a h p d : Nat} (ha : a < M) (hh : h < M) (hp : p < M) (hd : roff M h a = d) (hle : d ≤ roff M h p) : roff M a p = roff M h p - d := by
  have h1 : a = rgo M h d := by rw [← hd]; exact (rgo_off hh ha).symm
  have hM : 0 < M := by omega
  have h2 := roff_lt h p hM
  have h3 : p = rgo M a (roff M h p - d) := by
    rw [h1, rgo_rgo, show d + (roff M h p - d) = roff M h p by omega]
    exact (rgo_off hh hp).symm
  conv => lhs; rw [h3]
  exact roff_go ha (by omega)

/-- A table of M cells: cell k holds 0, or an index and 1; h: the home of an index. -/
structure Tab (M : Nat) (c : Nat → Nat) (h : Nat → Nat) (U : Nat → Prop) : Prop where
  pos : 0 < M
  home : ∀ i, U i → h i < M
  used : ∀ k, k < M → c k ≠ 0 → U (c k - 1)
  has : ∀ i, U i → ∃ d, d < M ∧ c (rgo M (h i) d) = i + 1 ∧ ∀ e, e < d → c (rgo M (h i) e) ≠ 0
  inj : ∀ j k, j < M → k < M → c j ≠ 0 → c j = c k → j = k

theorem Tab.congr {M : Nat} {c c' h : Nat → Nat} {U : Nat → Prop} (t : Tab M c h U) (e : ∀ k, k < M → c' k = c k) : Tab M c' h U := by
  have hM := t.pos
  refine ⟨t.pos, t.home, fun k hk hc => ?_, fun i hi => ?_, fun j k hj hk hc hjk => ?_⟩
  · rw [e k hk] at hc ⊢; exact t.used k hk hc
  · obtain ⟨d, hd, h1, h2⟩ := t.has i hi
    refine ⟨d, hd, by rw [e _ (rgo_lt _ _ hM)]; exact h1, fun x hx => by rw [e _ (rgo_lt _ _ hM)]; exact h2 x hx⟩
  · rw [e j hj] at hc hjk; rw [e k hk] at hjk; exact t.inj j k hj hk hc hjk

/-- An empty table. -/
theorem Tab.empty {M : Nat} (hM : 0 < M) (h : Nat → Nat) {U : Nat → Prop} (hU : ∀ i, ¬ U i) : Tab M (fun _ => 0) h U :=
  ⟨hM, fun i hi => absurd hi (hU i), fun k _ hc => absurd rfl hc, fun i hi => absurd hi (hU i), fun j k _ _ hc => absurd rfl hc⟩

/-- An entry is added at the end of its probe. -/
theorem Tab.add {M : Nat} {c h : Nat → Nat} {U : Nat → Prop} (t : Tab M c h U) {i k : Nat} (hi : ¬ U i) (hh : h i < M) {d : Nat} (hd : d < M) (hk : k = rgo M (h i) d) (hz : c k = 0) (hp : ∀ e, e < d → c (rgo M (h i) e) ≠ 0) :
    Tab M (fun p => if p = k then i + 1 else c p) h (fun j => j = i ∨ U j) := by
  have hM := t.pos
  have hkM : k < M := by rw [hk]; exact rgo_lt _ _ hM
  refine ⟨hM, ?_, ?_, ?_, ?_⟩
  · rintro j (rfl | hj)
    · exact hh
    · exact t.home j hj
  · intro p hp1 hc
    try simp only at hc ⊢
    by_cases e : p = k
    · rw [if_pos e]; left; omega
    · rw [if_neg e] at hc ⊢; exact Or.inr (t.used p hp1 hc)
  · rintro j (rfl | hj)
    · refine ⟨d, hd, by rw [if_pos hk.symm], fun e he => ?_⟩
      try simp only
      split
      · omega
      · exact hp e he
    · obtain ⟨x, hx, h1, h2⟩ := t.has j hj
      refine ⟨x, hx, ?_, fun e he => ?_⟩
      · try simp only
        rw [if_neg]
        · exact h1
        · intro e; rw [e, hz] at h1; omega
      · try simp only
        split
        · omega
        · exact h2 e he
  · intro p q hp1 hq1 hc hpq
    try simp only at hc hpq
    by_cases e1 : p = k
    · by_cases e2 : q = k
      · omega
      · rw [if_pos e1, if_neg e2] at hpq
        have := t.used q hq1 (by omega)
        rw [← hpq] at this
        exact absurd this (by simpa using hi)
    · by_cases e2 : q = k
      · rw [if_neg e1, if_pos e2] at hpq
        rw [if_neg e1] at hc
        have := t.used p hp1 hc
        rw [hpq] at this
        exact absurd this (by simpa using hi)
      · rw [if_neg e1] at hc
        rw [if_neg e1, if_neg e2] at hpq
        exact t.inj p q hp1 hq1 hc hpq

/-- Fewer entries than cells: one is empty. -/
theorem Tab.room {M : Nat} {c h : Nat → Nat} {U : Nat → Prop} (t : Tab M c h U) (l : List Nat) (hl : ∀ i, U i → i ∈ l) (hn : l.length < M) : ∃ k, k < M ∧ c k = 0 := by
  refine Classical.byContradiction fun hno => ?_
  have hall : ∀ k, k < M → c k ≠ 0 := fun k hk hz => hno ⟨k, hk, hz⟩
  have hnd : ((List.range M).map (fun k => c k - 1)).Nodup := by
    rw [List.nodup_iff_pairwise_ne, List.pairwise_map]
    have := List.nodup_range (n := M)
    rw [List.nodup_iff_pairwise_ne] at this
    refine this.imp_of_mem ?_
    intro a b ha hb hab e
    have h1 := hall a (List.mem_range.1 ha)
    have h2 := hall b (List.mem_range.1 hb)
    exact hab (t.inj a b (List.mem_range.1 ha) (List.mem_range.1 hb) h1 (by omega))
  have := hnd.length_le_of_subset (l₂ := l) (fun y hy => by
    obtain ⟨k, hk, rfl⟩ := List.mem_map.1 hy
    exact hl _ (t.used k (List.mem_range.1 hk) (hall k (List.mem_range.1 hk))))
  simp at this
  omega

/-- While an entry is being removed: a hole, the t cells behind it are full and their entries' probes do not pass the hole. -/
structure Hole (M : Nat) (c : Nat → Nat) (h : Nat → Nat) (U : Nat → Prop) (hole t : Nat) : Prop where
  hl : hole < M
  tl : t < M
  home : ∀ i, U i → h i < M
  used : ∀ k, k < M → k ≠ hole → c k ≠ 0 → U (c k - 1)
  has : ∀ i, U i → ∃ p, p < M ∧ p ≠ hole ∧ c p = i + 1 ∧ (∀ e, e < roff M (h i) p → rgo M (h i) e ≠ hole → c (rgo M (h i) e) ≠ 0) ∧ (roff M hole p ≤ t → ∀ e, e < roff M (h i) p → rgo M (h i) e ≠ hole)
  inj : ∀ j k, j < M → k < M → j ≠ hole → k ≠ hole → c j ≠ 0 → c j = c k → j = k
  full : ∀ s, 1 ≤ s → s ≤ t → c (rgo M hole s) ≠ 0

theorem Tab.hole {M : Nat} {c h : Nat → Nat} {U : Nat → Prop} (t : Tab M c h U) {i k : Nat} (hk : k < M) (hc : c k = i + 1) : Hole M c h (fun j => U j ∧ j ≠ i) k 0 := by
  have hM := t.pos
  refine ⟨hk, hM, fun j hj => t.home j hj.1, ?_, ?_, fun j l hj hl _ _ hc e => t.inj j l hj hl hc e, fun s h1 h2 => by omega⟩
  · intro p hp hpk hcp
    refine ⟨t.used p hp hcp, fun e => ?_⟩
    exact hpk (t.inj p k hp hk hcp (by omega))
  · rintro j ⟨hj, hji⟩
    obtain ⟨d, hd, h1, h2⟩ := t.has j hj
    have hjM := t.home j hj
    have ho : roff M (h j) (rgo M (h j) d) = d := roff_go hjM hd
    refine ⟨rgo M (h j) d, rgo_lt _ _ hM, fun e => by rw [e, hc] at h1; omega, h1, ?_, ?_⟩
    · intro e he _
      rw [ho] at he
      exact h2 e he
    · intro h0 e _ _
      have hz : roff M k (rgo M (h j) d) = 0 := by omega
      have := rgo_off hk (rgo_lt (h j) d hM)
      rw [hz, rgo_zero hk] at this
      rw [← this, hc] at h1
      omega

/-- The next cell is empty: the hole becomes empty. -/
theorem Hole.done {M : Nat} {c h : Nat → Nat} {U : Nat → Prop} {hole t : Nat} (H : Hole M c h U hole t) (ht : t + 1 < M) (hz : c (rgo M hole (t + 1)) = 0) : Tab M (fun p => if p = hole then 0 else c p) h U := by
  have hM : 0 < M := by have := H.hl; omega
  refine ⟨hM, H.home, ?_, ?_, ?_⟩
  · intro k hk hc
    try simp only at hc ⊢
    by_cases e : k = hole
    · rw [if_pos e] at hc; exact absurd rfl hc
    · rw [if_neg e] at hc ⊢; exact H.used k hk e hc
  · intro i hi
    obtain ⟨p, hp, hph, hcp, h1, h2⟩ := H.has i hi
    have hh := H.home i hi
    have hpass : ∀ e, e < roff M (h i) p → rgo M (h i) e ≠ hole := by
      intro e he heq
      by_cases hle : roff M hole p ≤ t
      · exact h2 hle e he heq
      · have hpl := roff_lt (h i) p hM
        have ho : roff M (h i) hole = e := by rw [← heq]; exact roff_go hh (by omega)
        have hv := roff_via H.hl hh hp ho (by omega)
        -- the empty cell lies on the probe
        have hs : rgo M hole (t + 1) = rgo M (h i) (e + (t + 1)) := by rw [← heq, rgo_rgo]
        by_cases hlast : e + (t + 1) = roff M (h i) p
        · rw [hlast, rgo_off hh hp] at hs
          rw [hs, hcp] at hz; omega
        · have := h1 (e + (t + 1)) (by omega) (fun e2 => by
            have := rgo_inj hh (show e + (t + 1) < M by omega) (show e < M by omega) (by rw [e2, heq])
            omega)
          rw [← hs] at this
          exact this hz
    refine ⟨roff M (h i) p, roff_lt _ _ hM, ?_, ?_⟩
    · rw [rgo_off hh hp, if_neg hph]; exact hcp
    · intro e he
      try simp only
      rw [if_neg (hpass e he)]
      exact h1 e he (hpass e he)
  · intro j k hj hk hc hjk
    try simp only at hc hjk
    by_cases e1 : j = hole
    · rw [if_pos e1] at hc; exact absurd rfl hc
    · by_cases e2 : k = hole
      · rw [if_neg e1, if_pos e2] at hjk; rw [if_neg e1] at hc; exact absurd hjk hc
      · rw [if_neg e1] at hc; rw [if_neg e1, if_neg e2] at hjk
        exact H.inj j k hj hk e1 e2 hc hjk

/-- The next cell's entry stays: its home lies behind the hole. -/
theorem Hole.stay {M : Nat} {c h : Nat → Nat} {U : Nat → Prop} {hole t i : Nat} (H : Hole M c h U hole t) (ht : t + 1 < M) (hc : c (rgo M hole (t + 1)) = i + 1) (hlt : roff M (h i) (rgo M hole (t + 1)) < t + 1) : Hole M c h U hole (t + 1) := by
  have hM : 0 < M := by have := H.hl; omega
  refine ⟨H.hl, ht, H.home, H.used, ?_, H.inj, ?_⟩
  · intro j hj
    obtain ⟨p, hp, hph, hcp, h1, h2⟩ := H.has j hj
    refine ⟨p, hp, hph, hcp, h1, ?_⟩
    intro hle e he heq
    by_cases hl2 : roff M hole p ≤ t
    · exact h2 hl2 e he heq
    · have hp2 : p = rgo M hole (t + 1) := by
        have := rgo_off H.hl hp
        rw [show roff M hole p = t + 1 by omega] at this
        exact this.symm
      have hij : j = i := by rw [hp2, hc] at hcp; omega
      subst hij
      rw [← hp2] at hlt
      have hh := H.home j hj
      have hpl := roff_lt (h j) p hM
      have ho : roff M (h j) hole = e := by rw [← heq]; exact roff_go hh (by omega)
      have hv := roff_via H.hl hh hp ho (by omega)
      omega
  · intro s h1 h2
    by_cases e : s = t + 1
    · rw [e, hc]; omega
    · exact H.full s h1 (by omega)

/-- The next cell's entry is moved into the hole. -/
theorem Hole.move {M : Nat} {c h : Nat → Nat} {U : Nat → Prop} {hole t i : Nat} (H : Hole M c h U hole t) (ht : t + 1 < M) (hc : c (rgo M hole (t + 1)) = i + 1) (hge : t + 1 ≤ roff M (h i) (rgo M hole (t + 1))) :
    Hole M (fun p => if p = hole then i + 1 else c p) h U (rgo M hole (t + 1)) 0 := by
  have hM : 0 < M := by have := H.hl; omega
  have hkM : rgo M hole (t + 1) < M := rgo_lt _ _ hM
  have hne : rgo M hole (t + 1) ≠ hole := by
    intro e
    have := rgo_inj H.hl ht hM (by rw [e, rgo_zero H.hl])
    omega
  have hU : U i := by
    have := H.used _ hkM hne (by rw [hc]; omega)
    rw [hc] at this; simpa using this
  refine ⟨hkM, hM, H.home, ?_, ?_, ?_, fun s h1 h2 => by omega⟩
  · intro p hp hpk hcp
    try simp only at hcp ⊢
    by_cases e : p = hole
    · rw [if_pos e]; simpa using hU
    · rw [if_neg e] at hcp ⊢; exact H.used p hp e hcp
  · intro j hj
    obtain ⟨p, hp, hph, hcp, h1, h2⟩ := H.has j hj
    have hh := H.home j hj
    by_cases hij : j = i
    · subst hij
      have hp2 : p = rgo M hole (t + 1) := H.inj p _ hp hkM hph hne (by rw [hcp]; omega) (by rw [hcp, hc])
      have hpl := roff_lt (h j) p hM
      rw [← hp2] at hge
      have hho := roff_lt (h j) hole hM
      -- the hole lies on its probe
      have hholeP : roff M (h j) hole + (t + 1) = roff M (h j) p := by
        have e1 : rgo M (h j) (roff M (h j) p - (t + 1)) = hole := by
          have e2 : rgo M (rgo M (h j) (roff M (h j) p - (t + 1))) (t + 1) = rgo M hole (t + 1) := by
            rw [rgo_rgo, show roff M (h j) p - (t + 1) + (t + 1) = roff M (h j) p by omega, rgo_off hh hp, hp2]
          have hx : rgo M (h j) (roff M (h j) p - (t + 1)) < M := rgo_lt _ _ hM
          unfold rgo at e2 hx ⊢
          generalize (h j + (roff M (h j) p - (t + 1))) % M = y at e2 hx ⊢
          have hhl := H.hl
          by_cases a1 : y + (t + 1) < M
          · by_cases a2 : hole + (t + 1) < M
            · rw [Nat.mod_eq_of_lt a1, Nat.mod_eq_of_lt a2] at e2; omega
            · rw [Nat.mod_eq_of_lt a1, Nat.mod_eq_sub_mod (by omega), Nat.mod_eq_of_lt (by omega)] at e2; omega
          · by_cases a2 : hole + (t + 1) < M
            · rw [Nat.mod_eq_of_lt a2, Nat.mod_eq_sub_mod (by omega), Nat.mod_eq_of_lt (by omega)] at e2; omega
            · rw [Nat.mod_eq_sub_mod (show M ≤ y + (t + 1) by omega), Nat.mod_eq_of_lt (show y + (t + 1) - M < M by omega), Nat.mod_eq_sub_mod (show M ≤ hole + (t + 1) by omega), Nat.mod_eq_of_lt (show hole + (t + 1) - M < M by omega)] at e2; omega
        have e3 : roff M (h j) hole = roff M (h j) p - (t + 1) := by
          conv => lhs; rw [← e1]
          exact roff_go hh (by omega)
        omega
      refine ⟨hole, H.hl, hne.symm, by simp, ?_, ?_⟩
      · intro e he _
        try simp only
        by_cases e2 : rgo M (h j) e = hole
        · rw [if_pos e2]; omega
        · rw [if_neg e2]; exact h1 e (by omega) e2
      · intro hle e he heq
        have hz : roff M (rgo M hole (t + 1)) hole = 0 := by omega
        have := rgo_off hkM H.hl
        rw [hz, rgo_zero hkM] at this
        exact hne this
    · have hpk : p ≠ rgo M hole (t + 1) := by
        intro e; rw [e, hc] at hcp; omega
      refine ⟨p, hp, hpk, by rw [if_neg hph]; exact hcp, ?_, ?_⟩
      · intro e he hek
        try simp only
        by_cases e2 : rgo M (h j) e = hole
        · rw [if_pos e2]; omega
        · rw [if_neg e2]; exact h1 e he e2
      · intro hle e he heq
        have hz : roff M (rgo M hole (t + 1)) p = 0 := by omega
        have := rgo_off hkM hp
        rw [hz, rgo_zero hkM] at this
        exact hpk this.symm
  · intro p q hp hq hpk hqk hcp hpq
    try simp only at hcp hpq
    by_cases e1 : p = hole
    · by_cases e2 : q = hole
      · omega
      · rw [if_pos e1, if_neg e2] at hpq
        exact absurd (H.inj q _ hq hkM e2 hne (by omega) (by rw [← hpq, hc])) hqk
    · by_cases e2 : q = hole
      · rw [if_neg e1, if_pos e2] at hpq
        exact absurd (H.inj p _ hp hkM e1 hne (by omega) (by rw [hpq, hc])) hpk
      · rw [if_neg e1] at hcp
        rw [if_neg e1, if_neg e2] at hpq
        exact H.inj p q hp hq e1 e2 hcp hpq
end Go.Proofs.Ythlfmlpdnbeelaa
