/- Close: from a law's walk to its statement. -/
import Derived.Test.YthlfmlpdnbeelaaBase
import Derived.Carry
import Derived.SizedLaws
import Derived.Deep.Slices
set_option linter.unusedSimpArgs false
set_option linter.unusedVariables false
namespace Go.Proofs.Ythlfmlpdnbeelaa
open Go.ChangeShapes Go.WideShapes Go.ChangeAt Go.RowKit

theorem Try.own : ownKnob Try.prog.godebug = none := by kernel_rfl
theorem Try.laidOut : laidOutB Try.prog = true := by kernel_rfl

section
variable {H : Type} {enc : TypeId × Value → H} {P : Program}

theorem trodAll_below (hl : laidOutB P = true) {W W' : World} (hb : Below W.heap.size W W') : ∀ (ts : List TypeId) (vs : List Value) (ds : List (DataW H)) (ps : List MemPlace),
    (∀ t ∈ ts, P.readableRec t = true ∧ t < P.types.size) → DataW.TrodAll enc P W 0 (fun _ => true) true ts vs ds ps → (∀ x ∈ ps, x.block < W.heap.size) →
    DataW.TrodAll enc P W' 0 (fun b => decide (b < W.heap.size)) true ts vs ds ps
  | [], vs, ds, ps, _, h, _ => by
    obtain ⟨rfl, rfl, rfl⟩ := trodAll_nil h
    exact trodAll_mk0
  | t :: ts, vs, ds, ps, ht, h, hp => by
    obtain ⟨v, vs', d, ds', p, q, rfl, rfl, rfl, h0, h1⟩ := trodAll_cons h
    refine trodAll_cons_mk (Below.trod hl (ht t (by simp)).1 (ht t (by simp)).2 h0 hb (fun x hx => hp x (by simp [hx]))) ?_
    exact trodAll_below hl hb ts vs' ds' q (fun u hu => ht u (by simp [hu])) h1 (fun x hx => hp x (by simp [hx]))

/-- Behind the walk: the law's post. -/
theorem law_post {f : Func} {s : ChangeSpec} {W W' : World} {args : Array Value} {ds gs : List (DataW H)} {before : List MemPlace} (hl : laidOutB P = true)
    (hts : ∀ t ∈ f.params.toList, P.readableRec t = true ∧ t < P.types.size) {tb : TypeId} (hrt : f.resultTypes = #[tb]) (htb : P.underlying tb = some .bool) (hv : s.vars = [])
    (hW : DataW.Whole enc P f.params.toList s.vars false W args.toList ds gs before)
    (hr : (s.fn H (ds ++ gs)).results = [.lit (.bool true)]) (ha : (s.fn H (ds ++ gs)).args = ds) (hvs : (s.fn H (ds ++ gs)).vars = [])
    (hb : Below W.heap.size W W') : s.post enc P f false true false false W args (.bool true) W' := by
  have hW' := hW
  obtain ⟨p, q, hA, hV, rfl, hz, hn⟩ := hW
  rw [hv] at hV
  obtain ⟨rfl, rfl⟩ := trodVars_none hV
  have hlt : ∀ x ∈ p, x.block < W.heap.size := fun x hx => by simpa using hW'.lt x (by simpa using hx)
  refine ⟨ds, [], p ++ [], [], p, [], hW', ?_, ?_, ?_, World.keptBut_mono (fun _ h => h.elim) (hb.frame (fun _ => False)), fun h => by cases h⟩
  · rw [hr, hrt]
    exact trodAll_cons_mk (shut_bool htb true) trodAll_mk0
  · rw [ha]
    exact trodAll_below hl hb _ _ _ _ hts hA hlt
  · rw [hvs, hv]; rfl
end
section
variable {H : Type} {enc : TypeId × Value → H} {P : Program}

/-- A slice of integers, opened. -/
theorem open_intsIn {t e : TypeId} {k : IntKind} {W : World} {base : Nat} {v : Value} {d : DataW H} {ps : List MemPlace} (ht : P.underlying t = some (.slice e)) (he : P.underlying e = some (.int k)) (hc : P.cellsOf e = 1)
    (hval : Value.okWide P W .any base t v) (hd : DataW.Trod enc P W 0 (fun _ => true) true t v d ps) (hlt : ∀ x ∈ ps, x.block < W.heap.size) :
    ∃ a len cap zs, v = .slice a len cap ∧ IntsIn W k a len cap zs := by
  obtain ⟨a0, len, cap, rfl⟩ := okWide_slice ht hval
  obtain ⟨fuel, hf⟩ := hd
  rcases open_ints ht he hc hf with ⟨hcs, hx⟩ | ⟨a, len', cap', zs, hcs, _, hl, hm, hz, hx, hcell, hwz⟩
  · simp [Value.cells] at hcs
    obtain ⟨rfl, rfl, rfl⟩ := hcs
    exact ⟨none, 0, 0, [], rfl, rfl, Nat.le_refl _, by omega, fun i hi => absurd hi (Nat.not_lt_zero _), by simp⟩
  · simp [Value.cells] at hcs
    obtain ⟨rfl, rfl, rfl⟩ := hcs
    simp only [Prod.mk.injEq] at hx
    obtain ⟨_, rfl⟩ := hx
    simp only [if_true] at hz
    refine ⟨some a, len, cap, zs.take len, rfl, by simp; omega, hl, by simpa [maxLen] using hm, ?_, fun n hn => hwz n (List.mem_of_mem_take hn)⟩
    intro i hi
    obtain ⟨b, off, spot⟩ := a
    have hspot : spot = none := by simpa [Addr.add] using World.cell?_spot (hcell 0 (by omega))
    subst hspot
    have hbW : b < W.heap.size := hlt (.cell b off) (MemPlace.mem_row.2 ⟨0, by omega, by simp⟩)
    refine ⟨b, off, rfl, hbW, ?_⟩
    have := hcell i (by omega)
    rw [add_plain] at this
    rw [this]
    simp [List.getD, List.getElem?_take, hi]
end
section
variable {H : Type} {enc : TypeId × Value → H} {P : Program}

/-- A slice of structs of integers, opened. -/
theorem open_rowsIn {t e : TypeId} {s : Nat} {ks : Nat → IntKind} {fs : Array Field} {W : World} {base : Nat} {v : Value} {d : DataW H} {ps : List MemPlace} (ht : P.underlying t = some (.slice e)) (he : P.underlying e = some (.struct fs)) (hc : P.cellsOf e = s) (h0s : 0 < s)
    (hfs : ∀ j, j < s → ∃ f, fs[j]? = some f ∧ f.offset = j ∧ P.cellsOf f.type = 1 ∧ P.underlying f.type = some (.int (ks j)))
    (hval : Value.okWide P W .any base t v) (hd : DataW.Trod enc P W 0 (fun _ => true) true t v d ps) (hlt : ∀ x ∈ ps, x.block < W.heap.size) :
    ∃ a len cap zs, v = .slice a len cap ∧ RowsIn W s ks a len cap zs := by
  obtain ⟨a0, len, cap, rfl⟩ := okWide_slice ht hval
  obtain ⟨fuel, hf⟩ := hd
  rcases Deep.open_slice ht hf with ⟨hcs, hx⟩ | ⟨a, len', cap', m, n, D, Pl, hcs, _, hl, hm, hmm, hx, hel⟩
  · simp [Value.cells] at hcs
    obtain ⟨rfl, rfl, rfl⟩ := hcs
    exact ⟨none, 0, 0, fun _ _ => 0, rfl, Nat.le_refl _, by omega, fun i hi => absurd hi (Nat.not_lt_zero _), fun i hi => absurd hi (Nat.not_lt_zero _)⟩
  · simp [Value.cells] at hcs
    obtain ⟨rfl, rfl, rfl⟩ := hcs
    simp only [Prod.mk.injEq] at hx
    obtain ⟨_, rfl⟩ := hx
    simp only [if_true] at hmm
    have key : ∀ i, i < len → ∃ z : Nat → Int, ∀ j, j < s → W.cell? ((a.add (i * s)).add j) = some (.int (ks j) (z j)) ∧ (Lit.int (ks j) (z j)).wf = true := by
      intro i hi
      obtain ⟨cs', h1, h2⟩ := hel i (by omega)
      rw [hc] at h1
      obtain ⟨_, hlen, hcell⟩ := World.cells?_some h1
      obtain ⟨xs, k, hk, hxy, _, hxl, hf2⟩ := DataW.trod_struct he h2
      have each : ∀ j, j < s → ∃ n : Int, W.cell? ((a.add (i * s)).add j) = some (.int (ks j) n) ∧ (Lit.int (ks j) n).wf = true := by
        intro j hj
        obtain ⟨f, hfj, hoff, hcf, huf⟩ := hfs j hj
        have h3 := hf2 j f hfj
        have hjx : j < xs.length := by rw [hxl]; exact (Array.getElem?_eq_some_iff.1 hfj).1
        rw [List.getElem?_eq_getElem hjx, hoff, hcf] at h3
        obtain ⟨n, hn1, hn2, hn3⟩ := DataW.trod_int huf h3
        refine ⟨n, ?_, hn3⟩
        rw [hcell j hj]
        have := congrArg (fun l => l[0]?) hn1
        simpa [List.getElem?_take, List.getElem?_drop] using this
      obtain ⟨z, hz⟩ := Deep.choose_lt each
      exact ⟨z, hz⟩
    obtain ⟨zs, hzs⟩ := Deep.choose_lt key
    refine ⟨some a, len, cap, zs, rfl, hl, by simpa [maxLen] using hm, ?_, fun i hi j hj => (hzs i hi j hj).2⟩
    intro i hi
    obtain ⟨b, off, spot⟩ := a
    have h00 := (hzs i hi 0 h0s).1
    have hne : spot = none := by
      have h1 := World.cell?_spot ((hzs 0 (by omega) 0 h0s).1)
      simpa [Addr.add] using h1
    subst hne
    refine ⟨b, off, rfl, ?_, ?_⟩
    · rw [add_plain, add_plain] at h00
      exact World.block_lt_of_cell? W _ h00
    · intro j hj
      have := (hzs i hi j hj).1
      rw [add_plain, add_plain] at this
      exact this
end
end Go.Proofs.Ythlfmlpdnbeelaa
