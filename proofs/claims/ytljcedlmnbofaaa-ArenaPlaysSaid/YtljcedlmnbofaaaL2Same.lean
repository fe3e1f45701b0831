/- L2Same: seepagelaw02.same compares two lists. -/
import Derived.Test.YtljcedlmnbofaaaL2Works
namespace Go.Proofs.Ytljcedlmnbofaaa
open Go.ChangeShapes Go.WideShapes Go.ChangeAt Go.RowKit

theorem IntsIn.drewN {w : World} {k : IntKind} {a : Option Addr} {len cap : Nat} {zs : List Int} (h : IntsIn w k a len cap zs) (n : Nat) : IntsIn (w.drewN n) k a len cap zs :=
  ⟨h.hlen, h.hle, h.hmax, h.hcell, h.hwf⟩
theorem IntsIn.of_below {w w' : World} {k : IntKind} {a : Option Addr} {len cap : Nat} {zs : List Int} (h : IntsIn w k a len cap zs) (hb : Below w.heap.size w w') : IntsIn w' k a len cap zs :=
  ⟨h.hlen, h.hle, h.hmax, fun i hi => by
    obtain ⟨b, off, ha, hlt, hc⟩ := h.hcell i hi
    exact ⟨b, off, ha, Nat.lt_of_lt_of_le hlt hb.size, (hb.cell (p := ⟨b, off + i, none⟩) hlt).trans hc⟩, h.hwf⟩
theorem IntsIn.of_upd {w w' : World} {k : IntKind} {a : Option Addr} {len cap : Nat} {zs : List Int} (h : IntsIn w k a len cap zs) {F : Nat → Prop} (hu : Upd F w w') (hF : ∀ ad, a = some ad → ¬ F ad.block) : IntsIn w' k a len cap zs :=
  ⟨h.hlen, h.hle, h.hmax, fun i hi => by
    obtain ⟨b, off, ha, hlt, hc⟩ := h.hcell i hi
    exact ⟨b, off, ha, Nat.lt_of_lt_of_le hlt hu.size, (hu.cell (p := ⟨b, off + i, none⟩) hlt (hF ⟨b, off, none⟩ ha)).trans hc⟩, h.hwf⟩

/-- What the call itself has built, as a list that can be read. -/
theorem ints_of_owns {w : World} {base : Nat} {e : TypeId} {v : Value} {l : List Nat} (h : w.ownsRow base e 1 v l.length (ints l)) (hb : ∀ x ∈ l, x < 9223372036854775808) :
    ∃ a cap, v = .slice a l.length cap ∧ (∀ ad, a = some ad → base ≤ ad.block ∧ ad.block < w.heap.size) ∧ IntsIn w .i64 a l.length cap (l.map fun (x : Nat) => (x : Int)) := by
  have hwf : ∀ n ∈ l.map (fun (x : Nat) => (x : Int)), (Lit.int .i64 n).wf = true := by
    intro n hn
    obtain ⟨x, hx, rfl⟩ := List.mem_map.1 hn
    have := hb x hx
    simp only [Lit.wf, IntKind.min, IntKind.max, IntKind.signed, IntKind.bits, Bool.and_eq_true, decide_eq_true_eq, if_true]
    omega
  rcases h.2 with ⟨rfl, h0⟩ | ⟨g, cap, cur, rfl, hg, hh, hn, hm, _, _⟩
  · have : l = [] := List.length_eq_zero_iff.1 h0
    subst this
    exact ⟨none, 0, rfl, by simp, by simp, Nat.le_refl _, by omega, by simp, hwf⟩
  · refine ⟨some ⟨g, 0, none⟩, cap, rfl, by simpa using ⟨hg, (h.lt g rfl).2⟩, by simp, hn, by simpa [maxLen] using hm, ?_, hwf⟩
    intro i hi
    refine ⟨g, 0, rfl, (h.lt g rfl).2, ?_⟩
    rw [Nat.zero_add, h.cellAt i (by omega)]
    simp [ints, List.getD, hi]

theorem ints_of_owns_slice {w : World} {base : Nat} {e : TypeId} {a : Option Addr} {c : Nat} {l : List Nat} (h : w.ownsRow base e 1 (.slice a l.length c) l.length (ints l)) (hb : ∀ x ∈ l, x < 9223372036854775808) :
    (∀ ad, a = some ad → base ≤ ad.block ∧ ad.block < w.heap.size) ∧ IntsIn w .i64 a l.length c (l.map fun (x : Nat) => (x : Int)) := by
  obtain ⟨a', c', he, h1, h2⟩ := ints_of_owns h hb
  simp only [Value.slice.injEq, true_and] at he
  obtain ⟨rfl, rfl⟩ := he
  exact ⟨h1, h2⟩
theorem map_getD (l : List Nat) (k : Nat) : (l.map fun (x : Nat) => (x : Int)).getD k 0 = ((l.getD k 0 : Nat) : Int) := by
  simp only [List.getD, List.getElem?_map]
  cases l[k]? <;> simp

/-- Two lists are equal if their lengths and their elements are. -/
theorem list_eq_getD {xs ys : List Int} (hl : xs.length = ys.length) (h : ∀ j, j < xs.length → xs.getD j 0 = ys.getD j 0) : xs = ys := by
  apply List.ext_getElem hl
  intro j h1 h2
  have := h j h1
  simpa [List.getD, List.getElem?_eq_getElem h1, List.getElem?_eq_getElem h2] using this

set_option maxHeartbeats 400000 in
theorem l2same_any {w : World} {a1 a2 : Option Addr} {n1 n2 c1 c2 : Nat} {xs ys : List Int} (hx : IntsIn w .i64 a1 n1 c1 xs) (hy : IntsIn w .i64 a2 n2 c2 ys) :
    Calls Try.prog 26 #[.slice a1 n1 c1, .slice a2 n2 c2] w fun e w' => e = .returned (.bool (decide (xs = ys))) ∧ ∃ n, w' = w.drewN n := by
  have hx1 := hx.hlen
  have hy1 := hy.hlen
  have hx2 := hx.hle
  have hy2 := hy.hle
  have hx3 := hx.hmax
  have hy3 := hy.hmax
  by_cases hn : n1 = n2
  · subst hn
    have HX := Lib.hid hx
    have HY := Lib.hid hy
    have HL := Lib.hid (hx1.trans hy1.symm)
    have HX1 := Lib.hid hx1
    clear hx hy hx1 hy1
    go_enter Try.func26, Try.ntmps26
    go_wp2
    go_loopw [5] (fun vk wr => ∃ k m : Nat, k ≤ n1 ∧ vk = .int .i64 k ∧ wr = w.drewN m ∧ ∀ j, j < k → xs.getD j 0 = ys.getD j 0) (fun vk _ => n1 - (intOf vk).toNat)
    case atStart => exact ⟨0, 0, Nat.zero_le _, rfl, rfl, fun j hj => absurd hj (Nat.not_lt_zero _)⟩
    case round =>
      obtain ⟨k, m, hk, rfl, rfl, heq⟩ := hrel
      have HE := Lib.hid heq
      clear heq
      by_cases hlt : k < n1
      · obtain ⟨b1, o1, rfl, _, d1⟩ := HX.out.hcell k hlt
        obtain ⟨b2, o2, rfl, _, d2⟩ := HY.out.hcell k hlt
        by_cases hq : xs.getD k 0 = ys.getD k 0
        · have HQ := Lib.hid hq
          have hqb : (xs.getD k 0 == ys.getD k 0) = true := by simpa using hq
          have hqb2 : (xs.getD k 0 != ys.getD k 0) = false := by simpa using hq
          clear hq
          generalize xs.getD k 0 = x at d1 hqb hqb2
          generalize ys.getD k 0 = y at d2 hqb hqb2
          go_wp2
          go_quiet (fail)
          go_wp2
          go_roundw
          case rel =>
            refine ⟨k + 1, _, by omega, by simp, rfl, ?_⟩
            intro j hj
            by_cases e : j = k
            · subst e; exact HQ.out
            · exact HE.out j (by omega)
          case measure => simp [intOf]; omega
        · have HD := Lib.hid (show decide (xs = ys) = false by simp only [decide_eq_false_iff_not]; intro e; exact hq (by rw [e]))
          have hqb2 : (xs.getD k 0 != ys.getD k 0) = true := by simpa using hq
          clear hq
          generalize xs.getD k 0 = x at d1 hqb2
          generalize ys.getD k 0 = y at d2 hqb2
          go_wp2
          go_quiet (fail)
          go_wp2
          go_ret
          exact ⟨by rw [HD.out]; rfl, _, by rw [World.drewN_drewN]⟩
      · have HD := Lib.hid (show decide (xs = ys) = true by
          simp only [decide_eq_true_eq]
          exact list_eq_getD HL.out (fun j hj => HE.out j (by rw [HX1.out] at hj; omega)))
        go_wp2
        go_ret
        exact ⟨by rw [HD.out]; rfl, m, rfl⟩
  · have HD := Lib.hid (show decide (xs = ys) = false by simp only [decide_eq_false_iff_not]; intro e; exact hn (by rw [← hx1, ← hy1, e]))
    have hnb : ((n1 : Int) != (n2 : Int)) = true := by simp; omega
    clear hx hy hx1 hy1
    go_enter Try.func26, Try.ntmps26
    go_wp2
    go_ret
    exact ⟨by rw [HD.out]; rfl, 0, rfl⟩
end Go.Proofs.Ytljcedlmnbofaaa
