/- L2Made: seepagelaw02.made: an arena whose first slots are in use. -/
import Derived.Test.YtljcedlmnbofaaaL2Same
namespace Go.Proofs.Ytljcedlmnbofaaa
open Go.ChangeShapes Go.WideShapes Go.ChangeAt Go.RowKit

/-- An arena that the call has made, seen from the world w0 in which the call began. -/
structure AIn (w0 w : World) (b lb : Nat) (A : Ar) : Prop where
  ar : ArenaAt w b lb A
  hb : w0.heap.size ≤ b
  hl : w0.heap.size ≤ lb
  hlt : lb < w.heap.size
  bel : Below w0.heap.size w0 w

theorem AIn.step {w0 w w' : World} {b lb : Nat} {A A' : Ar} (h : AIn w0 w b lb A) (ha : ArenaAt w' b lb A') (hu : Upd (fun k => k = b ∨ k = lb) w w') : AIn w0 w' b lb A' :=
  ⟨ha, h.hb, h.hl, Nat.lt_of_lt_of_le h.hlt hu.size, h.bel.trans (hu.below _ h.bel.size (fun k hk e => by have := h.hb; have := h.hl; omega))⟩
theorem AIn.upd {w0 w w' : World} {b lb : Nat} {A : Ar} (h : AIn w0 w b lb A) {F : Nat → Prop} (hu : Upd F w w') (hF : ∀ k, F k → w0.heap.size ≤ k ∧ k ≠ b ∧ k ≠ lb) : AIn w0 w' b lb A :=
  ⟨h.ar.upd hu (fun f => (hF b f).2.1 rfl) (fun f => (hF lb f).2.2 rfl) h.hlt, h.hb, h.hl, Nat.lt_of_lt_of_le h.hlt hu.size, h.bel.trans (hu.below _ h.bel.size (fun k hk f => by have := (hF k f).1; omega))⟩
theorem AIn.drewN {w0 w : World} {b lb : Nat} {A : Ar} (h : AIn w0 w b lb A) (n : Nat) : AIn w0 (w.drewN n) b lb A :=
  ⟨h.ar.drewN n, h.hb, h.hl, h.hlt, ⟨h.bel.os, h.bel.tape, h.bel.output, h.bel.size, h.bel.block⟩⟩
theorem AIn.below {w0 w w' : World} {b lb : Nat} {A : Ar} (h : AIn w0 w b lb A) (hb : Below w.heap.size w w') : AIn w0 w' b lb A :=
  ⟨h.ar.of_blocks (hb.block _ h.ar.b_lt) (hb.block _ h.hlt), h.hb, h.hl, Nat.lt_of_lt_of_le h.hlt hb.size, h.bel.trans (hb.mono h.bel.size)⟩

theorem AIn.alloc {w0 w : World} {b lb : Nat} {A : Ar} (h : AIn w0 w b lb A) {i : Nat} (hi : A.next = some i) :
    Calls Try.prog 18 #[.pointer (some ⟨b, 0, none⟩)] w fun e w' => e = .returned (.tuple #[.int .i64 i, .int .i64 0]) ∧ AIn w0 w' b lb (A.take i) ∧ Upd (fun k => k = b ∨ k = lb) w w' :=
  (aAlloc_some h.ar i hi).mono fun _ _ ⟨he, ha, hu⟩ => ⟨he, h.step ha hu, hu⟩
theorem AIn.free {w0 w : World} {b lb : Nat} {A : Ar} (h : AIn w0 w b lb A) {i : Nat} (hi : A.used i = true) :
    Calls Try.prog 16 #[.pointer (some ⟨b, 0, none⟩), .int .i64 i] w fun e w' => e = .returned (.int .i64 0) ∧ AIn w0 w' b lb (A.freed i) ∧ Upd (fun k => k = b ∨ k = lb) w w' :=
  (aFree_used h.ar i hi).mono fun _ _ ⟨he, ha, hu⟩ => ⟨he, h.step ha hu, hu⟩
theorem AIn.list {w0 w : World} {b lb : Nat} {A : Ar} (h : AIn w0 w b lb A) :
    Calls Try.prog 24 #[.pointer (some ⟨b, 0, none⟩)] w fun e w' => ∃ a cap, e = .returned (.slice a A.list.length cap) ∧ (∀ ad, a = some ad → w.heap.size ≤ ad.block ∧ ad.block < w'.heap.size) ∧ IntsIn w' .i64 a A.list.length cap (A.list.map fun (x : Nat) => (x : Int)) ∧ AIn w0 w' b lb A ∧ Below w.heap.size w w' :=
  (aList_any h.ar).mono fun e w' ⟨v, he, ho, hb⟩ => by
    obtain ⟨a, cap, rfl, h1, h2⟩ := ints_of_owns ho (fun x hx => by
      have := h.ar.ok.slots
      have : x < A.slots := by simpa using (List.mem_filter.1 hx).1
      omega)
    exact ⟨a, cap, he, h1, h2, h.below hb, hb⟩

theorem AIn.len {w0 w : World} {b lb : Nat} {A : Ar} (h : AIn w0 w b lb A) : Calls Try.prog 20 #[.pointer (some ⟨b, 0, none⟩)] w fun e w' => e = .returned (.int .i64 ((A.fresh : Int) - A.stack.length)) ∧ w = w' := aLen_any h.ar
theorem AIn.cap {w0 w : World} {b lb : Nat} {A : Ar} (h : AIn w0 w b lb A) : Calls Try.prog 25 #[.pointer (some ⟨b, 0, none⟩)] w fun e w' => e = .returned (.int .i64 A.slots) ∧ w = w' := aCap_any h.ar
theorem AIn.isUsed {w0 w : World} {b lb : Nat} {A : Ar} (h : AIn w0 w b lb A) (i : Int) {r : Bool} (hr : A.usedAt i = r) : Calls Try.prog 15 #[.pointer (some ⟨b, 0, none⟩), .int .i64 i] w fun e w' => e = .returned (.bool r) ∧ w = w' := hr ▸ aUsed_any h.ar i
theorem AIn.timesOf {w0 w : World} {b lb : Nat} {A : Ar} (h : AIn w0 w b lb A) (i : Int) {r : Nat} (hr : A.timesAt i = r) : Calls Try.prog 19 #[.pointer (some ⟨b, 0, none⟩), .int .i64 i] w fun e w' => e = .returned (.int .u64 r) ∧ w = w' := hr ▸ aTimes_any h.ar i
theorem AIn.nextOf {w0 w : World} {b lb : Nat} {A : Ar} (h : AIn w0 w b lb A) {r : Option Nat} (hr : A.next = r) : Calls Try.prog 17 #[.pointer (some ⟨b, 0, none⟩)] w fun e w' => e = .returned (optNat r) ∧ ∃ n, w' = w.drewN n := hr ▸ aNext_any h.ar

def nextI (o : Option Nat) : Int := match o with | some i => i | none => 0
theorem optNat_eq (o : Option Nat) : optNat o = .tuple #[.int .i64 (nextI o), .bool o.isSome] := by cases o <;> rfl

/-- n slots, of which the first m were allocated once. -/
def Ar.filled (n m : Nat) : Ar := { slots := n, fresh := m, stack := [], times := fun i => if i < m then 1 else 0 }
theorem Ar.filled_zero (n : Nat) : Ar.new n = Ar.filled n 0 := rfl
theorem Ar.filled_next {n m : Nat} (h : m < n) : (Ar.filled n m).next = some m := by simp [Ar.filled, Ar.next, h]
theorem Ar.filled_none {n m : Nat} (h : n ≤ m) : (Ar.filled n m).next = none := by simp [Ar.filled, Ar.next, Nat.not_lt.2 h]
theorem Ar.filled_take (n m : Nat) : (Ar.filled n m).take m = Ar.filled n (m + 1) := by
  simp only [Ar.take, Ar.filled, if_true, List.tail_nil]
  congr 1
  funext j
  by_cases e : j = m
  · subst e; simp
  · simp only [e, if_false]
    by_cases h : j < m
    · rw [if_pos h, if_pos (by omega)]
    · rw [if_neg h, if_neg (by omega)]

set_option maxHeartbeats 1000000 in
theorem l2made_any (slots used : Nat) (h1 : slots < 65536) (h2 : used < 65536) (w : World) :
    Calls Try.prog 14 #[.int .u16 slots, .int .u16 used] w fun e w' => ∃ b lb, ∃ n m : Nat, e = .returned (.tuple #[.pointer (some ⟨b, 0, none⟩), .int .i64 n, .int .i64 m]) ∧ AIn w w' b lb (Ar.filled n m) ∧ n = 1 + slots % 300 ∧ m = used % (n + 1) := by
  obtain ⟨n, hn⟩ : ∃ n, n = 1 + slots % 300 := ⟨_, rfl⟩
  obtain ⟨m, hm⟩ : ∃ m, m = used % (n + 1) := ⟨_, rfl⟩
  have hn1 : 1 ≤ n ∧ n ≤ 300 := by omega
  have hm1 : m ≤ n := by rw [hm]; have := Nat.mod_lt used (show 0 < n + 1 by omega); omega
  have HN := Lib.hid (aNew_ok n w (by omega))
  have hc : (1 : Int) + (slots : Int) % 300 = (n : Int) := by omega
  have hd : (used : Int) % ((n : Int) + 1) = (m : Int) := by rw [hm]; simp
  have HE := Lib.hid (And.intro hn hm)
  clear hn hm
  go_enter Try.func14, Try.ntmps14
  go_wp2_with fail
  refine HN.out.mono ?_
  rintro e w1 ⟨b, lb, rfl, a0, hb, hl, hbel⟩
  have HA := Lib.hid (show AIn w w1 b lb (Ar.filled n 0) from ⟨by rw [← Ar.filled_zero]; exact a0, hb, hl, a0.lb_lt (by simp only [Ar.new]; omega), hbel⟩)
  clear a0 hb hl hbel
  go_wp2
  clear hc hd
  go_loopw [11] (fun vk wr => ∃ k : Nat, k ≤ m ∧ vk = .int .i64 k ∧ AIn w wr b lb (Ar.filled n k)) (fun vk _ => m - (intOf vk).toNat)
  case atStart => exact ⟨0, Nat.zero_le _, rfl, HA.out⟩
  case round =>
    obtain ⟨k, hk, rfl, hrel⟩ := hrel
    have HR := Lib.hid hrel
    clear hrel
    by_cases hlt : k < m
    · have HT := Lib.hid (HR.out.alloc (Ar.filled_next (show k < n by omega)))
      have HTK := Lib.hid (Ar.filled_take n k)
      go_wp2_with (go_at_call 18; refine HT.out.mono ?_; rintro e w2 ⟨rfl, ha, _⟩; have HS := Lib.hid ha; clear ha)
      go_roundw
      case rel => exact ⟨k + 1, by omega, by simp, by rw [← HTK.out]; exact HS.out⟩
      case measure => simp [intOf]; omega
    · have hkm : k = m := by omega
      have HF := Lib.hid (show AIn w wr b lb (Ar.filled n m) by rw [← hkm]; exact HR.out)
      clear hkm
      go_wp2
      go_ret3
      exact ⟨b, lb, n, m, by simp, HF.out, HE.out.1, HE.out.2⟩
end Go.Proofs.Ytljcedlmnbofaaa
