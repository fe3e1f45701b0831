/-
  No cell of these rows narrows 'for every input' (looked for: loops, veiled, ifaces, maps, wideKeys, modest, calm, conditions, laid).
  DERIVED. THE GIVEN ROWS OF THIS SEAT. 16 by the template 'for every input the law returns true; each argument reads behind the call as it read before'; 0 by the template 'total and deterministic' (their statements: YthlfmlpdnbeelaaTotals.lean).
  GIVEN WITH THE SEED: the statements are not yours to turn. If you find one false, say at which input.
  Laid BY PROGRAM, IN A SANDBOX (cutbox-rows.mjs): the forced cells as the released guide's own fill.sh prints them over the translation 8ba31220378dfdf2… (all of the seat's roots in one cut). By AI agents, Wed Nov 11 2026. No macro, syntax, notation, axiom, sorry.
-/
import Derived.Test.YthlfmlpdnbeelaaChecked
import GoSem.Claim
import GoSem.ClaimJoined
import GoSem.ClaimMapViews
import Derived.JoinedTies
import Derived.KernelRfl
namespace Go.Proofs.Ythlfmlpdnbeelaa
/- THE CELL 'sum', in the pinned program and in every row, IS THE sha256 OF THE DUMP (.gsa) THAT YthlfmlpdnbeelaaProg.lean LOADS. Nothing in Lean hashes anything: it is a label: what it is worth is what the hold of that sum in a sandbox is worth. -/
noncomputable def Try.pinned : Pinned := { name := "ythlfmlpdnbeelaa", sum := "8ba31220378dfdf2afa679ce9ab0af3389912ae5896422c56005fe5d45a83bb1", checked := Try.checked }
namespace Rows
def none {H : Type} : Left H := { results := [], args := [] }

/-- 'seepagelaw03.InternNames': WHATEVER THE INPUT: true; the input reads as it did. -/
def internNamesSpec : ChangeSpec := { name := "internNames", fn := fun _ => fun
  | [d1, d2, d3, d4] => { results := [.lit (.bool true)], args := [d1, d2, d3, d4] }
  | _ => none }
def internNamesRow : OpenClaim := { program := "ythlfmlpdnbeelaa", sum := "8ba31220378dfdf2afa679ce9ab0af3389912ae5896422c56005fe5d45a83bb1", func := "seepage/seepagelaw03.InternNames", spec := "internNames", unfollowed := true, recurses := true, apart := false }
def InternNamesSaid : Prop := internNamesRow.holds Try.pinned (OpenSpec.ofChange internNamesSpec)

/-- ITS FALSE NEIGHBOUR: 'it returns false'. Refute it at one input. -/
def internNamesWrong : ChangeSpec := { name := "internNames", fn := fun _ => fun
  | [d1, d2, d3, d4] => { results := [.lit (.bool false)], args := [d1, d2, d3, d4] }
  | _ => none }
def InternNamesWrongFalsely : Prop := internNamesRow.holds Try.pinned (OpenSpec.ofChange internNamesWrong)

/-- 'seepagelaw03.InternFull': WHATEVER THE INPUT: true; the input reads as it did. -/
def internFullSpec : ChangeSpec := { name := "internFull", fn := fun _ => fun
  | [d1, d2, d3] => { results := [.lit (.bool true)], args := [d1, d2, d3] }
  | _ => none }
def internFullRow : OpenClaim := { program := "ythlfmlpdnbeelaa", sum := "8ba31220378dfdf2afa679ce9ab0af3389912ae5896422c56005fe5d45a83bb1", func := "seepage/seepagelaw03.InternFull", spec := "internFull", unfollowed := true, recurses := true, apart := false }
def InternFullSaid : Prop := internFullRow.holds Try.pinned (OpenSpec.ofChange internFullSpec)

/-- ITS FALSE NEIGHBOUR: 'it returns false'. Refute it at one input. -/
def internFullWrong : ChangeSpec := { name := "internFull", fn := fun _ => fun
  | [d1, d2, d3] => { results := [.lit (.bool false)], args := [d1, d2, d3] }
  | _ => none }
def InternFullWrongFalsely : Prop := internFullRow.holds Try.pinned (OpenSpec.ofChange internFullWrong)

/-- 'seepagelaw03.InternStable': WHATEVER THE INPUT: true; the input reads as it did. -/
def internStableSpec : ChangeSpec := { name := "internStable", fn := fun _ => fun
  | [d1, d2, d3] => { results := [.lit (.bool true)], args := [d1, d2, d3] }
  | _ => none }
def internStableRow : OpenClaim := { program := "ythlfmlpdnbeelaa", sum := "8ba31220378dfdf2afa679ce9ab0af3389912ae5896422c56005fe5d45a83bb1", func := "seepage/seepagelaw03.InternStable", spec := "internStable", unfollowed := true, recurses := true, apart := false }
def InternStableSaid : Prop := internStableRow.holds Try.pinned (OpenSpec.ofChange internStableSpec)

/-- ITS FALSE NEIGHBOUR: 'it returns false'. Refute it at one input. -/
def internStableWrong : ChangeSpec := { name := "internStable", fn := fun _ => fun
  | [d1, d2, d3] => { results := [.lit (.bool false)], args := [d1, d2, d3] }
  | _ => none }
def InternStableWrongFalsely : Prop := internStableRow.holds Try.pinned (OpenSpec.ofChange internStableWrong)

/-- 'seepagelaw03.InternReuses': WHATEVER THE INPUT: true; the input reads as it did. -/
def internReusesSpec : ChangeSpec := { name := "internReuses", fn := fun _ => fun
  | [d1, d2, d3] => { results := [.lit (.bool true)], args := [d1, d2, d3] }
  | _ => none }
def internReusesRow : OpenClaim := { program := "ythlfmlpdnbeelaa", sum := "8ba31220378dfdf2afa679ce9ab0af3389912ae5896422c56005fe5d45a83bb1", func := "seepage/seepagelaw03.InternReuses", spec := "internReuses", unfollowed := true, recurses := true, apart := false }
def InternReusesSaid : Prop := internReusesRow.holds Try.pinned (OpenSpec.ofChange internReusesSpec)

/-- ITS FALSE NEIGHBOUR: 'it returns false'. Refute it at one input. -/
def internReusesWrong : ChangeSpec := { name := "internReuses", fn := fun _ => fun
  | [d1, d2, d3] => { results := [.lit (.bool false)], args := [d1, d2, d3] }
  | _ => none }
def InternReusesWrongFalsely : Prop := internReusesRow.holds Try.pinned (OpenSpec.ofChange internReusesWrong)

/-- 'seepagelaw03.InternAgain': WHATEVER THE INPUT: true; the input reads as it did. -/
def internAgainSpec : ChangeSpec := { name := "internAgain", fn := fun _ => fun
  | [d] => { results := [.lit (.bool true)], args := [d] }
  | _ => none }
def internAgainRow : OpenClaim := { program := "ythlfmlpdnbeelaa", sum := "8ba31220378dfdf2afa679ce9ab0af3389912ae5896422c56005fe5d45a83bb1", func := "seepage/seepagelaw03.InternAgain", spec := "internAgain", unfollowed := true, recurses := true, apart := false }
def InternAgainSaid : Prop := internAgainRow.holds Try.pinned (OpenSpec.ofChange internAgainSpec)

/-- ITS FALSE NEIGHBOUR: 'it returns false'. Refute it at one input. -/
def internAgainWrong : ChangeSpec := { name := "internAgain", fn := fun _ => fun
  | [d] => { results := [.lit (.bool false)], args := [d] }
  | _ => none }
def InternAgainWrongFalsely : Prop := internAgainRow.holds Try.pinned (OpenSpec.ofChange internAgainWrong)

/-- 'seepagelaw03.InternNews': WHATEVER THE INPUT: true; the input reads as it did. -/
def internNewsSpec : ChangeSpec := { name := "internNews", fn := fun _ => fun
  | [d1, d2, d3] => { results := [.lit (.bool true)], args := [d1, d2, d3] }
  | _ => none }
def internNewsRow : OpenClaim := { program := "ythlfmlpdnbeelaa", sum := "8ba31220378dfdf2afa679ce9ab0af3389912ae5896422c56005fe5d45a83bb1", func := "seepage/seepagelaw03.InternNews", spec := "internNews", unfollowed := true, recurses := true, apart := false }
def InternNewsSaid : Prop := internNewsRow.holds Try.pinned (OpenSpec.ofChange internNewsSpec)

/-- ITS FALSE NEIGHBOUR: 'it returns false'. Refute it at one input. -/
def internNewsWrong : ChangeSpec := { name := "internNews", fn := fun _ => fun
  | [d1, d2, d3] => { results := [.lit (.bool false)], args := [d1, d2, d3] }
  | _ => none }
def InternNewsWrongFalsely : Prop := internNewsRow.holds Try.pinned (OpenSpec.ofChange internNewsWrong)

/-- 'seepagelaw03.InternOneToOne': WHATEVER THE INPUT: true; the input reads as it did. -/
def internOneToOneSpec : ChangeSpec := { name := "internOneToOne", fn := fun _ => fun
  | [d1, d2] => { results := [.lit (.bool true)], args := [d1, d2] }
  | _ => none }
def internOneToOneRow : OpenClaim := { program := "ythlfmlpdnbeelaa", sum := "8ba31220378dfdf2afa679ce9ab0af3389912ae5896422c56005fe5d45a83bb1", func := "seepage/seepagelaw03.InternOneToOne", spec := "internOneToOne", unfollowed := true, recurses := true, apart := false }
def InternOneToOneSaid : Prop := internOneToOneRow.holds Try.pinned (OpenSpec.ofChange internOneToOneSpec)

/-- ITS FALSE NEIGHBOUR: 'it returns false'. Refute it at one input. -/
def internOneToOneWrong : ChangeSpec := { name := "internOneToOne", fn := fun _ => fun
  | [d1, d2] => { results := [.lit (.bool false)], args := [d1, d2] }
  | _ => none }
def InternOneToOneWrongFalsely : Prop := internOneToOneRow.holds Try.pinned (OpenSpec.ofChange internOneToOneWrong)

/-- 'seepagelaw03.InternCopies': WHATEVER THE INPUT: true; the input reads as it did. -/
def internCopiesSpec : ChangeSpec := { name := "internCopies", fn := fun _ => fun
  | [d1, d2, d3, d4] => { results := [.lit (.bool true)], args := [d1, d2, d3, d4] }
  | _ => none }
def internCopiesRow : OpenClaim := { program := "ythlfmlpdnbeelaa", sum := "8ba31220378dfdf2afa679ce9ab0af3389912ae5896422c56005fe5d45a83bb1", func := "seepage/seepagelaw03.InternCopies", spec := "internCopies", unfollowed := true, recurses := true, apart := false }
def InternCopiesSaid : Prop := internCopiesRow.holds Try.pinned (OpenSpec.ofChange internCopiesSpec)

/-- ITS FALSE NEIGHBOUR: 'it returns false'. Refute it at one input. -/
def internCopiesWrong : ChangeSpec := { name := "internCopies", fn := fun _ => fun
  | [d1, d2, d3, d4] => { results := [.lit (.bool false)], args := [d1, d2, d3, d4] }
  | _ => none }
def InternCopiesWrongFalsely : Prop := internCopiesRow.holds Try.pinned (OpenSpec.ofChange internCopiesWrong)

/-- 'seepagelaw03.InternPlays': WHATEVER THE INPUT: true; the input reads as it did. -/
def internPlaysSpec : ChangeSpec := { name := "internPlays", fn := fun _ => fun
  | [d1, d2, d3] => { results := [.lit (.bool true)], args := [d1, d2, d3] }
  | _ => none }
def internPlaysRow : OpenClaim := { program := "ythlfmlpdnbeelaa", sum := "8ba31220378dfdf2afa679ce9ab0af3389912ae5896422c56005fe5d45a83bb1", func := "seepage/seepagelaw03.InternPlays", spec := "internPlays", unfollowed := true, recurses := true, apart := false }
def InternPlaysSaid : Prop := internPlaysRow.holds Try.pinned (OpenSpec.ofChange internPlaysSpec)

/-- ITS FALSE NEIGHBOUR: 'it returns false'. Refute it at one input. -/
def internPlaysWrong : ChangeSpec := { name := "internPlays", fn := fun _ => fun
  | [d1, d2, d3] => { results := [.lit (.bool false)], args := [d1, d2, d3] }
  | _ => none }
def InternPlaysWrongFalsely : Prop := internPlaysRow.holds Try.pinned (OpenSpec.ofChange internPlaysWrong)

/-- 'seepagelaw03.InternNil': WHATEVER THE INPUT: true; the input reads as it did. -/
def internNilSpec : ChangeSpec := { name := "internNil", fn := fun _ => fun
  | [d1, d2] => { results := [.lit (.bool true)], args := [d1, d2] }
  | _ => none }
def internNilRow : OpenClaim := { program := "ythlfmlpdnbeelaa", sum := "8ba31220378dfdf2afa679ce9ab0af3389912ae5896422c56005fe5d45a83bb1", func := "seepage/seepagelaw03.InternNil", spec := "internNil", unfollowed := true, recurses := true, apart := false }
def InternNilSaid : Prop := internNilRow.holds Try.pinned (OpenSpec.ofChange internNilSpec)

/-- ITS FALSE NEIGHBOUR: 'it returns false'. Refute it at one input. -/
def internNilWrong : ChangeSpec := { name := "internNil", fn := fun _ => fun
  | [d1, d2] => { results := [.lit (.bool false)], args := [d1, d2] }
  | _ => none }
def InternNilWrongFalsely : Prop := internNilRow.holds Try.pinned (OpenSpec.ofChange internNilWrong)

/-- 'seepagelaw34.StoreKeeps': WHATEVER THE INPUT: true; the input reads as it did. -/
def storeKeepsSpec : ChangeSpec := { name := "storeKeeps", fn := fun _ => fun
  | [d] => { results := [.lit (.bool true)], args := [d] }
  | _ => none }
def storeKeepsRow : OpenClaim := { program := "ythlfmlpdnbeelaa", sum := "8ba31220378dfdf2afa679ce9ab0af3389912ae5896422c56005fe5d45a83bb1", func := "seepage/seepagelaw34.StoreKeeps", spec := "storeKeeps", unfollowed := true, recurses := true, apart := false }
def StoreKeepsSaid : Prop := storeKeepsRow.holds Try.pinned (OpenSpec.ofChange storeKeepsSpec)

/-- ITS FALSE NEIGHBOUR: 'it returns false'. Refute it at one input. -/
def storeKeepsWrong : ChangeSpec := { name := "storeKeeps", fn := fun _ => fun
  | [d] => { results := [.lit (.bool false)], args := [d] }
  | _ => none }
def StoreKeepsWrongFalsely : Prop := storeKeepsRow.holds Try.pinned (OpenSpec.ofChange storeKeepsWrong)

/-- 'seepagelaw34.StoreVertices': WHATEVER THE INPUT: true; the input reads as it did. -/
def storeVerticesSpec : ChangeSpec := { name := "storeVertices", fn := fun _ => fun
  | [d] => { results := [.lit (.bool true)], args := [d] }
  | _ => none }
def storeVerticesRow : OpenClaim := { program := "ythlfmlpdnbeelaa", sum := "8ba31220378dfdf2afa679ce9ab0af3389912ae5896422c56005fe5d45a83bb1", func := "seepage/seepagelaw34.StoreVertices", spec := "storeVertices", unfollowed := true, recurses := true, apart := false }
def StoreVerticesSaid : Prop := storeVerticesRow.holds Try.pinned (OpenSpec.ofChange storeVerticesSpec)

/-- ITS FALSE NEIGHBOUR: 'it returns false'. Refute it at one input. -/
def storeVerticesWrong : ChangeSpec := { name := "storeVertices", fn := fun _ => fun
  | [d] => { results := [.lit (.bool false)], args := [d] }
  | _ => none }
def StoreVerticesWrongFalsely : Prop := storeVerticesRow.holds Try.pinned (OpenSpec.ofChange storeVerticesWrong)

/-- 'seepagelaw34.StoreRefuses': WHATEVER THE INPUT: true; the input reads as it did. -/
def storeRefusesSpec : ChangeSpec := { name := "storeRefuses", fn := fun _ => fun
  | [d1, d2, d3] => { results := [.lit (.bool true)], args := [d1, d2, d3] }
  | _ => none }
def storeRefusesRow : OpenClaim := { program := "ythlfmlpdnbeelaa", sum := "8ba31220378dfdf2afa679ce9ab0af3389912ae5896422c56005fe5d45a83bb1", func := "seepage/seepagelaw34.StoreRefuses", spec := "storeRefuses", unfollowed := true, recurses := true, apart := false }
def StoreRefusesSaid : Prop := storeRefusesRow.holds Try.pinned (OpenSpec.ofChange storeRefusesSpec)

/-- ITS FALSE NEIGHBOUR: 'it returns false'. Refute it at one input. -/
def storeRefusesWrong : ChangeSpec := { name := "storeRefuses", fn := fun _ => fun
  | [d1, d2, d3] => { results := [.lit (.bool false)], args := [d1, d2, d3] }
  | _ => none }
def StoreRefusesWrongFalsely : Prop := storeRefusesRow.holds Try.pinned (OpenSpec.ofChange storeRefusesWrong)

/-- 'seepagelaw34.StoreEmpties': WHATEVER THE INPUT: true; the input reads as it did. -/
def storeEmptiesSpec : ChangeSpec := { name := "storeEmpties", fn := fun _ => fun
  | [d1, d2] => { results := [.lit (.bool true)], args := [d1, d2] }
  | _ => none }
def storeEmptiesRow : OpenClaim := { program := "ythlfmlpdnbeelaa", sum := "8ba31220378dfdf2afa679ce9ab0af3389912ae5896422c56005fe5d45a83bb1", func := "seepage/seepagelaw34.StoreEmpties", spec := "storeEmpties", unfollowed := true, recurses := true, apart := false }
def StoreEmptiesSaid : Prop := storeEmptiesRow.holds Try.pinned (OpenSpec.ofChange storeEmptiesSpec)

/-- ITS FALSE NEIGHBOUR: 'it returns false'. Refute it at one input. -/
def storeEmptiesWrong : ChangeSpec := { name := "storeEmpties", fn := fun _ => fun
  | [d1, d2] => { results := [.lit (.bool false)], args := [d1, d2] }
  | _ => none }
def StoreEmptiesWrongFalsely : Prop := storeEmptiesRow.holds Try.pinned (OpenSpec.ofChange storeEmptiesWrong)

/-- 'seepagelaw34.StoreCopies': WHATEVER THE INPUT: true; the input reads as it did. -/
def storeCopiesSpec : ChangeSpec := { name := "storeCopies", fn := fun _ => fun
  | [d1, d2, d3] => { results := [.lit (.bool true)], args := [d1, d2, d3] }
  | _ => none }
def storeCopiesRow : OpenClaim := { program := "ythlfmlpdnbeelaa", sum := "8ba31220378dfdf2afa679ce9ab0af3389912ae5896422c56005fe5d45a83bb1", func := "seepage/seepagelaw34.StoreCopies", spec := "storeCopies", unfollowed := true, recurses := true, apart := false }
def StoreCopiesSaid : Prop := storeCopiesRow.holds Try.pinned (OpenSpec.ofChange storeCopiesSpec)

/-- ITS FALSE NEIGHBOUR: 'it returns false'. Refute it at one input. -/
def storeCopiesWrong : ChangeSpec := { name := "storeCopies", fn := fun _ => fun
  | [d1, d2, d3] => { results := [.lit (.bool false)], args := [d1, d2, d3] }
  | _ => none }
def StoreCopiesWrongFalsely : Prop := storeCopiesRow.holds Try.pinned (OpenSpec.ofChange storeCopiesWrong)

/-- 'seepagelaw34.StoreNil': WHATEVER THE INPUT: true; the input reads as it did. -/
def storeNilSpec : ChangeSpec := { name := "storeNil", fn := fun _ => fun
  | [d1, d2] => { results := [.lit (.bool true)], args := [d1, d2] }
  | _ => none }
def storeNilRow : OpenClaim := { program := "ythlfmlpdnbeelaa", sum := "8ba31220378dfdf2afa679ce9ab0af3389912ae5896422c56005fe5d45a83bb1", func := "seepage/seepagelaw34.StoreNil", spec := "storeNil", unfollowed := true, recurses := true, apart := false }
def StoreNilSaid : Prop := storeNilRow.holds Try.pinned (OpenSpec.ofChange storeNilSpec)

/-- ITS FALSE NEIGHBOUR: 'it returns false'. Refute it at one input. -/
def storeNilWrong : ChangeSpec := { name := "storeNil", fn := fun _ => fun
  | [d1, d2] => { results := [.lit (.bool false)], args := [d1, d2] }
  | _ => none }
def StoreNilWrongFalsely : Prop := storeNilRow.holds Try.pinned (OpenSpec.ofChange storeNilWrong)

/- THE SECOND FORM. 'bulk': how many values and letters a reading holds, each counted each time it is reached (what is shared counts as often as it is met; a slice's spare places count too). A statement '..UptoSaid' is the law's where the arguments, and the package variables that the reading takes, are together of bulk at most 1048576: NARROWER than '..Said'. Prove '..Said' where nothing that the law and all that it calls make is longer than what came in: it says more and counts as full. Else prove '..UptoSaid'. A law counts once. -/
mutual
def uptoBulk {H : Type} : DataW H → Nat
  | .lit (.string bytes) => bytes.length + 1
  | .lit _ => 1
  | .nil => 1
  | .ptr d => uptoBulk d + 1
  | .slice elems spare => uptoBulkAll elems + uptoBulkAll spare + 1
  | .agg parts => uptoBulkAll parts + 1
  | .iface _ d => uptoBulk d + 1
  | .map entries => uptoBulkEntries entries + 1
  | .held _ => 1
def uptoBulkAll {H : Type} : List (DataW H) → Nat
  | [] => 0
  | d :: r => uptoBulk d + uptoBulkAll r
def uptoBulkEntries {H : Type} : List (Lit × DataW H) → Nat
  | [] => 0
  | x :: r => uptoBulkEntry x + uptoBulkEntries r
def uptoBulkEntry {H : Type} : Lit × DataW H → Nat
  | (.string bytes, d) => bytes.length + uptoBulk d + 1
  | (_, d) => uptoBulk d + 1
 end
def uptoSmall : (H : Type) → List (DataW H) → Bool := fun _ ds => decide (uptoBulkAll ds ≤ 1048576)
def OpenSpec.upto (s : _root_.Go.ChangeSpec) : _root_.Go.OpenSpec := { _root_.Go.OpenSpec.ofChange s with cond := some uptoSmall }

/-- 'seepagelaw03.InternNames', WHERE WHAT IT READS IS OF BULK AT MOST 1048576: true; the input reads as it did. -/
def internNamesUptoRow : OpenClaim := { program := "ythlfmlpdnbeelaa", sum := "8ba31220378dfdf2afa679ce9ab0af3389912ae5896422c56005fe5d45a83bb1", func := "seepage/seepagelaw03.InternNames", spec := "internNames", unfollowed := true, recurses := true, apart := false, narrowed := true }
def InternNamesUptoSaid : Prop := internNamesUptoRow.holds Try.pinned (OpenSpec.upto internNamesSpec)

/-- 'seepagelaw03.InternFull', WHERE WHAT IT READS IS OF BULK AT MOST 1048576: true; the input reads as it did. -/
def internFullUptoRow : OpenClaim := { program := "ythlfmlpdnbeelaa", sum := "8ba31220378dfdf2afa679ce9ab0af3389912ae5896422c56005fe5d45a83bb1", func := "seepage/seepagelaw03.InternFull", spec := "internFull", unfollowed := true, recurses := true, apart := false, narrowed := true }
def InternFullUptoSaid : Prop := internFullUptoRow.holds Try.pinned (OpenSpec.upto internFullSpec)

/-- 'seepagelaw03.InternStable', WHERE WHAT IT READS IS OF BULK AT MOST 1048576: true; the input reads as it did. -/
def internStableUptoRow : OpenClaim := { program := "ythlfmlpdnbeelaa", sum := "8ba31220378dfdf2afa679ce9ab0af3389912ae5896422c56005fe5d45a83bb1", func := "seepage/seepagelaw03.InternStable", spec := "internStable", unfollowed := true, recurses := true, apart := false, narrowed := true }
def InternStableUptoSaid : Prop := internStableUptoRow.holds Try.pinned (OpenSpec.upto internStableSpec)

/-- 'seepagelaw03.InternReuses', WHERE WHAT IT READS IS OF BULK AT MOST 1048576: true; the input reads as it did. -/
def internReusesUptoRow : OpenClaim := { program := "ythlfmlpdnbeelaa", sum := "8ba31220378dfdf2afa679ce9ab0af3389912ae5896422c56005fe5d45a83bb1", func := "seepage/seepagelaw03.InternReuses", spec := "internReuses", unfollowed := true, recurses := true, apart := false, narrowed := true }
def InternReusesUptoSaid : Prop := internReusesUptoRow.holds Try.pinned (OpenSpec.upto internReusesSpec)

/-- 'seepagelaw03.InternAgain', WHERE WHAT IT READS IS OF BULK AT MOST 1048576: true; the input reads as it did. -/
def internAgainUptoRow : OpenClaim := { program := "ythlfmlpdnbeelaa", sum := "8ba31220378dfdf2afa679ce9ab0af3389912ae5896422c56005fe5d45a83bb1", func := "seepage/seepagelaw03.InternAgain", spec := "internAgain", unfollowed := true, recurses := true, apart := false, narrowed := true }
def InternAgainUptoSaid : Prop := internAgainUptoRow.holds Try.pinned (OpenSpec.upto internAgainSpec)

/-- 'seepagelaw03.InternNews', WHERE WHAT IT READS IS OF BULK AT MOST 1048576: true; the input reads as it did. -/
def internNewsUptoRow : OpenClaim := { program := "ythlfmlpdnbeelaa", sum := "8ba31220378dfdf2afa679ce9ab0af3389912ae5896422c56005fe5d45a83bb1", func := "seepage/seepagelaw03.InternNews", spec := "internNews", unfollowed := true, recurses := true, apart := false, narrowed := true }
def InternNewsUptoSaid : Prop := internNewsUptoRow.holds Try.pinned (OpenSpec.upto internNewsSpec)

/-- 'seepagelaw03.InternOneToOne', WHERE WHAT IT READS IS OF BULK AT MOST 1048576: true; the input reads as it did. -/
def internOneToOneUptoRow : OpenClaim := { program := "ythlfmlpdnbeelaa", sum := "8ba31220378dfdf2afa679ce9ab0af3389912ae5896422c56005fe5d45a83bb1", func := "seepage/seepagelaw03.InternOneToOne", spec := "internOneToOne", unfollowed := true, recurses := true, apart := false, narrowed := true }
def InternOneToOneUptoSaid : Prop := internOneToOneUptoRow.holds Try.pinned (OpenSpec.upto internOneToOneSpec)

/-- 'seepagelaw03.InternCopies', WHERE WHAT IT READS IS OF BULK AT MOST 1048576: true; the input reads as it did. -/
def internCopiesUptoRow : OpenClaim := { program := "ythlfmlpdnbeelaa", sum := "8ba31220378dfdf2afa679ce9ab0af3389912ae5896422c56005fe5d45a83bb1", func := "seepage/seepagelaw03.InternCopies", spec := "internCopies", unfollowed := true, recurses := true, apart := false, narrowed := true }
def InternCopiesUptoSaid : Prop := internCopiesUptoRow.holds Try.pinned (OpenSpec.upto internCopiesSpec)

/-- 'seepagelaw03.InternPlays', WHERE WHAT IT READS IS OF BULK AT MOST 1048576: true; the input reads as it did. -/
def internPlaysUptoRow : OpenClaim := { program := "ythlfmlpdnbeelaa", sum := "8ba31220378dfdf2afa679ce9ab0af3389912ae5896422c56005fe5d45a83bb1", func := "seepage/seepagelaw03.InternPlays", spec := "internPlays", unfollowed := true, recurses := true, apart := false, narrowed := true }
def InternPlaysUptoSaid : Prop := internPlaysUptoRow.holds Try.pinned (OpenSpec.upto internPlaysSpec)

/-- 'seepagelaw03.InternNil', WHERE WHAT IT READS IS OF BULK AT MOST 1048576: true; the input reads as it did. -/
def internNilUptoRow : OpenClaim := { program := "ythlfmlpdnbeelaa", sum := "8ba31220378dfdf2afa679ce9ab0af3389912ae5896422c56005fe5d45a83bb1", func := "seepage/seepagelaw03.InternNil", spec := "internNil", unfollowed := true, recurses := true, apart := false, narrowed := true }
def InternNilUptoSaid : Prop := internNilUptoRow.holds Try.pinned (OpenSpec.upto internNilSpec)

/-- 'seepagelaw34.StoreKeeps', WHERE WHAT IT READS IS OF BULK AT MOST 1048576: true; the input reads as it did. -/
def storeKeepsUptoRow : OpenClaim := { program := "ythlfmlpdnbeelaa", sum := "8ba31220378dfdf2afa679ce9ab0af3389912ae5896422c56005fe5d45a83bb1", func := "seepage/seepagelaw34.StoreKeeps", spec := "storeKeeps", unfollowed := true, recurses := true, apart := false, narrowed := true }
def StoreKeepsUptoSaid : Prop := storeKeepsUptoRow.holds Try.pinned (OpenSpec.upto storeKeepsSpec)

/-- 'seepagelaw34.StoreVertices', WHERE WHAT IT READS IS OF BULK AT MOST 1048576: true; the input reads as it did. -/
def storeVerticesUptoRow : OpenClaim := { program := "ythlfmlpdnbeelaa", sum := "8ba31220378dfdf2afa679ce9ab0af3389912ae5896422c56005fe5d45a83bb1", func := "seepage/seepagelaw34.StoreVertices", spec := "storeVertices", unfollowed := true, recurses := true, apart := false, narrowed := true }
def StoreVerticesUptoSaid : Prop := storeVerticesUptoRow.holds Try.pinned (OpenSpec.upto storeVerticesSpec)

/-- 'seepagelaw34.StoreRefuses', WHERE WHAT IT READS IS OF BULK AT MOST 1048576: true; the input reads as it did. -/
def storeRefusesUptoRow : OpenClaim := { program := "ythlfmlpdnbeelaa", sum := "8ba31220378dfdf2afa679ce9ab0af3389912ae5896422c56005fe5d45a83bb1", func := "seepage/seepagelaw34.StoreRefuses", spec := "storeRefuses", unfollowed := true, recurses := true, apart := false, narrowed := true }
def StoreRefusesUptoSaid : Prop := storeRefusesUptoRow.holds Try.pinned (OpenSpec.upto storeRefusesSpec)

/-- 'seepagelaw34.StoreEmpties', WHERE WHAT IT READS IS OF BULK AT MOST 1048576: true; the input reads as it did. -/
def storeEmptiesUptoRow : OpenClaim := { program := "ythlfmlpdnbeelaa", sum := "8ba31220378dfdf2afa679ce9ab0af3389912ae5896422c56005fe5d45a83bb1", func := "seepage/seepagelaw34.StoreEmpties", spec := "storeEmpties", unfollowed := true, recurses := true, apart := false, narrowed := true }
def StoreEmptiesUptoSaid : Prop := storeEmptiesUptoRow.holds Try.pinned (OpenSpec.upto storeEmptiesSpec)

/-- 'seepagelaw34.StoreCopies', WHERE WHAT IT READS IS OF BULK AT MOST 1048576: true; the input reads as it did. -/
def storeCopiesUptoRow : OpenClaim := { program := "ythlfmlpdnbeelaa", sum := "8ba31220378dfdf2afa679ce9ab0af3389912ae5896422c56005fe5d45a83bb1", func := "seepage/seepagelaw34.StoreCopies", spec := "storeCopies", unfollowed := true, recurses := true, apart := false, narrowed := true }
def StoreCopiesUptoSaid : Prop := storeCopiesUptoRow.holds Try.pinned (OpenSpec.upto storeCopiesSpec)

/-- 'seepagelaw34.StoreNil', WHERE WHAT IT READS IS OF BULK AT MOST 1048576: true; the input reads as it did. -/
def storeNilUptoRow : OpenClaim := { program := "ythlfmlpdnbeelaa", sum := "8ba31220378dfdf2afa679ce9ab0af3389912ae5896422c56005fe5d45a83bb1", func := "seepage/seepagelaw34.StoreNil", spec := "storeNil", unfollowed := true, recurses := true, apart := false, narrowed := true }
def StoreNilUptoSaid : Prop := storeNilUptoRow.holds Try.pinned (OpenSpec.upto storeNilSpec)

end Rows
end Go.Proofs.Ythlfmlpdnbeelaa
