/-
  No cell of these rows narrows 'for every input' (looked for: loops, veiled, ifaces, maps, wideKeys, modest, calm, conditions, laid).
  DERIVED. THE GIVEN ROWS OF THIS SEAT. 12 by the template 'for every input the law returns true; each argument reads behind the call as it read before'; 0 by the template 'total and deterministic' (their statements: YmbrcxTotals.lean).
  GIVEN WITH THE SEED: the statements are not yours to turn. If you find one false, say at which input.
  Laid BY PROGRAM, IN A SANDBOX (cutbox-rows.mjs): the forced cells as the released guide's own fill.sh prints them over the translation f8a8ee5410c368e9… (all of the seat's roots in one cut). By AI agents, Wed Nov 11 2026. No macro, syntax, notation, axiom, sorry.
-/
import Derived.Test.YmbrcxChecked
import GoSem.Claim
import GoSem.ClaimJoined
import GoSem.ClaimMapViews
import Derived.JoinedTies
import Derived.KernelRfl
namespace Go.Proofs.Ymbrcx
/- THE CELL 'sum', in the pinned program and in every row, IS THE sha256 OF THE DUMP (.gsa) THAT YmbrcxProg.lean LOADS. Nothing in Lean hashes anything: it is a label: what it is worth is what the hold of that sum in a sandbox is worth. -/
noncomputable def Ycxm.pinned : Pinned := { name := "ymbrcx", sum := "f8a8ee5410c368e9494e6313a82b1bec2ee23b77ee4562767ddde526bcc999bd", checked := Ycxm.checked }
namespace Rows
def none {H : Type} : Left H := { results := [], args := [] }

/-- 'heapq.LawS930008AExact': WHATEVER THE INPUT: true; the input reads as it did. -/
def lawS930008AExactSpec : ChangeSpec := { name := "lawS930008AExact", fn := fun _ => fun
  | [d1, d2, d3, d4] => { results := [.lit (.bool true)], args := [d1, d2, d3, d4] }
  | _ => none }
def lawS930008AExactRow : OpenClaim := { program := "ymbrcx", sum := "f8a8ee5410c368e9494e6313a82b1bec2ee23b77ee4562767ddde526bcc999bd", func := "example.com/own/heapq.LawS930008AExact", spec := "lawS930008AExact", apart := false }
def LawS930008AExactSaid : Prop := lawS930008AExactRow.holds Ycxm.pinned (OpenSpec.ofChange lawS930008AExactSpec)

/-- ITS FALSE NEIGHBOUR: 'it returns false'. Refute it at one input. -/
def lawS930008AExactWrong : ChangeSpec := { name := "lawS930008AExact", fn := fun _ => fun
  | [d1, d2, d3, d4] => { results := [.lit (.bool false)], args := [d1, d2, d3, d4] }
  | _ => none }
def LawS930008AExactWrongFalsely : Prop := lawS930008AExactRow.holds Ycxm.pinned (OpenSpec.ofChange lawS930008AExactWrong)

/-- 'heapq.LawS930008ATotal': WHATEVER THE INPUT: true; the input reads as it did. -/
def lawS930008ATotalSpec : ChangeSpec := { name := "lawS930008ATotal", fn := fun _ => fun
  | [d1, d2, d3, d4, d5] => { results := [.lit (.bool true)], args := [d1, d2, d3, d4, d5] }
  | _ => none }
def lawS930008ATotalRow : OpenClaim := { program := "ymbrcx", sum := "f8a8ee5410c368e9494e6313a82b1bec2ee23b77ee4562767ddde526bcc999bd", func := "example.com/own/heapq.LawS930008ATotal", spec := "lawS930008ATotal", apart := false }
def LawS930008ATotalSaid : Prop := lawS930008ATotalRow.holds Ycxm.pinned (OpenSpec.ofChange lawS930008ATotalSpec)

/-- ITS FALSE NEIGHBOUR: 'it returns false'. Refute it at one input. -/
def lawS930008ATotalWrong : ChangeSpec := { name := "lawS930008ATotal", fn := fun _ => fun
  | [d1, d2, d3, d4, d5] => { results := [.lit (.bool false)], args := [d1, d2, d3, d4, d5] }
  | _ => none }
def LawS930008ATotalWrongFalsely : Prop := lawS930008ATotalRow.holds Ycxm.pinned (OpenSpec.ofChange lawS930008ATotalWrong)

/-- 'heapq.LawS930008AWeave': WHATEVER THE INPUT: true; the input reads as it did. -/
def lawS930008AWeaveSpec : ChangeSpec := { name := "lawS930008AWeave", fn := fun _ => fun
  | [d1, d2, d3, d4, d5, d6, d7] => { results := [.lit (.bool true)], args := [d1, d2, d3, d4, d5, d6, d7] }
  | _ => none }
def lawS930008AWeaveRow : OpenClaim := { program := "ymbrcx", sum := "f8a8ee5410c368e9494e6313a82b1bec2ee23b77ee4562767ddde526bcc999bd", func := "example.com/own/heapq.LawS930008AWeave", spec := "lawS930008AWeave", apart := false }
def LawS930008AWeaveSaid : Prop := lawS930008AWeaveRow.holds Ycxm.pinned (OpenSpec.ofChange lawS930008AWeaveSpec)

/-- ITS FALSE NEIGHBOUR: 'it returns false'. Refute it at one input. -/
def lawS930008AWeaveWrong : ChangeSpec := { name := "lawS930008AWeave", fn := fun _ => fun
  | [d1, d2, d3, d4, d5, d6, d7] => { results := [.lit (.bool false)], args := [d1, d2, d3, d4, d5, d6, d7] }
  | _ => none }
def LawS930008AWeaveWrongFalsely : Prop := lawS930008AWeaveRow.holds Ycxm.pinned (OpenSpec.ofChange lawS930008AWeaveWrong)

/-- 'heapq.LawS930008BInsertion': WHATEVER THE INPUT: true; the input reads as it did. -/
def lawS930008BInsertionSpec : ChangeSpec := { name := "lawS930008BInsertion", fn := fun _ => fun
  | [d] => { results := [.lit (.bool true)], args := [d] }
  | _ => none }
def lawS930008BInsertionRow : OpenClaim := { program := "ymbrcx", sum := "f8a8ee5410c368e9494e6313a82b1bec2ee23b77ee4562767ddde526bcc999bd", func := "example.com/own/heapq.LawS930008BInsertion", spec := "lawS930008BInsertion", apart := false }
def LawS930008BInsertionSaid : Prop := lawS930008BInsertionRow.holds Ycxm.pinned (OpenSpec.ofChange lawS930008BInsertionSpec)

/-- ITS FALSE NEIGHBOUR: 'it returns false'. Refute it at one input. -/
def lawS930008BInsertionWrong : ChangeSpec := { name := "lawS930008BInsertion", fn := fun _ => fun
  | [d] => { results := [.lit (.bool false)], args := [d] }
  | _ => none }
def LawS930008BInsertionWrongFalsely : Prop := lawS930008BInsertionRow.holds Ycxm.pinned (OpenSpec.ofChange lawS930008BInsertionWrong)

/-- 'heapq.LawS930008BRank': WHATEVER THE INPUT: true; the input reads as it did. -/
def lawS930008BRankSpec : ChangeSpec := { name := "lawS930008BRank", fn := fun _ => fun
  | [d] => { results := [.lit (.bool true)], args := [d] }
  | _ => none }
def lawS930008BRankRow : OpenClaim := { program := "ymbrcx", sum := "f8a8ee5410c368e9494e6313a82b1bec2ee23b77ee4562767ddde526bcc999bd", func := "example.com/own/heapq.LawS930008BRank", spec := "lawS930008BRank", apart := false }
def LawS930008BRankSaid : Prop := lawS930008BRankRow.holds Ycxm.pinned (OpenSpec.ofChange lawS930008BRankSpec)

/-- ITS FALSE NEIGHBOUR: 'it returns false'. Refute it at one input. -/
def lawS930008BRankWrong : ChangeSpec := { name := "lawS930008BRank", fn := fun _ => fun
  | [d] => { results := [.lit (.bool false)], args := [d] }
  | _ => none }
def LawS930008BRankWrongFalsely : Prop := lawS930008BRankRow.holds Ycxm.pinned (OpenSpec.ofChange lawS930008BRankWrong)

/-- 'heapq.LawS930008BReversed': WHATEVER THE INPUT: true; the input reads as it did. -/
def lawS930008BReversedSpec : ChangeSpec := { name := "lawS930008BReversed", fn := fun _ => fun
  | [d] => { results := [.lit (.bool true)], args := [d] }
  | _ => none }
def lawS930008BReversedRow : OpenClaim := { program := "ymbrcx", sum := "f8a8ee5410c368e9494e6313a82b1bec2ee23b77ee4562767ddde526bcc999bd", func := "example.com/own/heapq.LawS930008BReversed", spec := "lawS930008BReversed", apart := false }
def LawS930008BReversedSaid : Prop := lawS930008BReversedRow.holds Ycxm.pinned (OpenSpec.ofChange lawS930008BReversedSpec)

/-- ITS FALSE NEIGHBOUR: 'it returns false'. Refute it at one input. -/
def lawS930008BReversedWrong : ChangeSpec := { name := "lawS930008BReversed", fn := fun _ => fun
  | [d] => { results := [.lit (.bool false)], args := [d] }
  | _ => none }
def LawS930008BReversedWrongFalsely : Prop := lawS930008BReversedRow.holds Ycxm.pinned (OpenSpec.ofChange lawS930008BReversedWrong)

/-- 'heapq.LawS930008CPairs': WHATEVER THE INPUT: true; the input reads as it did. -/
def lawS930008CPairsSpec : ChangeSpec := { name := "lawS930008CPairs", fn := fun _ => fun
  | [d] => { results := [.lit (.bool true)], args := [d] }
  | _ => none }
def lawS930008CPairsRow : OpenClaim := { program := "ymbrcx", sum := "f8a8ee5410c368e9494e6313a82b1bec2ee23b77ee4562767ddde526bcc999bd", func := "example.com/own/heapq.LawS930008CPairs", spec := "lawS930008CPairs", apart := false }
def LawS930008CPairsSaid : Prop := lawS930008CPairsRow.holds Ycxm.pinned (OpenSpec.ofChange lawS930008CPairsSpec)

/-- ITS FALSE NEIGHBOUR: 'it returns false'. Refute it at one input. -/
def lawS930008CPairsWrong : ChangeSpec := { name := "lawS930008CPairs", fn := fun _ => fun
  | [d] => { results := [.lit (.bool false)], args := [d] }
  | _ => none }
def LawS930008CPairsWrongFalsely : Prop := lawS930008CPairsRow.holds Ycxm.pinned (OpenSpec.ofChange lawS930008CPairsWrong)

/-- 'heapq.LawS930008CDip': WHATEVER THE INPUT: true; the input reads as it did. -/
def lawS930008CDipSpec : ChangeSpec := { name := "lawS930008CDip", fn := fun _ => fun
  | [d1, d2, d3] => { results := [.lit (.bool true)], args := [d1, d2, d3] }
  | _ => none }
def lawS930008CDipRow : OpenClaim := { program := "ymbrcx", sum := "f8a8ee5410c368e9494e6313a82b1bec2ee23b77ee4562767ddde526bcc999bd", func := "example.com/own/heapq.LawS930008CDip", spec := "lawS930008CDip", apart := false }
def LawS930008CDipSaid : Prop := lawS930008CDipRow.holds Ycxm.pinned (OpenSpec.ofChange lawS930008CDipSpec)

/-- ITS FALSE NEIGHBOUR: 'it returns false'. Refute it at one input. -/
def lawS930008CDipWrong : ChangeSpec := { name := "lawS930008CDip", fn := fun _ => fun
  | [d1, d2, d3] => { results := [.lit (.bool false)], args := [d1, d2, d3] }
  | _ => none }
def LawS930008CDipWrongFalsely : Prop := lawS930008CDipRow.holds Ycxm.pinned (OpenSpec.ofChange lawS930008CDipWrong)

/-- 'heapq.LawS930008CCut': WHATEVER THE INPUT: true; the input reads as it did. -/
def lawS930008CCutSpec : ChangeSpec := { name := "lawS930008CCut", fn := fun _ => fun
  | [d1, d2] => { results := [.lit (.bool true)], args := [d1, d2] }
  | _ => none }
def lawS930008CCutRow : OpenClaim := { program := "ymbrcx", sum := "f8a8ee5410c368e9494e6313a82b1bec2ee23b77ee4562767ddde526bcc999bd", func := "example.com/own/heapq.LawS930008CCut", spec := "lawS930008CCut", apart := false }
def LawS930008CCutSaid : Prop := lawS930008CCutRow.holds Ycxm.pinned (OpenSpec.ofChange lawS930008CCutSpec)

/-- ITS FALSE NEIGHBOUR: 'it returns false'. Refute it at one input. -/
def lawS930008CCutWrong : ChangeSpec := { name := "lawS930008CCut", fn := fun _ => fun
  | [d1, d2] => { results := [.lit (.bool false)], args := [d1, d2] }
  | _ => none }
def LawS930008CCutWrongFalsely : Prop := lawS930008CCutRow.holds Ycxm.pinned (OpenSpec.ofChange lawS930008CCutWrong)

/-- 'heapq.LawS930008DExact': WHATEVER THE INPUT: true; the input reads as it did. -/
def lawS930008DExactSpec : ChangeSpec := { name := "lawS930008DExact", fn := fun _ => fun
  | [d1, d2] => { results := [.lit (.bool true)], args := [d1, d2] }
  | _ => none }
def lawS930008DExactRow : OpenClaim := { program := "ymbrcx", sum := "f8a8ee5410c368e9494e6313a82b1bec2ee23b77ee4562767ddde526bcc999bd", func := "example.com/own/heapq.LawS930008DExact", spec := "lawS930008DExact", apart := false }
def LawS930008DExactSaid : Prop := lawS930008DExactRow.holds Ycxm.pinned (OpenSpec.ofChange lawS930008DExactSpec)

/-- ITS FALSE NEIGHBOUR: 'it returns false'. Refute it at one input. -/
def lawS930008DExactWrong : ChangeSpec := { name := "lawS930008DExact", fn := fun _ => fun
  | [d1, d2] => { results := [.lit (.bool false)], args := [d1, d2] }
  | _ => none }
def LawS930008DExactWrongFalsely : Prop := lawS930008DExactRow.holds Ycxm.pinned (OpenSpec.ofChange lawS930008DExactWrong)

/-- 'heapq.LawS930008DHeap': WHATEVER THE INPUT: true; the input reads as it did. -/
def lawS930008DHeapSpec : ChangeSpec := { name := "lawS930008DHeap", fn := fun _ => fun
  | [d1, d2] => { results := [.lit (.bool true)], args := [d1, d2] }
  | _ => none }
def lawS930008DHeapRow : OpenClaim := { program := "ymbrcx", sum := "f8a8ee5410c368e9494e6313a82b1bec2ee23b77ee4562767ddde526bcc999bd", func := "example.com/own/heapq.LawS930008DHeap", spec := "lawS930008DHeap", apart := false }
def LawS930008DHeapSaid : Prop := lawS930008DHeapRow.holds Ycxm.pinned (OpenSpec.ofChange lawS930008DHeapSpec)

/-- ITS FALSE NEIGHBOUR: 'it returns false'. Refute it at one input. -/
def lawS930008DHeapWrong : ChangeSpec := { name := "lawS930008DHeap", fn := fun _ => fun
  | [d1, d2] => { results := [.lit (.bool false)], args := [d1, d2] }
  | _ => none }
def LawS930008DHeapWrongFalsely : Prop := lawS930008DHeapRow.holds Ycxm.pinned (OpenSpec.ofChange lawS930008DHeapWrong)

/-- 'heapq.LawS930008DKept': WHATEVER THE INPUT: true; the input reads as it did. -/
def lawS930008DKeptSpec : ChangeSpec := { name := "lawS930008DKept", fn := fun _ => fun
  | [d1, d2, d3] => { results := [.lit (.bool true)], args := [d1, d2, d3] }
  | _ => none }
def lawS930008DKeptRow : OpenClaim := { program := "ymbrcx", sum := "f8a8ee5410c368e9494e6313a82b1bec2ee23b77ee4562767ddde526bcc999bd", func := "example.com/own/heapq.LawS930008DKept", spec := "lawS930008DKept", apart := false }
def LawS930008DKeptSaid : Prop := lawS930008DKeptRow.holds Ycxm.pinned (OpenSpec.ofChange lawS930008DKeptSpec)

/-- ITS FALSE NEIGHBOUR: 'it returns false'. Refute it at one input. -/
def lawS930008DKeptWrong : ChangeSpec := { name := "lawS930008DKept", fn := fun _ => fun
  | [d1, d2, d3] => { results := [.lit (.bool false)], args := [d1, d2, d3] }
  | _ => none }
def LawS930008DKeptWrongFalsely : Prop := lawS930008DKeptRow.holds Ycxm.pinned (OpenSpec.ofChange lawS930008DKeptWrong)

end Rows
end Go.Proofs.Ymbrcx
