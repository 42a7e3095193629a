/-
  No cell of these rows narrows 'for every input' (looked for: loops, veiled, ifaces, maps, wideKeys, modest, calm, conditions, laid).
  DERIVED. THE GIVEN ROWS OF THIS SEAT. 11 by the template 'for every input the law returns true; each argument reads behind the call as it read before'; 0 by the template 'total and deterministic' (their statements: YmbrczTotals.lean).
  GIVEN WITH THE SEED: the statements are not yours to turn. If you find one false, say at which input.
  Laid BY PROGRAM, IN A SANDBOX (cutbox-rows.mjs): the forced cells as the released guide's own fill.sh prints them over the translation 4f97d28efd49721f… (all of the seat's roots in one cut). By AI agents, Wed Nov 11 2026. No macro, syntax, notation, axiom, sorry.
-/
import Derived.Test.YmbrczChecked
import GoSem.Claim
import GoSem.ClaimJoined
import GoSem.ClaimMapViews
import Derived.JoinedTies
import Derived.KernelRfl
namespace Go.Proofs.Ymbrcz
/- THE CELL 'sum', in the pinned program and in every row, IS THE sha256 OF THE DUMP (.gsa) THAT YmbrczProg.lean LOADS. Nothing in Lean hashes anything: it is a label: what it is worth is what the hold of that sum in a sandbox is worth. -/
noncomputable def Yczm.pinned : Pinned := { name := "ymbrcz", sum := "4f97d28efd49721fdd39de19e7d5df8f63650e574b6d11373778b33a80aa23db", checked := Yczm.checked }
namespace Rows
def none {H : Type} : Left H := { results := [], args := [] }

/-- 'heapq.LawS930008IExact': WHATEVER THE INPUT: true; the input reads as it did. -/
def lawS930008IExactSpec : ChangeSpec := { name := "lawS930008IExact", fn := fun _ => fun
  | [d1, d2] => { results := [.lit (.bool true)], args := [d1, d2] }
  | _ => none }
def lawS930008IExactRow : OpenClaim := { program := "ymbrcz", sum := "4f97d28efd49721fdd39de19e7d5df8f63650e574b6d11373778b33a80aa23db", func := "example.com/own/heapq.LawS930008IExact", spec := "lawS930008IExact", apart := false }
def LawS930008IExactSaid : Prop := lawS930008IExactRow.holds Yczm.pinned (OpenSpec.ofChange lawS930008IExactSpec)

/-- ITS FALSE NEIGHBOUR: 'it returns false'. Refute it at one input. -/
def lawS930008IExactWrong : ChangeSpec := { name := "lawS930008IExact", fn := fun _ => fun
  | [d1, d2] => { results := [.lit (.bool false)], args := [d1, d2] }
  | _ => none }
def LawS930008IExactWrongFalsely : Prop := lawS930008IExactRow.holds Yczm.pinned (OpenSpec.ofChange lawS930008IExactWrong)

/-- 'heapq.LawS930008IHeld': WHATEVER THE INPUT: true; the input reads as it did. -/
def lawS930008IHeldSpec : ChangeSpec := { name := "lawS930008IHeld", fn := fun _ => fun
  | [d1, d2] => { results := [.lit (.bool true)], args := [d1, d2] }
  | _ => none }
def lawS930008IHeldRow : OpenClaim := { program := "ymbrcz", sum := "4f97d28efd49721fdd39de19e7d5df8f63650e574b6d11373778b33a80aa23db", func := "example.com/own/heapq.LawS930008IHeld", spec := "lawS930008IHeld", apart := false }
def LawS930008IHeldSaid : Prop := lawS930008IHeldRow.holds Yczm.pinned (OpenSpec.ofChange lawS930008IHeldSpec)

/-- ITS FALSE NEIGHBOUR: 'it returns false'. Refute it at one input. -/
def lawS930008IHeldWrong : ChangeSpec := { name := "lawS930008IHeld", fn := fun _ => fun
  | [d1, d2] => { results := [.lit (.bool false)], args := [d1, d2] }
  | _ => none }
def LawS930008IHeldWrongFalsely : Prop := lawS930008IHeldRow.holds Yczm.pinned (OpenSpec.ofChange lawS930008IHeldWrong)

/-- 'heapq.LawS930008ISplit': WHATEVER THE INPUT: true; the input reads as it did. -/
def lawS930008ISplitSpec : ChangeSpec := { name := "lawS930008ISplit", fn := fun _ => fun
  | [d1, d2, d3] => { results := [.lit (.bool true)], args := [d1, d2, d3] }
  | _ => none }
def lawS930008ISplitRow : OpenClaim := { program := "ymbrcz", sum := "4f97d28efd49721fdd39de19e7d5df8f63650e574b6d11373778b33a80aa23db", func := "example.com/own/heapq.LawS930008ISplit", spec := "lawS930008ISplit", apart := false }
def LawS930008ISplitSaid : Prop := lawS930008ISplitRow.holds Yczm.pinned (OpenSpec.ofChange lawS930008ISplitSpec)

/-- ITS FALSE NEIGHBOUR: 'it returns false'. Refute it at one input. -/
def lawS930008ISplitWrong : ChangeSpec := { name := "lawS930008ISplit", fn := fun _ => fun
  | [d1, d2, d3] => { results := [.lit (.bool false)], args := [d1, d2, d3] }
  | _ => none }
def LawS930008ISplitWrongFalsely : Prop := lawS930008ISplitRow.holds Yczm.pinned (OpenSpec.ofChange lawS930008ISplitWrong)

/-- 'heapq.LawS930008JExact': WHATEVER THE INPUT: true; the input reads as it did. -/
def lawS930008JExactSpec : ChangeSpec := { name := "lawS930008JExact", fn := fun _ => fun
  | [d1, d2] => { results := [.lit (.bool true)], args := [d1, d2] }
  | _ => none }
def lawS930008JExactRow : OpenClaim := { program := "ymbrcz", sum := "4f97d28efd49721fdd39de19e7d5df8f63650e574b6d11373778b33a80aa23db", func := "example.com/own/heapq.LawS930008JExact", spec := "lawS930008JExact", apart := false }
def LawS930008JExactSaid : Prop := lawS930008JExactRow.holds Yczm.pinned (OpenSpec.ofChange lawS930008JExactSpec)

/-- ITS FALSE NEIGHBOUR: 'it returns false'. Refute it at one input. -/
def lawS930008JExactWrong : ChangeSpec := { name := "lawS930008JExact", fn := fun _ => fun
  | [d1, d2] => { results := [.lit (.bool false)], args := [d1, d2] }
  | _ => none }
def LawS930008JExactWrongFalsely : Prop := lawS930008JExactRow.holds Yczm.pinned (OpenSpec.ofChange lawS930008JExactWrong)

/-- 'heapq.LawS930008JHeap': WHATEVER THE INPUT: true; the input reads as it did. -/
def lawS930008JHeapSpec : ChangeSpec := { name := "lawS930008JHeap", fn := fun _ => fun
  | [d1, d2, d3] => { results := [.lit (.bool true)], args := [d1, d2, d3] }
  | _ => none }
def lawS930008JHeapRow : OpenClaim := { program := "ymbrcz", sum := "4f97d28efd49721fdd39de19e7d5df8f63650e574b6d11373778b33a80aa23db", func := "example.com/own/heapq.LawS930008JHeap", spec := "lawS930008JHeap", apart := false }
def LawS930008JHeapSaid : Prop := lawS930008JHeapRow.holds Yczm.pinned (OpenSpec.ofChange lawS930008JHeapSpec)

/-- ITS FALSE NEIGHBOUR: 'it returns false'. Refute it at one input. -/
def lawS930008JHeapWrong : ChangeSpec := { name := "lawS930008JHeap", fn := fun _ => fun
  | [d1, d2, d3] => { results := [.lit (.bool false)], args := [d1, d2, d3] }
  | _ => none }
def LawS930008JHeapWrongFalsely : Prop := lawS930008JHeapRow.holds Yczm.pinned (OpenSpec.ofChange lawS930008JHeapWrong)

/-- 'heapq.LawS930008JSettled': WHATEVER THE INPUT: true; the input reads as it did. -/
def lawS930008JSettledSpec : ChangeSpec := { name := "lawS930008JSettled", fn := fun _ => fun
  | [d1, d2, d3] => { results := [.lit (.bool true)], args := [d1, d2, d3] }
  | _ => none }
def lawS930008JSettledRow : OpenClaim := { program := "ymbrcz", sum := "4f97d28efd49721fdd39de19e7d5df8f63650e574b6d11373778b33a80aa23db", func := "example.com/own/heapq.LawS930008JSettled", spec := "lawS930008JSettled", apart := false }
def LawS930008JSettledSaid : Prop := lawS930008JSettledRow.holds Yczm.pinned (OpenSpec.ofChange lawS930008JSettledSpec)

/-- ITS FALSE NEIGHBOUR: 'it returns false'. Refute it at one input. -/
def lawS930008JSettledWrong : ChangeSpec := { name := "lawS930008JSettled", fn := fun _ => fun
  | [d1, d2, d3] => { results := [.lit (.bool false)], args := [d1, d2, d3] }
  | _ => none }
def LawS930008JSettledWrongFalsely : Prop := lawS930008JSettledRow.holds Yczm.pinned (OpenSpec.ofChange lawS930008JSettledWrong)

/-- 'heapq.LawS930008KKept': WHATEVER THE INPUT: true; the input reads as it did. -/
def lawS930008KKeptSpec : ChangeSpec := { name := "lawS930008KKept", fn := fun _ => fun
  | [d1, d2, d3, d4] => { results := [.lit (.bool true)], args := [d1, d2, d3, d4] }
  | _ => none }
def lawS930008KKeptRow : OpenClaim := { program := "ymbrcz", sum := "4f97d28efd49721fdd39de19e7d5df8f63650e574b6d11373778b33a80aa23db", func := "example.com/own/heapq.LawS930008KKept", spec := "lawS930008KKept", apart := false }
def LawS930008KKeptSaid : Prop := lawS930008KKeptRow.holds Yczm.pinned (OpenSpec.ofChange lawS930008KKeptSpec)

/-- ITS FALSE NEIGHBOUR: 'it returns false'. Refute it at one input. -/
def lawS930008KKeptWrong : ChangeSpec := { name := "lawS930008KKept", fn := fun _ => fun
  | [d1, d2, d3, d4] => { results := [.lit (.bool false)], args := [d1, d2, d3, d4] }
  | _ => none }
def LawS930008KKeptWrongFalsely : Prop := lawS930008KKeptRow.holds Yczm.pinned (OpenSpec.ofChange lawS930008KKeptWrong)

/-- 'heapq.LawS930008KValid': WHATEVER THE INPUT: true; the input reads as it did. -/
def lawS930008KValidSpec : ChangeSpec := { name := "lawS930008KValid", fn := fun _ => fun
  | [d1, d2, d3, d4] => { results := [.lit (.bool true)], args := [d1, d2, d3, d4] }
  | _ => none }
def lawS930008KValidRow : OpenClaim := { program := "ymbrcz", sum := "4f97d28efd49721fdd39de19e7d5df8f63650e574b6d11373778b33a80aa23db", func := "example.com/own/heapq.LawS930008KValid", spec := "lawS930008KValid", apart := false }
def LawS930008KValidSaid : Prop := lawS930008KValidRow.holds Yczm.pinned (OpenSpec.ofChange lawS930008KValidSpec)

/-- ITS FALSE NEIGHBOUR: 'it returns false'. Refute it at one input. -/
def lawS930008KValidWrong : ChangeSpec := { name := "lawS930008KValid", fn := fun _ => fun
  | [d1, d2, d3, d4] => { results := [.lit (.bool false)], args := [d1, d2, d3, d4] }
  | _ => none }
def LawS930008KValidWrongFalsely : Prop := lawS930008KValidRow.holds Yczm.pinned (OpenSpec.ofChange lawS930008KValidWrong)

/-- 'heapq.LawS930008KMoves': WHATEVER THE INPUT: true; the input reads as it did. -/
def lawS930008KMovesSpec : ChangeSpec := { name := "lawS930008KMoves", fn := fun _ => fun
  | [d1, d2, d3, d4] => { results := [.lit (.bool true)], args := [d1, d2, d3, d4] }
  | _ => none }
def lawS930008KMovesRow : OpenClaim := { program := "ymbrcz", sum := "4f97d28efd49721fdd39de19e7d5df8f63650e574b6d11373778b33a80aa23db", func := "example.com/own/heapq.LawS930008KMoves", spec := "lawS930008KMoves", apart := false }
def LawS930008KMovesSaid : Prop := lawS930008KMovesRow.holds Yczm.pinned (OpenSpec.ofChange lawS930008KMovesSpec)

/-- ITS FALSE NEIGHBOUR: 'it returns false'. Refute it at one input. -/
def lawS930008KMovesWrong : ChangeSpec := { name := "lawS930008KMoves", fn := fun _ => fun
  | [d1, d2, d3, d4] => { results := [.lit (.bool false)], args := [d1, d2, d3, d4] }
  | _ => none }
def LawS930008KMovesWrongFalsely : Prop := lawS930008KMovesRow.holds Yczm.pinned (OpenSpec.ofChange lawS930008KMovesWrong)

/-- 'heapq.LawS930008LRoot': WHATEVER THE INPUT: true; the input reads as it did. -/
def lawS930008LRootSpec : ChangeSpec := { name := "lawS930008LRoot", fn := fun _ => fun
  | [d] => { results := [.lit (.bool true)], args := [d] }
  | _ => none }
def lawS930008LRootRow : OpenClaim := { program := "ymbrcz", sum := "4f97d28efd49721fdd39de19e7d5df8f63650e574b6d11373778b33a80aa23db", func := "example.com/own/heapq.LawS930008LRoot", spec := "lawS930008LRoot", apart := false }
def LawS930008LRootSaid : Prop := lawS930008LRootRow.holds Yczm.pinned (OpenSpec.ofChange lawS930008LRootSpec)

/-- ITS FALSE NEIGHBOUR: 'it returns false'. Refute it at one input. -/
def lawS930008LRootWrong : ChangeSpec := { name := "lawS930008LRoot", fn := fun _ => fun
  | [d] => { results := [.lit (.bool false)], args := [d] }
  | _ => none }
def LawS930008LRootWrongFalsely : Prop := lawS930008LRootRow.holds Yczm.pinned (OpenSpec.ofChange lawS930008LRootWrong)

/-- 'heapq.LawS930008LLeast': WHATEVER THE INPUT: true; the input reads as it did. -/
def lawS930008LLeastSpec : ChangeSpec := { name := "lawS930008LLeast", fn := fun _ => fun
  | [d] => { results := [.lit (.bool true)], args := [d] }
  | _ => none }
def lawS930008LLeastRow : OpenClaim := { program := "ymbrcz", sum := "4f97d28efd49721fdd39de19e7d5df8f63650e574b6d11373778b33a80aa23db", func := "example.com/own/heapq.LawS930008LLeast", spec := "lawS930008LLeast", apart := false }
def LawS930008LLeastSaid : Prop := lawS930008LLeastRow.holds Yczm.pinned (OpenSpec.ofChange lawS930008LLeastSpec)

/-- ITS FALSE NEIGHBOUR: 'it returns false'. Refute it at one input. -/
def lawS930008LLeastWrong : ChangeSpec := { name := "lawS930008LLeast", fn := fun _ => fun
  | [d] => { results := [.lit (.bool false)], args := [d] }
  | _ => none }
def LawS930008LLeastWrongFalsely : Prop := lawS930008LLeastRow.holds Yczm.pinned (OpenSpec.ofChange lawS930008LLeastWrong)

end Rows
end Go.Proofs.Ymbrcz
