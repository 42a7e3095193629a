/-
  No cell of these rows narrows 'for every input' (looked for: loops, veiled, ifaces, maps, wideKeys, modest, calm, conditions, laid).
  DERIVED. THE GIVEN ROWS OF THIS SEAT. 12 by the template 'for every input the law returns true; each argument reads behind the call as it read before'; 0 by the template 'total and deterministic' (their statements: YmbrcyTotals.lean).
  GIVEN WITH THE SEED: the statements are not yours to turn. If you find one false, say at which input.
  Laid BY PROGRAM, IN A SANDBOX (cutbox-rows.mjs): the forced cells as the released guide's own fill.sh prints them over the translation ec67163e333a046a… (all of the seat's roots in one cut). By AI agents, Wed Nov 11 2026. No macro, syntax, notation, axiom, sorry.
-/
import Derived.Test.YmbrcyChecked
import GoSem.Claim
import GoSem.ClaimJoined
import GoSem.ClaimMapViews
import Derived.JoinedTies
import Derived.KernelRfl
namespace Go.Proofs.Ymbrcy
/- THE CELL 'sum', in the pinned program and in every row, IS THE sha256 OF THE DUMP (.gsa) THAT YmbrcyProg.lean LOADS. Nothing in Lean hashes anything: it is a label: what it is worth is what the hold of that sum in a sandbox is worth. -/
noncomputable def Ycym.pinned : Pinned := { name := "ymbrcy", sum := "ec67163e333a046afb1d91bc5934344aa9645950a1f956ee28e9156f2821c5e8", checked := Ycym.checked }
namespace Rows
def none {H : Type} : Left H := { results := [], args := [] }

/-- 'heapq.LawS930008EOrder': WHATEVER THE INPUT: true; the input reads as it did. -/
def lawS930008EOrderSpec : ChangeSpec := { name := "lawS930008EOrder", fn := fun _ => fun
  | [d] => { results := [.lit (.bool true)], args := [d] }
  | _ => none }
def lawS930008EOrderRow : OpenClaim := { program := "ymbrcy", sum := "ec67163e333a046afb1d91bc5934344aa9645950a1f956ee28e9156f2821c5e8", func := "example.com/own/heapq.LawS930008EOrder", spec := "lawS930008EOrder", apart := false }
def LawS930008EOrderSaid : Prop := lawS930008EOrderRow.holds Ycym.pinned (OpenSpec.ofChange lawS930008EOrderSpec)

/-- ITS FALSE NEIGHBOUR: 'it returns false'. Refute it at one input. -/
def lawS930008EOrderWrong : ChangeSpec := { name := "lawS930008EOrder", fn := fun _ => fun
  | [d] => { results := [.lit (.bool false)], args := [d] }
  | _ => none }
def LawS930008EOrderWrongFalsely : Prop := lawS930008EOrderRow.holds Ycym.pinned (OpenSpec.ofChange lawS930008EOrderWrong)

/-- 'heapq.LawS930008ECount': WHATEVER THE INPUT: true; the input reads as it did. -/
def lawS930008ECountSpec : ChangeSpec := { name := "lawS930008ECount", fn := fun _ => fun
  | [d1, d2] => { results := [.lit (.bool true)], args := [d1, d2] }
  | _ => none }
def lawS930008ECountRow : OpenClaim := { program := "ymbrcy", sum := "ec67163e333a046afb1d91bc5934344aa9645950a1f956ee28e9156f2821c5e8", func := "example.com/own/heapq.LawS930008ECount", spec := "lawS930008ECount", apart := false }
def LawS930008ECountSaid : Prop := lawS930008ECountRow.holds Ycym.pinned (OpenSpec.ofChange lawS930008ECountSpec)

/-- ITS FALSE NEIGHBOUR: 'it returns false'. Refute it at one input. -/
def lawS930008ECountWrong : ChangeSpec := { name := "lawS930008ECount", fn := fun _ => fun
  | [d1, d2] => { results := [.lit (.bool false)], args := [d1, d2] }
  | _ => none }
def LawS930008ECountWrongFalsely : Prop := lawS930008ECountRow.holds Ycym.pinned (OpenSpec.ofChange lawS930008ECountWrong)

/-- 'heapq.LawS930008ECopy': WHATEVER THE INPUT: true; the input reads as it did. -/
def lawS930008ECopySpec : ChangeSpec := { name := "lawS930008ECopy", fn := fun _ => fun
  | [d] => { results := [.lit (.bool true)], args := [d] }
  | _ => none }
def lawS930008ECopyRow : OpenClaim := { program := "ymbrcy", sum := "ec67163e333a046afb1d91bc5934344aa9645950a1f956ee28e9156f2821c5e8", func := "example.com/own/heapq.LawS930008ECopy", spec := "lawS930008ECopy", apart := false }
def LawS930008ECopySaid : Prop := lawS930008ECopyRow.holds Ycym.pinned (OpenSpec.ofChange lawS930008ECopySpec)

/-- ITS FALSE NEIGHBOUR: 'it returns false'. Refute it at one input. -/
def lawS930008ECopyWrong : ChangeSpec := { name := "lawS930008ECopy", fn := fun _ => fun
  | [d] => { results := [.lit (.bool false)], args := [d] }
  | _ => none }
def LawS930008ECopyWrongFalsely : Prop := lawS930008ECopyRow.holds Ycym.pinned (OpenSpec.ofChange lawS930008ECopyWrong)

/-- 'heapq.LawS930008FChildren': WHATEVER THE INPUT: true; the input reads as it did. -/
def lawS930008FChildrenSpec : ChangeSpec := { name := "lawS930008FChildren", fn := fun _ => fun
  | [d] => { results := [.lit (.bool true)], args := [d] }
  | _ => none }
def lawS930008FChildrenRow : OpenClaim := { program := "ymbrcy", sum := "ec67163e333a046afb1d91bc5934344aa9645950a1f956ee28e9156f2821c5e8", func := "example.com/own/heapq.LawS930008FChildren", spec := "lawS930008FChildren", apart := false }
def LawS930008FChildrenSaid : Prop := lawS930008FChildrenRow.holds Ycym.pinned (OpenSpec.ofChange lawS930008FChildrenSpec)

/-- ITS FALSE NEIGHBOUR: 'it returns false'. Refute it at one input. -/
def lawS930008FChildrenWrong : ChangeSpec := { name := "lawS930008FChildren", fn := fun _ => fun
  | [d] => { results := [.lit (.bool false)], args := [d] }
  | _ => none }
def LawS930008FChildrenWrongFalsely : Prop := lawS930008FChildrenRow.holds Ycym.pinned (OpenSpec.ofChange lawS930008FChildrenWrong)

/-- 'heapq.LawS930008FBreak': WHATEVER THE INPUT: true; the input reads as it did. -/
def lawS930008FBreakSpec : ChangeSpec := { name := "lawS930008FBreak", fn := fun _ => fun
  | [d1, d2, d3, d4, d5] => { results := [.lit (.bool true)], args := [d1, d2, d3, d4, d5] }
  | _ => none }
def lawS930008FBreakRow : OpenClaim := { program := "ymbrcy", sum := "ec67163e333a046afb1d91bc5934344aa9645950a1f956ee28e9156f2821c5e8", func := "example.com/own/heapq.LawS930008FBreak", spec := "lawS930008FBreak", apart := false }
def LawS930008FBreakSaid : Prop := lawS930008FBreakRow.holds Ycym.pinned (OpenSpec.ofChange lawS930008FBreakSpec)

/-- ITS FALSE NEIGHBOUR: 'it returns false'. Refute it at one input. -/
def lawS930008FBreakWrong : ChangeSpec := { name := "lawS930008FBreak", fn := fun _ => fun
  | [d1, d2, d3, d4, d5] => { results := [.lit (.bool false)], args := [d1, d2, d3, d4, d5] }
  | _ => none }
def LawS930008FBreakWrongFalsely : Prop := lawS930008FBreakRow.holds Ycym.pinned (OpenSpec.ofChange lawS930008FBreakWrong)

/-- 'heapq.LawS930008FRoot': WHATEVER THE INPUT: true; the input reads as it did. -/
def lawS930008FRootSpec : ChangeSpec := { name := "lawS930008FRoot", fn := fun _ => fun
  | [d] => { results := [.lit (.bool true)], args := [d] }
  | _ => none }
def lawS930008FRootRow : OpenClaim := { program := "ymbrcy", sum := "ec67163e333a046afb1d91bc5934344aa9645950a1f956ee28e9156f2821c5e8", func := "example.com/own/heapq.LawS930008FRoot", spec := "lawS930008FRoot", apart := false }
def LawS930008FRootSaid : Prop := lawS930008FRootRow.holds Ycym.pinned (OpenSpec.ofChange lawS930008FRootSpec)

/-- ITS FALSE NEIGHBOUR: 'it returns false'. Refute it at one input. -/
def lawS930008FRootWrong : ChangeSpec := { name := "lawS930008FRoot", fn := fun _ => fun
  | [d] => { results := [.lit (.bool false)], args := [d] }
  | _ => none }
def LawS930008FRootWrongFalsely : Prop := lawS930008FRootRow.holds Ycym.pinned (OpenSpec.ofChange lawS930008FRootWrong)

/-- 'heapq.LawS930008GKeeps': WHATEVER THE INPUT: true; the input reads as it did. -/
def lawS930008GKeepsSpec : ChangeSpec := { name := "lawS930008GKeeps", fn := fun _ => fun
  | [d1, d2, d3] => { results := [.lit (.bool true)], args := [d1, d2, d3] }
  | _ => none }
def lawS930008GKeepsRow : OpenClaim := { program := "ymbrcy", sum := "ec67163e333a046afb1d91bc5934344aa9645950a1f956ee28e9156f2821c5e8", func := "example.com/own/heapq.LawS930008GKeeps", spec := "lawS930008GKeeps", apart := false }
def LawS930008GKeepsSaid : Prop := lawS930008GKeepsRow.holds Ycym.pinned (OpenSpec.ofChange lawS930008GKeepsSpec)

/-- ITS FALSE NEIGHBOUR: 'it returns false'. Refute it at one input. -/
def lawS930008GKeepsWrong : ChangeSpec := { name := "lawS930008GKeeps", fn := fun _ => fun
  | [d1, d2, d3] => { results := [.lit (.bool false)], args := [d1, d2, d3] }
  | _ => none }
def LawS930008GKeepsWrongFalsely : Prop := lawS930008GKeepsRow.holds Ycym.pinned (OpenSpec.ofChange lawS930008GKeepsWrong)

/-- 'heapq.LawS930008GValid': WHATEVER THE INPUT: true; the input reads as it did. -/
def lawS930008GValidSpec : ChangeSpec := { name := "lawS930008GValid", fn := fun _ => fun
  | [d1, d2] => { results := [.lit (.bool true)], args := [d1, d2] }
  | _ => none }
def lawS930008GValidRow : OpenClaim := { program := "ymbrcy", sum := "ec67163e333a046afb1d91bc5934344aa9645950a1f956ee28e9156f2821c5e8", func := "example.com/own/heapq.LawS930008GValid", spec := "lawS930008GValid", apart := false }
def LawS930008GValidSaid : Prop := lawS930008GValidRow.holds Ycym.pinned (OpenSpec.ofChange lawS930008GValidSpec)

/-- ITS FALSE NEIGHBOUR: 'it returns false'. Refute it at one input. -/
def lawS930008GValidWrong : ChangeSpec := { name := "lawS930008GValid", fn := fun _ => fun
  | [d1, d2] => { results := [.lit (.bool false)], args := [d1, d2] }
  | _ => none }
def LawS930008GValidWrongFalsely : Prop := lawS930008GValidRow.holds Ycym.pinned (OpenSpec.ofChange lawS930008GValidWrong)

/-- 'heapq.LawS930008GRange': WHATEVER THE INPUT: true; the input reads as it did. -/
def lawS930008GRangeSpec : ChangeSpec := { name := "lawS930008GRange", fn := fun _ => fun
  | [d1, d2] => { results := [.lit (.bool true)], args := [d1, d2] }
  | _ => none }
def lawS930008GRangeRow : OpenClaim := { program := "ymbrcy", sum := "ec67163e333a046afb1d91bc5934344aa9645950a1f956ee28e9156f2821c5e8", func := "example.com/own/heapq.LawS930008GRange", spec := "lawS930008GRange", apart := false }
def LawS930008GRangeSaid : Prop := lawS930008GRangeRow.holds Ycym.pinned (OpenSpec.ofChange lawS930008GRangeSpec)

/-- ITS FALSE NEIGHBOUR: 'it returns false'. Refute it at one input. -/
def lawS930008GRangeWrong : ChangeSpec := { name := "lawS930008GRange", fn := fun _ => fun
  | [d1, d2] => { results := [.lit (.bool false)], args := [d1, d2] }
  | _ => none }
def LawS930008GRangeWrongFalsely : Prop := lawS930008GRangeRow.holds Ycym.pinned (OpenSpec.ofChange lawS930008GRangeWrong)

/-- 'heapq.LawS930008HValid': WHATEVER THE INPUT: true; the input reads as it did. -/
def lawS930008HValidSpec : ChangeSpec := { name := "lawS930008HValid", fn := fun _ => fun
  | [d1, d2, d3] => { results := [.lit (.bool true)], args := [d1, d2, d3] }
  | _ => none }
def lawS930008HValidRow : OpenClaim := { program := "ymbrcy", sum := "ec67163e333a046afb1d91bc5934344aa9645950a1f956ee28e9156f2821c5e8", func := "example.com/own/heapq.LawS930008HValid", spec := "lawS930008HValid", apart := false }
def LawS930008HValidSaid : Prop := lawS930008HValidRow.holds Ycym.pinned (OpenSpec.ofChange lawS930008HValidSpec)

/-- ITS FALSE NEIGHBOUR: 'it returns false'. Refute it at one input. -/
def lawS930008HValidWrong : ChangeSpec := { name := "lawS930008HValid", fn := fun _ => fun
  | [d1, d2, d3] => { results := [.lit (.bool false)], args := [d1, d2, d3] }
  | _ => none }
def LawS930008HValidWrongFalsely : Prop := lawS930008HValidRow.holds Ycym.pinned (OpenSpec.ofChange lawS930008HValidWrong)

/-- 'heapq.LawS930008HPath': WHATEVER THE INPUT: true; the input reads as it did. -/
def lawS930008HPathSpec : ChangeSpec := { name := "lawS930008HPath", fn := fun _ => fun
  | [d1, d2, d3] => { results := [.lit (.bool true)], args := [d1, d2, d3] }
  | _ => none }
def lawS930008HPathRow : OpenClaim := { program := "ymbrcy", sum := "ec67163e333a046afb1d91bc5934344aa9645950a1f956ee28e9156f2821c5e8", func := "example.com/own/heapq.LawS930008HPath", spec := "lawS930008HPath", apart := false }
def LawS930008HPathSaid : Prop := lawS930008HPathRow.holds Ycym.pinned (OpenSpec.ofChange lawS930008HPathSpec)

/-- ITS FALSE NEIGHBOUR: 'it returns false'. Refute it at one input. -/
def lawS930008HPathWrong : ChangeSpec := { name := "lawS930008HPath", fn := fun _ => fun
  | [d1, d2, d3] => { results := [.lit (.bool false)], args := [d1, d2, d3] }
  | _ => none }
def LawS930008HPathWrongFalsely : Prop := lawS930008HPathRow.holds Ycym.pinned (OpenSpec.ofChange lawS930008HPathWrong)

/-- 'heapq.LawS930008HRise': WHATEVER THE INPUT: true; the input reads as it did. -/
def lawS930008HRiseSpec : ChangeSpec := { name := "lawS930008HRise", fn := fun _ => fun
  | [d1, d2, d3] => { results := [.lit (.bool true)], args := [d1, d2, d3] }
  | _ => none }
def lawS930008HRiseRow : OpenClaim := { program := "ymbrcy", sum := "ec67163e333a046afb1d91bc5934344aa9645950a1f956ee28e9156f2821c5e8", func := "example.com/own/heapq.LawS930008HRise", spec := "lawS930008HRise", apart := false }
def LawS930008HRiseSaid : Prop := lawS930008HRiseRow.holds Ycym.pinned (OpenSpec.ofChange lawS930008HRiseSpec)

/-- ITS FALSE NEIGHBOUR: 'it returns false'. Refute it at one input. -/
def lawS930008HRiseWrong : ChangeSpec := { name := "lawS930008HRise", fn := fun _ => fun
  | [d1, d2, d3] => { results := [.lit (.bool false)], args := [d1, d2, d3] }
  | _ => none }
def LawS930008HRiseWrongFalsely : Prop := lawS930008HRiseRow.holds Ycym.pinned (OpenSpec.ofChange lawS930008HRiseWrong)

end Rows
end Go.Proofs.Ymbrcy
