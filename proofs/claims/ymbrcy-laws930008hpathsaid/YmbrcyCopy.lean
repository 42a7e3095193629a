/- The fresh copies by make and copy (seat Ymbrcy). -/
import Derived.Test.YmbrcyBase
namespace Go.Proofs.Ymbrcy
open Go.RowKit Go.Sort

/-- copy, as a law at its operation -/
theorem wpList_cp {w : World} {ops : Array Oper} {rest : List Oper} {o : Oper} {a : Act} {Q : Exit → Act → World → Prop} (hgd : o.guard = none) (dst src : Operand)
    (ho : o.op = .call { callee := .builtin .copy, args := #[dst, src], argTypes := #[22, 22] }) (b n cap1 cap2 : Nat) (ad : Option Addr) (d e : Nat → It)
    (hd : a.eval dst = .slice (some ⟨b, 0, none⟩) n cap1) (hs : a.eval src = .slice ad n cap2) (how : Own w b n e) (hsl : Sl w ad n d)
    (h : ∀ w', Own w' b n d → Fr (· = b) w w' → wpList Ycym.prog ops Q rest (a.put o.dst (goInt n)) w') : wpList Ycym.prog ops Q (o :: rest) a w := by
  refine wpList_plain hgd fun K hK => ?_
  obtain ⟨w', hrun, h1, h2⟩ := run_cp n cap1 cap2 o.type b ad w d e how hsl
  unfold Oper.wp
  simp [execOp, ho, resolve, invoke, builtin, hd, hs, hrun, Result.andThen]
  exact hK _ _ (h w' h1 h2)

end Go.Proofs.Ymbrcy
