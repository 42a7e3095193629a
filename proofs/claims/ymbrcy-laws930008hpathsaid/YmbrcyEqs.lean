/- Two items compared (seat Ymbrcy). -/
import Derived.Test.YmbrcyBase
namespace Go.Proofs.Ymbrcy
open Go.RowKit Go.Sort

def eqq (x y : It) : Bool := y.1 == x.1 && y.2 == x.2
theorem eqq_true {x y : It} : eqq x y = true ↔ y = x := by
  unfold eqq
  constructor
  · intro h; simp at h; exact Prod.ext h.1 h.2
  · intro h; subst h; simp
theorem eqq_self (x : It) : eqq x x = true := eqq_true.2 rfl

/-! ### two items compared by == and != -/
theorem run_eqI (p i q j : Int) (w : World) : (binOp .eql 29 (.agg #[.int .i64 p, .int .u32 i]) (.agg #[.int .i64 q, .int .u32 j])).run Ycym.prog w = .ok (.bool (p == q && i == j)) w := by
  by_cases h1 : p = q <;> by_cases h2 : i = j <;> go_simp <;> simp [h1, h2]
theorem run_neI (p i q j : Int) (w : World) : (binOp .neq 29 (.agg #[.int .i64 p, .int .u32 i]) (.agg #[.int .i64 q, .int .u32 j])).run Ycym.prog w = .ok (.bool (!(p == q && i == j))) w := by
  by_cases h1 : p = q <;> by_cases h2 : i = j <;> go_simp <;> simp [h1, h2]

end Go.Proofs.Ymbrcy
