/- The fresh copies by make and copy (seat Ymbrcz). -/
import Derived.Test.YmbrczBase
namespace Go.Proofs.Ymbrcz
open Go.RowKit Go.Sort

/-- copy, as a law at its operation -/
theorem wpList_cp {w : World} {ops : Array Oper} {rest : List Oper} {o : Oper} {a : Act} {Q : Exit → Act → World → Prop} (hgd : o.guard = none) (dst src : Operand)
    (ho : o.op = .call { callee := .builtin .copy, args := #[dst, src], argTypes := #[22, 22] }) (b n cap1 cap2 : Nat) (ad : Option Addr) (d e : Nat → It)
    (hd : a.eval dst = .slice (some ⟨b, 0, none⟩) n cap1) (hs : a.eval src = .slice ad n cap2) (how : Own w b n e) (hsl : Sl w ad n d)
    (h : ∀ w', Own w' b n d → Fr (· = b) w w' → wpList Yczm.prog ops Q rest (a.put o.dst (goInt n)) w') : wpList Yczm.prog ops Q (o :: rest) a w := by
  refine wpList_plain hgd fun K hK => ?_
  obtain ⟨w', hrun, h1, h2⟩ := run_cp n cap1 cap2 o.type b ad w d e how hsl
  unfold Oper.wp
  simp [execOp, ho, resolve, invoke, builtin, hd, hs, hrun, Result.andThen]
  exact hK _ _ (h w' h1 h2)

set_option maxHeartbeats 400000 in
theorem jcopy_any (a : Option Addr) (n cap : Nat) (d : Nat → It) (w : World) (h : Sl w a n d) (hn : n ≤ 17592186044416) :
    Calls Yczm.prog 15 #[.slice a n cap] w fun e w' => e = .returned (.slice (some ⟨w.heap.size, 0, none⟩) n n) ∧ Own w' w.heap.size n d ∧ Below w.heap.size w w' := by
  have hmk := run_mk n hn
  have how := own_made w n
  have hb0 : Below w.heap.size w (w.alloc (.cells (madeCells #[.int .i64 0, .int .u32 0] (n * 2)) 25)) := (Below.refl _ _).alloc (Nat.le_refl _) _
  have hs := h.below hb0 (Nat.le_refl _)
  go_enter Yczm.func15, Yczm.ntmps15
  go_wp2_with (refine wpList_cp rfl _ _ rfl w.heap.size n n cap a d (fun _ => (0, 0)) rfl rfl how hs ?_; intro w1 how1 hf1)
  go_ret
  exact ⟨rfl, how1, hb0.trans (hf1.to_below (by simp) (fun k hk => by omega))⟩

end Go.Proofs.Ymbrcz
