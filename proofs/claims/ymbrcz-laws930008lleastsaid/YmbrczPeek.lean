/- (*Heap).Peek (seat Ymbrcz): the walk. -/
import Derived.Test.YmbrczBase
namespace Go.Proofs.Ymbrcz
open Go.RowKit Go.Sort

set_option maxHeartbeats 400000 in
theorem peek_in (hp : Nat) (a : Option Addr) (n cap : Nat) (d : Nat → It) (w : World) (hc : w.cell? ⟨hp, 0, none⟩ = some (.slice a n cap)) (hlt : hp < w.heap.size) (h : Sl w a n d) (hn : 1 ≤ n) :
    Calls Yczm.prog 29 #[.pointer (some ⟨hp, 0, none⟩)] w fun e w' => e = .returned (.tuple #[.agg #[.int .i64 (d 0).1, .int .u32 (d 0).2], .bool true]) ∧ Below w.heap.size w w' := by
  obtain ⟨b, off, ha, hcc⟩ := h
  obtain ⟨rfl, hbw⟩ := ha hn
  have c0 := (hcc 0 (by omega)).1
  have c1 := (hcc 0 (by omega)).2
  rw [Nat.zero_mul, Nat.add_zero] at c0 c1
  obtain ⟨x, hx⟩ : ∃ x, x = d 0 := ⟨_, rfl⟩
  rw [← hx] at c0 c1 ⊢
  have hnz : ((n : Int) == 0) = false := by simp; omega
  clear hcc ha hx
  go_enter Yczm.func29, Yczm.ntmps29
  go_wp2
  exact bodyPost_ret (v := .tuple #[.agg #[.int .i64 x.1, .int .u32 x.2], .bool true]) (by simp [results, Yczm.results29, go_sem]) rfl ⟨rfl, (Below.refl _ _).alloc (Nat.le_refl _) _⟩
set_option maxHeartbeats 400000 in
theorem peek_none (hp : Nat) (a : Option Addr) (cap : Nat) (w : World) (hc : w.cell? ⟨hp, 0, none⟩ = some (.slice a 0 cap)) (hlt : hp < w.heap.size) :
    Calls Yczm.prog 29 #[.pointer (some ⟨hp, 0, none⟩)] w fun e w' => e = .returned (.tuple #[.agg #[.int .i64 0, .int .u32 0], .bool false]) ∧ Below w.heap.size w w' := by
  go_enter Yczm.func29, Yczm.ntmps29
  go_wp2
  exact bodyPost_ret (v := .tuple #[.agg #[.int .i64 0, .int .u32 0], .bool false]) (by simp [results, Yczm.results29, go_sem]) rfl ⟨rfl, (Below.refl _ _).alloc (Nat.le_refl _) _⟩
end Go.Proofs.Ymbrcz
