/- The order restated in Go (seat Ymbrcy): each computes 'lt'. -/
import Derived.Test.YmbrcyBase
namespace Go.Proofs.Ymbrcy
open Go.RowKit Go.Sort

set_option maxHeartbeats 400000 in
theorem ebefore_1 (p i q j : Int) (w : World) (h : p < q) :
    Calls Ycym.prog 16 #[.agg #[.int .i64 p, .int .u32 i], .agg #[.int .i64 q, .int .u32 j]] w fun e w' => e = .returned (.bool true) ∧ Below w.heap.size w w' := by
  go_enter Ycym.func16, Ycym.ntmps16
  go_wp2
  go_ret
  exact ⟨rfl, ((Below.refl _ _).alloc (Nat.le_refl _) _).alloc (by simp) _⟩
set_option maxHeartbeats 400000 in
theorem ebefore_2 (p i q j : Int) (w : World) (h : q < p) :
    Calls Ycym.prog 16 #[.agg #[.int .i64 p, .int .u32 i], .agg #[.int .i64 q, .int .u32 j]] w fun e w' => e = .returned (.bool false) ∧ Below w.heap.size w w' := by
  have h1 : ¬ p < q := by omega
  have h2 : (p == q) = false := by simp; omega
  go_enter Ycym.func16, Ycym.ntmps16
  go_wp2
  go_ret
  exact ⟨rfl, ((Below.refl _ _).alloc (Nat.le_refl _) _).alloc (by simp) _⟩
set_option maxHeartbeats 400000 in
theorem ebefore_3 (p i j : Int) (w : World) :
    Calls Ycym.prog 16 #[.agg #[.int .i64 p, .int .u32 i], .agg #[.int .i64 p, .int .u32 j]] w fun e w' => e = .returned (.bool (decide (i < j))) ∧ Below w.heap.size w w' := by
  go_enter Ycym.func16, Ycym.ntmps16
  go_wp2
  go_ret
  exact ⟨rfl, ((Below.refl _ _).alloc (Nat.le_refl _) _).alloc (by simp) _⟩
theorem ebefore_any (a b : It) (w : World) :
    Calls Ycym.prog 16 #[.agg #[.int .i64 a.1, .int .u32 a.2], .agg #[.int .i64 b.1, .int .u32 b.2]] w fun e w' => e = .returned (.bool (lt a b)) ∧ Below w.heap.size w w' := by
  rcases Int.lt_trichotomy a.1 b.1 with h | h | h
  · rw [lt_true.2 (.inl h)]; exact ebefore_1 _ _ _ _ _ h
  · have : lt a b = decide (a.2 < b.2) := by rw [← before_eq]; simp [h]
    rw [this, h]; exact ebefore_3 _ _ _ _
  · rw [lt_false.2 (.inl h)]; exact ebefore_2 _ _ _ _ _ h

set_option maxHeartbeats 400000 in
theorem fbefore_1 (p i q j : Int) (w : World) (h : p < q) :
    Calls Ycym.prog 19 #[.agg #[.int .i64 p, .int .u32 i], .agg #[.int .i64 q, .int .u32 j]] w fun e w' => e = .returned (.bool true) ∧ Below w.heap.size w w' := by
  go_enter Ycym.func19, Ycym.ntmps19
  go_wp2
  go_ret
  exact ⟨rfl, ((Below.refl _ _).alloc (Nat.le_refl _) _).alloc (by simp) _⟩
set_option maxHeartbeats 400000 in
theorem fbefore_2 (p i q j : Int) (w : World) (h : q < p) :
    Calls Ycym.prog 19 #[.agg #[.int .i64 p, .int .u32 i], .agg #[.int .i64 q, .int .u32 j]] w fun e w' => e = .returned (.bool false) ∧ Below w.heap.size w w' := by
  have h1 : ¬ p < q := by omega
  have h2 : (p == q) = false := by simp; omega
  go_enter Ycym.func19, Ycym.ntmps19
  go_wp2
  go_ret
  exact ⟨rfl, ((Below.refl _ _).alloc (Nat.le_refl _) _).alloc (by simp) _⟩
set_option maxHeartbeats 400000 in
theorem fbefore_3 (p i j : Int) (w : World) :
    Calls Ycym.prog 19 #[.agg #[.int .i64 p, .int .u32 i], .agg #[.int .i64 p, .int .u32 j]] w fun e w' => e = .returned (.bool (decide (i < j))) ∧ Below w.heap.size w w' := by
  go_enter Ycym.func19, Ycym.ntmps19
  go_wp2
  go_ret
  exact ⟨rfl, ((Below.refl _ _).alloc (Nat.le_refl _) _).alloc (by simp) _⟩
theorem fbefore_any (a b : It) (w : World) :
    Calls Ycym.prog 19 #[.agg #[.int .i64 a.1, .int .u32 a.2], .agg #[.int .i64 b.1, .int .u32 b.2]] w fun e w' => e = .returned (.bool (lt a b)) ∧ Below w.heap.size w w' := by
  rcases Int.lt_trichotomy a.1 b.1 with h | h | h
  · rw [lt_true.2 (.inl h)]; exact fbefore_1 _ _ _ _ _ h
  · have : lt a b = decide (a.2 < b.2) := by rw [← before_eq]; simp [h]
    rw [this, h]; exact fbefore_3 _ _ _ _
  · rw [lt_false.2 (.inl h)]; exact fbefore_2 _ _ _ _ _ h

set_option maxHeartbeats 400000 in
theorem hless_1 (p i q j : Int) (w : World) (h : p < q) :
    Calls Ycym.prog 28 #[.agg #[.int .i64 p, .int .u32 i], .agg #[.int .i64 q, .int .u32 j]] w fun e w' => e = .returned (.bool true) ∧ Below w.heap.size w w' := by
  go_enter Ycym.func28, Ycym.ntmps28
  go_wp2
  go_ret
  exact ⟨rfl, ((Below.refl _ _).alloc (Nat.le_refl _) _).alloc (by simp) _⟩
set_option maxHeartbeats 400000 in
theorem hless_2 (p i q j : Int) (w : World) (h : q < p) :
    Calls Ycym.prog 28 #[.agg #[.int .i64 p, .int .u32 i], .agg #[.int .i64 q, .int .u32 j]] w fun e w' => e = .returned (.bool false) ∧ Below w.heap.size w w' := by
  have h1 : ¬ p < q := by omega
  have h2 : (p == q) = false := by simp; omega
  go_enter Ycym.func28, Ycym.ntmps28
  go_wp2
  go_ret
  exact ⟨rfl, ((Below.refl _ _).alloc (Nat.le_refl _) _).alloc (by simp) _⟩
set_option maxHeartbeats 400000 in
theorem hless_3 (p i j : Int) (w : World) :
    Calls Ycym.prog 28 #[.agg #[.int .i64 p, .int .u32 i], .agg #[.int .i64 p, .int .u32 j]] w fun e w' => e = .returned (.bool (decide (i < j))) ∧ Below w.heap.size w w' := by
  go_enter Ycym.func28, Ycym.ntmps28
  go_wp2
  go_ret
  exact ⟨rfl, ((Below.refl _ _).alloc (Nat.le_refl _) _).alloc (by simp) _⟩
theorem hless_any (a b : It) (w : World) :
    Calls Ycym.prog 28 #[.agg #[.int .i64 a.1, .int .u32 a.2], .agg #[.int .i64 b.1, .int .u32 b.2]] w fun e w' => e = .returned (.bool (lt a b)) ∧ Below w.heap.size w w' := by
  rcases Int.lt_trichotomy a.1 b.1 with h | h | h
  · rw [lt_true.2 (.inl h)]; exact hless_1 _ _ _ _ _ h
  · have : lt a b = decide (a.2 < b.2) := by rw [← before_eq]; simp [h]
    rw [this, h]; exact hless_3 _ _ _ _
  · rw [lt_false.2 (.inl h)]; exact hless_2 _ _ _ _ _ h

end Go.Proofs.Ymbrcy
