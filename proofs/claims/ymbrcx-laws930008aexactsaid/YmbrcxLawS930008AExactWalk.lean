/- The walk of LawS930008AExact (seat Ymbrcx): the Go text returns true, and writes nothing that was there. -/
import Derived.Test.YmbrcxBase
namespace Go.Proofs.Ymbrcx.lawS930008AExact
open Go.RowKit Go.Sort
set_option linter.unusedVariables false

theorem walk_lt_lt (a0 a1 a2 a3 : Int) (w : World) (h : a0 < a2) (hij : a1 < a3) :
    Calls Ycxm.prog 3 #[.int .i64 a0, .int .u32 a1, .int .i64 a2, .int .u32 a3] w fun e w' => e = .returned (.bool true) ∧ Below w.heap.size w w' := by
  have h2 : ¬ a0 = a2 := by omega
  have b1 : lt (a0, a1) (a2, a3) = true := by rw [lt_true]; show a0 < a2 ∨ (a0 = a2 ∧ a1 < a3); omega
  have b2 : lt (a0, a1) (a0, a3) = true := by rw [lt_true]; show a0 < a0 ∨ (a0 = a0 ∧ a1 < a3); omega
  have K1 := fun w => less_any (a0, a1) (a2, a3) w
  have K2 := fun w => less_any (a0, a1) (a0, a3) w
  rw [b1] at K1
  rw [b2] at K2
  have H1 : Hid (∀ w, Calls Ycxm.prog 15 #[.agg #[.int .i64 a0, .int .u32 a1], .agg #[.int .i64 a2, .int .u32 a3]] w fun e w' => e = .returned (.bool true) ∧ Below w.heap.size w w') := K1
  have H2 : Hid (∀ w, Calls Ycxm.prog 15 #[.agg #[.int .i64 a0, .int .u32 a1], .agg #[.int .i64 a0, .int .u32 a3]] w fun e w' => e = .returned (.bool true) ∧ Below w.heap.size w w') := K2
  clear K1 K2 b1 b2
  go_enter Ycxm.func3, Ycxm.ntmps3
  go_wp2_with fail
  refine (H1.out _).mono ?_
  rintro e w1 ⟨rfl, hb1⟩
  go_wp2_with fail
  refine (H2.out _).mono ?_
  rintro e w2 ⟨rfl, hb2⟩
  go_wp2
  go_ret
  exact ⟨rfl, hb1.trans (hb2.mono hb1.size)⟩
theorem walk_lt_ge (a0 a1 a2 a3 : Int) (w : World) (h : a0 < a2) (hij : ¬ a1 < a3) :
    Calls Ycxm.prog 3 #[.int .i64 a0, .int .u32 a1, .int .i64 a2, .int .u32 a3] w fun e w' => e = .returned (.bool true) ∧ Below w.heap.size w w' := by
  have h2 : ¬ a0 = a2 := by omega
  have hd := decide_eq_false hij
  have b1 : lt (a0, a1) (a2, a3) = true := by rw [lt_true]; show a0 < a2 ∨ (a0 = a2 ∧ a1 < a3); omega
  have b2 : lt (a0, a1) (a0, a3) = false := by rw [lt_false]; show a0 < a0 ∨ (a0 = a0 ∧ a3 ≤ a1); omega
  have K1 := fun w => less_any (a0, a1) (a2, a3) w
  have K2 := fun w => less_any (a0, a1) (a0, a3) w
  rw [b1] at K1
  rw [b2] at K2
  have H1 : Hid (∀ w, Calls Ycxm.prog 15 #[.agg #[.int .i64 a0, .int .u32 a1], .agg #[.int .i64 a2, .int .u32 a3]] w fun e w' => e = .returned (.bool true) ∧ Below w.heap.size w w') := K1
  have H2 : Hid (∀ w, Calls Ycxm.prog 15 #[.agg #[.int .i64 a0, .int .u32 a1], .agg #[.int .i64 a0, .int .u32 a3]] w fun e w' => e = .returned (.bool false) ∧ Below w.heap.size w w') := K2
  clear K1 K2 b1 b2
  go_enter Ycxm.func3, Ycxm.ntmps3
  go_wp2_with fail
  refine (H1.out _).mono ?_
  rintro e w1 ⟨rfl, hb1⟩
  go_wp2_with fail
  refine (H2.out _).mono ?_
  rintro e w2 ⟨rfl, hb2⟩
  go_wp2
  go_ret
  exact ⟨rfl, hb1.trans (hb2.mono hb1.size)⟩
theorem walk_gt_lt (a0 a1 a2 a3 : Int) (w : World) (h : a2 < a0) (hij : a1 < a3) :
    Calls Ycxm.prog 3 #[.int .i64 a0, .int .u32 a1, .int .i64 a2, .int .u32 a3] w fun e w' => e = .returned (.bool true) ∧ Below w.heap.size w w' := by
  have h1 : ¬ a0 < a2 := by omega
  have h2 : ¬ a0 = a2 := by omega
  have b1 : lt (a0, a1) (a2, a3) = false := by rw [lt_false]; show a2 < a0 ∨ (a0 = a2 ∧ a3 ≤ a1); omega
  have b2 : lt (a0, a1) (a0, a3) = true := by rw [lt_true]; show a0 < a0 ∨ (a0 = a0 ∧ a1 < a3); omega
  have K1 := fun w => less_any (a0, a1) (a2, a3) w
  have K2 := fun w => less_any (a0, a1) (a0, a3) w
  rw [b1] at K1
  rw [b2] at K2
  have H1 : Hid (∀ w, Calls Ycxm.prog 15 #[.agg #[.int .i64 a0, .int .u32 a1], .agg #[.int .i64 a2, .int .u32 a3]] w fun e w' => e = .returned (.bool false) ∧ Below w.heap.size w w') := K1
  have H2 : Hid (∀ w, Calls Ycxm.prog 15 #[.agg #[.int .i64 a0, .int .u32 a1], .agg #[.int .i64 a0, .int .u32 a3]] w fun e w' => e = .returned (.bool true) ∧ Below w.heap.size w w') := K2
  clear K1 K2 b1 b2
  go_enter Ycxm.func3, Ycxm.ntmps3
  go_wp2_with fail
  refine (H1.out _).mono ?_
  rintro e w1 ⟨rfl, hb1⟩
  go_wp2_with fail
  refine (H2.out _).mono ?_
  rintro e w2 ⟨rfl, hb2⟩
  go_wp2
  go_ret
  exact ⟨rfl, hb1.trans (hb2.mono hb1.size)⟩
theorem walk_gt_ge (a0 a1 a2 a3 : Int) (w : World) (h : a2 < a0) (hij : ¬ a1 < a3) :
    Calls Ycxm.prog 3 #[.int .i64 a0, .int .u32 a1, .int .i64 a2, .int .u32 a3] w fun e w' => e = .returned (.bool true) ∧ Below w.heap.size w w' := by
  have h1 : ¬ a0 < a2 := by omega
  have h2 : ¬ a0 = a2 := by omega
  have hd := decide_eq_false hij
  have b1 : lt (a0, a1) (a2, a3) = false := by rw [lt_false]; show a2 < a0 ∨ (a0 = a2 ∧ a3 ≤ a1); omega
  have b2 : lt (a0, a1) (a0, a3) = false := by rw [lt_false]; show a0 < a0 ∨ (a0 = a0 ∧ a3 ≤ a1); omega
  have K1 := fun w => less_any (a0, a1) (a2, a3) w
  have K2 := fun w => less_any (a0, a1) (a0, a3) w
  rw [b1] at K1
  rw [b2] at K2
  have H1 : Hid (∀ w, Calls Ycxm.prog 15 #[.agg #[.int .i64 a0, .int .u32 a1], .agg #[.int .i64 a2, .int .u32 a3]] w fun e w' => e = .returned (.bool false) ∧ Below w.heap.size w w') := K1
  have H2 : Hid (∀ w, Calls Ycxm.prog 15 #[.agg #[.int .i64 a0, .int .u32 a1], .agg #[.int .i64 a0, .int .u32 a3]] w fun e w' => e = .returned (.bool false) ∧ Below w.heap.size w w') := K2
  clear K1 K2 b1 b2
  go_enter Ycxm.func3, Ycxm.ntmps3
  go_wp2_with fail
  refine (H1.out _).mono ?_
  rintro e w1 ⟨rfl, hb1⟩
  go_wp2_with fail
  refine (H2.out _).mono ?_
  rintro e w2 ⟨rfl, hb2⟩
  go_wp2
  go_ret
  exact ⟨rfl, hb1.trans (hb2.mono hb1.size)⟩
theorem walk_eq_lt (a0 a1 a3 : Int) (w : World) (hij : a1 < a3) :
    Calls Ycxm.prog 3 #[.int .i64 a0, .int .u32 a1, .int .i64 a0, .int .u32 a3] w fun e w' => e = .returned (.bool true) ∧ Below w.heap.size w w' := by
  have b1 : lt (a0, a1) (a0, a3) = true := by rw [lt_true]; show a0 < a0 ∨ (a0 = a0 ∧ a1 < a3); omega
  have b2 : lt (a0, a1) (a0, a3) = true := by rw [lt_true]; show a0 < a0 ∨ (a0 = a0 ∧ a1 < a3); omega
  have K1 := fun w => less_any (a0, a1) (a0, a3) w
  have K2 := fun w => less_any (a0, a1) (a0, a3) w
  rw [b1] at K1
  rw [b2] at K2
  have H1 : Hid (∀ w, Calls Ycxm.prog 15 #[.agg #[.int .i64 a0, .int .u32 a1], .agg #[.int .i64 a0, .int .u32 a3]] w fun e w' => e = .returned (.bool true) ∧ Below w.heap.size w w') := K1
  have H2 : Hid (∀ w, Calls Ycxm.prog 15 #[.agg #[.int .i64 a0, .int .u32 a1], .agg #[.int .i64 a0, .int .u32 a3]] w fun e w' => e = .returned (.bool true) ∧ Below w.heap.size w w') := K2
  clear K1 K2 b1 b2
  go_enter Ycxm.func3, Ycxm.ntmps3
  go_wp2_with fail
  refine (H1.out _).mono ?_
  rintro e w1 ⟨rfl, hb1⟩
  go_wp2_with fail
  refine (H2.out _).mono ?_
  rintro e w2 ⟨rfl, hb2⟩
  go_wp2
  go_ret
  exact ⟨rfl, hb1.trans (hb2.mono hb1.size)⟩
theorem walk_eq_ge (a0 a1 a3 : Int) (w : World) (hij : ¬ a1 < a3) :
    Calls Ycxm.prog 3 #[.int .i64 a0, .int .u32 a1, .int .i64 a0, .int .u32 a3] w fun e w' => e = .returned (.bool true) ∧ Below w.heap.size w w' := by
  have hd := decide_eq_false hij
  have b1 : lt (a0, a1) (a0, a3) = false := by rw [lt_false]; show a0 < a0 ∨ (a0 = a0 ∧ a3 ≤ a1); omega
  have b2 : lt (a0, a1) (a0, a3) = false := by rw [lt_false]; show a0 < a0 ∨ (a0 = a0 ∧ a3 ≤ a1); omega
  have K1 := fun w => less_any (a0, a1) (a0, a3) w
  have K2 := fun w => less_any (a0, a1) (a0, a3) w
  rw [b1] at K1
  rw [b2] at K2
  have H1 : Hid (∀ w, Calls Ycxm.prog 15 #[.agg #[.int .i64 a0, .int .u32 a1], .agg #[.int .i64 a0, .int .u32 a3]] w fun e w' => e = .returned (.bool false) ∧ Below w.heap.size w w') := K1
  have H2 : Hid (∀ w, Calls Ycxm.prog 15 #[.agg #[.int .i64 a0, .int .u32 a1], .agg #[.int .i64 a0, .int .u32 a3]] w fun e w' => e = .returned (.bool false) ∧ Below w.heap.size w w') := K2
  clear K1 K2 b1 b2
  go_enter Ycxm.func3, Ycxm.ntmps3
  go_wp2_with fail
  refine (H1.out _).mono ?_
  rintro e w1 ⟨rfl, hb1⟩
  go_wp2_with fail
  refine (H2.out _).mono ?_
  rintro e w2 ⟨rfl, hb2⟩
  go_wp2
  go_ret
  exact ⟨rfl, hb1.trans (hb2.mono hb1.size)⟩
theorem walk (a0 a1 a2 a3 : Int) (w : World) (w0 : (Lit.int .i64 a0).wf = true) (w1 : (Lit.int .u32 a1).wf = true) (w2 : (Lit.int .i64 a2).wf = true) (w3 : (Lit.int .u32 a3).wf = true) :
    Calls Ycxm.prog 3 #[.int .i64 a0, .int .u32 a1, .int .i64 a2, .int .u32 a3] w fun e w' => e = .returned (.bool true) ∧ Below w.heap.size w w' := by
  by_cases hij : a1 < a3
  · rcases Int.lt_trichotomy a0 a2 with h | rfl | h
    · exact walk_lt_lt a0 a1 a2 a3 w h hij
    · exact walk_eq_lt a0 a1 a3 w hij
    · exact walk_gt_lt a0 a1 a2 a3 w h hij
  · rcases Int.lt_trichotomy a0 a2 with h | rfl | h
    · exact walk_lt_ge a0 a1 a2 a3 w h hij
    · exact walk_eq_ge a0 a1 a3 w hij
    · exact walk_gt_ge a0 a1 a2 a3 w h hij
end Go.Proofs.Ymbrcx.lawS930008AExact
