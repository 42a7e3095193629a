/- The walk of LawS930008ATotal (seat Ymbrcx): the Go text returns true, and writes nothing that was there. -/
import Derived.Test.YmbrcxBase
namespace Go.Proofs.Ymbrcx.lawS930008ATotal
open Go.RowKit Go.Sort
set_option linter.unusedVariables false

theorem walk_f_lt (a0 a1 a2 a3 : Int) (w : World) (h : a0 < a2) :
    Calls Ycxm.prog 4 #[.int .i64 a0, .int .u32 a1, .int .i64 a2, .int .u32 a3, .bool false] w fun e w' => e = .returned (.bool true) ∧ Below w.heap.size w w' := by
  have H1 : Hid (∀ w, Calls Ycxm.prog 15 #[.agg #[.int .i64 a0, .int .u32 a1], .agg #[.int .i64 a2, .int .u32 a3]] w fun e w' => e = .returned (.bool true) ∧ Below w.heap.size w w') := fun w => by
    have b : lt (a0, a1) (a2, a3) = true := by rw [lt_true]; show a0 < a2 ∨ (a0 = a2 ∧ a1 < a3); omega
    have K := less_any (a0, a1) (a2, a3) w
    rw [b] at K
    exact K
  have H2 : Hid (∀ w, Calls Ycxm.prog 15 #[.agg #[.int .i64 a2, .int .u32 a3], .agg #[.int .i64 a0, .int .u32 a1]] w fun e w' => e = .returned (.bool false) ∧ Below w.heap.size w w') := fun w => by
    have b : lt (a2, a3) (a0, a1) = false := by rw [lt_false]; show a0 < a2 ∨ (a2 = a0 ∧ a1 ≤ a3); omega
    have K := less_any (a2, a3) (a0, a1) w
    rw [b] at K
    exact K
  have H3 : Hid (∀ w, Calls Ycxm.prog 15 #[.agg #[.int .i64 a0, .int .u32 a1], .agg #[.int .i64 a0, .int .u32 a1]] w fun e w' => e = .returned (.bool false) ∧ Below w.heap.size w w') := fun w => by
    have b : lt (a0, a1) (a0, a1) = false := by rw [lt_false]; show a0 < a0 ∨ (a0 = a0 ∧ a1 ≤ a1); omega
    have K := less_any (a0, a1) (a0, a1) w
    rw [b] at K
    exact K
  have H4 : Hid (∀ w, Calls Ycxm.prog 15 #[.agg #[.int .i64 a2, .int .u32 a3], .agg #[.int .i64 a2, .int .u32 a3]] w fun e w' => e = .returned (.bool false) ∧ Below w.heap.size w w') := fun w => by
    have b : lt (a2, a3) (a2, a3) = false := by rw [lt_false]; show a2 < a2 ∨ (a2 = a2 ∧ a3 ≤ a3); omega
    have K := less_any (a2, a3) (a2, a3) w
    rw [b] at K
    exact K
  have e1 : (a0 == a2) = false := by simp; omega
  have c1 : ∀ (w1 : World), Below (w.heap.size + 1 + 1) ((w.alloc (.cells #[.int .i64 a0, .int .u32 a1] 25)).alloc (.cells #[.int .i64 a2, .int .u32 a3] 25)) w1 → w1.cell? ⟨w.heap.size, 0, none⟩ = some (.int .i64 a0) ∧ w1.cell? ⟨w.heap.size, 1, none⟩ = some (.int .u32 a1) ∧ w1.cell? ⟨w.heap.size + 1, 0, none⟩ = some (.int .i64 a2) ∧ w1.cell? ⟨w.heap.size + 1, 1, none⟩ = some (.int .u32 a3) := fun w1 hb => by
    refine ⟨(hb.cell (p := ⟨w.heap.size, 0, none⟩) (by simp; omega)).trans ?_, (hb.cell (p := ⟨w.heap.size, 1, none⟩) (by simp; omega)).trans ?_, (hb.cell (p := ⟨w.heap.size + 1, 0, none⟩) (by simp)).trans ?_, (hb.cell (p := ⟨w.heap.size + 1, 1, none⟩) (by simp)).trans ?_⟩ <;> go_simp
  have C1 : Hid (∀ (w1 : World), Below (w.heap.size + 1 + 1) ((w.alloc (.cells #[.int .i64 a0, .int .u32 a1] 25)).alloc (.cells #[.int .i64 a2, .int .u32 a3] 25)) w1 → w1.cell? ⟨w.heap.size, 0, none⟩ = some (.int .i64 a0) ∧ w1.cell? ⟨w.heap.size, 1, none⟩ = some (.int .u32 a1) ∧ w1.cell? ⟨w.heap.size + 1, 0, none⟩ = some (.int .i64 a2) ∧ w1.cell? ⟨w.heap.size + 1, 1, none⟩ = some (.int .u32 a3)) := c1
  clear c1
  go_enter Ycxm.func4, Ycxm.ntmps4
  go_wp2_with fail
  refine (H1.out _).mono ?_
  rintro e w1 ⟨rfl, hb1⟩
  have hb1 := hb1.mono (B' := w.heap.size + 1 + 1) (by simp)
  obtain ⟨g0, g1, g2, g3⟩ := C1.out _ hb1
  go_wp2_with fail
  refine (H2.out _).mono ?_
  rintro e w2 ⟨rfl, hb2⟩
  have hb2 := hb1.trans (hb2.mono (by have := hb1.size; simp at this; omega))
  clear g0 g1 g2 g3
  obtain ⟨g0, g1, g2, g3⟩ := C1.out _ hb2
  go_wp2_with fail
  refine (H3.out _).mono ?_
  rintro e w3 ⟨rfl, hb3⟩
  have hb3 := hb2.trans (hb3.mono (by have := hb2.size; simp at this; omega))
  clear g0 g1 g2 g3
  obtain ⟨g0, g1, g2, g3⟩ := C1.out _ hb3
  go_wp2_with fail
  refine (H4.out _).mono ?_
  rintro e w4 ⟨rfl, hb4⟩
  have hb4 := hb3.trans (hb4.mono (by have := hb3.size; simp at this; omega))
  go_wp2
  go_ret
  exact ⟨rfl, (((Below.refl _ _).alloc (Nat.le_refl _) _).alloc (by simp) _).trans (hb4.mono (by omega))⟩
theorem walk_f_gt (a0 a1 a2 a3 : Int) (w : World) (h : a2 < a0) :
    Calls Ycxm.prog 4 #[.int .i64 a0, .int .u32 a1, .int .i64 a2, .int .u32 a3, .bool false] w fun e w' => e = .returned (.bool true) ∧ Below w.heap.size w w' := by
  have H1 : Hid (∀ w, Calls Ycxm.prog 15 #[.agg #[.int .i64 a0, .int .u32 a1], .agg #[.int .i64 a2, .int .u32 a3]] w fun e w' => e = .returned (.bool false) ∧ Below w.heap.size w w') := fun w => by
    have b : lt (a0, a1) (a2, a3) = false := by rw [lt_false]; show a2 < a0 ∨ (a0 = a2 ∧ a3 ≤ a1); omega
    have K := less_any (a0, a1) (a2, a3) w
    rw [b] at K
    exact K
  have H2 : Hid (∀ w, Calls Ycxm.prog 15 #[.agg #[.int .i64 a2, .int .u32 a3], .agg #[.int .i64 a0, .int .u32 a1]] w fun e w' => e = .returned (.bool true) ∧ Below w.heap.size w w') := fun w => by
    have b : lt (a2, a3) (a0, a1) = true := by rw [lt_true]; show a2 < a0 ∨ (a2 = a0 ∧ a3 < a1); omega
    have K := less_any (a2, a3) (a0, a1) w
    rw [b] at K
    exact K
  have H3 : Hid (∀ w, Calls Ycxm.prog 15 #[.agg #[.int .i64 a0, .int .u32 a1], .agg #[.int .i64 a0, .int .u32 a1]] w fun e w' => e = .returned (.bool false) ∧ Below w.heap.size w w') := fun w => by
    have b : lt (a0, a1) (a0, a1) = false := by rw [lt_false]; show a0 < a0 ∨ (a0 = a0 ∧ a1 ≤ a1); omega
    have K := less_any (a0, a1) (a0, a1) w
    rw [b] at K
    exact K
  have H4 : Hid (∀ w, Calls Ycxm.prog 15 #[.agg #[.int .i64 a2, .int .u32 a3], .agg #[.int .i64 a2, .int .u32 a3]] w fun e w' => e = .returned (.bool false) ∧ Below w.heap.size w w') := fun w => by
    have b : lt (a2, a3) (a2, a3) = false := by rw [lt_false]; show a2 < a2 ∨ (a2 = a2 ∧ a3 ≤ a3); omega
    have K := less_any (a2, a3) (a2, a3) w
    rw [b] at K
    exact K
  have e1 : (a0 == a2) = false := by simp; omega
  have c1 : ∀ (w1 : World), Below (w.heap.size + 1 + 1) ((w.alloc (.cells #[.int .i64 a0, .int .u32 a1] 25)).alloc (.cells #[.int .i64 a2, .int .u32 a3] 25)) w1 → w1.cell? ⟨w.heap.size, 0, none⟩ = some (.int .i64 a0) ∧ w1.cell? ⟨w.heap.size, 1, none⟩ = some (.int .u32 a1) ∧ w1.cell? ⟨w.heap.size + 1, 0, none⟩ = some (.int .i64 a2) ∧ w1.cell? ⟨w.heap.size + 1, 1, none⟩ = some (.int .u32 a3) := fun w1 hb => by
    refine ⟨(hb.cell (p := ⟨w.heap.size, 0, none⟩) (by simp; omega)).trans ?_, (hb.cell (p := ⟨w.heap.size, 1, none⟩) (by simp; omega)).trans ?_, (hb.cell (p := ⟨w.heap.size + 1, 0, none⟩) (by simp)).trans ?_, (hb.cell (p := ⟨w.heap.size + 1, 1, none⟩) (by simp)).trans ?_⟩ <;> go_simp
  have C1 : Hid (∀ (w1 : World), Below (w.heap.size + 1 + 1) ((w.alloc (.cells #[.int .i64 a0, .int .u32 a1] 25)).alloc (.cells #[.int .i64 a2, .int .u32 a3] 25)) w1 → w1.cell? ⟨w.heap.size, 0, none⟩ = some (.int .i64 a0) ∧ w1.cell? ⟨w.heap.size, 1, none⟩ = some (.int .u32 a1) ∧ w1.cell? ⟨w.heap.size + 1, 0, none⟩ = some (.int .i64 a2) ∧ w1.cell? ⟨w.heap.size + 1, 1, none⟩ = some (.int .u32 a3)) := c1
  clear c1
  go_enter Ycxm.func4, Ycxm.ntmps4
  go_wp2_with fail
  refine (H1.out _).mono ?_
  rintro e w1 ⟨rfl, hb1⟩
  have hb1 := hb1.mono (B' := w.heap.size + 1 + 1) (by simp)
  obtain ⟨g0, g1, g2, g3⟩ := C1.out _ hb1
  go_wp2_with fail
  refine (H2.out _).mono ?_
  rintro e w2 ⟨rfl, hb2⟩
  have hb2 := hb1.trans (hb2.mono (by have := hb1.size; simp at this; omega))
  clear g0 g1 g2 g3
  obtain ⟨g0, g1, g2, g3⟩ := C1.out _ hb2
  go_wp2_with fail
  refine (H3.out _).mono ?_
  rintro e w3 ⟨rfl, hb3⟩
  have hb3 := hb2.trans (hb3.mono (by have := hb2.size; simp at this; omega))
  clear g0 g1 g2 g3
  obtain ⟨g0, g1, g2, g3⟩ := C1.out _ hb3
  go_wp2_with fail
  refine (H4.out _).mono ?_
  rintro e w4 ⟨rfl, hb4⟩
  have hb4 := hb3.trans (hb4.mono (by have := hb3.size; simp at this; omega))
  go_wp2
  go_ret
  exact ⟨rfl, (((Below.refl _ _).alloc (Nat.le_refl _) _).alloc (by simp) _).trans (hb4.mono (by omega))⟩
theorem walk_f_eqlt (a0 a1 a3 : Int) (w : World) (h : a1 < a3) :
    Calls Ycxm.prog 4 #[.int .i64 a0, .int .u32 a1, .int .i64 a0, .int .u32 a3, .bool false] w fun e w' => e = .returned (.bool true) ∧ Below w.heap.size w w' := by
  have H1 : Hid (∀ w, Calls Ycxm.prog 15 #[.agg #[.int .i64 a0, .int .u32 a1], .agg #[.int .i64 a0, .int .u32 a3]] w fun e w' => e = .returned (.bool true) ∧ Below w.heap.size w w') := fun w => by
    have b : lt (a0, a1) (a0, a3) = true := by rw [lt_true]; show a0 < a0 ∨ (a0 = a0 ∧ a1 < a3); omega
    have K := less_any (a0, a1) (a0, a3) w
    rw [b] at K
    exact K
  have H2 : Hid (∀ w, Calls Ycxm.prog 15 #[.agg #[.int .i64 a0, .int .u32 a3], .agg #[.int .i64 a0, .int .u32 a1]] w fun e w' => e = .returned (.bool false) ∧ Below w.heap.size w w') := fun w => by
    have b : lt (a0, a3) (a0, a1) = false := by rw [lt_false]; show a0 < a0 ∨ (a0 = a0 ∧ a1 ≤ a3); omega
    have K := less_any (a0, a3) (a0, a1) w
    rw [b] at K
    exact K
  have H3 : Hid (∀ w, Calls Ycxm.prog 15 #[.agg #[.int .i64 a0, .int .u32 a1], .agg #[.int .i64 a0, .int .u32 a1]] w fun e w' => e = .returned (.bool false) ∧ Below w.heap.size w w') := fun w => by
    have b : lt (a0, a1) (a0, a1) = false := by rw [lt_false]; show a0 < a0 ∨ (a0 = a0 ∧ a1 ≤ a1); omega
    have K := less_any (a0, a1) (a0, a1) w
    rw [b] at K
    exact K
  have H4 : Hid (∀ w, Calls Ycxm.prog 15 #[.agg #[.int .i64 a0, .int .u32 a3], .agg #[.int .i64 a0, .int .u32 a3]] w fun e w' => e = .returned (.bool false) ∧ Below w.heap.size w w') := fun w => by
    have b : lt (a0, a3) (a0, a3) = false := by rw [lt_false]; show a0 < a0 ∨ (a0 = a0 ∧ a3 ≤ a3); omega
    have K := less_any (a0, a3) (a0, a3) w
    rw [b] at K
    exact K
  have e1 : (a1 == a3) = false := by simp; omega
  have c1 : ∀ (w1 : World), Below (w.heap.size + 1 + 1) ((w.alloc (.cells #[.int .i64 a0, .int .u32 a1] 25)).alloc (.cells #[.int .i64 a0, .int .u32 a3] 25)) w1 → w1.cell? ⟨w.heap.size, 0, none⟩ = some (.int .i64 a0) ∧ w1.cell? ⟨w.heap.size, 1, none⟩ = some (.int .u32 a1) ∧ w1.cell? ⟨w.heap.size + 1, 0, none⟩ = some (.int .i64 a0) ∧ w1.cell? ⟨w.heap.size + 1, 1, none⟩ = some (.int .u32 a3) := fun w1 hb => by
    refine ⟨(hb.cell (p := ⟨w.heap.size, 0, none⟩) (by simp; omega)).trans ?_, (hb.cell (p := ⟨w.heap.size, 1, none⟩) (by simp; omega)).trans ?_, (hb.cell (p := ⟨w.heap.size + 1, 0, none⟩) (by simp)).trans ?_, (hb.cell (p := ⟨w.heap.size + 1, 1, none⟩) (by simp)).trans ?_⟩ <;> go_simp
  have C1 : Hid (∀ (w1 : World), Below (w.heap.size + 1 + 1) ((w.alloc (.cells #[.int .i64 a0, .int .u32 a1] 25)).alloc (.cells #[.int .i64 a0, .int .u32 a3] 25)) w1 → w1.cell? ⟨w.heap.size, 0, none⟩ = some (.int .i64 a0) ∧ w1.cell? ⟨w.heap.size, 1, none⟩ = some (.int .u32 a1) ∧ w1.cell? ⟨w.heap.size + 1, 0, none⟩ = some (.int .i64 a0) ∧ w1.cell? ⟨w.heap.size + 1, 1, none⟩ = some (.int .u32 a3)) := c1
  clear c1
  go_enter Ycxm.func4, Ycxm.ntmps4
  go_wp2_with fail
  refine (H1.out _).mono ?_
  rintro e w1 ⟨rfl, hb1⟩
  have hb1 := hb1.mono (B' := w.heap.size + 1 + 1) (by simp)
  obtain ⟨g0, g1, g2, g3⟩ := C1.out _ hb1
  go_wp2_with fail
  refine (H2.out _).mono ?_
  rintro e w2 ⟨rfl, hb2⟩
  have hb2 := hb1.trans (hb2.mono (by have := hb1.size; simp at this; omega))
  clear g0 g1 g2 g3
  obtain ⟨g0, g1, g2, g3⟩ := C1.out _ hb2
  go_wp2_with fail
  refine (H3.out _).mono ?_
  rintro e w3 ⟨rfl, hb3⟩
  have hb3 := hb2.trans (hb3.mono (by have := hb2.size; simp at this; omega))
  clear g0 g1 g2 g3
  obtain ⟨g0, g1, g2, g3⟩ := C1.out _ hb3
  go_wp2_with fail
  refine (H4.out _).mono ?_
  rintro e w4 ⟨rfl, hb4⟩
  have hb4 := hb3.trans (hb4.mono (by have := hb3.size; simp at this; omega))
  go_wp2
  go_ret
  exact ⟨rfl, (((Below.refl _ _).alloc (Nat.le_refl _) _).alloc (by simp) _).trans (hb4.mono (by omega))⟩
theorem walk_f_eqgt (a0 a1 a3 : Int) (w : World) (h : a3 < a1) :
    Calls Ycxm.prog 4 #[.int .i64 a0, .int .u32 a1, .int .i64 a0, .int .u32 a3, .bool false] w fun e w' => e = .returned (.bool true) ∧ Below w.heap.size w w' := by
  have H1 : Hid (∀ w, Calls Ycxm.prog 15 #[.agg #[.int .i64 a0, .int .u32 a1], .agg #[.int .i64 a0, .int .u32 a3]] w fun e w' => e = .returned (.bool false) ∧ Below w.heap.size w w') := fun w => by
    have b : lt (a0, a1) (a0, a3) = false := by rw [lt_false]; show a0 < a0 ∨ (a0 = a0 ∧ a3 ≤ a1); omega
    have K := less_any (a0, a1) (a0, a3) w
    rw [b] at K
    exact K
  have H2 : Hid (∀ w, Calls Ycxm.prog 15 #[.agg #[.int .i64 a0, .int .u32 a3], .agg #[.int .i64 a0, .int .u32 a1]] w fun e w' => e = .returned (.bool true) ∧ Below w.heap.size w w') := fun w => by
    have b : lt (a0, a3) (a0, a1) = true := by rw [lt_true]; show a0 < a0 ∨ (a0 = a0 ∧ a3 < a1); omega
    have K := less_any (a0, a3) (a0, a1) w
    rw [b] at K
    exact K
  have H3 : Hid (∀ w, Calls Ycxm.prog 15 #[.agg #[.int .i64 a0, .int .u32 a1], .agg #[.int .i64 a0, .int .u32 a1]] w fun e w' => e = .returned (.bool false) ∧ Below w.heap.size w w') := fun w => by
    have b : lt (a0, a1) (a0, a1) = false := by rw [lt_false]; show a0 < a0 ∨ (a0 = a0 ∧ a1 ≤ a1); omega
    have K := less_any (a0, a1) (a0, a1) w
    rw [b] at K
    exact K
  have H4 : Hid (∀ w, Calls Ycxm.prog 15 #[.agg #[.int .i64 a0, .int .u32 a3], .agg #[.int .i64 a0, .int .u32 a3]] w fun e w' => e = .returned (.bool false) ∧ Below w.heap.size w w') := fun w => by
    have b : lt (a0, a3) (a0, a3) = false := by rw [lt_false]; show a0 < a0 ∨ (a0 = a0 ∧ a3 ≤ a3); omega
    have K := less_any (a0, a3) (a0, a3) w
    rw [b] at K
    exact K
  have e1 : (a1 == a3) = false := by simp; omega
  have c1 : ∀ (w1 : World), Below (w.heap.size + 1 + 1) ((w.alloc (.cells #[.int .i64 a0, .int .u32 a1] 25)).alloc (.cells #[.int .i64 a0, .int .u32 a3] 25)) w1 → w1.cell? ⟨w.heap.size, 0, none⟩ = some (.int .i64 a0) ∧ w1.cell? ⟨w.heap.size, 1, none⟩ = some (.int .u32 a1) ∧ w1.cell? ⟨w.heap.size + 1, 0, none⟩ = some (.int .i64 a0) ∧ w1.cell? ⟨w.heap.size + 1, 1, none⟩ = some (.int .u32 a3) := fun w1 hb => by
    refine ⟨(hb.cell (p := ⟨w.heap.size, 0, none⟩) (by simp; omega)).trans ?_, (hb.cell (p := ⟨w.heap.size, 1, none⟩) (by simp; omega)).trans ?_, (hb.cell (p := ⟨w.heap.size + 1, 0, none⟩) (by simp)).trans ?_, (hb.cell (p := ⟨w.heap.size + 1, 1, none⟩) (by simp)).trans ?_⟩ <;> go_simp
  have C1 : Hid (∀ (w1 : World), Below (w.heap.size + 1 + 1) ((w.alloc (.cells #[.int .i64 a0, .int .u32 a1] 25)).alloc (.cells #[.int .i64 a0, .int .u32 a3] 25)) w1 → w1.cell? ⟨w.heap.size, 0, none⟩ = some (.int .i64 a0) ∧ w1.cell? ⟨w.heap.size, 1, none⟩ = some (.int .u32 a1) ∧ w1.cell? ⟨w.heap.size + 1, 0, none⟩ = some (.int .i64 a0) ∧ w1.cell? ⟨w.heap.size + 1, 1, none⟩ = some (.int .u32 a3)) := c1
  clear c1
  go_enter Ycxm.func4, Ycxm.ntmps4
  go_wp2_with fail
  refine (H1.out _).mono ?_
  rintro e w1 ⟨rfl, hb1⟩
  have hb1 := hb1.mono (B' := w.heap.size + 1 + 1) (by simp)
  obtain ⟨g0, g1, g2, g3⟩ := C1.out _ hb1
  go_wp2_with fail
  refine (H2.out _).mono ?_
  rintro e w2 ⟨rfl, hb2⟩
  have hb2 := hb1.trans (hb2.mono (by have := hb1.size; simp at this; omega))
  clear g0 g1 g2 g3
  obtain ⟨g0, g1, g2, g3⟩ := C1.out _ hb2
  go_wp2_with fail
  refine (H3.out _).mono ?_
  rintro e w3 ⟨rfl, hb3⟩
  have hb3 := hb2.trans (hb3.mono (by have := hb2.size; simp at this; omega))
  clear g0 g1 g2 g3
  obtain ⟨g0, g1, g2, g3⟩ := C1.out _ hb3
  go_wp2_with fail
  refine (H4.out _).mono ?_
  rintro e w4 ⟨rfl, hb4⟩
  have hb4 := hb3.trans (hb4.mono (by have := hb3.size; simp at this; omega))
  go_wp2
  go_ret
  exact ⟨rfl, (((Below.refl _ _).alloc (Nat.le_refl _) _).alloc (by simp) _).trans (hb4.mono (by omega))⟩
theorem walk_f_eqeq (a0 a1 : Int) (w : World)  :
    Calls Ycxm.prog 4 #[.int .i64 a0, .int .u32 a1, .int .i64 a0, .int .u32 a1, .bool false] w fun e w' => e = .returned (.bool true) ∧ Below w.heap.size w w' := by
  have H1 : Hid (∀ w, Calls Ycxm.prog 15 #[.agg #[.int .i64 a0, .int .u32 a1], .agg #[.int .i64 a0, .int .u32 a1]] w fun e w' => e = .returned (.bool false) ∧ Below w.heap.size w w') := fun w => by
    have b : lt (a0, a1) (a0, a1) = false := by rw [lt_false]; show a0 < a0 ∨ (a0 = a0 ∧ a1 ≤ a1); omega
    have K := less_any (a0, a1) (a0, a1) w
    rw [b] at K
    exact K
  have H2 : Hid (∀ w, Calls Ycxm.prog 15 #[.agg #[.int .i64 a0, .int .u32 a1], .agg #[.int .i64 a0, .int .u32 a1]] w fun e w' => e = .returned (.bool false) ∧ Below w.heap.size w w') := fun w => by
    have b : lt (a0, a1) (a0, a1) = false := by rw [lt_false]; show a0 < a0 ∨ (a0 = a0 ∧ a1 ≤ a1); omega
    have K := less_any (a0, a1) (a0, a1) w
    rw [b] at K
    exact K
  have H3 : Hid (∀ w, Calls Ycxm.prog 15 #[.agg #[.int .i64 a0, .int .u32 a1], .agg #[.int .i64 a0, .int .u32 a1]] w fun e w' => e = .returned (.bool false) ∧ Below w.heap.size w w') := fun w => by
    have b : lt (a0, a1) (a0, a1) = false := by rw [lt_false]; show a0 < a0 ∨ (a0 = a0 ∧ a1 ≤ a1); omega
    have K := less_any (a0, a1) (a0, a1) w
    rw [b] at K
    exact K
  have H4 : Hid (∀ w, Calls Ycxm.prog 15 #[.agg #[.int .i64 a0, .int .u32 a1], .agg #[.int .i64 a0, .int .u32 a1]] w fun e w' => e = .returned (.bool false) ∧ Below w.heap.size w w') := fun w => by
    have b : lt (a0, a1) (a0, a1) = false := by rw [lt_false]; show a0 < a0 ∨ (a0 = a0 ∧ a1 ≤ a1); omega
    have K := less_any (a0, a1) (a0, a1) w
    rw [b] at K
    exact K
  have c1 : ∀ (w1 : World), Below (w.heap.size + 1 + 1) ((w.alloc (.cells #[.int .i64 a0, .int .u32 a1] 25)).alloc (.cells #[.int .i64 a0, .int .u32 a1] 25)) w1 → w1.cell? ⟨w.heap.size, 0, none⟩ = some (.int .i64 a0) ∧ w1.cell? ⟨w.heap.size, 1, none⟩ = some (.int .u32 a1) ∧ w1.cell? ⟨w.heap.size + 1, 0, none⟩ = some (.int .i64 a0) ∧ w1.cell? ⟨w.heap.size + 1, 1, none⟩ = some (.int .u32 a1) := fun w1 hb => by
    refine ⟨(hb.cell (p := ⟨w.heap.size, 0, none⟩) (by simp; omega)).trans ?_, (hb.cell (p := ⟨w.heap.size, 1, none⟩) (by simp; omega)).trans ?_, (hb.cell (p := ⟨w.heap.size + 1, 0, none⟩) (by simp)).trans ?_, (hb.cell (p := ⟨w.heap.size + 1, 1, none⟩) (by simp)).trans ?_⟩ <;> go_simp
  have C1 : Hid (∀ (w1 : World), Below (w.heap.size + 1 + 1) ((w.alloc (.cells #[.int .i64 a0, .int .u32 a1] 25)).alloc (.cells #[.int .i64 a0, .int .u32 a1] 25)) w1 → w1.cell? ⟨w.heap.size, 0, none⟩ = some (.int .i64 a0) ∧ w1.cell? ⟨w.heap.size, 1, none⟩ = some (.int .u32 a1) ∧ w1.cell? ⟨w.heap.size + 1, 0, none⟩ = some (.int .i64 a0) ∧ w1.cell? ⟨w.heap.size + 1, 1, none⟩ = some (.int .u32 a1)) := c1
  clear c1
  go_enter Ycxm.func4, Ycxm.ntmps4
  go_wp2_with fail
  refine (H1.out _).mono ?_
  rintro e w1 ⟨rfl, hb1⟩
  have hb1 := hb1.mono (B' := w.heap.size + 1 + 1) (by simp)
  obtain ⟨g0, g1, g2, g3⟩ := C1.out _ hb1
  go_wp2_with fail
  refine (H2.out _).mono ?_
  rintro e w2 ⟨rfl, hb2⟩
  have hb2 := hb1.trans (hb2.mono (by have := hb1.size; simp at this; omega))
  clear g0 g1 g2 g3
  obtain ⟨g0, g1, g2, g3⟩ := C1.out _ hb2
  go_wp2_with fail
  refine (H3.out _).mono ?_
  rintro e w3 ⟨rfl, hb3⟩
  have hb3 := hb2.trans (hb3.mono (by have := hb2.size; simp at this; omega))
  clear g0 g1 g2 g3
  obtain ⟨g0, g1, g2, g3⟩ := C1.out _ hb3
  go_wp2_with fail
  refine (H4.out _).mono ?_
  rintro e w4 ⟨rfl, hb4⟩
  have hb4 := hb3.trans (hb4.mono (by have := hb3.size; simp at this; omega))
  go_wp2
  go_ret
  exact ⟨rfl, (((Below.refl _ _).alloc (Nat.le_refl _) _).alloc (by simp) _).trans (hb4.mono (by omega))⟩
theorem walk_t_eqlt (a0 a1 a2 a3 : Int) (w : World) (h : a1 < a3) :
    Calls Ycxm.prog 4 #[.int .i64 a0, .int .u32 a1, .int .i64 a2, .int .u32 a3, .bool true] w fun e w' => e = .returned (.bool true) ∧ Below w.heap.size w w' := by
  have H1 : Hid (∀ w, Calls Ycxm.prog 15 #[.agg #[.int .i64 a0, .int .u32 a1], .agg #[.int .i64 a0, .int .u32 a3]] w fun e w' => e = .returned (.bool true) ∧ Below w.heap.size w w') := fun w => by
    have b : lt (a0, a1) (a0, a3) = true := by rw [lt_true]; show a0 < a0 ∨ (a0 = a0 ∧ a1 < a3); omega
    have K := less_any (a0, a1) (a0, a3) w
    rw [b] at K
    exact K
  have H2 : Hid (∀ w, Calls Ycxm.prog 15 #[.agg #[.int .i64 a0, .int .u32 a3], .agg #[.int .i64 a0, .int .u32 a1]] w fun e w' => e = .returned (.bool false) ∧ Below w.heap.size w w') := fun w => by
    have b : lt (a0, a3) (a0, a1) = false := by rw [lt_false]; show a0 < a0 ∨ (a0 = a0 ∧ a1 ≤ a3); omega
    have K := less_any (a0, a3) (a0, a1) w
    rw [b] at K
    exact K
  have H3 : Hid (∀ w, Calls Ycxm.prog 15 #[.agg #[.int .i64 a0, .int .u32 a1], .agg #[.int .i64 a0, .int .u32 a1]] w fun e w' => e = .returned (.bool false) ∧ Below w.heap.size w w') := fun w => by
    have b : lt (a0, a1) (a0, a1) = false := by rw [lt_false]; show a0 < a0 ∨ (a0 = a0 ∧ a1 ≤ a1); omega
    have K := less_any (a0, a1) (a0, a1) w
    rw [b] at K
    exact K
  have H4 : Hid (∀ w, Calls Ycxm.prog 15 #[.agg #[.int .i64 a0, .int .u32 a3], .agg #[.int .i64 a0, .int .u32 a3]] w fun e w' => e = .returned (.bool false) ∧ Below w.heap.size w w') := fun w => by
    have b : lt (a0, a3) (a0, a3) = false := by rw [lt_false]; show a0 < a0 ∨ (a0 = a0 ∧ a3 ≤ a3); omega
    have K := less_any (a0, a3) (a0, a3) w
    rw [b] at K
    exact K
  have e1 : (a1 == a3) = false := by simp; omega
  have c1 : ∀ (w1 : World), Below (w.heap.size + 1 + 1) ((w.alloc (.cells #[.int .i64 a0, .int .u32 a1] 25)).alloc (.cells #[.int .i64 a0, .int .u32 a3] 25)) w1 → w1.cell? ⟨w.heap.size, 0, none⟩ = some (.int .i64 a0) ∧ w1.cell? ⟨w.heap.size, 1, none⟩ = some (.int .u32 a1) ∧ w1.cell? ⟨w.heap.size + 1, 0, none⟩ = some (.int .i64 a0) ∧ w1.cell? ⟨w.heap.size + 1, 1, none⟩ = some (.int .u32 a3) := fun w1 hb => by
    refine ⟨(hb.cell (p := ⟨w.heap.size, 0, none⟩) (by simp; omega)).trans ?_, (hb.cell (p := ⟨w.heap.size, 1, none⟩) (by simp; omega)).trans ?_, (hb.cell (p := ⟨w.heap.size + 1, 0, none⟩) (by simp)).trans ?_, (hb.cell (p := ⟨w.heap.size + 1, 1, none⟩) (by simp)).trans ?_⟩ <;> go_simp
  have C1 : Hid (∀ (w1 : World), Below (w.heap.size + 1 + 1) ((w.alloc (.cells #[.int .i64 a0, .int .u32 a1] 25)).alloc (.cells #[.int .i64 a0, .int .u32 a3] 25)) w1 → w1.cell? ⟨w.heap.size, 0, none⟩ = some (.int .i64 a0) ∧ w1.cell? ⟨w.heap.size, 1, none⟩ = some (.int .u32 a1) ∧ w1.cell? ⟨w.heap.size + 1, 0, none⟩ = some (.int .i64 a0) ∧ w1.cell? ⟨w.heap.size + 1, 1, none⟩ = some (.int .u32 a3)) := c1
  clear c1
  go_enter Ycxm.func4, Ycxm.ntmps4
  go_wp2_with fail
  refine (H1.out _).mono ?_
  rintro e w1 ⟨rfl, hb1⟩
  have hb1 := hb1.mono (B' := w.heap.size + 1 + 1) (by simp)
  obtain ⟨g0, g1, g2, g3⟩ := C1.out _ hb1
  go_wp2_with fail
  refine (H2.out _).mono ?_
  rintro e w2 ⟨rfl, hb2⟩
  have hb2 := hb1.trans (hb2.mono (by have := hb1.size; simp at this; omega))
  clear g0 g1 g2 g3
  obtain ⟨g0, g1, g2, g3⟩ := C1.out _ hb2
  go_wp2_with fail
  refine (H3.out _).mono ?_
  rintro e w3 ⟨rfl, hb3⟩
  have hb3 := hb2.trans (hb3.mono (by have := hb2.size; simp at this; omega))
  clear g0 g1 g2 g3
  obtain ⟨g0, g1, g2, g3⟩ := C1.out _ hb3
  go_wp2_with fail
  refine (H4.out _).mono ?_
  rintro e w4 ⟨rfl, hb4⟩
  have hb4 := hb3.trans (hb4.mono (by have := hb3.size; simp at this; omega))
  go_wp2
  go_ret
  exact ⟨rfl, (((Below.refl _ _).alloc (Nat.le_refl _) _).alloc (by simp) _).trans (hb4.mono (by omega))⟩
theorem walk_t_eqgt (a0 a1 a2 a3 : Int) (w : World) (h : a3 < a1) :
    Calls Ycxm.prog 4 #[.int .i64 a0, .int .u32 a1, .int .i64 a2, .int .u32 a3, .bool true] w fun e w' => e = .returned (.bool true) ∧ Below w.heap.size w w' := by
  have H1 : Hid (∀ w, Calls Ycxm.prog 15 #[.agg #[.int .i64 a0, .int .u32 a1], .agg #[.int .i64 a0, .int .u32 a3]] w fun e w' => e = .returned (.bool false) ∧ Below w.heap.size w w') := fun w => by
    have b : lt (a0, a1) (a0, a3) = false := by rw [lt_false]; show a0 < a0 ∨ (a0 = a0 ∧ a3 ≤ a1); omega
    have K := less_any (a0, a1) (a0, a3) w
    rw [b] at K
    exact K
  have H2 : Hid (∀ w, Calls Ycxm.prog 15 #[.agg #[.int .i64 a0, .int .u32 a3], .agg #[.int .i64 a0, .int .u32 a1]] w fun e w' => e = .returned (.bool true) ∧ Below w.heap.size w w') := fun w => by
    have b : lt (a0, a3) (a0, a1) = true := by rw [lt_true]; show a0 < a0 ∨ (a0 = a0 ∧ a3 < a1); omega
    have K := less_any (a0, a3) (a0, a1) w
    rw [b] at K
    exact K
  have H3 : Hid (∀ w, Calls Ycxm.prog 15 #[.agg #[.int .i64 a0, .int .u32 a1], .agg #[.int .i64 a0, .int .u32 a1]] w fun e w' => e = .returned (.bool false) ∧ Below w.heap.size w w') := fun w => by
    have b : lt (a0, a1) (a0, a1) = false := by rw [lt_false]; show a0 < a0 ∨ (a0 = a0 ∧ a1 ≤ a1); omega
    have K := less_any (a0, a1) (a0, a1) w
    rw [b] at K
    exact K
  have H4 : Hid (∀ w, Calls Ycxm.prog 15 #[.agg #[.int .i64 a0, .int .u32 a3], .agg #[.int .i64 a0, .int .u32 a3]] w fun e w' => e = .returned (.bool false) ∧ Below w.heap.size w w') := fun w => by
    have b : lt (a0, a3) (a0, a3) = false := by rw [lt_false]; show a0 < a0 ∨ (a0 = a0 ∧ a3 ≤ a3); omega
    have K := less_any (a0, a3) (a0, a3) w
    rw [b] at K
    exact K
  have e1 : (a1 == a3) = false := by simp; omega
  have c1 : ∀ (w1 : World), Below (w.heap.size + 1 + 1) ((w.alloc (.cells #[.int .i64 a0, .int .u32 a1] 25)).alloc (.cells #[.int .i64 a0, .int .u32 a3] 25)) w1 → w1.cell? ⟨w.heap.size, 0, none⟩ = some (.int .i64 a0) ∧ w1.cell? ⟨w.heap.size, 1, none⟩ = some (.int .u32 a1) ∧ w1.cell? ⟨w.heap.size + 1, 0, none⟩ = some (.int .i64 a0) ∧ w1.cell? ⟨w.heap.size + 1, 1, none⟩ = some (.int .u32 a3) := fun w1 hb => by
    refine ⟨(hb.cell (p := ⟨w.heap.size, 0, none⟩) (by simp; omega)).trans ?_, (hb.cell (p := ⟨w.heap.size, 1, none⟩) (by simp; omega)).trans ?_, (hb.cell (p := ⟨w.heap.size + 1, 0, none⟩) (by simp)).trans ?_, (hb.cell (p := ⟨w.heap.size + 1, 1, none⟩) (by simp)).trans ?_⟩ <;> go_simp
  have C1 : Hid (∀ (w1 : World), Below (w.heap.size + 1 + 1) ((w.alloc (.cells #[.int .i64 a0, .int .u32 a1] 25)).alloc (.cells #[.int .i64 a0, .int .u32 a3] 25)) w1 → w1.cell? ⟨w.heap.size, 0, none⟩ = some (.int .i64 a0) ∧ w1.cell? ⟨w.heap.size, 1, none⟩ = some (.int .u32 a1) ∧ w1.cell? ⟨w.heap.size + 1, 0, none⟩ = some (.int .i64 a0) ∧ w1.cell? ⟨w.heap.size + 1, 1, none⟩ = some (.int .u32 a3)) := c1
  clear c1
  go_enter Ycxm.func4, Ycxm.ntmps4
  go_wp2_with fail
  refine (H1.out _).mono ?_
  rintro e w1 ⟨rfl, hb1⟩
  have hb1 := hb1.mono (B' := w.heap.size + 1 + 1) (by simp)
  obtain ⟨g0, g1, g2, g3⟩ := C1.out _ hb1
  go_wp2_with fail
  refine (H2.out _).mono ?_
  rintro e w2 ⟨rfl, hb2⟩
  have hb2 := hb1.trans (hb2.mono (by have := hb1.size; simp at this; omega))
  clear g0 g1 g2 g3
  obtain ⟨g0, g1, g2, g3⟩ := C1.out _ hb2
  go_wp2_with fail
  refine (H3.out _).mono ?_
  rintro e w3 ⟨rfl, hb3⟩
  have hb3 := hb2.trans (hb3.mono (by have := hb2.size; simp at this; omega))
  clear g0 g1 g2 g3
  obtain ⟨g0, g1, g2, g3⟩ := C1.out _ hb3
  go_wp2_with fail
  refine (H4.out _).mono ?_
  rintro e w4 ⟨rfl, hb4⟩
  have hb4 := hb3.trans (hb4.mono (by have := hb3.size; simp at this; omega))
  go_wp2
  go_ret
  exact ⟨rfl, (((Below.refl _ _).alloc (Nat.le_refl _) _).alloc (by simp) _).trans (hb4.mono (by omega))⟩
theorem walk_t_eqeq (a0 a1 a2 : Int) (w : World)  :
    Calls Ycxm.prog 4 #[.int .i64 a0, .int .u32 a1, .int .i64 a2, .int .u32 a1, .bool true] w fun e w' => e = .returned (.bool true) ∧ Below w.heap.size w w' := by
  have H1 : Hid (∀ w, Calls Ycxm.prog 15 #[.agg #[.int .i64 a0, .int .u32 a1], .agg #[.int .i64 a0, .int .u32 a1]] w fun e w' => e = .returned (.bool false) ∧ Below w.heap.size w w') := fun w => by
    have b : lt (a0, a1) (a0, a1) = false := by rw [lt_false]; show a0 < a0 ∨ (a0 = a0 ∧ a1 ≤ a1); omega
    have K := less_any (a0, a1) (a0, a1) w
    rw [b] at K
    exact K
  have H2 : Hid (∀ w, Calls Ycxm.prog 15 #[.agg #[.int .i64 a0, .int .u32 a1], .agg #[.int .i64 a0, .int .u32 a1]] w fun e w' => e = .returned (.bool false) ∧ Below w.heap.size w w') := fun w => by
    have b : lt (a0, a1) (a0, a1) = false := by rw [lt_false]; show a0 < a0 ∨ (a0 = a0 ∧ a1 ≤ a1); omega
    have K := less_any (a0, a1) (a0, a1) w
    rw [b] at K
    exact K
  have H3 : Hid (∀ w, Calls Ycxm.prog 15 #[.agg #[.int .i64 a0, .int .u32 a1], .agg #[.int .i64 a0, .int .u32 a1]] w fun e w' => e = .returned (.bool false) ∧ Below w.heap.size w w') := fun w => by
    have b : lt (a0, a1) (a0, a1) = false := by rw [lt_false]; show a0 < a0 ∨ (a0 = a0 ∧ a1 ≤ a1); omega
    have K := less_any (a0, a1) (a0, a1) w
    rw [b] at K
    exact K
  have H4 : Hid (∀ w, Calls Ycxm.prog 15 #[.agg #[.int .i64 a0, .int .u32 a1], .agg #[.int .i64 a0, .int .u32 a1]] w fun e w' => e = .returned (.bool false) ∧ Below w.heap.size w w') := fun w => by
    have b : lt (a0, a1) (a0, a1) = false := by rw [lt_false]; show a0 < a0 ∨ (a0 = a0 ∧ a1 ≤ a1); omega
    have K := less_any (a0, a1) (a0, a1) w
    rw [b] at K
    exact K
  have c1 : ∀ (w1 : World), Below (w.heap.size + 1 + 1) ((w.alloc (.cells #[.int .i64 a0, .int .u32 a1] 25)).alloc (.cells #[.int .i64 a0, .int .u32 a1] 25)) w1 → w1.cell? ⟨w.heap.size, 0, none⟩ = some (.int .i64 a0) ∧ w1.cell? ⟨w.heap.size, 1, none⟩ = some (.int .u32 a1) ∧ w1.cell? ⟨w.heap.size + 1, 0, none⟩ = some (.int .i64 a0) ∧ w1.cell? ⟨w.heap.size + 1, 1, none⟩ = some (.int .u32 a1) := fun w1 hb => by
    refine ⟨(hb.cell (p := ⟨w.heap.size, 0, none⟩) (by simp; omega)).trans ?_, (hb.cell (p := ⟨w.heap.size, 1, none⟩) (by simp; omega)).trans ?_, (hb.cell (p := ⟨w.heap.size + 1, 0, none⟩) (by simp)).trans ?_, (hb.cell (p := ⟨w.heap.size + 1, 1, none⟩) (by simp)).trans ?_⟩ <;> go_simp
  have C1 : Hid (∀ (w1 : World), Below (w.heap.size + 1 + 1) ((w.alloc (.cells #[.int .i64 a0, .int .u32 a1] 25)).alloc (.cells #[.int .i64 a0, .int .u32 a1] 25)) w1 → w1.cell? ⟨w.heap.size, 0, none⟩ = some (.int .i64 a0) ∧ w1.cell? ⟨w.heap.size, 1, none⟩ = some (.int .u32 a1) ∧ w1.cell? ⟨w.heap.size + 1, 0, none⟩ = some (.int .i64 a0) ∧ w1.cell? ⟨w.heap.size + 1, 1, none⟩ = some (.int .u32 a1)) := c1
  clear c1
  go_enter Ycxm.func4, Ycxm.ntmps4
  go_wp2_with fail
  refine (H1.out _).mono ?_
  rintro e w1 ⟨rfl, hb1⟩
  have hb1 := hb1.mono (B' := w.heap.size + 1 + 1) (by simp)
  obtain ⟨g0, g1, g2, g3⟩ := C1.out _ hb1
  go_wp2_with fail
  refine (H2.out _).mono ?_
  rintro e w2 ⟨rfl, hb2⟩
  have hb2 := hb1.trans (hb2.mono (by have := hb1.size; simp at this; omega))
  clear g0 g1 g2 g3
  obtain ⟨g0, g1, g2, g3⟩ := C1.out _ hb2
  go_wp2_with fail
  refine (H3.out _).mono ?_
  rintro e w3 ⟨rfl, hb3⟩
  have hb3 := hb2.trans (hb3.mono (by have := hb2.size; simp at this; omega))
  clear g0 g1 g2 g3
  obtain ⟨g0, g1, g2, g3⟩ := C1.out _ hb3
  go_wp2_with fail
  refine (H4.out _).mono ?_
  rintro e w4 ⟨rfl, hb4⟩
  have hb4 := hb3.trans (hb4.mono (by have := hb3.size; simp at this; omega))
  go_wp2
  go_ret
  exact ⟨rfl, (((Below.refl _ _).alloc (Nat.le_refl _) _).alloc (by simp) _).trans (hb4.mono (by omega))⟩
theorem walk (a0 a1 a2 a3 : Int) (a4 : Bool) (w : World) (w0 : (Lit.int .i64 a0).wf = true) (w1 : (Lit.int .u32 a1).wf = true) (w2 : (Lit.int .i64 a2).wf = true) (w3 : (Lit.int .u32 a3).wf = true) :
    Calls Ycxm.prog 4 #[.int .i64 a0, .int .u32 a1, .int .i64 a2, .int .u32 a3, .bool a4] w fun e w' => e = .returned (.bool true) ∧ Below w.heap.size w w' := by
  cases a4
  · rcases Int.lt_trichotomy a0 a2 with h | rfl | h
    · exact walk_f_lt a0 a1 a2 a3 w h
    · rcases Int.lt_trichotomy a1 a3 with h | rfl | h
      · exact walk_f_eqlt a0 a1 a3 w h
      · exact walk_f_eqeq a0 a1 w
      · exact walk_f_eqgt a0 a1 a3 w h
    · exact walk_f_gt a0 a1 a2 a3 w h
  · rcases Int.lt_trichotomy a1 a3 with h | rfl | h
    · exact walk_t_eqlt a0 a1 a2 a3 w h
    · exact walk_t_eqeq a0 a1 a2 w
    · exact walk_t_eqgt a0 a1 a2 a3 w h
end Go.Proofs.Ymbrcx.lawS930008ATotal
