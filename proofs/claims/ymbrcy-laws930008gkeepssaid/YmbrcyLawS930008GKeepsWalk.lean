/- The walk of LawS930008GKeeps (seat Ymbrcy): the Go text returns true, and writes nothing that was there. -/
import Derived.Test.YmbrcyBase
import Derived.Test.YmbrcyCopyL
import Derived.Test.YmbrcyRem
import Derived.Test.YmbrcyGfns
namespace Go.Proofs.Ymbrcy.lawS930008GKeeps
open Go.RowKit Go.Sort
set_option linter.unusedVariables false

theorem eqq_comm (x y : It) : eqq x y = eqq y x := by
  unfold eqq
  rw [Bool.beq_comm (a := y.1), Bool.beq_comm (a := y.2)]

theorem walk_long (a : Option Addr) (n cap : Nat) (a1 a2 : Int) (w : World) (hn : ¬ n ≤ 1024) (hm : n ≤ maxLen) :
    Calls Ycym.prog 9 #[.slice a n cap, .int .u32 a1, .int .u32 a2] w fun e w' => e = .returned (.bool true) ∧ Below w.heap.size w w' := by
  unfold maxLen at hm
  go_enter Ycym.func9, Ycym.ntmps9
  go_wp2
  go_ret
  exact ⟨rfl, Below.refl _ _⟩

set_option maxHeartbeats 1000000 in
theorem walk_none (a : Option Addr) (cap : Nat) (d : Nat → It) (a1 a2 : Int) (w : World) (h : Sl w a 0 d) (h0 : 0 ≤ a1) (h1 : a1 ≤ 4294967295) :
    Calls Ycym.prog 9 #[.slice a 0 cap, .int .u32 a1, .int .u32 a2] w fun e w' => e = .returned (.bool true) ∧ Below w.heap.size w w' := by
  go_enter Ycym.func9, Ycym.ntmps9
  go_wp2_with fail
  refine (gcopy_any a 0 cap d _ h (by omega)).mono ?_
  rintro e w1 ⟨rfl, how1, hb1⟩
  have hH1 : Hp (w1.alloc (.cells #[.slice (some ⟨w.heap.size, 0, none⟩) 0 0] 24)) w1.heap.size w.heap.size 0 0 d :=
    ⟨by go_simp, by go_simp, by simp, by have := how1.lt; omega, how1.alloc _, Nat.le_refl _, by omega⟩
  obtain ⟨b, hb⟩ : ∃ b, b = w.heap.size := ⟨_, rfl⟩
  rw [← hb] at hH1 ⊢
  have hbl2 := hb1.alloc hb1.size (.cells #[.slice (some ⟨b, 0, none⟩) 0 0] 24)
  have HBE : Hid (b = w.heap.size) := hb
  clear how1 hb1 hb
  go_wp2_with fail
  refine (rem_out _ _ 0 0 a1 _ _ hH1 (.inr (by simpa using h0))).mono ?_
  rintro e w2 ⟨rfl, hb2⟩
  have hH2 := (hH1.below hb2 (Nat.le_refl _)).below ((Below.refl _ w2).alloc (Nat.le_refl _) (.cells #[.int .i64 0, .int .u32 0] 29)) (Nat.le_refl _)
  have hbl3 := (hbl2.trans (hb2.mono hbl2.size))
  have hbl4 := hbl3.alloc hbl3.size (.cells #[.int .i64 0, .int .u32 0] 29)
  have g0 := hH2.cell
  clear hH1 hbl3 hb2 hbl2
  go_wp2
  go_ret
  exact ⟨rfl, hbl4⟩

set_option maxHeartbeats 4000000 in
theorem walk_main (a : Option Addr) (n cap : Nat) (d : Nat → It) (a1 a2 : Int) (i p : Nat) (w : World) (h : Sl w a n d) (hn : n ≤ 1024) (hn0 : 1 ≤ n) (h0 : 0 ≤ a1) (h1 : a1 ≤ 4294967295) (h2 : 0 ≤ a2) (h3 : a2 ≤ 4294967295)
    (hs : a1 % (n : Int) = i) (hi : i < n) (hp : a2 % (n : Int) = p) (hpn : p < n) :
    Calls Ycym.prog 9 #[.slice a n cap, .int .u32 a1, .int .u32 a2] w fun e w' => e = .returned (.bool true) ∧ Below w.heap.size w w' := by
  have hnz : ((n : Int) == 0) = false := by simp; omega
  obtain ⟨l, hl⟩ : ∃ l, l = n - 1 := ⟨n - 1, rfl⟩
  have hli : (n : Int) - 1 = (l : Int) := by omega
  have HLE : Hid (l = n - 1) := hl
  clear hl
  go_enter Ycym.func9, Ycym.ntmps9
  go_wp2_with fail
  refine (gcopy_any a n cap d _ h (by omega)).mono ?_
  rintro e w1 ⟨rfl, how1, hb1⟩
  have hH0 : Hp (w1.alloc (.cells #[.slice (some ⟨w.heap.size, 0, none⟩) n n] 24)) w1.heap.size w.heap.size n n d :=
    ⟨by go_simp, by go_simp, by simp, by have := how1.lt; omega, how1.alloc _, Nat.le_refl _, by omega⟩
  obtain ⟨b, hb⟩ : ∃ b, b = w.heap.size := ⟨_, rfl⟩
  rw [← hb] at hH0 ⊢
  have hbl1 := hb1.alloc hb1.size (.cells #[.slice (some ⟨b, 0, none⟩) n n] 24)
  have HBE : Hid (b = w.heap.size) := hb
  have HB1 : Hid (w.heap.size ≤ w1.heap.size) := hb1.size
  have hbb : b < w1.heap.size := by have := how1.lt; omega
  obtain ⟨ab, off, ha, hc⟩ := h.below hbl1 (Nat.le_refl _)
  obtain ⟨rfl, hbw⟩ := ha (by omega)
  have k0 := (hc p hpn).1
  have k1 := (hc p hpn).2
  have hpt : (a2 % (n : Int)).toNat = p := by omega
  have hpl : a2 % (n : Int) < (n : Int) := by omega
  have hp0 : 0 ≤ a2 % (n : Int) := by omega
  obtain ⟨y, hy⟩ : ∃ y, y = d p := ⟨_, rfl⟩
  rw [← hy] at k0 k1
  clear how1 hb1 hb hc ha hp hy
  have hbl2 := hbl1.alloc hbl1.size (.cells #[.int .i64 y.1, .int .u32 y.2] 29)
  have hH1 := hH0.below ((Below.refl _ (w1.alloc (.cells #[.slice (some ⟨b, 0, none⟩) n n] 24))).alloc (Nat.le_refl _) (.cells #[.int .i64 y.1, .int .u32 y.2] 29)) (Nat.le_refl _)
  have y0 : ((w1.alloc (.cells #[.slice (some ⟨b, 0, none⟩) n n] 24)).alloc (.cells #[.int .i64 y.1, .int .u32 y.2] 29)).cell? ⟨w1.heap.size + 1, 0, none⟩ = some (.int .i64 y.1) := by go_simp
  have y1 : ((w1.alloc (.cells #[.slice (some ⟨b, 0, none⟩) n n] 24)).alloc (.cells #[.int .i64 y.1, .int .u32 y.2] 29)).cell? ⟨w1.heap.size + 1, 1, none⟩ = some (.int .u32 y.2) := by go_simp
  clear hH0 hbl1
  go_wp2_with fail
  rw [hs]
  clear hs h0 h1
  refine (rem_in _ _ n n i _ _ hH1 hi).mono ?_
  rintro e w2 ⟨rfl, hH2, hf2⟩
  have hbl3 := hbl2.trans (hf2.to_below hbl2.size (fun t ht => by have := HB1.out; have := HBE.out; omega))
  have hbz := hH1.own.lt
  have hz : w1.heap.size + 1 < w2.heap.size := by have := hf2.size; simp at this; omega
  have q0 := (hf2.cell (p := ⟨w1.heap.size + 1, 0, none⟩) (by simp) (by show ¬ (w1.heap.size + 1 = b ∨ w1.heap.size + 1 = w1.heap.size); omega)).trans y0
  have q1 := (hf2.cell (p := ⟨w1.heap.size + 1, 1, none⟩) (by simp) (by show ¬ (w1.heap.size + 1 = b ∨ w1.heap.size + 1 = w1.heap.size); omega)).trans y1
  obtain ⟨x, hx⟩ : ∃ x, x = d i := ⟨_, rfl⟩
  have HX : Hid (x = d i) := hx
  rw [← hx]
  clear hx
  obtain ⟨w3, hw3⟩ : ∃ w3, w3 = w2.alloc (.cells #[.int .i64 x.1, .int .u32 x.2] 29) := ⟨_, rfl⟩
  have hb3 : Below w2.heap.size w2 w3 := by rw [hw3]; exact (Below.refl _ w2).alloc (Nat.le_refl _) _
  have x0 : w3.cell? ⟨w2.heap.size, 0, none⟩ = some (.int .i64 x.1) := by rw [hw3]; go_simp
  have x1 : w3.cell? ⟨w2.heap.size, 1, none⟩ = some (.int .u32 x.2) := by rw [hw3]; go_simp
  have HW3 : Hid (w2.alloc (.cells #[.int .i64 x.1, .int .u32 x.2] 29) = w3) := hw3.symm
  have r0 := (hb3.cell (p := ⟨w1.heap.size + 1, 0, none⟩) hz).trans q0
  have r1 := (hb3.cell (p := ⟨w1.heap.size + 1, 1, none⟩) hz).trans q1
  have hH3 := hH2.below hb3 (Nat.le_refl _)
  have hbl4 := hbl3.trans (hb3.mono hbl3.size)
  have hz3 := Nat.lt_of_lt_of_le hz hb3.size
  clear hw3 hH1 hbl2 hf2 hH2 hbl3 y0 y1 q0 q1 hz hb3 k0 k1
  have c8 := cell_regrown hH3.cell
  rw [← HLE.out] at c8 hH3
  obtain ⟨hp, hhp⟩ : ∃ hp, hp = w1.heap.size := ⟨_, rfl⟩
  rw [← hhp] at c8 hH3 r0 r1 hz3 ⊢
  clear hhp
  obtain ⟨ab', off', ha', hc'⟩ := h.below hbl4 (Nat.le_refl _)
  obtain ⟨hae, hbw'⟩ := ha' (by omega)
  obtain ⟨rfl, rfl⟩ : ab = ab' ∧ off = off' := by simpa using hae
  have c0 := cell_regrown (hc' i hi).1
  have c1 := cell_regrown (hc' i hi).2
  rw [← HX.out] at c0 c1
  have c2 := cell_regrown x0
  have c3 := cell_regrown x1
  have HL : Hid (∀ w, Calls Ycym.prog 24 #[.agg #[.int .i64 x.1, .int .u32 x.2], .agg #[.int .i64 x.1, .int .u32 x.2]] w fun r w' => r = .returned (.bool true) ∧ Below w.heap.size w w') := fun w => by
    have := gsame_any x x w
    rwa [eqq_self] at this
  clear hc' ha' hae
  go_wp2
  rw [HW3.out]
  refine wp_region_below (by kernel_rfl) (by kernel_rfl) ?_
  repeat (go_big_quiet_step (exact Calls.regrown_of (HL.out _)))
  refine wpQuiet_nil ?_
  intro w4 hb4
  have s0 := (hb4.cell (p := ⟨hp + 1, 0, none⟩) hz3).trans r0
  have s1 := (hb4.cell (p := ⟨hp + 1, 1, none⟩) hz3).trans r1
  have hH4 := hH3.below hb4 (Nat.le_refl _)
  have hbl5 := hbl4.trans (hb4.mono hbl4.size)
  have hz4 := Nat.lt_of_lt_of_le hz3 hb4.size
  clear c0 c1 c2 c3 c8 HL hb4 hbl4 hH3 r0 r1 hz3 x0 x1 HW3
  go_wp2_with fail
  refine (gcount_any _ n cap d y _ (h.below hbl5 (Nat.le_refl _)) hn).mono ?_
  rintro e w5 ⟨rfl, hb5⟩
  have t0 := (hb5.cell (p := ⟨hp + 1, 0, none⟩) hz4).trans s0
  have t1 := (hb5.cell (p := ⟨hp + 1, 1, none⟩) hz4).trans s1
  have hH5 := hH4.below hb5 (Nat.le_refl _)
  have hbl6 := hbl5.trans (hb5.mono hbl5.size)
  have hz5 := Nat.lt_of_lt_of_le hz4 hb5.size
  clear hb5 hbl5 hH4 s0 s1 hz4
  obtain ⟨ab', off', ha', hc'⟩ := h.below hbl6 (Nat.le_refl _)
  obtain ⟨hae, hbw''⟩ := ha' (by omega)
  obtain ⟨rfl, rfl⟩ : ab = ab' ∧ off = off' := by simpa using hae
  have c0 := cell_regrown (hc' i hi).1
  have c1 := cell_regrown (hc' i hi).2
  rw [← HX.out] at c0 c1
  have c2 := cell_regrown t0
  have c3 := cell_regrown t1
  have HL : Hid (∀ w, Calls Ycym.prog 24 #[.agg #[.int .i64 y.1, .int .u32 y.2], .agg #[.int .i64 x.1, .int .u32 x.2]] w fun r w' => r = .returned (.bool (eqq y x)) ∧ Below w.heap.size w w') := fun w => by
    have := gsame_any y x w
    rwa [eqq_comm] at this
  have hcl := cn_le (eqq y) d n
  have hcn := rmv_cn (eqq y) d hi
  rw [← HX.out, ← HLE.out] at hcn
  clear hc' ha' hae
  go_wp2
  refine wp_region_below (by kernel_rfl) (by kernel_rfl) ?_
  repeat (go_big_quiet_step (exact Calls.regrown_of (HL.out _)))
  refine wpQuiet_nil ?_
  intro w6 hb6
  have s0 := (hb6.cell (p := ⟨hp + 1, 0, none⟩) hz5).trans t0
  have s1 := (hb6.cell (p := ⟨hp + 1, 1, none⟩) hz5).trans t1
  have hH6 := hH5.below hb6 (Nat.le_refl _)
  have hbl7 := hbl6.trans (hb6.mono hbl6.size)
  clear c0 c1 c2 c3 HL hb6 hbl6 hH5 t0 t1 hz5
  have HK : Hid (∀ dd os, Calls Ycym.prog 25 #[.slice (some ⟨b, 0, none⟩) l n, .agg #[.int .i64 y.1, .int .u32 y.2]] (grow (redrawn w6 dd) os) fun e w'' => e = .returned (.int .i64 (cn (eqq y) (rmv n d i) l)) ∧ ∃ p : Regrown, w'' = grow (redrawn w6 p.d) p.os) := fun dd os =>
    Calls.regrown_of (gcount_any _ l n (rmv n d i) y _ ((hH6.own.sl (by have := HLE.out; omega)).below (below_regrown w6 dd os) (Nat.le_refl _)) (by have := HLE.out; omega))
  have c2 := cell_regrown s0
  have c3 := cell_regrown s1
  have c4 := cell_regrown hH6.cell
  cases he : eqq y x
  · rw [he] at hcn
    have hce : cn (eqq y) d n = cn (eqq y) (rmv n d i) l := by simpa using hcn.symm
    rw [hce]
    clear hcn hce
    go_wp2
    refine wp_region_below (by kernel_rfl) (by kernel_rfl) ?_
    repeat (go_big_quiet_step (exact HK.out _ _))
    refine wpQuiet_nil ?_
    intro w7 hb7
    go_wp2
    go_ret
    exact ⟨rfl, hbl7.trans (hb7.mono hbl7.size)⟩
  · rw [he] at hcn
    have hci : (cn (eqq y) d n : Int) - 1 = cn (eqq y) (rmv n d i) l := by simp at hcn; omega
    clear hcn
    go_wp2
    refine wp_region_below (by kernel_rfl) (by kernel_rfl) ?_
    repeat (go_big_quiet_step (exact HK.out _ _))
    refine wpQuiet_nil ?_
    intro w7 hb7
    go_wp2
    go_ret
    exact ⟨rfl, hbl7.trans (hb7.mono hbl7.size)⟩

theorem walk (a : Option Addr) (n cap : Nat) (d : Nat → It) (a1 a2 : Int) (w : World) (h : Sl w a n d) (hn : n ≤ maxLen) (w1 : (Lit.int .u32 a1).wf = true) (w2 : (Lit.int .u32 a2).wf = true) :
    Calls Ycym.prog 9 #[.slice a n cap, .int .u32 a1, .int .u32 a2] w fun e w' => e = .returned (.bool true) ∧ Below w.heap.size w w' := by
  have hb := bd_u32 w1
  have hb2 := bd_u32 w2
  by_cases hs : n ≤ 1024
  · by_cases h0 : n = 0
    · subst h0
      exact walk_none a cap d a1 a2 w h hb.1 hb.2
    · have h2 : 0 ≤ a1 % (n : Int) := Int.emod_nonneg _ (by omega)
      have h3 : a1 % (n : Int) < (n : Int) := Int.emod_lt_of_pos _ (by omega)
      have h4 : 0 ≤ a2 % (n : Int) := Int.emod_nonneg _ (by omega)
      have h5 : a2 % (n : Int) < (n : Int) := Int.emod_lt_of_pos _ (by omega)
      exact walk_main a n cap d a1 a2 (a1 % (n : Int)).toNat (a2 % (n : Int)).toNat w h hs (by omega) hb.1 hb.2 hb2.1 hb2.2 (by omega) (by omega) (by omega) (by omega)
  · exact walk_long a n cap a1 a2 w hs hn
end Go.Proofs.Ymbrcy.lawS930008GKeeps
