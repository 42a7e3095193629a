/- The walk of LawS930008GRange (seat Ymbrcy): the Go text returns true, and writes nothing that was there. -/
import Derived.Test.YmbrcyBase
import Derived.Test.YmbrcyCopyL
import Derived.Test.YmbrcyRem
import Derived.Test.YmbrcyGfns
namespace Go.Proofs.Ymbrcy.lawS930008GRange
open Go.RowKit Go.Sort
set_option linter.unusedVariables false

theorem walk_long (a : Option Addr) (n cap : Nat) (a1 : Int) (w : World) (hn : ¬ n ≤ 1024) (hm : n ≤ maxLen) :
    Calls Ycym.prog 11 #[.slice a n cap, .int .i64 a1] w fun e w' => e = .returned (.bool true) ∧ Below w.heap.size w w' := by
  unfold maxLen at hm
  go_enter Ycym.func11, Ycym.ntmps11
  go_wp2
  go_ret
  exact ⟨rfl, Below.refl _ _⟩

set_option maxHeartbeats 2000000 in
theorem walk_out (a : Option Addr) (n cap : Nat) (d : Nat → It) (a1 : Int) (w : World) (h : Sl w a n d) (hn : n ≤ 1024) (g : decide (0 ≤ a1) = false ∨ (0 ≤ a1 ∧ decide (a1 < (n : Int)) = false)) :
    Calls Ycym.prog 11 #[.slice a n cap, .int .i64 a1] w fun e w' => e = .returned (.bool true) ∧ Below w.heap.size w w' := by
  go_enter Ycym.func11, Ycym.ntmps11
  go_wp2_with fail
  refine (gcopy_any a n cap d _ h (by omega)).mono ?_
  rintro e w1 ⟨rfl, how1, hb1⟩
  have hH1 : Hp (w1.alloc (.cells #[.slice (some ⟨w.heap.size, 0, none⟩) n n] 24)) w1.heap.size w.heap.size n n d :=
    ⟨by go_simp, by go_simp, by simp, by have := how1.lt; omega, how1.alloc _, Nat.le_refl _, by omega⟩
  obtain ⟨b, hb⟩ : ∃ b, b = w.heap.size := ⟨_, rfl⟩
  rw [← hb] at hH1 ⊢
  have hbl2 := hb1.alloc hb1.size (.cells #[.slice (some ⟨b, 0, none⟩) n n] 24)
  have HBE : Hid (b = w.heap.size) := hb
  clear how1 hb1 hb
  go_wp2_with fail
  refine (rem_out _ _ n n a1 _ _ hH1 (by rcases g with g | g <;> simp at g <;> omega)).mono ?_
  rintro e w2 ⟨rfl, hb2⟩
  have hH2 := (hH1.below hb2 (Nat.le_refl _)).below ((Below.refl _ w2).alloc (Nat.le_refl _) (.cells #[.int .i64 0, .int .u32 0] 29)) (Nat.le_refl _)
  have hbl3 := (hbl2.trans (hb2.mono hbl2.size))
  have hbl4 := hbl3.alloc hbl3.size (.cells #[.int .i64 0, .int .u32 0] 29)
  have g0 := hH2.cell
  obtain ⟨hp, hhp⟩ : ∃ hp, hp = w1.heap.size := ⟨_, rfl⟩
  rw [← hhp] at hH2 g0 ⊢
  have hpl : hp < w2.heap.size := by have := hb2.size; simp at this; omega
  clear hH1 hbl3 hb2 hbl2 hhp
  rcases g with g | ⟨g, g1⟩
  all_goals
    go_wp2
    go_loopw [9] (fun u wr => ∃ k : Nat, k ≤ n ∧ u = .int .i64 k ∧ Hp wr hp b n n d ∧ Below w.heap.size w wr) (fun u _ => n - (intOf u).toNat)
    case atStart => exact ⟨0, Nat.zero_le _, rfl, hH2, hbl4⟩
    case round =>
      clear hH2 hbl4 g0
      obtain ⟨k, hk, rfl, hH, hbl⟩ := hrel
      have g0 := hH.cell
      by_cases hlt : k < n
      · obtain ⟨ab, off, ha, hc⟩ := h.below hbl (Nat.le_refl _)
        obtain ⟨rfl, hbw⟩ := ha (by omega)
        have HL : Hid (∀ w, Calls Ycym.prog 24 #[.agg #[.int .i64 (d k).1, .int .u32 (d k).2], .agg #[.int .i64 (d k).1, .int .u32 (d k).2]] w fun r w' => r = .returned (.bool true) ∧ Below w.heap.size w w') := fun w => by
          have := gsame_any (d k) (d k) w
          rwa [eqq_self] at this
        have c0 := cell_regrown (hc k hlt).1
        have c1 := cell_regrown (hc k hlt).2
        have c2 := cell_regrown (hH.own.c0 hlt)
        have c3 := cell_regrown (hH.own.c1 hlt)
        have c4 := cell_regrown g0
        clear hc ha
        go_wp2
        refine wp_region_below (by kernel_rfl) (by kernel_rfl) ?_
        repeat (go_big_quiet_step (exact Calls.regrown_of (HL.out _)))
        refine wpQuiet_nil ?_
        intro w8 hb8
        have p1 := hH.below hb8 (Nat.le_refl _)
        have p2 := hbl.trans (hb8.mono hbl.size)
        clear c0 c1 c2 c3 c4 hH hbl hb8 g0 HL
        go_wp2
        go_roundw
        case rel => exact ⟨k + 1, by omega, by go_num, p1, p2⟩
        case measure => simp [intOf]; omega
      · go_wp2
        go_ret
        exact ⟨rfl, hbl⟩

set_option maxHeartbeats 2000000 in
theorem walk_in (a : Option Addr) (n cap : Nat) (d : Nat → It) (i : Nat) (w : World) (h : Sl w a n d) (hn : n ≤ 1024) (hi : i < n) :
    Calls Ycym.prog 11 #[.slice a n cap, .int .i64 i] w fun e w' => e = .returned (.bool true) ∧ Below w.heap.size w w' := by
  go_enter Ycym.func11, Ycym.ntmps11
  go_wp2_with fail
  refine (gcopy_any a n cap d _ h (by omega)).mono ?_
  rintro e w1 ⟨rfl, how1, hb1⟩
  have hH1 : Hp (w1.alloc (.cells #[.slice (some ⟨w.heap.size, 0, none⟩) n n] 24)) w1.heap.size w.heap.size n n d :=
    ⟨by go_simp, by go_simp, by simp, by have := how1.lt; omega, how1.alloc _, Nat.le_refl _, by omega⟩
  have HB : Hid (w.heap.size ≤ w1.heap.size) := hb1.size
  obtain ⟨b, hb⟩ : ∃ b, b = w.heap.size := ⟨_, rfl⟩
  rw [← hb] at hH1 ⊢
  have hbl2 := hb1.alloc hb1.size (.cells #[.slice (some ⟨b, 0, none⟩) n n] 24)
  have HBE : Hid (b = w.heap.size) := hb
  clear how1 hb1 hb
  go_wp2_with fail
  refine (rem_in _ _ n n i _ _ hH1 hi).mono ?_
  rintro e w2 ⟨rfl, hH2, hf2⟩
  have hbl3 := hbl2.trans (hf2.to_below hbl2.size (fun t ht => by have := HB.out; have := HBE.out; omega))
  obtain ⟨x, hx⟩ : ∃ x, x = d i := ⟨_, rfl⟩
  have HX : Hid (x = d i) := hx
  rw [← hx]
  clear hx
  have hH3 := hH2.below ((Below.refl _ w2).alloc (Nat.le_refl _) (.cells #[.int .i64 x.1, .int .u32 x.2] 29)) (Nat.le_refl _)
  have hbl4 := hbl3.alloc hbl3.size (.cells #[.int .i64 x.1, .int .u32 x.2] 29)
  have x0 : (w2.alloc (.cells #[.int .i64 x.1, .int .u32 x.2] 29)).cell? ⟨w2.heap.size, 0, none⟩ = some (.int .i64 x.1) := by go_simp
  have x1 : (w2.alloc (.cells #[.int .i64 x.1, .int .u32 x.2] 29)).cell? ⟨w2.heap.size, 1, none⟩ = some (.int .u32 x.2) := by go_simp
  obtain ⟨ab, off, ha, hc⟩ := h.below hbl4 (Nat.le_refl _)
  obtain ⟨rfl, hbw⟩ := ha (by omega)
  have HL : Hid (∀ w, Calls Ycym.prog 24 #[.agg #[.int .i64 x.1, .int .u32 x.2], .agg #[.int .i64 x.1, .int .u32 x.2]] w fun r w' => r = .returned (.bool true) ∧ Below w.heap.size w w') := fun w => by
    have := gsame_any x x w
    rwa [eqq_self] at this
  have c0 := cell_regrown (hc i hi).1
  have c1 := cell_regrown (hc i hi).2
  rw [← HX.out] at c0 c1
  have c2 := cell_regrown x0
  have c3 := cell_regrown x1
  have c4 := cell_regrown hH3.cell
  obtain ⟨l, hl⟩ : ∃ l, l = n - 1 := ⟨n - 1, rfl⟩
  rw [← hl] at c4
  have hli : (n : Int) - 1 = (l : Int) := by omega
  obtain ⟨hp, hhp⟩ : ∃ hp, hp = w1.heap.size := ⟨_, rfl⟩
  rw [← hhp] at c4 ⊢
  clear hH1 hbl3 hf2 hH2 hH3 hc ha hhp hbl2 hl
  go_wp2
  refine wp_region_below (by kernel_rfl) (by kernel_rfl) ?_
  repeat (go_big_quiet_step (exact Calls.regrown_of (HL.out _)))
  refine wpQuiet_nil ?_
  intro w8 hb8
  have p2 := hbl4.trans (hb8.mono hbl4.size)
  clear c0 c1 c2 c3 c4 hb8 x0 x1 HL
  go_wp2
  go_ret
  exact ⟨rfl, p2⟩

theorem walk (a : Option Addr) (n cap : Nat) (d : Nat → It) (a1 : Int) (w : World) (h : Sl w a n d) (hn : n ≤ maxLen) (_w1 : (Lit.int .i64 a1).wf = true) :
    Calls Ycym.prog 11 #[.slice a n cap, .int .i64 a1] w fun e w' => e = .returned (.bool true) ∧ Below w.heap.size w w' := by
  by_cases hs : n ≤ 1024
  · by_cases h0 : 0 ≤ a1
    · by_cases h1 : a1 < (n : Int)
      · obtain ⟨i, rfl⟩ : ∃ i : Nat, a1 = i := ⟨a1.toNat, by omega⟩
        exact walk_in a n cap d i w h hs (by omega)
      · exact walk_out a n cap d a1 w h hs (.inr ⟨h0, decide_eq_false h1⟩)
    · exact walk_out a n cap d a1 w h hs (.inl (decide_eq_false h0))
  · exact walk_long a n cap a1 w hs hn
end Go.Proofs.Ymbrcy.lawS930008GRange
