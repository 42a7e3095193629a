/- The walk of LawS930008ECount (seat Ymbrcy): the Go text returns true, and writes nothing that was there. -/
import Derived.Test.YmbrcyBase
import Derived.Test.YmbrcyEcount
import Derived.Test.YmbrcyFrom
import Derived.Test.YmbrcyFix
namespace Go.Proofs.Ymbrcy.lawS930008ECount
open Go.RowKit Go.Sort
set_option linter.unusedVariables false

theorem walk_long (a : Option Addr) (n cap : Nat) (x : It) (w : World) (hn : ¬ n ≤ 1024) (hm : n ≤ maxLen) :
    Calls Ycym.prog 4 #[.slice a n cap, .agg #[.int .i64 x.1, .int .u32 x.2]] w fun e w' => e = .returned (.bool true) ∧ Below w.heap.size w w' := by
  unfold maxLen at hm
  go_enter Ycym.func4, Ycym.ntmps4
  go_wp2
  go_ret
  exact ⟨rfl, (Below.refl _ _).alloc (Nat.le_refl _) _⟩

set_option maxHeartbeats 2000000 in
theorem walk_main (a : Option Addr) (n cap : Nat) (d : Nat → It) (x : It) (w : World) (h : Sl w a n d) (hn : n ≤ 1024) :
    Calls Ycym.prog 4 #[.slice a n cap, .agg #[.int .i64 x.1, .int .u32 x.2]] w fun e w' => e = .returned (.bool true) ∧ Below w.heap.size w w' := by
  have hb0 : Below w.heap.size w (w.alloc (.cells #[.int .i64 x.1, .int .u32 x.2] 29)) := (Below.refl _ _).alloc (Nat.le_refl _) _
  go_enter Ycym.func4, Ycym.ntmps4
  go_wp2_with fail
  refine (fromItems_any a n cap d _ (h.below hb0 (Nat.le_refl _)) (by omega)).mono ?_
  rintro e w1 ⟨rfl, how1, hb1⟩
  have hb1 := hb1.mono (B' := w.heap.size + 1) (by simp)
  simp only [World.size_alloc] at how1 ⊢
  have x0 : w1.cell? ⟨w.heap.size, 0, none⟩ = some (.int .i64 x.1) := (hb1.cell (p := ⟨w.heap.size, 0, none⟩) (by simp)).trans (by go_simp)
  have x1 : w1.cell? ⟨w.heap.size, 1, none⟩ = some (.int .u32 x.2) := (hb1.cell (p := ⟨w.heap.size, 1, none⟩) (by simp)).trans (by go_simp)
  have hz1 : w.heap.size < w1.heap.size := by have := hb1.size; simp at this; omega
  have hbl1 := hb0.trans (hb1.mono (by omega))
  have HCN : Hid (∀ f, cn f (mk n d) n = cn f d n) := mk_same n d
  obtain ⟨H, hHe⟩ : ∃ H, H = mk n d := ⟨_, rfl⟩
  rw [← hHe] at how1 HCN
  clear hHe
  have hbz := how1.lt
  obtain ⟨b, hb⟩ : ∃ b, b = w.heap.size + 1 + 1 := ⟨_, rfl⟩
  rw [← hb] at how1 hbz ⊢
  obtain ⟨bx, hbx⟩ : ∃ bx, bx = w.heap.size := ⟨_, rfl⟩
  rw [← hbx] at x0 x1 hz1 ⊢
  have HB : Hid (∀ b' off', a = some ⟨b', off', none⟩ → 1 ≤ n → b' < b) := fun b' off' ha hn1 => by
    obtain ⟨b2, o2, ha2, _⟩ := h
    obtain ⟨h3, h4⟩ := ha2 hn1
    rw [ha] at h3
    have : b' = b2 := by simpa using congrArg (fun o => o.map (·.block)) h3
    omega
  clear hb hbx
  have hbl2 := hbl1.alloc hbl1.size (.cells #[.slice (some ⟨b, 0, none⟩) n n] 24)
  have hH1 : Hp (w1.alloc (.cells #[.slice (some ⟨b, 0, none⟩) n n] 24)) w1.heap.size b n n H :=
    ⟨by go_simp, by go_simp, by simp, by omega, how1.alloc _, Nat.le_refl _, by omega⟩
  have hba : Below w1.heap.size w1 (w1.alloc (.cells #[.slice (some ⟨b, 0, none⟩) n n] 24)) := (Below.refl _ _).alloc (Nat.le_refl _) _
  have y0 := (hba.cell (p := ⟨bx, 0, none⟩) hz1).trans x0
  have y1 := (hba.cell (p := ⟨bx, 1, none⟩) hz1).trans x1
  have hz2 := Nat.lt_of_lt_of_le hz1 hba.size
  go_wp2
  obtain ⟨hp, hhp⟩ : ∃ hp, hp = w1.heap.size := ⟨_, rfl⟩
  rw [← hhp] at hH1 ⊢
  clear hhp how1 hb1 hbz hba x0 x1 hz1 hbl1
  go_loopw [6] (fun u wr => ∃ k : Nat, k ≤ n ∧ u = .int .i64 k ∧ Hp wr hp b n n H ∧ Below w.heap.size w wr ∧ wr.cell? ⟨bx, 0, none⟩ = some (.int .i64 x.1) ∧ wr.cell? ⟨bx, 1, none⟩ = some (.int .u32 x.2) ∧ bx < wr.heap.size) (fun u _ => n - (intOf u).toNat)
  case atStart => exact ⟨0, Nat.zero_le _, rfl, hH1, hbl2, y0, y1, hz2⟩
  case round =>
    clear hH1 hbl2 y0 y1 hz2
    obtain ⟨k, hk, rfl, hH, hbl, y0, y1, hz⟩ := hrel
    have g0 := hH.cell
    by_cases hlt : k < n
    · obtain ⟨ab, off, ha, hc⟩ := h.below hbl (Nat.le_refl _)
      obtain ⟨rfl, hbw⟩ := ha (by omega)
      have hab : ab < b := HB.out ab off rfl (by omega)
      obtain ⟨y, hy⟩ : ∃ y, y = d k := ⟨_, rfl⟩
      have c0 := cell_regrown (hc k hlt).1
      have c1 := cell_regrown (hc k hlt).2
      rw [← hy] at c0 c1
      clear hc ha hy
      have c4 := cell_regrown g0
      have HK1 : Hid (∀ dd os, Calls Ycym.prog 17 #[.slice (some ⟨b, 0, none⟩) n n, .agg #[.int .i64 y.1, .int .u32 y.2]] (grow (redrawn wr dd) os) fun e w'' => e = .returned (.int .i64 (cn (eqq y) d n)) ∧ ∃ p : Regrown, w'' = grow (redrawn wr p.d) p.os) := fun dd os => by
        rw [← HCN.out (eqq y)]
        exact Calls.regrown_of (ecount_any _ n n H y _ ((hH.own.sl (Nat.le_refl _)).below (below_regrown wr dd os) (Nat.le_refl _)) hn)
      have HK2 : Hid (∀ dd os, Calls Ycym.prog 17 #[.slice (some ⟨ab, off, none⟩) n cap, .agg #[.int .i64 y.1, .int .u32 y.2]] (grow (redrawn wr dd) os) fun e w'' => e = .returned (.int .i64 (cn (eqq y) d n)) ∧ ∃ p : Regrown, w'' = grow (redrawn wr p.d) p.os) := fun dd os =>
        Calls.regrown_of (ecount_any _ n cap d y _ ((h.below hbl (Nat.le_refl _)).below (below_regrown wr dd os) (Nat.le_refl _)) hn)
      go_wp2
      refine wp_region_below (by kernel_rfl) (by kernel_rfl) ?_
      repeat (go_big_quiet_step (first | (go_at_call_of 17 b; exact HK1.out _ _) | (go_at_call_of 17 ab; exact HK2.out _ _)))
      refine wpQuiet_nil ?_
      intro w8 hb8
      have p1 := hH.below hb8 (Nat.le_refl _)
      have p2 := hbl.trans (hb8.mono hbl.size)
      have p3 := (hb8.cell (p := ⟨bx, 0, none⟩) hz).trans y0
      have p4 := (hb8.cell (p := ⟨bx, 1, none⟩) hz).trans y1
      have p5 := Nat.lt_of_lt_of_le hz hb8.size
      clear c0 c1 c4 HK1 HK2 hH hbl hb8 g0 y0 y1 hz
      go_wp2
      go_roundw
      case rel => exact ⟨k + 1, by omega, by go_num, p1, p2, p3, p4, p5⟩
      case measure => simp [intOf]; omega
    · have c0 := cell_regrown y0
      have c1 := cell_regrown y1
      have c4 := cell_regrown g0
      have HK1 : Hid (∀ dd os, Calls Ycym.prog 17 #[.slice (some ⟨b, 0, none⟩) n n, .agg #[.int .i64 x.1, .int .u32 x.2]] (grow (redrawn wr dd) os) fun e w'' => e = .returned (.int .i64 (cn (eqq x) d n)) ∧ ∃ p : Regrown, w'' = grow (redrawn wr p.d) p.os) := fun dd os => by
        rw [← HCN.out (eqq x)]
        exact Calls.regrown_of (ecount_any _ n n H x _ ((hH.own.sl (Nat.le_refl _)).below (below_regrown wr dd os) (Nat.le_refl _)) hn)
      have HK2 : Hid (∀ dd os, Calls Ycym.prog 17 #[.slice a n cap, .agg #[.int .i64 x.1, .int .u32 x.2]] (grow (redrawn wr dd) os) fun e w'' => e = .returned (.int .i64 (cn (eqq x) d n)) ∧ ∃ p : Regrown, w'' = grow (redrawn wr p.d) p.os) := fun dd os =>
        Calls.regrown_of (ecount_any _ n cap d x _ ((h.below hbl (Nat.le_refl _)).below (below_regrown wr dd os) (Nat.le_refl _)) hn)
      go_wp2
      refine wp_region_below (by kernel_rfl) (by kernel_rfl) ?_
      repeat (go_big_quiet_step (first | (go_at_call_of 17 b; exact HK1.out _ _) | (go_at_call_of 17 a; exact HK2.out _ _)))
      refine wpQuiet_nil ?_
      intro w8 hb8
      have p2 := hbl.trans (hb8.mono hbl.size)
      go_wp2
      go_ret
      exact ⟨rfl, p2⟩

theorem walk (a : Option Addr) (n cap : Nat) (d : Nat → It) (x : It) (w : World) (h : Sl w a n d) (hn : n ≤ maxLen) :
    Calls Ycym.prog 4 #[.slice a n cap, .agg #[.int .i64 x.1, .int .u32 x.2]] w fun e w' => e = .returned (.bool true) ∧ Below w.heap.size w w' := by
  by_cases hs : n ≤ 1024
  · exact walk_main a n cap d x w h hs
  · exact walk_long a n cap x w hs hn
end Go.Proofs.Ymbrcy.lawS930008ECount
