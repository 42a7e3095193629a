/- zzs930008jsame on two slices of the same items (seat Ymbrcz). -/
import Derived.Test.YmbrczBase
namespace Go.Proofs.Ymbrcz
open Go.RowKit Go.Sort

set_option maxHeartbeats 1000000 in
theorem jsame_same (a1 a2 : Option Addr) (n cap1 cap2 : Nat) (d : Nat → It) (w : World) (h1 : Sl w a1 n d) (h2 : Sl w a2 n d) (hn : n ≤ 1024) :
    Calls Yczm.prog 18 #[.slice a1 n cap1, .slice a2 n cap2] w fun e w' => e = .returned (.bool true) ∧ Below w.heap.size w w' := by
  go_enter Yczm.func18, Yczm.ntmps18
  go_wp2
  go_loopw [5] (fun u wr => ∃ k : Nat, k ≤ n ∧ u = .int .i64 k ∧ Below w.heap.size w wr) (fun u _ => n - (intOf u).toNat)
  case atStart => exact ⟨0, Nat.zero_le _, rfl, Below.refl _ _⟩
  case round =>
    obtain ⟨k, hk, rfl, hb⟩ := hrel
    by_cases hlt : k < n
    · obtain ⟨b1, off1, ha1, hc1⟩ := h1.below hb (Nat.le_refl _)
      obtain ⟨b2, off2, ha2, hc2⟩ := h2.below hb (Nat.le_refl _)
      obtain ⟨rfl, hbw1⟩ := ha1 (by omega)
      obtain ⟨rfl, hbw2⟩ := ha2 (by omega)
      have c0 := cell_regrown (hc1 k hlt).1
      have c1 := cell_regrown (hc1 k hlt).2
      have c2 := cell_regrown (hc2 k hlt).1
      have c3 := cell_regrown (hc2 k hlt).2
      clear hc1 hc2 ha1 ha2
      go_wp2
      refine wp_region_below (by kernel_rfl) (by kernel_rfl) ?_
      repeat (go_big_quiet_step (fail))
      refine wpQuiet_nil ?_
      intro w1 hb1
      have hb1 := hb.trans (hb1.mono hb.size)
      clear c0 c1 c2 c3
      go_wp2
      go_roundw
      case rel => exact ⟨k + 1, by omega, by go_num, hb1⟩
      case measure => simp [intOf]; omega
    · go_wp2
      go_ret
      exact ⟨rfl, hb⟩
end Go.Proofs.Ymbrcz
