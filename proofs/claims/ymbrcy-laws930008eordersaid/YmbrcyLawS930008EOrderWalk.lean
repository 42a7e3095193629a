/- The walk of LawS930008EOrder (seat Ymbrcy): the Go text returns true, and writes nothing that was there. -/
import Derived.Test.YmbrcyBase
import Derived.Test.YmbrcyBefore
import Derived.Test.YmbrcyFrom
import Derived.Test.YmbrcyFix
namespace Go.Proofs.Ymbrcy.lawS930008EOrder
open Go.RowKit Go.Sort
set_option linter.unusedVariables false

theorem walk_long (a : Option Addr) (n cap : Nat) (w : World) (hn : ¬ n ≤ 1024) (hm : n ≤ maxLen) :
    Calls Ycym.prog 3 #[.slice a n cap] w fun e w' => e = .returned (.bool true) ∧ Below w.heap.size w w' := by
  unfold maxLen at hm
  go_enter Ycym.func3, Ycym.ntmps3
  go_wp2
  go_ret
  exact ⟨rfl, Below.refl _ _⟩

set_option maxHeartbeats 2000000 in
theorem walk_main (a : Option Addr) (n cap : Nat) (d : Nat → It) (w : World) (h : Sl w a n d) (hn : n ≤ 1024) :
    Calls Ycym.prog 3 #[.slice a n cap] w fun e w' => e = .returned (.bool true) ∧ Below w.heap.size w w' := by
  go_enter Ycym.func3, Ycym.ntmps3
  go_wp2_with fail
  refine (fromItems_any a n cap d _ h (by omega)).mono ?_
  rintro e w1 ⟨rfl, how1, hb1⟩
  have HHF : Hid (HeapFrom n 0 (mk n d)) := mk_heap n d
  obtain ⟨H, hHe⟩ : ∃ H, H = mk n d := ⟨_, rfl⟩
  rw [← hHe] at how1 HHF
  clear hHe
  have hbz := how1.lt
  obtain ⟨b, hb⟩ : ∃ b, b = w.heap.size + 1 := ⟨_, rfl⟩
  rw [← hb] at how1 hbz ⊢
  clear hb
  have hbl1 := hb1.alloc hb1.size (.cells #[.slice (some ⟨b, 0, none⟩) n n] 24)
  have hH1 : Hp (w1.alloc (.cells #[.slice (some ⟨b, 0, none⟩) n n] 24)) w1.heap.size b n n H :=
    ⟨by go_simp, by go_simp, by simp, by omega, how1.alloc _, Nat.le_refl _, by omega⟩
  go_wp2
  obtain ⟨hp, hhp⟩ : ∃ hp, hp = w1.heap.size := ⟨_, rfl⟩
  rw [← hhp] at hH1 ⊢
  clear hhp how1 hb1 hbz
  go_loopw [4] (fun u wr => ∃ k : Nat, 1 ≤ k ∧ (k ≤ n ∨ k = 1) ∧ u = .int .i64 k ∧ Hp wr hp b n n H ∧ Below w.heap.size w wr) (fun u _ => n - (intOf u).toNat)
  case atStart => exact ⟨1, Nat.le_refl _, .inr rfl, rfl, hH1, hbl1⟩
  case round =>
    clear hH1 hbl1
    obtain ⟨k, hk1, hk2, rfl, hH, hbl⟩ := hrel
    have g0 := hH.cell
    by_cases hlt : k < n
    · obtain ⟨p, hp⟩ : ∃ p, p = (k - 1) / 2 := ⟨_, rfl⟩
      have hpi : ((k : Int) - 1) / 2 = (p : Int) := by omega
      have hpk : p < k := by omega
      have HL : Hid (∀ w, Calls Ycym.prog 16 #[.agg #[.int .i64 (H k).1, .int .u32 (H k).2], .agg #[.int .i64 (H p).1, .int .u32 (H p).2]] w fun r w' => r = .returned (.bool false) ∧ Below w.heap.size w w') := fun w => by
        have := ebefore_any (H k) (H p) w
        have hf := HHF.out k hk1 hlt (Nat.zero_le _)
        rw [← hp] at hf
        rwa [hf] at this
      clear hp
      have c0 := cell_regrown (hH.own.c0 hlt)
      have c1 := cell_regrown (hH.own.c1 hlt)
      have c2 := cell_regrown (hH.own.c0 (k := p) (by omega))
      have c3 := cell_regrown (hH.own.c1 (k := p) (by omega))
      have c4 := cell_regrown g0
      go_wp2
      refine wp_region_below (by kernel_rfl) (by kernel_rfl) ?_
      repeat (go_big_quiet_step (exact Calls.regrown_of (HL.out _)))
      refine wpQuiet_nil ?_
      intro w8 hb8
      have p1 := hH.below hb8 (Nat.le_refl _)
      have p2 := hbl.trans (hb8.mono hbl.size)
      clear c0 c1 c2 c3 c4 hH hbl hb8 g0
      go_wp2
      go_roundw
      case rel => exact ⟨k + 1, by omega, by omega, by go_num, p1, p2⟩
      case measure => simp [intOf]; omega
    · go_wp2
      go_ret
      exact ⟨rfl, hbl⟩

theorem walk (a : Option Addr) (n cap : Nat) (d : Nat → It) (w : World) (h : Sl w a n d) (hn : n ≤ maxLen) :
    Calls Ycym.prog 3 #[.slice a n cap] w fun e w' => e = .returned (.bool true) ∧ Below w.heap.size w w' := by
  by_cases hs : n ≤ 1024
  · exact walk_main a n cap d w h hs
  · exact walk_long a n cap w hs hn
end Go.Proofs.Ymbrcy.lawS930008EOrder
