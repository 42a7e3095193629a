/- siftDown (seat Ymbrcy): the walk. -/
import Derived.Test.YmbrcyBase
namespace Go.Proofs.Ymbrcy
open Go.RowKit Go.Sort

theorem chd_right {n : Nat} {d : Nat → It} {i : Nat} (h : 2 * i + 1 + 1 < n) (hl : lt (d (2 * i + 1 + 1)) (d (2 * i + 1)) = true) : chd n d i = 2 * i + 1 + 1 := by
  unfold chd; rw [if_pos ⟨h, hl⟩]
theorem chd_left1 {n : Nat} {d : Nat → It} {i : Nat} (hl : lt (d (2 * i + 1 + 1)) (d (2 * i + 1)) = false) : chd n d i = 2 * i + 1 := by
  unfold chd; rw [if_neg]; rintro ⟨_, h⟩; rw [show 2 * i + 2 = 2 * i + 1 + 1 from rfl, hl] at h; cases h
theorem chd_left2 {n : Nat} {d : Nat → It} {i : Nat} (h : ¬ 2 * i + 1 + 1 < n) : chd n d i = 2 * i + 1 := by
  unfold chd; rw [if_neg]; rintro ⟨h', _⟩; omega

set_option maxHeartbeats 2000000 in
theorem siftDown_any (b m n cap i : Nat) (d : Nat → It) (w : World) (ho : Own w b m d) (hn : n ≤ m) (hi : i < n ∨ i = 0) (hm : m ≤ 17592186044416) :
    Calls Ycym.prog 29 #[.slice (some ⟨b, 0, none⟩) n cap, .int .i64 i] w fun e w' => e = .returned (.int .i64 (sd n n d i).2) ∧ Own w' b m (sd n n d i).1 ∧ Fr (· = b) w w' := by
  go_enter Ycym.func29, Ycym.ntmps29
  go_wp2
  go_loopw [1] (fun u wr => ∃ (k f : Nat) (e : Nat → It), (k < n ∨ k = 0) ∧ n ≤ k + f ∧ u = .int .i64 k ∧ Own wr b m e ∧ Fr (· = b) w wr ∧ Hid (sd n f e k = sd n n d i)) (fun u _ => n - (intOf u).toNat)
  case atStart => exact ⟨i, n, d, hi, by omega, rfl, ho, Fr.refl _ _, rfl⟩
  case round =>
    obtain ⟨k, f, e, hk, hf, rfl, hown, hfr, H⟩ := hrel
    by_cases h0 : k < n / 2
    · by_cases hg : 2 * k + 1 + 1 < n
      · have hgi : 2 * (k : Int) + 1 + 1 < (n : Int) := by omega
        have c0 := cell_regrown (hown.c0 (k := 2 * k + 1 + 1) (by omega))
        have c1 := cell_regrown (hown.c1 (k := 2 * k + 1 + 1) (by omega))
        have c2 := cell_regrown (hown.c0 (k := 2 * k + 1) (by omega))
        have c3 := cell_regrown (hown.c1 (k := 2 * k + 1) (by omega))
        go_wp2
        refine wp_region_below (by kernel_rfl) (by kernel_rfl) ?_
        repeat (go_big_quiet_step (exact Calls.regrown_of (less_any _ _ _)))
        refine wpQuiet_nil ?_
        intro w1 hb1
        clear c0 c1 c2 c3
        have how := hown.below hb1 hown.lt
        have hfr1 := hfr.trans (Fr.of_below hb1 (Nat.le_refl _))
        cases hl : lt (e (2 * k + 1 + 1)) (e (2 * k + 1))
        · clear hown hfr hb1
          go_wp2
          have g0 := cell_regrown (how.c0 (k := 2 * k + 1) (by omega))
          have g1 := cell_regrown (how.c1 (k := 2 * k + 1) (by omega))
          have g2 := cell_regrown (how.c0 (k := k) (by omega))
          have g3 := cell_regrown (how.c1 (k := k) (by omega))
          refine wp_region_below (by kernel_rfl) (by kernel_rfl) ?_
          repeat (go_big_quiet_step (exact Calls.regrown_of (less_any _ _ _)))
          refine wpQuiet_nil ?_
          intro w2 hb2
          clear g0 g1 g2 g3
          have how2 := how.below hb2 how.lt
          have hfr2 := hfr1.trans (Fr.of_below hb2 (Nat.le_refl _))
          clear how hfr1 hb2
          have HC : Hid (chd n e k = 2 * k + 1) := chd_left1 hl
          cases hl2 : lt (e (2 * k + 1)) (e k)
          · go_wp2
            go_ret
            have e1 : sd n f e k = (e, k) := sd_stop (.inr (by rw [HC.out]; exact hl2))
            rw [← H.out, e1]
            exact ⟨rfl, how2, hfr2⟩
          · have d0 := how2.c0 (k := k) (by omega)
            have d1 := how2.c1 (k := k) (by omega)
            have d2 := how2.c0 (k := 2 * k + 1) (by omega)
            have d3 := how2.c1 (k := 2 * k + 1) (by omega)
            have f0 := how2.fz
            go_wp2
            go_region
            all_goals go_wp2
            have e1 := sd_go (n := n) (f := f - 1) (d := e) (i := k) h0 (by rw [HC.out]; exact hl2)
            rw [(by omega : f - 1 + 1 = f), HC.out, H.out] at e1
            have how3 : Own ((((w2.setCell ⟨b, k * 2, none⟩ (.int .i64 (e (2 * k + 1)).1)).setCell ⟨b, k * 2 + 1, none⟩ (.int .u32 (e (2 * k + 1)).2)).setCell ⟨b, (2 * k + 1) * 2, none⟩ (.int .i64 (e k).1)).setCell ⟨b, (2 * k + 1) * 2 + 1, none⟩ (.int .u32 (e k).2)).drew b m (swp e k (2 * k + 1)) := ((how2.set k (e (2 * k + 1))).set (2 * k + 1) (e k)).drew
            have hfr3 : Fr (· = b) w ((((w2.setCell ⟨b, k * 2, none⟩ (.int .i64 (e (2 * k + 1)).1)).setCell ⟨b, k * 2 + 1, none⟩ (.int .u32 (e (2 * k + 1)).2)).setCell ⟨b, (2 * k + 1) * 2, none⟩ (.int .i64 (e k).1)).setCell ⟨b, (2 * k + 1) * 2 + 1, none⟩ (.int .u32 (e k).2)).drew :=
              ((((hfr2.setCell rfl _).setCell rfl _).setCell rfl _).setCell rfl _).drew
            go_roundw
            case rel => exact ⟨2 * k + 1, f - 1, swp e k (2 * k + 1), by omega, by omega, by go_num, how3, hfr3, e1.symm⟩
            case measure => simp [intOf]; omega
        · clear hown hfr hb1
          go_wp2
          have g0 := cell_regrown (how.c0 (k := 2 * k + 1 + 1) (by omega))
          have g1 := cell_regrown (how.c1 (k := 2 * k + 1 + 1) (by omega))
          have g2 := cell_regrown (how.c0 (k := k) (by omega))
          have g3 := cell_regrown (how.c1 (k := k) (by omega))
          refine wp_region_below (by kernel_rfl) (by kernel_rfl) ?_
          repeat (go_big_quiet_step (exact Calls.regrown_of (less_any _ _ _)))
          refine wpQuiet_nil ?_
          intro w2 hb2
          clear g0 g1 g2 g3
          have how2 := how.below hb2 how.lt
          have hfr2 := hfr1.trans (Fr.of_below hb2 (Nat.le_refl _))
          clear how hfr1 hb2
          have HC : Hid (chd n e k = 2 * k + 1 + 1) := chd_right hg hl
          cases hl2 : lt (e (2 * k + 1 + 1)) (e k)
          · go_wp2
            go_ret
            have e1 : sd n f e k = (e, k) := sd_stop (.inr (by rw [HC.out]; exact hl2))
            rw [← H.out, e1]
            exact ⟨rfl, how2, hfr2⟩
          · have d0 := how2.c0 (k := k) (by omega)
            have d1 := how2.c1 (k := k) (by omega)
            have d2 := how2.c0 (k := 2 * k + 1 + 1) (by omega)
            have d3 := how2.c1 (k := 2 * k + 1 + 1) (by omega)
            have f0 := how2.fz
            go_wp2
            go_region
            all_goals go_wp2
            have e1 := sd_go (n := n) (f := f - 1) (d := e) (i := k) h0 (by rw [HC.out]; exact hl2)
            rw [(by omega : f - 1 + 1 = f), HC.out, H.out] at e1
            have how3 : Own ((((w2.setCell ⟨b, k * 2, none⟩ (.int .i64 (e (2 * k + 1 + 1)).1)).setCell ⟨b, k * 2 + 1, none⟩ (.int .u32 (e (2 * k + 1 + 1)).2)).setCell ⟨b, (2 * k + 1 + 1) * 2, none⟩ (.int .i64 (e k).1)).setCell ⟨b, (2 * k + 1 + 1) * 2 + 1, none⟩ (.int .u32 (e k).2)).drew b m (swp e k (2 * k + 1 + 1)) := ((how2.set k (e (2 * k + 1 + 1))).set (2 * k + 1 + 1) (e k)).drew
            have hfr3 : Fr (· = b) w ((((w2.setCell ⟨b, k * 2, none⟩ (.int .i64 (e (2 * k + 1 + 1)).1)).setCell ⟨b, k * 2 + 1, none⟩ (.int .u32 (e (2 * k + 1 + 1)).2)).setCell ⟨b, (2 * k + 1 + 1) * 2, none⟩ (.int .i64 (e k).1)).setCell ⟨b, (2 * k + 1 + 1) * 2 + 1, none⟩ (.int .u32 (e k).2)).drew :=
              ((((hfr2.setCell rfl _).setCell rfl _).setCell rfl _).setCell rfl _).drew
            go_roundw
            case rel => exact ⟨2 * k + 1 + 1, f - 1, swp e k (2 * k + 1 + 1), by omega, by omega, by go_num, how3, hfr3, e1.symm⟩
            case measure => simp [intOf]; omega
      · have hgi : decide (2 * (k : Int) + 1 + 1 < (n : Int)) = false := decide_eq_false (by omega)
        go_wp2
        refine wp_region_below (by kernel_rfl) (by kernel_rfl) ?_
        repeat (go_big_quiet_step (exact Calls.regrown_of (less_any _ _ _)))
        refine wpQuiet_nil ?_
        intro w1 hb1
        have how := hown.below hb1 hown.lt
        have hfr1 := hfr.trans (Fr.of_below hb1 (Nat.le_refl _))
        clear hown hfr hb1
        go_wp2
        have g0 := cell_regrown (how.c0 (k := 2 * k + 1) (by omega))
        have g1 := cell_regrown (how.c1 (k := 2 * k + 1) (by omega))
        have g2 := cell_regrown (how.c0 (k := k) (by omega))
        have g3 := cell_regrown (how.c1 (k := k) (by omega))
        refine wp_region_below (by kernel_rfl) (by kernel_rfl) ?_
        repeat (go_big_quiet_step (exact Calls.regrown_of (less_any _ _ _)))
        refine wpQuiet_nil ?_
        intro w2 hb2
        clear g0 g1 g2 g3
        have how2 := how.below hb2 how.lt
        have hfr2 := hfr1.trans (Fr.of_below hb2 (Nat.le_refl _))
        clear how hfr1 hb2
        have HC : Hid (chd n e k = 2 * k + 1) := chd_left2 hg
        cases hl2 : lt (e (2 * k + 1)) (e k)
        · go_wp2
          go_ret
          have e1 : sd n f e k = (e, k) := sd_stop (.inr (by rw [HC.out]; exact hl2))
          rw [← H.out, e1]
          exact ⟨rfl, how2, hfr2⟩
        · have d0 := how2.c0 (k := k) (by omega)
          have d1 := how2.c1 (k := k) (by omega)
          have d2 := how2.c0 (k := 2 * k + 1) (by omega)
          have d3 := how2.c1 (k := 2 * k + 1) (by omega)
          have f0 := how2.fz
          go_wp2
          go_region
          all_goals go_wp2
          have e1 := sd_go (n := n) (f := f - 1) (d := e) (i := k) h0 (by rw [HC.out]; exact hl2)
          rw [(by omega : f - 1 + 1 = f), HC.out, H.out] at e1
          have how3 : Own ((((w2.setCell ⟨b, k * 2, none⟩ (.int .i64 (e (2 * k + 1)).1)).setCell ⟨b, k * 2 + 1, none⟩ (.int .u32 (e (2 * k + 1)).2)).setCell ⟨b, (2 * k + 1) * 2, none⟩ (.int .i64 (e k).1)).setCell ⟨b, (2 * k + 1) * 2 + 1, none⟩ (.int .u32 (e k).2)).drew b m (swp e k (2 * k + 1)) := ((how2.set k (e (2 * k + 1))).set (2 * k + 1) (e k)).drew
          have hfr3 : Fr (· = b) w ((((w2.setCell ⟨b, k * 2, none⟩ (.int .i64 (e (2 * k + 1)).1)).setCell ⟨b, k * 2 + 1, none⟩ (.int .u32 (e (2 * k + 1)).2)).setCell ⟨b, (2 * k + 1) * 2, none⟩ (.int .i64 (e k).1)).setCell ⟨b, (2 * k + 1) * 2 + 1, none⟩ (.int .u32 (e k).2)).drew :=
            ((((hfr2.setCell rfl _).setCell rfl _).setCell rfl _).setCell rfl _).drew
          go_roundw
          case rel => exact ⟨2 * k + 1, f - 1, swp e k (2 * k + 1), by omega, by omega, by go_num, how3, hfr3, e1.symm⟩
          case measure => simp [intOf]; omega
    · have h0i : ¬ (k : Int) < (n : Int) / 2 := by omega
      go_wp2
      go_ret
      have e1 : sd n f e k = (e, k) := sd_stop (.inl (by omega))
      rw [← H.out, e1]
      exact ⟨rfl, hown, hfr⟩
end Go.Proofs.Ymbrcy
