/- siftUp (seat Ymbrcy): the walk. -/
import Derived.Test.YmbrcyBase
namespace Go.Proofs.Ymbrcy
open Go.RowKit Go.Sort

set_option maxHeartbeats 1000000 in
theorem siftUp_any (b m n cap i : Nat) (d : Nat → It) (w : World) (ho : Own w b m d) (hn : n ≤ m) (hi : i < n) (hm : m ≤ 17592186044416) :
    Calls Ycym.prog 31 #[.slice (some ⟨b, 0, none⟩) n cap, .int .i64 i] w fun e w' => e = .returned (.int .i64 (su n d i).2) ∧ Own w' b m (su n d i).1 ∧ Fr (· = b) w w' := by
  go_enter Ycym.func31, Ycym.ntmps31
  go_wp2
  go_loopw [1] (fun u wr => ∃ (k f : Nat) (e : Nat → It), k < n ∧ k ≤ f ∧ u = .int .i64 k ∧ Own wr b m e ∧ Fr (· = b) w wr ∧ Hid (su f e k = su n d i)) (fun u _ => (intOf u).toNat)
  case atStart => exact ⟨i, n, d, hi, by omega, rfl, ho, Fr.refl _ _, rfl⟩
  case round =>
    obtain ⟨k, f, e, hk, hf, rfl, hown, hfr, H⟩ := hrel
    by_cases h0 : 0 < k
    · obtain ⟨p, hp⟩ : ∃ p, p = (k - 1) / 2 := ⟨_, rfl⟩
      have hpk : p < k := by omega
      have HP : Hid (p = (k - 1) / 2) := hp
      have hpi : ((k : Int) - 1) / 2 = (p : Int) := by omega
      clear hp
      have c0 := cell_regrown (hown.c0 (k := k) (by omega))
      have c1 := cell_regrown (hown.c1 (k := k) (by omega))
      have c2 := cell_regrown (hown.c0 (k := p) (by omega))
      have c3 := cell_regrown (hown.c1 (k := p) (by omega))
      go_wp2
      refine wp_region_below (by kernel_rfl) (by kernel_rfl) ?_
      repeat (go_big_quiet_step (exact Calls.regrown_of (less_any _ _ _)))
      refine wpQuiet_nil ?_
      intro w1 hb1
      clear c0 c1 c2 c3
      have how := hown.below hb1 hown.lt
      have hfr1 := hfr.trans (Fr.of_below hb1 (Nat.le_refl _))
      clear hown hfr hb1
      cases hl : lt (e k) (e p)
      · go_wp2
        go_ret
        have e1 : su f e k = (e, k) := su_stop (.inr (by rw [← HP.out]; exact hl))
        rw [← H.out, e1]
        exact ⟨rfl, how, hfr1⟩
      · have d0 := how.c0 (k := k) (by omega)
        have d1 := how.c1 (k := k) (by omega)
        have d2 := how.c0 (k := p) (by omega)
        have d3 := how.c1 (k := p) (by omega)
        have f0 := how.fz
        go_wp2
        go_region
        all_goals go_wp2
        have e1 := su_go (f := f - 1) (d := e) (i := k) h0 (by rw [← HP.out]; exact hl)
        rw [(by omega : f - 1 + 1 = f), ← HP.out, H.out] at e1
        have how2 : Own ((((w1.setCell ⟨b, k * 2, none⟩ (.int .i64 (e p).1)).setCell ⟨b, k * 2 + 1, none⟩ (.int .u32 (e p).2)).setCell ⟨b, p * 2, none⟩ (.int .i64 (e k).1)).setCell ⟨b, p * 2 + 1, none⟩ (.int .u32 (e k).2)).drew b m (swp e k p) := ((how.set k (e p)).set p (e k)).drew
        have hfr2 : Fr (· = b) w ((((w1.setCell ⟨b, k * 2, none⟩ (.int .i64 (e p).1)).setCell ⟨b, k * 2 + 1, none⟩ (.int .u32 (e p).2)).setCell ⟨b, p * 2, none⟩ (.int .i64 (e k).1)).setCell ⟨b, p * 2 + 1, none⟩ (.int .u32 (e k).2)).drew :=
          ((((hfr1.setCell rfl _).setCell rfl _).setCell rfl _).setCell rfl _).drew
        go_roundw
        case rel => exact ⟨p, f - 1, swp e k p, by omega, by omega, by go_num, how2, hfr2, e1.symm⟩
        case measure => simp [intOf]; omega
    · have hk0 : k = 0 := by omega
      subst hk0
      go_wp2
      go_ret
      have e1 : su f e 0 = (e, 0) := su_stop (.inl rfl)
      rw [← H.out, e1]
      exact ⟨rfl, hown, hfr⟩
end Go.Proofs.Ymbrcy
