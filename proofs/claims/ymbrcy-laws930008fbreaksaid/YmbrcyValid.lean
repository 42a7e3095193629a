/- Valid (seat Ymbrcy): the walk. -/
import Derived.Test.YmbrcyBase
namespace Go.Proofs.Ymbrcy
open Go.RowKit Go.Sort

set_option maxHeartbeats 400000 in
theorem valid_any (a : Option Addr) (n cap : Nat) (d : Nat → It) (w : World) (h : Sl w a n d) (hn : n ≤ 4096) :
    Calls Ycym.prog 20 #[.slice a n cap] w fun e w' => ∃ r, e = .returned (.bool r) ∧ (r = true ↔ HeapFrom n 0 d) ∧ Below w.heap.size w w' := by
  go_enter Ycym.func20, Ycym.ntmps20
  go_wp2
  go_loopw [3] (fun i wr => ∃ k : Nat, 1 ≤ k ∧ (k ≤ n ∨ k = 1) ∧ i = .int .i64 k ∧ Below w.heap.size w wr ∧ Hid (HeapFrom k 0 d)) (fun i _ => n - (intOf i).toNat)
  case atStart => exact ⟨1, by omega, by omega, rfl, Below.refl _ _, fun j h1 h2 _ => by omega⟩
  case round =>
    obtain ⟨k, hk1, hk2, rfl, hb, HS⟩ := hrel
    by_cases hlt : k < n
    · obtain ⟨p, hp⟩ : ∃ p, p = (k - 1) / 2 := ⟨_, rfl⟩
      have hpi : ((k : Int) - 1) / 2 = (p : Int) := by omega
      have hpk : p < k := by omega
      have HP : Hid (p = (k - 1) / 2) := hp
      clear hp
      obtain ⟨b, off, ha, hc⟩ := h.below hb (Nat.le_refl _)
      obtain ⟨rfl, hbw⟩ := ha (by omega)
      have c0 := cell_regrown (hc k hlt).1
      have c1 := cell_regrown (hc k hlt).2
      have c2 := cell_regrown (hc p (by omega)).1
      have c3 := cell_regrown (hc p (by omega)).2
      clear hc ha
      go_wp2
      refine wp_region_below (by kernel_rfl) (by kernel_rfl) ?_
      repeat (go_big_quiet_step (exact Calls.regrown_of (less_any _ _ _)))
      refine wpQuiet_nil ?_
      intro w1 hb1
      have hb1 := hb.trans (hb1.mono hb.size)
      clear c0 c1 c2 c3
      cases hl : lt (d k) (d p)
      · go_wp2
        go_roundw
        case rel =>
          refine ⟨k + 1, by omega, by omega, by go_num, hb1, fun j h1 h2 h3 => ?_⟩
          by_cases e : j = k
          · subst e; rw [← HP.out]; exact hl
          · exact HS.out j h1 (by omega) h3
        case measure => simp [intOf]; omega
      · go_wp2
        go_ret
        exact ⟨false, rfl, ⟨(fun h => by cases h), (fun h => by have := h k hk1 hlt (Nat.zero_le _); rw [← HP.out, hl] at this; cases this)⟩, hb1⟩
    · go_wp2
      go_ret
      exact ⟨true, rfl, ⟨fun _ j h1 h2 h3 => HS.out j h1 (by omega) h3, fun _ => rfl⟩, hb⟩
end Go.Proofs.Ymbrcy
