/- IsSorted (seat Ymbrcx): the walk; what it says of all pairs. -/
import Derived.Test.YmbrcxBase
namespace Go.Proofs.Ymbrcx
open Go.RowKit Go.Sort

/-- no item comes before the one just before it -/
def Srt (n : Nat) (d : Nat → It) : Prop := ∀ k, 1 ≤ k → k < n → lt (d k) (d (k - 1)) = false
theorem Srt.pairs {n : Nat} {d : Nat → It} (h : Srt n d) (i : Nat) : ∀ j, i < j → j < n → lt (d j) (d i) = false
  | 0, h1, _ => by omega
  | j + 1, h1, h2 => by
    have h3 := h (j + 1) (by omega) h2
    rw [Nat.add_sub_cancel] at h3
    by_cases e : i = j
    · subst e; exact h3
    · exact le_trans (h.pairs i j (by omega) (by omega)) h3

set_option maxHeartbeats 400000 in
theorem isSorted_any (a : Option Addr) (n cap : Nat) (d : Nat → It) (w : World) (h : Sl w a n d) (hn : n ≤ maxLen) :
    Calls Ycxm.prog 21 #[.slice a n cap] w fun e w' => ∃ r, e = .returned (.bool r) ∧ (r = true ↔ Srt n d) ∧ Below w.heap.size w w' := by
  unfold maxLen at hn
  go_enter Ycxm.func21, Ycxm.ntmps21
  go_wp2
  go_loopw [3] (fun i wr => ∃ k : Nat, 1 ≤ k ∧ (k ≤ n ∨ k = 1) ∧ i = .int .i64 k ∧ Below w.heap.size w wr ∧ Hid (Srt k d)) (fun i _ => n - (intOf i).toNat)
  case atStart => exact ⟨1, by omega, by omega, rfl, Below.refl _ _, fun j h1 h2 => by omega⟩
  case round =>
    obtain ⟨k, hk1, hk2, rfl, hb, HS⟩ := hrel
    by_cases hlt : k < n
    · obtain ⟨b, off, ha, hc⟩ := h.below hb (Nat.le_refl _)
      obtain ⟨rfl, hbw⟩ := ha (by omega)
      have c0 := cell_regrown (hc k hlt).1
      have c1 := cell_regrown (hc k hlt).2
      have c2 := cell_regrown (hc (k-1) (by omega)).1
      have c3 := cell_regrown (hc (k-1) (by omega)).2
      clear hc ha
      go_wp2
      refine wp_region_below (by kernel_rfl) (by kernel_rfl) ?_
      repeat (go_big_quiet_step (exact Calls.regrown_of (less_any _ _ _)))
      refine wpQuiet_nil ?_
      intro w1 hb1
      have hb1 := hb.trans (hb1.mono hb.size)
      clear c0 c1 c2 c3
      cases hl : lt (d k) (d (k - 1))
      · go_wp2
        go_roundw
        case rel =>
          refine ⟨k + 1, by omega, by omega, by go_num, hb1, fun j h1 h2 => ?_⟩
          by_cases e : j = k
          · subst e; exact hl
          · exact HS.out j h1 (by omega)
        case measure => simp [intOf]; omega
      · go_wp2
        go_ret
        exact ⟨false, rfl, ⟨(fun h => by cases h), (fun h => by rw [h k hk1 hlt] at hl; cases hl)⟩, hb1⟩
    · go_wp2
      go_ret
      exact ⟨true, rfl, ⟨fun _ j h1 h2 => HS.out j h1 (by omega), fun _ => rfl⟩, hb⟩
end Go.Proofs.Ymbrcx
