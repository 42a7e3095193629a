/- Roads in the tree (seat Ymbrcy): which places a sift may turn. No Go here. -/
import Derived.Test.YmbrcyPlain
namespace Go.Proofs.Ymbrcy

/-- t steps up from j -/
def up : Nat → Nat → Nat
  | 0, j => j
  | t + 1, j => (up t j - 1) / 2
/-- T steps up from r lead to i, and not before -/
def Rd (i r T : Nat) : Prop := up T r = i ∧ ∀ t, t < T → i < up t r
theorem up_le : ∀ (t j : Nat), up t j ≤ j
  | 0, _ => Nat.le_refl _
  | t + 1, j => by
    have := up_le t j
    show (up t j - 1) / 2 ≤ j
    omega
theorem up_succ : ∀ (t j : Nat), up (t + 1) j = up t ((j - 1) / 2)
  | 0, _ => rfl
  | t + 1, j => by
    show (up (t + 1) j - 1) / 2 = (up t ((j - 1) / 2) - 1) / 2
    rw [up_succ t j]
theorem Rd.refl (i : Nat) : Rd i i 0 := ⟨rfl, fun t h => by omega⟩
theorem Rd.step {i c r T : Nat} (h : Rd c r T) (hc : (c - 1) / 2 = i) (hi : i < c) : Rd i r (T + 1) := by
  refine ⟨?_, fun t ht => ?_⟩
  · show (up T r - 1) / 2 = i
    rw [h.1]; exact hc
  · by_cases e : t = T
    · subst e; rw [h.1]; exact hi
    · have := h.2 t (by omega)
      omega
theorem sd_road (n : Nat) : ∀ (g : Nat) (d : Nat → It) (i : Nat), ∃ T, Rd i (sd n g d i).2 T ∧ ∀ k, (∀ t, t ≤ T → k ≠ up t (sd n g d i).2) → (sd n g d i).1 k = d k
  | 0, d, i => ⟨0, Rd.refl i, fun _ _ => rfl⟩
  | g + 1, d, i => by
    rcases sd_or n d i with h | h
    · rw [sd_go h.1 h.2]
      obtain ⟨T, hr, hk⟩ := sd_road n g (swp d i (chd n d i)) (chd n d i)
      refine ⟨T + 1, hr.step (chd_par n d i) (chd_gt n d i), fun k hn => ?_⟩
      rw [hk k (fun t ht => hn t (by omega))]
      have h1 := hn T (by omega)
      rw [hr.1] at h1
      have h2 := hn (T + 1) (Nat.le_refl _)
      have h3 : up (T + 1) (sd n g (swp d i (chd n d i)) (chd n d i)).2 = i := by
        show (up T _ - 1) / 2 = i
        rw [hr.1]; exact chd_par n d i
      rw [h3] at h2
      exact swp_other d h2 h1
    · rw [sd_stop h]
      exact ⟨0, Rd.refl i, fun _ _ => rfl⟩
/-- the places above the road of siftUp are left alone: the road goes from i up to the answered place -/
theorem su_road : ∀ (g : Nat) (d : Nat → It) (i : Nat), ∃ T, Rd (su g d i).2 i T ∧ ∀ k, (∀ t, t ≤ T → k ≠ up t i) → (su g d i).1 k = d k
  | 0, d, i => ⟨0, Rd.refl i, fun _ _ => rfl⟩
  | g + 1, d, i => by
    rcases su_or d i with h | h
    · rw [su_go h.1 h.2]
      obtain ⟨T, hr, hk⟩ := su_road g (swp d i ((i - 1) / 2)) ((i - 1) / 2)
      refine ⟨T + 1, ⟨?_, fun t ht => ?_⟩, fun k hn => ?_⟩
      · rw [up_succ]; exact hr.1
      · cases t with
        | zero =>
          show _ < i
          have := su_le g (swp d i ((i - 1) / 2)) ((i - 1) / 2)
          omega
        | succ t => rw [up_succ]; exact hr.2 t (by omega)
      · rw [hk k (fun t ht => by have := hn (t + 1) (by omega); rwa [up_succ] at this)]
        exact swp_other d (hn 0 (by omega)) (by have := hn 1 (by omega); exact this)
    · rw [su_stop h]
      exact ⟨0, Rd.refl i, fun _ _ => rfl⟩

end Go.Proofs.Ymbrcy
