/- The walk of LawS930008IHeld (seat Ymbrcz): the Go text returns true, and writes nothing that was there. -/
import Derived.Test.YmbrczBase
import Derived.Test.YmbrczIdx
namespace Go.Proofs.Ymbrcz.lawS930008IHeld
open Go.RowKit Go.Sort
set_option linter.unusedVariables false

set_option maxHeartbeats 1000000 in
theorem walk_none (a : Option Addr) (cap : Nat) (d : Nat → It) (a1 : Int) (w : World) (h : Sl w a 0 d) :
    Calls Yczm.prog 4 #[.slice a 0 cap, .int .u64 a1] w fun e w' => e = .returned (.bool true) ∧ Below w.heap.size w w' := by
  have hb0 : Below w.heap.size w (w.alloc (.cells #[.slice a 0 cap] 27)) := (Below.refl _ _).alloc (Nat.le_refl _) _
  have hs := h.below hb0 (Nat.le_refl _)
  go_enter Yczm.func4, Yczm.ntmps4
  go_wp2_with fail
  refine (indexOf_any w.heap.size a 0 cap d _ _ (by go_simp) hs (Nat.zero_le _)).mono ?_
  rintro e w1 ⟨rfl, hw⟩
  subst hw
  simp only [ix]
  go_wp2
  go_ret
  exact ⟨rfl, hb0⟩

set_option maxHeartbeats 1000000 in
theorem walk_main (a : Option Addr) (n cap : Nat) (d : Nat → It) (a1 : Int) (k : Nat) (w : World) (h : Sl w a n d) (hn : n ≤ maxLen) (hn0 : 1 ≤ n) (h0 : 0 ≤ a1) (h1 : a1 ≤ 18446744073709551615) (hk : a1 % (n : Int) = k) (hkn : k < n) :
    Calls Yczm.prog 4 #[.slice a n cap, .int .u64 a1] w fun e w' => e = .returned (.bool true) ∧ Below w.heap.size w w' := by
  have HN : Hid (n ≤ maxLen) := hn
  unfold maxLen at hn
  have hb0 : Below w.heap.size w (w.alloc (.cells #[.slice a n cap] 27)) := (Below.refl _ _).alloc (Nat.le_refl _) _
  have hs := h.below hb0 (Nat.le_refl _)
  obtain ⟨b, off, ha, hc⟩ := hs
  obtain ⟨rfl, hbw⟩ := ha (by omega)
  have c1 := (hc k hkn).2
  have hs := h.below hb0 (Nat.le_refl _)
  have hnz : ((n : Int) == 0) = false := by simp; omega
  obtain ⟨id, hid⟩ : ∃ id, id = (d k).2 := ⟨_, rfl⟩
  rw [← hid] at c1
  have HC : Hid (∀ j, j < n → (w.alloc (.cells #[.slice (some ⟨b, off, none⟩) n cap] 27)).cell? ⟨b, off + j * 2 + 1, none⟩ = some (.int .u32 (d j).2)) := fun j hj => (hc j hj).2
  have HI : Hid (id = (d k).2) := hid
  clear hc hid ha
  go_enter Yczm.func4, Yczm.ntmps4
  go_wp2_with fail
  refine (indexOf_any w.heap.size (some ⟨b, off, none⟩) n cap d id _ (by go_simp) hs HN.out).mono ?_
  rintro e w1 ⟨rfl, hw⟩
  subst hw
  obtain ⟨r, hix, hrk, hrid, hbef⟩ : ∃ r, ix d id n 0 = (r, true) ∧ r ≤ k ∧ (d r).2 = id ∧ ∀ j, j < r → (d j).2 ≠ id := by
    have hF := ix_fst d id n 0
    rw [Nat.zero_add] at hF
    rcases hF with ⟨g0, g1, g2, g3, g4⟩ | ⟨g0, g1, g2⟩
    · refine ⟨(ix d id n 0).1, Prod.ext rfl g0, ?_, g3, fun j hj => g4 j (Nat.zero_le _) hj⟩
      by_cases e : (ix d id n 0).1 ≤ k
      · exact e
      · exact absurd HI.out.symm (g4 k (Nat.zero_le _) (by omega))
    · exact absurd HI.out.symm (g2 k (Nat.zero_le _) hkn)
  rw [hix]
  have c2 := HC.out r (by omega)
  rw [hrid] at c2
  have HBF : Hid (∀ j, j < r → (d j).2 ≠ id) := hbef
  clear hix hrid hbef hs c1 hk h0 h1
  go_wp2
  go_loop [12] (fun u => ∃ j : Nat, j ≤ r ∧ u = .int .i64 j) (fun u => r - (intOf u).toNat)
  case atStart => exact ⟨0, Nat.zero_le _, rfl⟩
  case round =>
    obtain ⟨j, hj, rfl⟩ := hrel
    by_cases hlt : j < r
    · have c3 := HC.out j (by omega)
      have hne : ((d j).2 == id) = false := by have := HBF.out j hlt; simp [this]
      go_wp2
      go_round
      case rel => exact ⟨j + 1, by omega, by go_num⟩
      case measure => simp [intOf]; omega
    · go_wp2
      go_ret
      exact ⟨rfl, hb0⟩

theorem walk (a : Option Addr) (n cap : Nat) (d : Nat → It) (a1 : Int) (w : World) (h : Sl w a n d) (hn : n ≤ maxLen) (w1 : (Lit.int .u64 a1).wf = true) :
    Calls Yczm.prog 4 #[.slice a n cap, .int .u64 a1] w fun e w' => e = .returned (.bool true) ∧ Below w.heap.size w w' := by
  have hb := bd_u64 w1
  by_cases h0 : n = 0
  · subst h0
    exact walk_none a cap d a1 w h
  · have h2 : 0 ≤ a1 % (n : Int) := Int.emod_nonneg _ (by omega)
    have h3 : a1 % (n : Int) < (n : Int) := Int.emod_lt_of_pos _ (by omega)
    exact walk_main a n cap d a1 (a1 % (n : Int)).toNat w h hn (by omega) hb.1 hb.2 (by omega) (by omega)
end Go.Proofs.Ymbrcz.lawS930008IHeld
