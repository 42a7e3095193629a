/- The walk of LawS930008FChildren (seat Ymbrcy): the Go text returns true, and writes nothing that was there. -/
import Derived.Test.YmbrcyBase
import Derived.Test.YmbrcyBefore
import Derived.Test.YmbrcyValid
namespace Go.Proofs.Ymbrcy.lawS930008FChildren
open Go.RowKit Go.Sort
set_option linter.unusedVariables false

/-- no child of a place before p comes before it -/
def HeapTo (n p : Nat) (d : Nat → It) : Prop := ∀ c, 1 ≤ c → c < n → (c - 1) / 2 < p → lt (d c) (d ((c - 1) / 2)) = false
theorem to_step {n p : Nat} {d : Nat → It} (hlt : 2 * p + 1 < n) : HeapTo n (p + 1) d ↔ HeapTo n p d ∧ lt (d (2 * p + 1)) (d p) = false ∧ (2 * p + 2 < n → lt (d (2 * p + 2)) (d p) = false) := by
  constructor
  · intro h
    refine ⟨fun c a b e => h c a b (by omega), ?_, fun hg => ?_⟩
    · have := h (2 * p + 1) (by omega) hlt (by omega)
      rwa [(by omega : (2 * p + 1 - 1) / 2 = p)] at this
    · have := h (2 * p + 2) (by omega) hg (by omega)
      rwa [(by omega : (2 * p + 2 - 1) / 2 = p)] at this
  · rintro ⟨h1, h2, h3⟩ c a b e
    by_cases hc : (c - 1) / 2 = p
    · rw [hc]
      by_cases e1 : c = 2 * p + 1
      · rw [e1]; exact h2
      · have e2 : c = 2 * p + 2 := by omega
        rw [e2]; exact h3 (by omega)
    · exact h1 c a b (by omega)
theorem to_all {n p : Nat} {d : Nat → It} (h : ¬ 2 * p + 1 < n) : HeapTo n p d ↔ HeapFrom n 0 d :=
  ⟨fun h1 c a b _ => h1 c a b (by omega), fun h1 c a b _ => h1 c a b (Nat.zero_le _)⟩

theorem walk_long (a : Option Addr) (n cap : Nat) (w : World) (hn : ¬ n ≤ 4096) (hm : n ≤ maxLen) :
    Calls Ycym.prog 6 #[.slice a n cap] w fun e w' => e = .returned (.bool true) ∧ Below w.heap.size w w' := by
  unfold maxLen at hm
  go_enter Ycym.func6, Ycym.ntmps6
  go_wp2
  go_ret
  exact ⟨rfl, Below.refl _ _⟩

set_option maxHeartbeats 4000000 in
theorem walk_main (a : Option Addr) (n cap : Nat) (d : Nat → It) (w : World) (h : Sl w a n d) (hn : n ≤ 4096) :
    Calls Ycym.prog 6 #[.slice a n cap] w fun e w' => e = .returned (.bool true) ∧ Below w.heap.size w w' := by
  go_enter Ycym.func6, Ycym.ntmps6
  go_wp2
  go_loopw [4, 5] (fun v u wr => ∃ (p : Nat) (t : Bool), p ≤ n ∧ u = .int .i64 p ∧ v = .bool t ∧ Below w.heap.size w wr ∧ Hid (t = true ↔ HeapTo n p d)) (fun _ u _ => n - (intOf u).toNat)
  case atStart => exact ⟨0, true, Nat.zero_le _, rfl, rfl, Below.refl _ _, ⟨fun _ c _ _ h => by omega, fun _ => rfl⟩⟩
  case round =>
    obtain ⟨p, t, hp, rfl, rfl, hbl, HT⟩ := hrel
    by_cases hlt : 2 * p + 1 < n
    · obtain ⟨ab, off, ha, hc⟩ := h.below hbl (Nat.le_refl _)
      obtain ⟨rfl, hbw⟩ := ha (by omega)
      have hlti : 2 * (p : Int) + 1 < (n : Int) := by omega
      have c0 := cell_regrown (hc (2 * p + 1) hlt).1
      have c1 := cell_regrown (hc (2 * p + 1) hlt).2
      have c2 := cell_regrown (hc p (by omega)).1
      have c3 := cell_regrown (hc p (by omega)).2
      clear hc ha
      go_wp2
      refine wp_region_below (by kernel_rfl) (by kernel_rfl) ?_
      repeat (go_big_quiet_step (exact Calls.regrown_of (fbefore_any _ _ _)))
      refine wpQuiet_nil ?_
      intro w1 hb1
      have hbl1 := hbl.trans (hb1.mono hbl.size)
      clear c0 c1 c2 c3 hbl hb1
      cases hA : lt (d (2 * p + 1)) (d p)
      · by_cases hg : 2 * p + 2 < n
        · have hgi : 2 * (p : Int) + 2 < (n : Int) := by omega
          obtain ⟨ab', off', ha', hc'⟩ := h.below hbl1 (Nat.le_refl _)
          obtain ⟨hae, hbw'⟩ := ha' (by omega)
          obtain ⟨rfl, rfl⟩ : ab = ab' ∧ off = off' := by simpa using hae
          have c0 := cell_regrown (hc' (2 * p + 2) hg).1
          have c1 := cell_regrown (hc' (2 * p + 2) hg).2
          have c2 := cell_regrown (hc' p (by omega)).1
          have c3 := cell_regrown (hc' p (by omega)).2
          clear hc' ha' hae
          go_wp2
          refine wp_region_below (by kernel_rfl) (by kernel_rfl) ?_
          repeat (go_big_quiet_step (exact Calls.regrown_of (fbefore_any _ _ _)))
          refine wpQuiet_nil ?_
          intro w2 hb2
          have hbl2 := hbl1.trans (hb2.mono hbl1.size)
          clear c0 c1 c2 c3
          cases hB : lt (d (2 * p + 2)) (d p)
          · go_wp2
            go_roundw
            case rel => exact ⟨p + 1, t, by omega, by go_num, rfl, hbl2, (HT.out.trans ⟨fun h => (to_step hlt).2 ⟨h, hA, fun _ => hB⟩, fun h => ((to_step hlt).1 h).1⟩)⟩
            case measure => simp [intOf]; omega
          · go_wp2
            go_roundw
            case rel => exact ⟨p + 1, false, by omega, by go_num, rfl, hbl2, ⟨(fun h => by cases h), (fun h => by have := ((to_step hlt).1 h).2.2 hg; rw [hB] at this; cases this)⟩⟩
            case measure => simp [intOf]; omega
        · have hgi : decide (2 * (p : Int) + 2 < (n : Int)) = false := decide_eq_false (by omega)
          go_wp2
          refine wp_region_below (by kernel_rfl) (by kernel_rfl) ?_
          repeat (go_big_quiet_step (fail))
          refine wpQuiet_nil ?_
          intro w2 hb2
          have hbl2 := hbl1.trans (hb2.mono hbl1.size)
          go_wp2
          go_roundw
          case rel => exact ⟨p + 1, t, by omega, by go_num, rfl, hbl2, (HT.out.trans ⟨fun h => (to_step hlt).2 ⟨h, hA, fun h => absurd h hg⟩, fun h => ((to_step hlt).1 h).1⟩)⟩
          case measure => simp [intOf]; omega
      · by_cases hg : 2 * p + 2 < n
        · have hgi : 2 * (p : Int) + 2 < (n : Int) := by omega
          obtain ⟨ab', off', ha', hc'⟩ := h.below hbl1 (Nat.le_refl _)
          obtain ⟨hae, hbw'⟩ := ha' (by omega)
          obtain ⟨rfl, rfl⟩ : ab = ab' ∧ off = off' := by simpa using hae
          have c0 := cell_regrown (hc' (2 * p + 2) hg).1
          have c1 := cell_regrown (hc' (2 * p + 2) hg).2
          have c2 := cell_regrown (hc' p (by omega)).1
          have c3 := cell_regrown (hc' p (by omega)).2
          clear hc' ha' hae
          go_wp2
          refine wp_region_below (by kernel_rfl) (by kernel_rfl) ?_
          repeat (go_big_quiet_step (exact Calls.regrown_of (fbefore_any _ _ _)))
          refine wpQuiet_nil ?_
          intro w2 hb2
          have hbl2 := hbl1.trans (hb2.mono hbl1.size)
          clear c0 c1 c2 c3
          cases hB : lt (d (2 * p + 2)) (d p)
          · go_wp2
            go_roundw
            case rel => exact ⟨p + 1, false, by omega, by go_num, rfl, hbl2, ⟨(fun h => by cases h), (fun h => by have := (to_step hlt).1 h; rw [hA] at this; cases this.2.1)⟩⟩
            case measure => simp [intOf]; omega
          · go_wp2
            go_roundw
            case rel => exact ⟨p + 1, false, by omega, by go_num, rfl, hbl2, ⟨(fun h => by cases h), (fun h => by have := ((to_step hlt).1 h).2.2 hg; rw [hB] at this; cases this)⟩⟩
            case measure => simp [intOf]; omega
        · have hgi : decide (2 * (p : Int) + 2 < (n : Int)) = false := decide_eq_false (by omega)
          go_wp2
          refine wp_region_below (by kernel_rfl) (by kernel_rfl) ?_
          repeat (go_big_quiet_step (fail))
          refine wpQuiet_nil ?_
          intro w2 hb2
          have hbl2 := hbl1.trans (hb2.mono hbl1.size)
          go_wp2
          go_roundw
          case rel => exact ⟨p + 1, false, by omega, by go_num, rfl, hbl2, ⟨(fun h => by cases h), (fun h => by have := (to_step hlt).1 h; rw [hA] at this; cases this.2.1)⟩⟩
          case measure => simp [intOf]; omega
    · have hge : ¬ 2 * (p : Int) + 1 < (n : Int) := by omega
      go_wp2_with fail
      refine (valid_any a n cap d _ (h.below hbl (Nat.le_refl _)) hn).mono ?_
      rintro e w1 ⟨r, rfl, hr, hb1⟩
      have hrt : (r == t) = true := by
        have e : r = true ↔ t = true := hr.trans ((HT.out.trans (to_all hlt)).symm)
        cases r <;> cases t <;> simp_all
      have hb1 := hbl.trans (hb1.mono hbl.size)
      clear hr HT
      go_wp2
      go_ret
      exact ⟨rfl, hb1⟩

theorem walk (a : Option Addr) (n cap : Nat) (d : Nat → It) (w : World) (h : Sl w a n d) (hn : n ≤ maxLen) :
    Calls Ycym.prog 6 #[.slice a n cap] w fun e w' => e = .returned (.bool true) ∧ Below w.heap.size w w' := by
  by_cases hs : n ≤ 4096
  · exact walk_main a n cap d w h hs
  · exact walk_long a n cap w hs hn
end Go.Proofs.Ymbrcy.lawS930008FChildren
