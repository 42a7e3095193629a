/- The walk of LawS930008BRank (seat Ymbrcx): the Go text returns true, and writes nothing that was there. -/
import Derived.Test.YmbrcxBase
import Derived.Test.YmbrcxBefore
import Derived.Test.YmbrcxSorted
import Derived.Test.YmbrcxRanks
namespace Go.Proofs.Ymbrcx.lawS930008BRank
open Go.RowKit Go.Sort
set_option linter.unusedVariables false

theorem walk_long (a : Option Addr) (n cap : Nat) (w : World) (hn : ¬ n ≤ 1024) (hm : n ≤ maxLen) :
    Calls Ycxm.prog 7 #[.slice a n cap] w fun e w' => e = .returned (.bool true) ∧ Below w.heap.size w w' := by
  unfold maxLen at hm
  go_enter Ycxm.func7, Ycxm.ntmps7
  go_wp2
  go_ret
  exact ⟨rfl, Below.refl _ _⟩

set_option maxHeartbeats 4000000 in
theorem walk_main (a : Option Addr) (n cap : Nat) (d : Nat → It) (w : World) (h : Sl w a n d) (hn : n ≤ 1024) :
    Calls Ycxm.prog 7 #[.slice a n cap] w fun e w' => e = .returned (.bool true) ∧ Below w.heap.size w w' := by
  go_enter Ycxm.func7, Ycxm.ntmps7
  go_wp2_with fail
  refine (sorted_any a n cap d _ h hn).mono ?_
  rintro e w1 ⟨b, o, rfl, hbz, how1, hS, hP, hb1⟩
  have HR : Hid (∀ k, k < n → cn (before (o k)) d n ≤ k ∧ k + 1 ≤ cn (before (o k)) d n + cn (alike (o k)) d n) := fun k hk => by
    refine ⟨?_, ?_⟩
    · rw [← hP (before (o k))]; exact rank_lo hS hk
    · rw [cn_alike, ← hP (notAfter (o k))]; exact rank_hi hS hk
  clear hS hP
  go_wp2
  go_loopw [4] (fun u wr => ∃ k : Nat, k ≤ n ∧ u = .int .i64 k ∧ Own wr b n o ∧ Below w.heap.size w wr) (fun u _ => n - (intOf u).toNat)
  case atStart => exact ⟨0, Nat.zero_le _, rfl, how1, hb1⟩
  case round =>
    clear how1 hb1
    obtain ⟨k, hk, rfl, how, hbl⟩ := hrel
    by_cases hlt : k < n
    · obtain ⟨hr1, hr2⟩ := HR.out k hlt
      have h1 := cn_le (before (o k)) d n
      have h2 := cn_le (alike (o k)) d n
      have HR1 : Hid (cn (before (o k)) d n ≤ k) := hr1
      have HR2 : Hid (k + 1 ≤ cn (before (o k)) d n + cn (alike (o k)) d n) := hr2
      clear hr1 hr2 h1 h2
      go_wp2
      go_loopw [5, 6, 7] (fun p q u wr => ∃ i : Nat, i ≤ n ∧ p = .int .i64 (cn (before (o k)) d i) ∧ q = .int .i64 (cn (alike (o k)) d i) ∧ u = .int .i64 i ∧ Own wr b n o ∧ Below w.heap.size w wr) (fun _ _ u _ => n - (intOf u).toNat)
      case atStart => exact ⟨0, Nat.zero_le _, rfl, rfl, rfl, how, hbl⟩
      case round =>
        clear how hbl
        obtain ⟨i, hi, rfl, rfl, rfl, how, hbl⟩ := hrel
        by_cases hin : i < n
        · obtain ⟨ab, off, ha, hc⟩ := h.below hbl (Nat.le_refl _)
          obtain ⟨rfl, hbw⟩ := ha (by omega)
          have c0 := cell_regrown (hc i hin).1
          have c1 := cell_regrown (hc i hin).2
          have c2 := cell_regrown (how.c0 hlt)
          have c3 := cell_regrown (how.c1 hlt)
          clear hc ha
          have h1 := cn_le (before (o k)) d i
          have h2 := cn_le (alike (o k)) d i
          have HB1 : Hid (cn (before (o k)) d (i + 1) = cn (before (o k)) d i + (if before (o k) (d i) then 1 else 0)) := rfl
          have HA1 : Hid (cn (alike (o k)) d (i + 1) = cn (alike (o k)) d i + (if alike (o k) (d i) then 1 else 0)) := rfl
          go_wp2
          refine wp_region_below (by kernel_rfl) (by kernel_rfl) ?_
          repeat (go_big_quiet_step (exact Calls.regrown_of (bbefore_any _ _ _)))
          refine wpQuiet_nil ?_
          intro w2 hb2
          have how2 := how.below hb2 how.lt
          have hbl2 := hbl.trans (hb2.mono hbl.size)
          clear c0 c1 c2 c3 how hbl hb2
          cases hl : lt (d i) (o k)
          · obtain ⟨ab', off', ha', hc'⟩ := h.below hbl2 (Nat.le_refl _)
            obtain ⟨hae, hbw'⟩ := ha' (by omega)
            obtain ⟨rfl, rfl⟩ : ab = ab' ∧ off = off' := by simpa using hae
            have c0 := cell_regrown (hc' i hin).1
            have c1 := cell_regrown (hc' i hin).2
            have c2 := cell_regrown (how2.c0 hlt)
            have c3 := cell_regrown (how2.c1 hlt)
            clear hc' ha' hae
            go_wp2
            refine wp_region_below (by kernel_rfl) (by kernel_rfl) ?_
            repeat (go_big_quiet_step (exact Calls.regrown_of (bbefore_any _ _ _)))
            refine wpQuiet_nil ?_
            intro w3 hb3
            have how3 := how2.below hb3 how2.lt
            have hbl3 := hbl2.trans (hb3.mono hbl2.size)
            clear c0 c1 c2 c3 how2 hbl2 hb3
            cases hl2 : lt (o k) (d i)
            · have E1 : Hid (cn (before (o k)) d (i + 1) = cn (before (o k)) d i) := by rw [HB1.out, show before (o k) (d i) = false from hl]; rfl
              have E2 : Hid (cn (alike (o k)) d (i + 1) = cn (alike (o k)) d i + 1) := by rw [HA1.out, show alike (o k) (d i) = true from by unfold alike; rw [hl, hl2]; rfl]; rfl
              go_wp2
              go_roundw
              case rel => exact ⟨i + 1, by omega, by rw [E1.out], by rw [E2.out]; go_num, by go_num, how3, hbl3⟩
              case measure => simp [intOf]; omega
            · have E1 : Hid (cn (before (o k)) d (i + 1) = cn (before (o k)) d i) := by rw [HB1.out, show before (o k) (d i) = false from hl]; rfl
              have E2 : Hid (cn (alike (o k)) d (i + 1) = cn (alike (o k)) d i) := by rw [HA1.out, show alike (o k) (d i) = false from by unfold alike; rw [hl, hl2]; rfl]; rfl
              go_wp2
              go_roundw
              case rel => exact ⟨i + 1, by omega, by rw [E1.out], by rw [E2.out], by go_num, how3, hbl3⟩
              case measure => simp [intOf]; omega
          · have E1 : Hid (cn (before (o k)) d (i + 1) = cn (before (o k)) d i + 1) := by rw [HB1.out, show before (o k) (d i) = true from hl]; rfl
            have E2 : Hid (cn (alike (o k)) d (i + 1) = cn (alike (o k)) d i) := by rw [HA1.out, show alike (o k) (d i) = false from by unfold alike; rw [hl]; rfl]; rfl
            go_wp2
            go_roundw
            case rel => exact ⟨i + 1, by omega, by rw [E1.out]; go_num, by rw [E2.out], by go_num, how2, hbl2⟩
            case measure => simp [intOf]; omega
        · have hin2 : n = i := by omega
          subst hin2
          have h1 := cn_le (before (o k)) d n
          have h2 := cn_le (alike (o k)) d n
          have g1 := HR1.out
          have g2 := HR2.out
          have g3 : ¬ (k : Int) < (cn (before (o k)) d n : Int) := by omega
          have g4 : ¬ (cn (before (o k)) d n : Int) + (cn (alike (o k)) d n : Int) ≤ (k : Int) := by omega
          go_wp2
          go_roundw
          case rel => exact ⟨k + 1, by omega, by go_num, how, hbl⟩
          case measure => simp [intOf]; omega
    · go_wp2
      go_ret
      exact ⟨rfl, hbl⟩

theorem walk (a : Option Addr) (n cap : Nat) (d : Nat → It) (w : World) (h : Sl w a n d) (hn : n ≤ maxLen) :
    Calls Ycxm.prog 7 #[.slice a n cap] w fun e w' => e = .returned (.bool true) ∧ Below w.heap.size w w' := by
  by_cases hs : n ≤ 1024
  · exact walk_main a n cap d w h hs
  · exact walk_long a n cap w hs hn
end Go.Proofs.Ymbrcx.lawS930008BRank
