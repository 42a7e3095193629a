/- The walk of LawS930008LRoot (seat Ymbrcz): the Go text returns true, and writes nothing that was there. -/
import Derived.Test.YmbrczBase
import Derived.Test.YmbrczPeek
import Derived.Test.YmbrczCopyL
namespace Go.Proofs.Ymbrcz.lawS930008LRoot
open Go.RowKit Go.Sort
set_option linter.unusedVariables false

theorem walk_long (a : Option Addr) (n cap : Nat) (w : World) (hn : ¬ n ≤ 1024) (hm : n ≤ maxLen) :
    Calls Yczm.prog 12 #[.slice a n cap] w fun e w' => e = .returned (.bool true) ∧ Below w.heap.size w w' := by
  unfold maxLen at hm
  go_enter Yczm.func12, Yczm.ntmps12
  go_wp2
  go_ret
  exact ⟨rfl, Below.refl _ _⟩
set_option maxHeartbeats 1000000 in
theorem walk_nil (cap : Nat) (w : World) :
    Calls Yczm.prog 12 #[.slice none 0 cap] w fun e w' => e = .returned (.bool true) ∧ Below w.heap.size w w' := by
  have hq := run_isnil
  have hnil : (none : Option Addr).isNone = true := rfl
  go_enter Yczm.func12, Yczm.ntmps12
  go_wp2_with fail
  refine (lcopy_nil 0 cap _).mono ?_
  rintro e w1 ⟨rfl, hw⟩
  subst hw
  have hb0 : Below w.heap.size w (w.alloc (.cells #[.slice none 0 0] 27)) := (Below.refl _ _).alloc (Nat.le_refl _) _
  go_wp2_with fail
  refine (peek_none w.heap.size none 0 _ (by go_simp) (by simp)).mono ?_
  rintro e w2 ⟨rfl, hb2⟩
  have g0 : w2.cell? ⟨w.heap.size, 0, none⟩ = some (.slice none 0 0) := (hb2.cell (p := ⟨w.heap.size, 0, none⟩) (by simp)).trans (by go_simp)
  have hz : w.heap.size < w2.heap.size := by have := hb2.size; simp at this; omega
  have hbl := hb0.trans (hb2.mono (by simp))
  have hbl2 := hbl.alloc hbl.size (.cells #[.int .i64 0, .int .u32 0] 25)
  go_wp2
  go_loopw [6] (fun u wr => ∃ k : Nat, k = 0 ∧ u = .int .i64 0 ∧ wr = w2.alloc (.cells #[.int .i64 0, .int .u32 0] 25)) (fun u _ => 0)
  case atStart => exact ⟨0, rfl, rfl, rfl⟩
  case round =>
    obtain ⟨k, _, rfl, hwr⟩ := hrel
    subst hwr
    go_wp2
    go_ret
    exact ⟨rfl, hbl2⟩
set_option maxHeartbeats 2000000 in
theorem walk_empty (x : Addr) (cap : Nat) (d : Nat → It) (w : World) (h : Sl w (some x) 0 d) :
    Calls Yczm.prog 12 #[.slice (some x) 0 cap] w fun e w' => e = .returned (.bool true) ∧ Below w.heap.size w w' := by
  have hq := run_isnil
  go_enter Yczm.func12, Yczm.ntmps12
  go_wp2_with fail
  refine (lcopy_any (some x) 0 cap d _ h (by omega) rfl).mono ?_
  rintro e w1 ⟨rfl, how1, hb1⟩
  have hbl0 := hb1.alloc hb1.size (.cells #[.slice (some ⟨w.heap.size, 0, none⟩) 0 0] 27)
  go_wp2_with fail
  refine (peek_none w1.heap.size (some ⟨w.heap.size, 0, none⟩) 0 _ (by go_simp) (by simp)).mono ?_
  rintro e w2 ⟨rfl, hb2⟩
  have g0 : w2.cell? ⟨w1.heap.size, 0, none⟩ = some (.slice (some ⟨w.heap.size, 0, none⟩) 0 0) := (hb2.cell (p := ⟨w1.heap.size, 0, none⟩) (by simp)).trans (by go_simp)
  have hz : w1.heap.size < w2.heap.size := by have := hb2.size; simp at this; omega
  have hbl := hbl0.trans (hb2.mono (by have := hb1.size; simp; omega))
  have hbl2 := hbl.alloc hbl.size (.cells #[.int .i64 0, .int .u32 0] 25)
  clear how1 hbl0
  go_wp2
  go_loopw [6] (fun u wr => ∃ k : Nat, k = 0 ∧ u = .int .i64 0 ∧ wr = w2.alloc (.cells #[.int .i64 0, .int .u32 0] 25)) (fun u _ => 0)
  case atStart => exact ⟨0, rfl, rfl, rfl⟩
  case round =>
    obtain ⟨k, _, rfl, hwr⟩ := hrel
    subst hwr
    go_wp2
    go_ret
    exact ⟨rfl, hbl2⟩
set_option maxHeartbeats 4000000 in
theorem walk_main (ab off n cap : Nat) (d : Nat → It) (w : World) (h : Sl w (some ⟨ab, off, none⟩) n d) (hn : n ≤ 1024) (hn0 : 1 ≤ n) :
    Calls Yczm.prog 12 #[.slice (some ⟨ab, off, none⟩) n cap] w fun e w' => e = .returned (.bool true) ∧ Below w.heap.size w w' := by
  have hq := run_isnil
  have hnz : ((n : Int) == 0) = false := by simp; omega
  go_enter Yczm.func12, Yczm.ntmps12
  go_wp2_with fail
  refine (lcopy_any _ n cap d _ h hn rfl).mono ?_
  rintro e w1 ⟨rfl, how1, hb1⟩
  have hbl0 := hb1.alloc hb1.size (.cells #[.slice (some ⟨w.heap.size, 0, none⟩) n n] 27)
  have how2 := how1.alloc (.cells #[.slice (some ⟨w.heap.size, 0, none⟩) n n] 27)
  have hbz := how1.lt
  go_wp2_with fail
  refine (peek_in w1.heap.size (some ⟨w.heap.size, 0, none⟩) n n d _ (by go_simp) (by simp) (how2.sl (Nat.le_refl _)) hn0).mono ?_
  rintro e w2 ⟨rfl, hb2⟩
  have g0 : w2.cell? ⟨w1.heap.size, 0, none⟩ = some (.slice (some ⟨w.heap.size, 0, none⟩) n n) := (hb2.cell (p := ⟨w1.heap.size, 0, none⟩) (by simp)).trans (by go_simp)
  have hz : w1.heap.size < w2.heap.size := by have := hb2.size; simp at this; omega
  have hbl := hbl0.trans (hb2.mono (by have := hb1.size; simp; omega))
  obtain ⟨x, hx⟩ : ∃ x, x = d 0 := ⟨_, rfl⟩
  rw [← hx]
  have hbl2 := hbl.alloc hbl.size (.cells #[.int .i64 x.1, .int .u32 x.2] 25)
  have how3 := (how2.below hb2 (by simp; omega)).alloc (.cells #[.int .i64 x.1, .int .u32 x.2] 25)
  have HX : Hid (x = d 0) := hx
  obtain ⟨b, hb⟩ : ∃ b, b = w.heap.size := ⟨_, rfl⟩
  rw [← hb] at g0 how3 ⊢
  obtain ⟨hp, hhp⟩ : ∃ hp, hp = w1.heap.size := ⟨_, rfl⟩
  rw [← hhp] at g0 hz ⊢
  have e0 : (w2.alloc (.cells #[.int .i64 x.1, .int .u32 x.2] 25)).cell? ⟨hp, 0, none⟩ = some (.slice (some ⟨b, 0, none⟩) n n) := by
    have hf : Below w2.heap.size w2 (w2.alloc (.cells #[.int .i64 x.1, .int .u32 x.2] 25)) := (Below.refl _ _).alloc (Nat.le_refl _) _
    exact (hf.cell (p := ⟨hp, 0, none⟩) hz).trans g0
  have e1 : (w2.alloc (.cells #[.int .i64 x.1, .int .u32 x.2] 25)).cell? ⟨w2.heap.size, 0, none⟩ = some (.int .i64 x.1) := by go_simp
  have e2 : (w2.alloc (.cells #[.int .i64 x.1, .int .u32 x.2] 25)).cell? ⟨w2.heap.size, 1, none⟩ = some (.int .u32 x.2) := by go_simp
  have hz2 : hp < (w2.alloc (.cells #[.int .i64 x.1, .int .u32 x.2] 25)).heap.size := by simp; omega
  have hz3 : w2.heap.size < (w2.alloc (.cells #[.int .i64 x.1, .int .u32 x.2] 25)).heap.size := by simp
  clear hb hhp how1 how2 hbl0 hb1 hb2 hbz hbl hx
  go_wp2
  obtain ⟨bx, hbx⟩ : ∃ bx, bx = w2.heap.size := ⟨_, rfl⟩
  rw [← hbx] at e1 e2 hz3 ⊢
  clear hbx g0 hz
  go_loopw [6] (fun u wr => ∃ k : Nat, k ≤ n ∧ u = .int .i64 k ∧ Own wr b n d ∧ Below w.heap.size w wr ∧ wr.cell? ⟨hp, 0, none⟩ = some (.slice (some ⟨b, 0, none⟩) n n) ∧ wr.cell? ⟨bx, 0, none⟩ = some (.int .i64 x.1) ∧ wr.cell? ⟨bx, 1, none⟩ = some (.int .u32 x.2) ∧ hp < wr.heap.size ∧ bx < wr.heap.size) (fun u _ => n - (intOf u).toNat)
  case atStart => exact ⟨0, Nat.zero_le _, rfl, how3, hbl2, e0, e1, e2, hz2, hz3⟩
  case round =>
    clear how3 hbl2 e0 e1 e2 hz2 hz3
    obtain ⟨k, hk, rfl, how, hbl, e0, e1, e2, hz2, hz3⟩ := hrel
    obtain ⟨ab', off', ha', hc'⟩ := h.below hbl (Nat.le_refl _)
    obtain ⟨hae, hbw'⟩ := ha' hn0
    obtain ⟨rfl, rfl⟩ : ab = ab' ∧ off = off' := by simpa using hae
    by_cases hlt : k < n
    · have c0 := cell_regrown (hc' k hlt).1
      have c1 := cell_regrown (hc' k hlt).2
      have c2 := cell_regrown (how.c0 hlt)
      have c3 := cell_regrown (how.c1 hlt)
      have c4 := cell_regrown e0
      clear hc' ha' hae
      go_wp2
      refine wp_region_below (by kernel_rfl) (by kernel_rfl) ?_
      repeat (go_big_quiet_step (fail))
      refine wpQuiet_nil ?_
      intro w8 hb8
      have p1 := how.below hb8 how.lt
      have p2 := hbl.trans (hb8.mono hbl.size)
      have p3 := (hb8.cell (p := ⟨hp, 0, none⟩) hz2).trans e0
      have p4 := (hb8.cell (p := ⟨bx, 0, none⟩) hz3).trans e1
      have p5 := (hb8.cell (p := ⟨bx, 1, none⟩) hz3).trans e2
      have p6 := Nat.lt_of_lt_of_le hz2 hb8.size
      have p7 := Nat.lt_of_lt_of_le hz3 hb8.size
      clear c0 c1 c2 c3 c4 how hbl hb8 e0 e1 e2 hz2 hz3
      go_wp2
      go_roundw
      case rel => exact ⟨k + 1, by omega, by go_num, p1, p2, p3, p4, p5, p6, p7⟩
      case measure => simp [intOf]; omega
    · have c0 := cell_regrown (hc' 0 (by omega)).1
      have c1 := cell_regrown (hc' 0 (by omega)).2
      rw [Nat.zero_mul, Nat.add_zero, ← HX.out] at c0 c1
      have c2 := cell_regrown e1
      have c3 := cell_regrown e2
      have hn1 : (0 : Int) < (n : Int) := by omega
      clear hc' ha' hae
      go_wp2
      refine wp_region_below (by kernel_rfl) (by kernel_rfl) ?_
      repeat (go_big_quiet_step (fail))
      refine wpQuiet_nil ?_
      intro w8 hb8
      have p2 := hbl.trans (hb8.mono hbl.size)
      go_wp2
      go_ret
      exact ⟨rfl, p2⟩

theorem walk (a : Option Addr) (n cap : Nat) (d : Nat → It) (w : World) (h : Sl w a n d) (hn : n ≤ maxLen) :
    Calls Yczm.prog 12 #[.slice a n cap] w fun e w' => e = .returned (.bool true) ∧ Below w.heap.size w w' := by
  by_cases hs : n ≤ 1024
  · by_cases h0 : n = 0
    · subst h0
      cases a with
      | none => exact walk_nil cap w
      | some x => exact walk_empty x cap d w h
    · have h' := h
      obtain ⟨ab, off, ha, _⟩ := h'
      obtain ⟨rfl, _⟩ := ha (by omega)
      exact walk_main ab off n cap d w h hs (by omega)
  · exact walk_long a n cap w hs hn
end Go.Proofs.Ymbrcz.lawS930008LRoot
