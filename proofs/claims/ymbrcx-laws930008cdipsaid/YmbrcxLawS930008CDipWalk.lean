/- The walk of LawS930008CDip (seat Ymbrcx): the Go text returns true, and writes nothing that was there. -/
import Derived.Test.YmbrcxBase
import Derived.Test.YmbrcxSrt
import Derived.Test.YmbrcxBytes
namespace Go.Proofs.Ymbrcx.lawS930008CDip
open Go.RowKit Go.Sort
set_option linter.unusedVariables false

/-- what the builder has laid so far: the first k items, ascending, the last of them (P, I) -/
def Bl (s0 : Int) (k : Nat) (D : Nat → It) (P I : Int) : Prop :=
  Srt k D ∧ (1 ≤ k → D (k - 1) = (P, I)) ∧ ∀ j, j < k → s0 ≤ (D j).1 ∧ (D j).1 ≤ s0 + 1024 ∧ 0 ≤ (D j).2 ∧ (D j).2 ≤ 2000
theorem bl_step {s0 : Int} {k : Nat} {D : Nat → It} {P I P' I' : Int} (h : Bl s0 k D P I) (hx : lt (P', I') (P, I) = false) (h1 : s0 ≤ P') (h2 : P' ≤ s0 + 1024) (h3 : 0 ≤ I') (h4 : I' ≤ 2000) : Bl s0 (k + 1) (upd D k (P', I')) P' I' := by
  obtain ⟨hS, hL, hB⟩ := h
  refine ⟨fun j a b => ?_, fun _ => by rw [Nat.add_sub_cancel, upd_same], fun j hj => ?_⟩
  · by_cases e : j = k
    · subst e
      rw [upd_same, upd_other D _ (by omega), hL a]
      exact hx
    · rw [upd_other D _ e, upd_other D _ (by omega)]
      exact hS j a (by omega)
  · by_cases e : j = k
    · subst e; rw [upd_same]; exact ⟨h1, h2, h3, h4⟩
    · rw [upd_other D _ e]; exact hB j (by omega)

set_option maxHeartbeats 1000000 in
theorem cbuild_any (s0 : Int) (a : Option Addr) (n cap : Nat) (z : Nat → Int) (w : World) (hs0 : -2147483648 ≤ s0) (hs1 : s0 ≤ 2147483647) (h : SlB w a n z) (hn : n ≤ 1024) :
    Calls Ycxm.prog 22 #[.int .i32 s0, .slice a n cap] w fun e w' => ∃ D, e = .returned (.slice (some ⟨w.heap.size, 0, none⟩) n n) ∧ Own w' w.heap.size n D ∧ Below w.heap.size w w' ∧ Srt n D ∧ ∀ j, j < n → s0 ≤ (D j).1 ∧ (D j).1 ≤ s0 + 1024 ∧ 0 ≤ (D j).2 ∧ (D j).2 ≤ 2000 := by
  have hmk := run_mk n (by omega)
  have how := own_made w n
  have hb0 : Below w.heap.size w (w.alloc (.cells (madeCells #[.int .i64 0, .int .u32 0] (n * 2)) 25)) := (Below.refl _ _).alloc (Nat.le_refl _) _
  obtain ⟨b, hb⟩ : ∃ b, b = w.heap.size := ⟨_, rfl⟩
  go_enter Ycxm.func22, Ycxm.ntmps22
  go_wp2
  rw [← hb] at how ⊢
  have HB : Hid (b = w.heap.size) := hb
  clear hb hmk
  go_loopw [6, 7, 8] (fun p q u wr => ∃ (k : Nat) (D : Nat → It) (P I : Int), k ≤ n ∧ p = .int .i64 P ∧ q = .int .u32 I ∧ u = .int .i64 k ∧ Own wr b n D ∧ Below w.heap.size w wr ∧ s0 ≤ P ∧ P ≤ s0 + k ∧ 0 ≤ I ∧ I ≤ 85 + k ∧ Hid (Bl s0 k D P I)) (fun _ _ u _ => n - (intOf u).toNat)
  case atStart => exact ⟨0, _, s0, 0, Nat.zero_le _, rfl, rfl, rfl, how, hb0, by omega, by omega, by omega, by omega, ⟨fun j h1 h2 => by omega, fun h => by omega, fun j h => by omega⟩⟩
  case round =>
    clear how hb0
    obtain ⟨k, D, P, I, hk, rfl, rfl, rfl, how, hbl, hP1, hP2, hI1, hI2, HBl⟩ := hrel
    by_cases hlt : k < n
    · obtain ⟨_, ab, off, ha, hc⟩ := h.below hbl (Nat.le_refl _)
      obtain ⟨rfl, hbw⟩ := ha (by omega)
      obtain ⟨c0, hz0, hz1⟩ := hc k hlt
      obtain ⟨s, hs⟩ : ∃ s, s = z k := ⟨_, rfl⟩
      rw [← hs] at c0 hz0 hz1
      clear hc ha hs
      have k0 := how.c0 hlt
      have k1 := how.c1 hlt
      have kf := how.fz
      have hcs : s % 3 = 0 ∨ s % 3 = 1 ∨ s % 3 = 2 := by omega
      rcases hcs with hm | hm | hm
      · have t1 : (s % 3 == 1) = false := by rw [hm]; rfl
        have t2 : (s % 3 == 2) = false := by rw [hm]; rfl
        have how2 := how.set k (P, I)
        have hbl2 := (hbl.setCell (p := ⟨b, k * 2, none⟩) (by rw [← HB.out]; exact Nat.le_refl _) (.int .i64 P)).setCell (p := ⟨b, k * 2 + 1, none⟩) (by rw [← HB.out]; exact Nat.le_refl _) (.int .u32 I)
        have HN : Hid (Bl s0 (k + 1) (upd D k (P, I)) P I) := bl_step HBl.out (lt_self _) (by omega) (by omega) (by omega) (by omega)
        clear hm how hbl HBl
        go_wp2
        go_roundw
        case rel => exact ⟨k + 1, _, P, I, by omega, rfl, rfl, by go_num, how2, hbl2, by omega, by omega, by omega, by omega, HN⟩
        case measure => simp [intOf]; omega
      · have t1 : (s % 3 == 1) = true := by rw [hm]; rfl
        have how2 := how.set k (P, I + 1)
        have hbl2 := (hbl.setCell (p := ⟨b, k * 2, none⟩) (by rw [← HB.out]; exact Nat.le_refl _) (.int .i64 P)).setCell (p := ⟨b, k * 2 + 1, none⟩) (by rw [← HB.out]; exact Nat.le_refl _) (.int .u32 (I + 1))
        have HN : Hid (Bl s0 (k + 1) (upd D k (P, I + 1)) P (I + 1)) := bl_step HBl.out (by rw [lt_false]; right; exact ⟨rfl, by show I ≤ I + 1; omega⟩) (by omega) (by omega) (by omega) (by omega)
        clear hm how hbl HBl
        go_wp2
        go_roundw
        case rel => exact ⟨k + 1, _, P, I + 1, by omega, rfl, rfl, by go_num, how2, hbl2, by omega, by omega, by omega, by omega, HN⟩
        case measure => simp [intOf]; omega
      · have t1 : (s % 3 == 1) = false := by rw [hm]; rfl
        have t2 : (s % 3 == 2) = true := by rw [hm]; rfl
        have how2 := how.set k (P + 1, s / 3)
        have hbl2 := (hbl.setCell (p := ⟨b, k * 2, none⟩) (by rw [← HB.out]; exact Nat.le_refl _) (.int .i64 (P + 1))).setCell (p := ⟨b, k * 2 + 1, none⟩) (by rw [← HB.out]; exact Nat.le_refl _) (.int .u32 (s / 3))
        have HN : Hid (Bl s0 (k + 1) (upd D k (P + 1, s / 3)) (P + 1) (s / 3)) := bl_step HBl.out (by rw [lt_false]; left; show P < P + 1; omega) (by omega) (by omega) (by omega) (by omega)
        clear hm how hbl HBl
        go_wp2
        go_roundw
        case rel => exact ⟨k + 1, _, P + 1, s / 3, by omega, rfl, rfl, by go_num, how2, hbl2, by omega, by omega, by omega, by omega, HN⟩
        case measure => simp [intOf]; omega
    · have hkn : n = k := by omega
      subst hkn
      go_wp2
      go_ret
      exact ⟨D, by rw [← HB.out]; rfl, by rw [← HB.out]; exact how, hbl, HBl.out.1, HBl.out.2.2⟩

theorem walk_long (s0 : Int) (a : Option Addr) (n cap : Nat) (a2 : Int) (w : World) (hn : ¬ n ≤ 1024) (hm : n ≤ maxLen) :
    Calls Ycxm.prog 10 #[.int .i32 s0, .slice a n cap, .int .u16 a2] w fun e w' => e = .returned (.bool true) ∧ Below w.heap.size w w' := by
  unfold maxLen at hm
  go_enter Ycxm.func10, Ycxm.ntmps10
  go_wp2
  go_ret
  exact ⟨rfl, Below.refl _ _⟩
set_option maxHeartbeats 1000000 in
theorem walk_few (s0 : Int) (a : Option Addr) (n cap : Nat) (z : Nat → Int) (a2 : Int) (w : World) (hs0 : -2147483648 ≤ s0) (hs1 : s0 ≤ 2147483647) (h : SlB w a n z) (hn : n < 2) :
    Calls Ycxm.prog 10 #[.int .i32 s0, .slice a n cap, .int .u16 a2] w fun e w' => e = .returned (.bool true) ∧ Below w.heap.size w w' := by
  go_enter Ycxm.func10, Ycxm.ntmps10
  go_wp2_with fail
  refine (cbuild_any s0 a n cap z _ hs0 hs1 h (by omega)).mono ?_
  rintro e w1 ⟨D, rfl, how1, hb1, hS, hB⟩
  have HS : Hid (Srt n D) := hS
  clear hS hB
  go_wp2_with fail
  refine (isSorted_any _ n n D _ (how1.sl (Nat.le_refl _)) (by unfold maxLen; omega)).mono ?_
  rintro e w2 ⟨r, rfl, hr, hb2⟩
  obtain rfl : r = true := hr.2 HS.out
  clear hr
  go_wp2
  go_ret
  exact ⟨rfl, hb1.trans (hb2.mono hb1.size)⟩
/-- the item just below -/
def dip (x : It) : It := if 0 < x.2 then (x.1, x.2 - 1) else (x.1 - 1, 4294967295)
theorem dip_lt (x : It) : lt (dip x) x = true := by
  unfold dip
  split
  · rw [lt_true]; right; exact ⟨rfl, by show x.2 - 1 < x.2; omega⟩
  · rw [lt_true]; left; show x.1 - 1 < x.1; omega
theorem dip_not {n k : Nat} {D : Nat → It} (h1 : 1 ≤ k) (h2 : k < n) : ¬ Srt n (upd D k (dip (D (k - 1)))) := fun h => by
  have := h k h1 h2
  rw [upd_same, upd_other D _ (by omega), dip_lt] at this
  cases this

set_option maxHeartbeats 2000000 in
theorem walk_main (s0 : Int) (a : Option Addr) (n cap : Nat) (z : Nat → Int) (a2 : Int) (q : Nat) (w : World) (hs0 : -2147483648 ≤ s0) (hs1 : s0 ≤ 2147483647) (h : SlB w a n z) (hn : n ≤ 1024) (hn2 : 2 ≤ n)
    (h0 : 0 ≤ a2) (h1 : a2 ≤ 65535) (hq : a2 % ((n : Int) - 1) = q) (hqn : q + 1 < n) :
    Calls Ycxm.prog 10 #[.int .i32 s0, .slice a n cap, .int .u16 a2] w fun e w' => e = .returned (.bool true) ∧ Below w.heap.size w w' := by
  go_enter Ycxm.func10, Ycxm.ntmps10
  go_wp2_with fail
  refine (cbuild_any s0 a n cap z _ hs0 hs1 h hn).mono ?_
  rintro e w1 ⟨D, rfl, how1, hb1, hS, hB⟩
  obtain ⟨hp1, hp2, hi1, hi2⟩ := hB q (by omega)
  have HS : Hid (Srt n D) := hS
  clear hS hB
  obtain ⟨b, hb⟩ : ∃ b, b = w.heap.size := ⟨_, rfl⟩
  rw [← hb] at how1 ⊢
  have HB : Hid (b = w.heap.size) := hb
  clear hb
  go_wp2_with fail
  refine (isSorted_any _ n n D _ (how1.sl (Nat.le_refl _)) (by unfold maxLen; omega)).mono ?_
  rintro e w2 ⟨r, rfl, hr, hb2⟩
  obtain rfl : r = true := hr.2 HS.out
  clear hr HS
  have how := how1.below hb2 how1.lt
  have hbl := hb1.trans (hb2.mono hb1.size)
  clear how1 hb1 hb2
  obtain ⟨x, hx⟩ : ∃ x, x = D q := ⟨_, rfl⟩
  have HX : Hid (x = D q) := hx
  have c0 := how.c0 (k := q) (by omega)
  have c1 := how.c1 (k := q) (by omega)
  have k0 := how.c0 (k := 1 + q) (by omega)
  have k1 := how.c1 (k := 1 + q) (by omega)
  have kf := how.fz
  rw [← hx] at c0 c1 hp1 hp2 hi1 hi2
  clear hx
  have hbz : b < w2.heap.size := how.lt
  by_cases hid : 0 < x.2
  · have e1 : dip x = (x.1, x.2 - 1) := by unfold dip; rw [if_pos hid]
    have how2 := (how.set (1 + q) (x.1, x.2 - 1)).alloc (.cells #[.int .i64 (x.1), .int .u32 (x.2 - 1)] 25)
    have hbl2 := ((hbl.setCell (p := ⟨b, (1 + q) * 2, none⟩) (by rw [← HB.out]; exact Nat.le_refl _) (.int .i64 (x.1))).setCell (p := ⟨b, (1 + q) * 2 + 1, none⟩) (by rw [← HB.out]; exact Nat.le_refl _) (.int .u32 (x.2 - 1))).alloc (by have := hbl.size; simp [World.setCell]; omega) (.cells #[.int .i64 (x.1), .int .u32 (x.2 - 1)] 25)
    have HN : Hid (¬ Srt n (upd D (1 + q) (x.1, x.2 - 1))) := by
      have := dip_not (n := n) (k := 1 + q) (D := D) (by omega) (by omega)
      rw [(by omega : 1 + q - 1 = q), ← HX.out, e1] at this
      exact this
    clear e1
    go_wp2_with fail
    refine (isSorted_any _ n n (upd D (1 + q) (x.1, x.2 - 1)) _ (how2.sl (Nat.le_refl _)) (by unfold maxLen; omega)).mono ?_
    rintro e w3 ⟨r, rfl, hr, hb3⟩
    obtain rfl : r = false := by
      cases r
      · rfl
      · exact absurd (hr.1 rfl) HN.out
    clear hr
    have hbl3 := hbl2.trans (hb3.mono hbl2.size)
    go_wp2
    go_ret
    exact ⟨rfl, hbl3⟩
  · have hid2 : x.2 = 0 := by omega
    have e1 : dip x = (x.1 - 1, 4294967295) := by unfold dip; rw [if_neg hid]
    have how2 := (how.set (1 + q) (x.1 - 1, 4294967295)).alloc (.cells #[.int .i64 (x.1 - 1), .int .u32 (4294967295)] 25)
    have hbl2 := ((hbl.setCell (p := ⟨b, (1 + q) * 2, none⟩) (by rw [← HB.out]; exact Nat.le_refl _) (.int .i64 (x.1 - 1))).setCell (p := ⟨b, (1 + q) * 2 + 1, none⟩) (by rw [← HB.out]; exact Nat.le_refl _) (.int .u32 (4294967295))).alloc (by have := hbl.size; simp [World.setCell]; omega) (.cells #[.int .i64 (x.1 - 1), .int .u32 (4294967295)] 25)
    have HN : Hid (¬ Srt n (upd D (1 + q) (x.1 - 1, 4294967295))) := by
      have := dip_not (n := n) (k := 1 + q) (D := D) (by omega) (by omega)
      rw [(by omega : 1 + q - 1 = q), ← HX.out, e1] at this
      exact this
    clear e1
    go_wp2_with fail
    refine (isSorted_any _ n n (upd D (1 + q) (x.1 - 1, 4294967295)) _ (how2.sl (Nat.le_refl _)) (by unfold maxLen; omega)).mono ?_
    rintro e w3 ⟨r, rfl, hr, hb3⟩
    obtain rfl : r = false := by
      cases r
      · rfl
      · exact absurd (hr.1 rfl) HN.out
    clear hr
    have hbl3 := hbl2.trans (hb3.mono hbl2.size)
    go_wp2
    go_ret
    exact ⟨rfl, hbl3⟩

theorem walk (s0 : Int) (a : Option Addr) (n cap : Nat) (z : Nat → Int) (a2 : Int) (w : World) (w0 : (Lit.int .i32 s0).wf = true) (h : SlB w a n z) (w2 : (Lit.int .u16 a2).wf = true) :
    Calls Ycxm.prog 10 #[.int .i32 s0, .slice a n cap, .int .u16 a2] w fun e w' => e = .returned (.bool true) ∧ Below w.heap.size w w' := by
  have hb0 := bd_i32 w0
  have hb := bd_u16 w2
  by_cases hs : n ≤ 1024
  · by_cases h0 : n < 2
    · exact walk_few s0 a n cap z a2 w hb0.1 hb0.2 h h0
    · have h2 : 0 ≤ a2 % ((n : Int) - 1) := Int.emod_nonneg _ (by omega)
      have h3 : a2 % ((n : Int) - 1) < (n : Int) - 1 := Int.emod_lt_of_pos _ (by omega)
      exact walk_main s0 a n cap z a2 (a2 % ((n : Int) - 1)).toNat w hb0.1 hb0.2 h hs (by omega) hb.1 hb.2 (by omega) (by omega)
  · exact walk_long s0 a n cap a2 w hs h.1
end Go.Proofs.Ymbrcx.lawS930008CDip
