/- The walk of LawS930008JSettled (seat Ymbrcz): the Go text returns true, and writes nothing that was there. -/
import Derived.Test.YmbrczBase
import Derived.Test.YmbrczCopy
import Derived.Test.YmbrczUp
import Derived.Test.YmbrczJsame
import Derived.Test.YmbrczCount
namespace Go.Proofs.Ymbrcz.lawS930008JSettled
open Go.RowKit Go.Sort
set_option linter.unusedVariables false

theorem walk_triv (a : Option Addr) (n cap : Nat) (a1 a2 : Int) (w : World) (hn : n = 0 ∨ ¬ n ≤ 1024) (hm : n ≤ maxLen) :
    Calls Yczm.prog 8 #[.slice a n cap, .int .u16 a1, .int .u16 a2] w fun e w' => e = .returned (.bool true) ∧ Below w.heap.size w w' := by
  unfold maxLen at hm
  by_cases h0 : n = 0
  · subst h0
    go_enter Yczm.func8, Yczm.ntmps8
    go_wp2
    go_ret
    exact ⟨rfl, Below.refl _ _⟩
  · have hnz : ((n : Int) == 0) = false := by simp; omega
    have h1 : (1024 : Int) < (n : Int) := by omega
    clear hn
    go_enter Yczm.func8, Yczm.ntmps8
    go_wp2
    go_ret
    exact ⟨rfl, Below.refl _ _⟩

set_option maxHeartbeats 4000000 in
theorem walk_main (a : Option Addr) (n cap : Nat) (d : Nat → It) (a1 a2 : Int) (i p : Nat) (w : World) (h : Sl w a n d) (hn : n ≤ 1024) (hn0 : 1 ≤ n) (h0 : 0 ≤ a1) (h1 : a1 ≤ 65535) (h2 : 0 ≤ a2) (h3 : a2 ≤ 65535)
    (hs : a1 % (n : Int) = i) (hi : i < n) (hp : a2 % (n : Int) = p) (hpn : p < n) :
    Calls Yczm.prog 8 #[.slice a n cap, .int .u16 a1, .int .u16 a2] w fun e w' => e = .returned (.bool true) ∧ Below w.heap.size w w' := by
  have hnz : ((n : Int) == 0) = false := by simp; omega
  have h' := h
  obtain ⟨ab, off, ha, hc⟩ := h'
  obtain ⟨rfl, hbw⟩ := ha (by omega)
  have c0 := (hc p hpn).1
  have c1 := (hc p hpn).2
  clear hc ha
  have hpt : (a2 % (n : Int)).toNat = p := by omega
  have hpl : a2 % (n : Int) < (n : Int) := by omega
  have hp0 : 0 ≤ a2 % (n : Int) := by omega
  obtain ⟨y, hy⟩ : ∃ y, y = d p := ⟨_, rfl⟩
  rw [← hy] at c0 c1
  clear hy
  have hb0 : Below w.heap.size w (w.alloc (.cells #[.int .i64 y.1, .int .u32 y.2] 25)) := (Below.refl _ _).alloc (Nat.le_refl _) _
  go_enter Yczm.func8, Yczm.ntmps8
  go_wp2_with fail
  rw [hs]
  clear hs h0 h1 hpt hpl hp0 hp h2 h3 c0 c1
  refine (jcopy_any _ n cap d _ (h.below hb0 (Nat.le_refl _)) (by omega)).mono ?_
  rintro e w1 ⟨rfl, how1, hb1⟩
  have hb1 := hb1.mono (B' := w.heap.size + 1) (by simp)
  simp only [World.size_alloc] at how1 ⊢
  have x0 : w1.cell? ⟨w.heap.size, 0, none⟩ = some (.int .i64 y.1) := (hb1.cell (p := ⟨w.heap.size, 0, none⟩) (by simp)).trans (by go_simp)
  have x1 : w1.cell? ⟨w.heap.size, 1, none⟩ = some (.int .u32 y.2) := (hb1.cell (p := ⟨w.heap.size, 1, none⟩) (by simp)).trans (by go_simp)
  have hz1 : w.heap.size < w1.heap.size := by have := hb1.size; simp at this; omega
  have hbl1 := hb0.trans (hb1.mono (by omega))
  obtain ⟨b, hb⟩ : ∃ b, b = w.heap.size + 1 := ⟨_, rfl⟩
  rw [← hb] at how1 ⊢
  obtain ⟨bx, hbx⟩ : ∃ bx, bx = w.heap.size := ⟨_, rfl⟩
  have HB : Hid (w.heap.size ≤ b) := by show _ ≤ b; omega
  have hbb : bx < b := by omega
  rw [← hbx] at x0 x1 hz1 ⊢
  clear hb hbx hb1 hb0
  go_wp2_with fail
  refine (siftUp_any b n n n i d _ how1 (Nat.le_refl _) hi (by omega)).mono ?_
  rintro e1 w2 ⟨rfl, how2, hf2⟩
  have hbl2 := hbl1.trans (hf2.to_below hbl1.size (fun x hx => by have := HB.out; omega))
  have y0 := (hf2.cell (p := ⟨bx, 0, none⟩) hz1 (by show ¬ bx = b; omega)).trans x0
  have y1 := (hf2.cell (p := ⟨bx, 1, none⟩) hz1 (by show ¬ bx = b; omega)).trans x1
  have hz2 := Nat.lt_of_lt_of_le hz1 hf2.size
  have hRi := su_le n d i
  have HAT : Hid ((su n d i).1 (su n d i).2 = d i) := su_at n d i
  have HCN : Hid (∀ f, cn f (su n d i).1 n = cn f d n) := fun f => su_cn f n n d i hi
  have HST : Hid (su n (su n d i).1 (su n d i).2 = ((su n d i).1, (su n d i).2)) := su_stop (su_rest n d i (by omega))
  obtain ⟨R, hR⟩ : ∃ R, R = (su n d i).2 := ⟨_, rfl⟩
  obtain ⟨D, hD⟩ : ∃ D, D = (su n d i).1 := ⟨_, rfl⟩
  rw [← hD] at how2 HAT HCN HST
  rw [← hR] at hRi HAT HST ⊢
  clear hR hD how1 hf2 hbl1 x0 x1 hz1
  obtain ⟨ab', off', ha', hc'⟩ := h.below hbl2 (Nat.le_refl _)
  obtain ⟨hae, hbw'⟩ := ha' (by omega)
  obtain ⟨rfl, rfl⟩ : ab = ab' ∧ off = off' := by simpa using hae
  have c0 := cell_regrown (hc' i hi).1
  have c1 := cell_regrown (hc' i hi).2
  have c2 := cell_regrown (how2.c0 (k := R) (by omega))
  have c3 := cell_regrown (how2.c1 (k := R) (by omega))
  rw [HAT.out] at c2 c3
  clear hc' ha' hae
  have g1 : decide (i < R) = false := decide_eq_false (by omega)
  have g2 : decide ((R : Int) < 0) = false := decide_eq_false (by omega)
  go_wp2
  refine wp_region_below (by kernel_rfl) (by kernel_rfl) ?_
  repeat (go_big_quiet_step (fail))
  refine wpQuiet_nil ?_
  intro w3 hb3
  have how3 := how2.below hb3 how2.lt
  have hbl3 := hbl2.trans (hb3.mono hbl2.size)
  have z0 := (hb3.cell (p := ⟨bx, 0, none⟩) hz2).trans y0
  have z1 := (hb3.cell (p := ⟨bx, 1, none⟩) hz2).trans y1
  have hz3 := Nat.lt_of_lt_of_le hz2 hb3.size
  clear c0 c1 c2 c3 g1 g2 how2 hbl2 hb3 y0 y1 hz2 HAT
  have HC9 := HCN.out (eqq y)
  have HK1 : Hid (∀ dd os, Calls Yczm.prog 19 #[.slice (some ⟨b, 0, none⟩) n n, .agg #[.int .i64 y.1, .int .u32 y.2]] (grow (redrawn w3 dd) os) fun e w'' => e = .returned (.int .i64 (cn (eqq y) d n)) ∧ ∃ p : Regrown, w'' = grow (redrawn w3 p.d) p.os) := fun dd os => by
    rw [← HC9]
    exact Calls.regrown_of (jcount_any _ n n D y _ ((how3.sl (Nat.le_refl _)).below (below_regrown w3 dd os) (Nat.le_refl _)) (by unfold maxLen; omega))
  have HK2 : Hid (∀ dd os, Calls Yczm.prog 19 #[.slice (some ⟨ab, off, none⟩) n cap, .agg #[.int .i64 y.1, .int .u32 y.2]] (grow (redrawn w3 dd) os) fun e w'' => e = .returned (.int .i64 (cn (eqq y) d n)) ∧ ∃ p : Regrown, w'' = grow (redrawn w3 p.d) p.os) := fun dd os =>
    Calls.regrown_of (jcount_any _ n cap d y _ ((h.below hbl3 (Nat.le_refl _)).below (below_regrown w3 dd os) (Nat.le_refl _)) (by unfold maxLen; omega))
  have c0 := cell_regrown z0
  have c1 := cell_regrown z1
  clear HC9 HCN
  go_wp2
  refine wp_region_below (by kernel_rfl) (by kernel_rfl) ?_
  repeat (go_big_quiet_step (first | (go_at_call_of 19 b; exact HK1.out _ _) | (go_at_call_of 19 ab; exact HK2.out _ _)))
  refine wpQuiet_nil ?_
  intro w4 hb4
  have how4 := how3.below hb4 how3.lt
  have hbl4 := hbl3.trans (hb4.mono hbl3.size)
  clear c0 c1 HK1 HK2 how3 hbl3 hb4 z0 z1 hz3
  go_wp2_with fail
  refine (jcopy_any _ n n D _ (how4.sl (Nat.le_refl _)) (by omega)).mono ?_
  rintro e w5 ⟨rfl, how5, hb5⟩
  obtain ⟨b2, hb2⟩ : ∃ b2, b2 = w4.heap.size := ⟨_, rfl⟩
  have hbb2 : b < b2 := by rw [hb2]; exact how4.lt
  have HB2 : Hid (w.heap.size ≤ b2) := by rw [hb2]; exact hbl4.size
  rw [← hb2] at how5 ⊢
  have how6 := how4.below hb5 how4.lt
  have hbl5 := hbl4.trans (hb5.mono hbl4.size)
  clear hb2 hb5 how4 hbl4
  go_wp2_with fail
  refine (siftUp_any b2 n n n R D _ how5 (Nat.le_refl _) (by omega) (by omega)).mono ?_
  rintro e1 w6 ⟨rfl, how7, hf7⟩
  rw [HST.out] at how7 ⊢
  have how8 := hf7.own how6 (by show ¬ b = b2; omega)
  have hbl6 := hbl5.trans (hf7.to_below hbl5.size (fun x hx => by have := HB2.out; omega))
  clear hf7 how5 how6 hbl5
  go_wp2_with fail
  refine (jsame_same _ _ n n n D _ (how7.sl (Nat.le_refl _)) (how8.sl (Nat.le_refl _)) hn).mono ?_
  rintro e w9 ⟨rfl, hb9⟩
  have hbl9 := hbl6.trans (hb9.mono hbl6.size)
  go_wp2
  go_ret
  exact ⟨rfl, hbl9⟩

theorem walk (a : Option Addr) (n cap : Nat) (d : Nat → It) (a1 a2 : Int) (w : World) (h : Sl w a n d) (hn : n ≤ maxLen) (w1 : (Lit.int .u16 a1).wf = true) (w2 : (Lit.int .u16 a2).wf = true) :
    Calls Yczm.prog 8 #[.slice a n cap, .int .u16 a1, .int .u16 a2] w fun e w' => e = .returned (.bool true) ∧ Below w.heap.size w w' := by
  have hb := bd_u16 w1
  have hb2 := bd_u16 w2
  by_cases hs : n = 0 ∨ ¬ n ≤ 1024
  · exact walk_triv a n cap a1 a2 w hs hn
  · have h2 : 0 ≤ a1 % (n : Int) := Int.emod_nonneg _ (by omega)
    have h3 : a1 % (n : Int) < (n : Int) := Int.emod_lt_of_pos _ (by omega)
    have h4 : 0 ≤ a2 % (n : Int) := Int.emod_nonneg _ (by omega)
    have h5 : a2 % (n : Int) < (n : Int) := Int.emod_lt_of_pos _ (by omega)
    exact walk_main a n cap d a1 a2 (a1 % (n : Int)).toNat (a2 % (n : Int)).toNat w h (by omega) (by omega) hb.1 hb.2 hb2.1 hb2.2 (by omega) (by omega) (by omega) (by omega)
end Go.Proofs.Ymbrcz.lawS930008JSettled
