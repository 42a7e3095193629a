/- zzs930008gsame, gcount and gvalid (seat Ymbrcy). -/
import Derived.Test.YmbrcyEqs
namespace Go.Proofs.Ymbrcy
open Go.RowKit Go.Sort

set_option maxHeartbeats 400000 in
theorem gsame_any (x y : It) (w : World) :
    Calls Ycym.prog 24 #[.agg #[.int .i64 x.1, .int .u32 x.2], .agg #[.int .i64 y.1, .int .u32 y.2]] w fun e w' => e = .returned (.bool (eqq y x)) ∧ Below w.heap.size w w' := by
  have HE : Hid (eqq y x = (x.1 == y.1 && x.2 == y.2)) := rfl
  rw [HE.out]
  clear HE
  cases e1 : (x.1 == y.1)
  · go_enter Ycym.func24, Ycym.ntmps24
    go_wp2
    go_ret
    exact ⟨rfl, ((Below.refl _ _).alloc (Nat.le_refl _) _).alloc (by simp) _⟩
  · go_enter Ycym.func24, Ycym.ntmps24
    go_wp2
    go_ret
    exact ⟨rfl, ((Below.refl _ _).alloc (Nat.le_refl _) _).alloc (by simp) _⟩

set_option maxHeartbeats 1000000 in
theorem gcount_any (a : Option Addr) (n cap : Nat) (d : Nat → It) (x : It) (w : World) (h : Sl w a n d) (hn : n ≤ 1024) :
    Calls Ycym.prog 25 #[.slice a n cap, .agg #[.int .i64 x.1, .int .u32 x.2]] w fun e w' => e = .returned (.int .i64 (cn (eqq x) d n)) ∧ Below w.heap.size w w' := by
  have g0 : (w.alloc (.cells #[.int .i64 x.1, .int .u32 x.2] 29)).cell? ⟨w.heap.size, 0, none⟩ = some (.int .i64 x.1) := by go_simp
  have g1 : (w.alloc (.cells #[.int .i64 x.1, .int .u32 x.2] 29)).cell? ⟨w.heap.size, 1, none⟩ = some (.int .u32 x.2) := by go_simp
  go_enter Ycym.func25, Ycym.ntmps25
  go_wp2
  go_loopw [5, 6] (fun c i wr => ∃ k : Nat, k ≤ n ∧ i = .int .i64 k ∧ c = .int .i64 (cn (eqq x) d k) ∧ Below (w.heap.size + 1) (w.alloc (.cells #[.int .i64 x.1, .int .u32 x.2] 29)) wr) (fun _ i _ => n - (intOf i).toNat)
  case atStart => exact ⟨0, by omega, rfl, rfl, Below.refl _ _⟩
  case round =>
    obtain ⟨k, hk, rfl, rfl, hb⟩ := hrel
    have hb0 : Below w.heap.size w wr := ((Below.refl _ _).alloc (Nat.le_refl _) _).trans (hb.mono (by omega))
    by_cases hlt : k < n
    · obtain ⟨b, off, ha, hc⟩ := h.below hb0 (Nat.le_refl _)
      obtain ⟨rfl, hbw⟩ := ha (by omega)
      have c0 := cell_regrown (hc k hlt).1
      have c1 := cell_regrown (hc k hlt).2
      have c2 := cell_regrown ((hb.cell (p := ⟨w.heap.size, 0, none⟩) (by simp)).trans g0)
      have c3 := cell_regrown ((hb.cell (p := ⟨w.heap.size, 1, none⟩) (by simp)).trans g1)
      have hcl := cn_le (eqq x) d k
      have HL : Hid (∀ w, Calls Ycym.prog 24 #[.agg #[.int .i64 (d k).1, .int .u32 (d k).2], .agg #[.int .i64 x.1, .int .u32 x.2]] w fun r w' => r = .returned (.bool (eqq x (d k))) ∧ Below w.heap.size w w') := fun w => gsame_any (d k) x w
      clear hc ha g0 g1
      go_wp2
      refine wp_region_below (by kernel_rfl) (by kernel_rfl) ?_
      repeat (go_big_quiet_step (exact Calls.regrown_of (HL.out _)))
      refine wpQuiet_nil ?_
      intro w1 hb1
      have hb1 := hb.trans (hb1.mono (by have := hb.size; simp at this; omega))
      clear c0 c1 c2 c3
      have hcs : cn (eqq x) d (k + 1) = cn (eqq x) d k + (if eqq x (d k) then 1 else 0) := rfl
      have HC : Hid (cn (eqq x) d (k + 1) = cn (eqq x) d k + (if eqq x (d k) then 1 else 0)) := hcs
      clear hcs HL
      cases hl : eqq x (d k)
      · go_wp2
        go_roundw
        case rel => exact ⟨k + 1, by omega, by go_num, by rw [HC.out, hl]; rfl, hb1⟩
        case measure => simp [intOf]; omega
      · go_wp2
        go_roundw
        case rel => exact ⟨k + 1, by omega, by go_num, by rw [HC.out, hl]; rfl, hb1⟩
        case measure => simp [intOf]; omega
    · have hkn : n = k := by omega
      subst hkn
      go_wp2
      go_ret
      exact ⟨rfl, hb0⟩

set_option maxHeartbeats 2000000 in
theorem gvalid_ok (a : Option Addr) (n cap : Nat) (d : Nat → It) (w : World) (h : Sl w a n d) (hn : n ≤ 1024) (hH : HeapFrom n 0 d) :
    Calls Ycym.prog 26 #[.slice a n cap] w fun e w' => e = .returned (.bool true) ∧ Below w.heap.size w w' := by
  have HH : Hid (HeapFrom n 0 d) := hH
  clear hH
  go_enter Ycym.func26, Ycym.ntmps26
  go_wp2
  go_loopw [3] (fun u wr => ∃ k : Nat, 1 ≤ k ∧ (k ≤ n ∨ k = 1) ∧ u = .int .i64 k ∧ Below w.heap.size w wr) (fun u _ => n - (intOf u).toNat)
  case atStart => exact ⟨1, Nat.le_refl _, .inr rfl, rfl, Below.refl _ _⟩
  case round =>
    obtain ⟨k, hk1, hk2, rfl, hbl⟩ := hrel
    by_cases hlt : k < n
    · obtain ⟨p, hp⟩ : ∃ p, p = (k - 1) / 2 := ⟨_, rfl⟩
      have hpi : ((k : Int) - 1) / 2 = (p : Int) := by omega
      have hpk : p < k := by omega
      have hl : lt (d k) (d p) = false := by rw [hp]; exact HH.out k hk1 hlt (Nat.zero_le _)
      clear hp
      obtain ⟨b, off, ha, hc⟩ := h.below hbl (Nat.le_refl _)
      obtain ⟨rfl, hbw⟩ := ha (by omega)
      have c0 := (hc k hlt).1
      have c1 := (hc k hlt).2
      have c2 := (hc p (by omega)).1
      have c3 := (hc p (by omega)).2
      clear hc ha
      obtain ⟨x, hx⟩ : ∃ x, x = d k := ⟨_, rfl⟩
      obtain ⟨y, hy⟩ : ∃ y, y = d p := ⟨_, rfl⟩
      rw [← hx] at c0 c1 hl
      rw [← hy] at c2 c3 hl
      clear hx hy
      rw [lt_false] at hl
      rcases hl with hl | ⟨hl1, hl2⟩
      · have n1 : ¬ x.1 < y.1 := by omega
        have n2 : (x.1 == y.1) = false := by simp; omega
        go_wp2
        go_roundw
        case rel => exact ⟨k + 1, by omega, by omega, by go_num, by repeat (first | exact hbl | apply Below.drew | (refine Below.alloc ?_ (by have := hbl.size; simp; omega) _))⟩
        case measure => simp [intOf]; omega
      · have n1 : ¬ x.1 < y.1 := by omega
        have n2 : (x.1 == y.1) = true := by simp [hl1]
        have n3 : ¬ x.2 < y.2 := by omega
        clear hl1
        go_wp2
        go_roundw
        case rel => exact ⟨k + 1, by omega, by omega, by go_num, by repeat (first | exact hbl | apply Below.drew | (refine Below.alloc ?_ (by have := hbl.size; simp; omega) _))⟩
        case measure => simp [intOf]; omega
    · go_wp2
      go_ret
      exact ⟨rfl, hbl⟩
end Go.Proofs.Ymbrcy
