/- zzs930008kheap on a heap (seat Ymbrcz): the walk. -/
import Derived.Test.YmbrczBase
namespace Go.Proofs.Ymbrcz
open Go.RowKit Go.Sort

set_option maxHeartbeats 2000000 in
theorem kheap_ok (a : Option Addr) (n cap : Nat) (d : Nat → It) (w : World) (h : Sl w a n d) (hn : n ≤ 1024) (hH : HeapFrom n 0 d) :
    Calls Yczm.prog 26 #[.slice a n cap] w fun e w' => e = .returned (.bool true) ∧ Below w.heap.size w w' := by
  have HH : Hid (HeapFrom n 0 d) := hH
  clear hH
  go_enter Yczm.func26, Yczm.ntmps26
  go_wp2
  go_loopw [3] (fun u wr => ∃ k : Nat, 1 ≤ k ∧ (k ≤ n ∨ k = 1) ∧ u = .int .i64 k ∧ Below w.heap.size w wr) (fun u _ => n - (intOf u).toNat)
  case atStart => exact ⟨1, Nat.le_refl _, .inr rfl, rfl, Below.refl _ _⟩
  case round =>
    obtain ⟨k, hk1, hk2, rfl, hbl⟩ := hrel
    by_cases hlt : k < n
    · obtain ⟨p, hp⟩ : ∃ p, p = (k - 1) / 2 := ⟨_, rfl⟩
      have hpi : ((k : Int) - 1) / 2 = (p : Int) := by omega
      have hpk : p < k := by omega
      have hl : lt (d k) (d p) = false := by rw [hp]; exact HH.out k hk1 hlt (Nat.zero_le _)
      clear hp
      obtain ⟨b, off, ha, hc⟩ := h.below hbl (Nat.le_refl _)
      obtain ⟨rfl, hbw⟩ := ha (by omega)
      have c0 := (hc k hlt).1
      have c1 := (hc k hlt).2
      have c2 := (hc p (by omega)).1
      have c3 := (hc p (by omega)).2
      clear hc ha
      obtain ⟨x, hx⟩ : ∃ x, x = d k := ⟨_, rfl⟩
      obtain ⟨y, hy⟩ : ∃ y, y = d p := ⟨_, rfl⟩
      rw [← hx] at c0 c1 hl
      rw [← hy] at c2 c3 hl
      clear hx hy
      rw [lt_false] at hl
      go_wp2
      go_region
      all_goals
        rcases hl with hl | ⟨hl1, hl2⟩
        · have n1 : ¬ x.1 < y.1 := by omega
          have n2 : (x.1 == y.1) = false := by simp; omega
          go_wp2
          go_roundw
          case rel => exact ⟨k + 1, by omega, by omega, by go_num, by repeat (first | exact hbl | apply Below.drew | (refine Below.alloc ?_ (by have := hbl.size; simp; omega) _))⟩
          case measure => simp [intOf]; omega
        · have n1 : ¬ x.1 < y.1 := by omega
          have n2 : (x.1 == y.1) = true := by simp [hl1]
          have n3 : ¬ x.2 < y.2 := by omega
          clear hl1
          go_wp2
          go_roundw
          case rel => exact ⟨k + 1, by omega, by omega, by go_num, by repeat (first | exact hbl | apply Below.drew | (refine Below.alloc ?_ (by have := hbl.size; simp; omega) _))⟩
          case measure => simp [intOf]; omega
    · go_wp2
      go_ret
      exact ⟨rfl, hbl⟩
end Go.Proofs.Ymbrcz
