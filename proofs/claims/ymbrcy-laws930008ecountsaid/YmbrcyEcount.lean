/- zzs930008ecount (seat Ymbrcy): counting an item field by field. -/
import Derived.Test.YmbrcyEqs
namespace Go.Proofs.Ymbrcy
open Go.RowKit Go.Sort

set_option maxHeartbeats 1000000 in
theorem ecount_any (a : Option Addr) (n cap : Nat) (d : Nat → It) (x : It) (w : World) (h : Sl w a n d) (hn : n ≤ 1024) :
    Calls Ycym.prog 17 #[.slice a n cap, .agg #[.int .i64 x.1, .int .u32 x.2]] w fun e w' => e = .returned (.int .i64 (cn (eqq x) d n)) ∧ Below w.heap.size w w' := by
  have g0 : (w.alloc (.cells #[.int .i64 x.1, .int .u32 x.2] 29)).cell? ⟨w.heap.size, 0, none⟩ = some (.int .i64 x.1) := by go_simp
  have g1 : (w.alloc (.cells #[.int .i64 x.1, .int .u32 x.2] 29)).cell? ⟨w.heap.size, 1, none⟩ = some (.int .u32 x.2) := by go_simp
  go_enter Ycym.func17, Ycym.ntmps17
  go_wp2
  go_loopw [5, 6] (fun c i wr => ∃ k : Nat, k ≤ n ∧ i = .int .i64 k ∧ c = .int .i64 (cn (eqq x) d k) ∧ Below (w.heap.size + 1) (w.alloc (.cells #[.int .i64 x.1, .int .u32 x.2] 29)) wr) (fun _ i _ => n - (intOf i).toNat)
  case atStart => exact ⟨0, by omega, rfl, rfl, Below.refl _ _⟩
  case round =>
    obtain ⟨k, hk, rfl, rfl, hb⟩ := hrel
    have hb0 : Below w.heap.size w wr := ((Below.refl _ _).alloc (Nat.le_refl _) _).trans (hb.mono (by omega))
    by_cases hlt : k < n
    · obtain ⟨b, off, ha, hc⟩ := h.below hb0 (Nat.le_refl _)
      obtain ⟨rfl, hbw⟩ := ha (by omega)
      have c0 := cell_regrown (hc k hlt).1
      have c1 := cell_regrown (hc k hlt).2
      have c2 := cell_regrown ((hb.cell (p := ⟨w.heap.size, 0, none⟩) (by simp)).trans g0)
      have c3 := cell_regrown ((hb.cell (p := ⟨w.heap.size, 1, none⟩) (by simp)).trans g1)
      have hcl := cn_le (eqq x) d k
      have hcs : cn (eqq x) d (k + 1) = cn (eqq x) d k + (if eqq x (d k) then 1 else 0) := rfl
      have hex : eqq x (d k) = ((d k).1 == x.1 && (d k).2 == x.2) := rfl
      clear hc ha g0 g1
      cases e1 : ((d k).1 == x.1)
      · have HC : Hid (cn (eqq x) d (k + 1) = cn (eqq x) d k) := by show _ = _; rw [hcs, hex, e1]; rfl
        clear hcs hex
        go_wp2
        refine wp_region_below (by kernel_rfl) (by kernel_rfl) ?_
        repeat (go_big_quiet_step (fail))
        refine wpQuiet_nil ?_
        intro w1 hb1
        have hb1 := hb.trans (hb1.mono (by have := hb.size; simp at this; omega))
        clear c0 c1 c2 c3
        go_wp2
        go_roundw
        case rel => exact ⟨k + 1, by omega, by go_num, by first | (rw [HC.out]; done) | (rw [HC.out]; go_num), hb1⟩
        case measure => simp [intOf]; omega
      · cases e2 : ((d k).2 == x.2)
        · have HC : Hid (cn (eqq x) d (k + 1) = cn (eqq x) d k) := by show _ = _; rw [hcs, hex, e1, e2]; rfl
          clear hcs hex
          go_wp2
          refine wp_region_below (by kernel_rfl) (by kernel_rfl) ?_
          repeat (go_big_quiet_step (fail))
          refine wpQuiet_nil ?_
          intro w1 hb1
          have hb1 := hb.trans (hb1.mono (by have := hb.size; simp at this; omega))
          clear c0 c1 c2 c3
          go_wp2
          go_roundw
          case rel => exact ⟨k + 1, by omega, by go_num, by first | (rw [HC.out]; done) | (rw [HC.out]; go_num), hb1⟩
          case measure => simp [intOf]; omega
        · have HC : Hid (cn (eqq x) d (k + 1) = cn (eqq x) d k + 1) := by show _ = _; rw [hcs, hex, e1, e2]; rfl
          clear hcs hex
          go_wp2
          refine wp_region_below (by kernel_rfl) (by kernel_rfl) ?_
          repeat (go_big_quiet_step (fail))
          refine wpQuiet_nil ?_
          intro w1 hb1
          have hb1 := hb.trans (hb1.mono (by have := hb.size; simp at this; omega))
          clear c0 c1 c2 c3
          go_wp2
          go_roundw
          case rel => exact ⟨k + 1, by omega, by go_num, by first | (rw [HC.out]; done) | (rw [HC.out]; go_num), hb1⟩
          case measure => simp [intOf]; omega
    · have hkn : n = k := by omega
      subst hkn
      go_wp2
      go_ret
      exact ⟨rfl, hb0⟩
end Go.Proofs.Ymbrcy
