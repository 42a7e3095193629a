/- Copies made item by item (seat Ymbrcy). -/
import Derived.Test.YmbrcyBase
namespace Go.Proofs.Ymbrcy
open Go.RowKit Go.Sort

set_option maxHeartbeats 400000 in
theorem gcopy_any (a : Option Addr) (n cap : Nat) (d : Nat → It) (w : World) (h : Sl w a n d) (hn : n ≤ 1024) :
    Calls Ycym.prog 22 #[.slice a n cap] w fun e w' => e = .returned (.slice (some ⟨w.heap.size, 0, none⟩) n n) ∧ Own w' w.heap.size n d ∧ Below w.heap.size w w' := by
  have hmk := run_mk n (by omega)
  have how := own_made w n
  have hb0 : Below w.heap.size w (w.alloc (.cells (madeCells #[.int .i64 0, .int .u32 0] (n * 2)) 29)) := (Below.refl _ _).alloc (Nat.le_refl _) _
  obtain ⟨b, hb⟩ : ∃ b, b = w.heap.size := ⟨_, rfl⟩
  go_enter Ycym.func22, Ycym.ntmps22
  go_wp2
  rw [← hb] at how ⊢
  have HB : Hid (b = w.heap.size) := hb
  clear hb hmk
  go_loopw [4] (fun u wr => ∃ (i : Nat) (r : Nat → It), i ≤ n ∧ u = .int .i64 i ∧ Own wr b n r ∧ Below w.heap.size w wr ∧ Hid (∀ j, j < i → r j = d j)) (fun u _ => n - (intOf u).toNat)
  case atStart => exact ⟨0, _, Nat.zero_le _, rfl, how, hb0, fun j hj => by omega⟩
  case round =>
    clear how hb0
    obtain ⟨i, r, hi, rfl, how, hbl, HR⟩ := hrel
    by_cases hlt : i < n
    · obtain ⟨ab, off, ha, hc⟩ := h.below hbl (Nat.le_refl _)
      obtain ⟨rfl, hbw⟩ := ha (by omega)
      have c0 := (hc i hlt).1
      have c1 := (hc i hlt).2
      have k0 := how.c0 hlt
      have k1 := how.c1 hlt
      have kf := how.fz
      have how2 := how.set i (d i)
      have hbl2 := (hbl.setCell (p := ⟨b, i * 2, none⟩) (by rw [← HB.out]; exact Nat.le_refl _) (.int .i64 (d i).1)).setCell (p := ⟨b, i * 2 + 1, none⟩) (by rw [← HB.out]; exact Nat.le_refl _) (.int .u32 (d i).2)
      clear hc ha how hbl
      go_wp2
      go_roundw
      case rel =>
        refine ⟨i + 1, _, by omega, by go_num, how2, hbl2, fun j hj => ?_⟩
        by_cases e : j = i
        · subst e; rw [upd_same]
        · rw [upd_other r _ e]; exact HR.out j (by omega)
      case measure => simp [intOf]; omega
    · have hin : n = i := by omega
      subst hin
      go_wp2
      go_ret
      exact ⟨by rw [← HB.out]; rfl, by rw [← HB.out]; exact how.congr HR.out, hbl⟩


end Go.Proofs.Ymbrcy
