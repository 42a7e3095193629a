/- The walk of LawS930008HValid (seat Ymbrcy): the Go text returns true, and writes nothing that was there. -/
import Derived.Test.YmbrcyBase
import Derived.Test.YmbrcyBefore
import Derived.Test.YmbrcyFrom
import Derived.Test.YmbrcyFix
import Derived.Test.YmbrcyEqs
namespace Go.Proofs.Ymbrcy.lawS930008HValid
open Go.RowKit Go.Sort
set_option linter.unusedVariables false

theorem walk_long (a : Option Addr) (n cap : Nat) (a1 : Int) (x : It) (w : World) (hn : ¬ n ≤ 1024) (hm : n ≤ maxLen) :
    Calls Ycym.prog 12 #[.slice a n cap, .int .u64 a1, .agg #[.int .i64 x.1, .int .u32 x.2]] w fun e w' => e = .returned (.bool true) ∧ Below w.heap.size w w' := by
  unfold maxLen at hm
  go_enter Ycym.func12, Ycym.ntmps12
  go_wp2
  go_ret
  exact ⟨rfl, (Below.refl _ _).alloc (Nat.le_refl _) _⟩

set_option maxHeartbeats 1000000 in
theorem walk_none (a : Option Addr) (cap : Nat) (d : Nat → It) (a1 : Int) (x : It) (w : World) (h : Sl w a 0 d) :
    Calls Ycym.prog 12 #[.slice a 0 cap, .int .u64 a1, .agg #[.int .i64 x.1, .int .u32 x.2]] w fun e w' => e = .returned (.bool true) ∧ Below w.heap.size w w' := by
  have hb0 : Below w.heap.size w (w.alloc (.cells #[.int .i64 x.1, .int .u32 x.2] 29)) := (Below.refl _ _).alloc (Nat.le_refl _) _
  go_enter Ycym.func12, Ycym.ntmps12
  go_wp2_with fail
  refine (fromItems_any a 0 cap d _ (h.below hb0 (Nat.le_refl _)) (by omega)).mono ?_
  rintro e w1 ⟨rfl, how1, hb1⟩
  have hb1 := hb1.mono (B' := w.heap.size + 1) (by simp)
  simp only [World.size_alloc] at how1 ⊢
  have hbl1 := hb0.trans (hb1.mono (by omega))
  have hbz := how1.lt
  have hbl2 := hbl1.alloc hbl1.size (.cells #[.slice (some ⟨w.heap.size + 1 + 1, 0, none⟩) 0 0] 24)
  have hH1 : Hp (w1.alloc (.cells #[.slice (some ⟨w.heap.size + 1 + 1, 0, none⟩) 0 0] 24)) w1.heap.size (w.heap.size + 1 + 1) 0 0 (mk 0 d) :=
    ⟨by go_simp, by go_simp, by simp, by omega, how1.alloc _, Nat.le_refl _, by omega⟩
  have g0 := hH1.cell
  go_wp2_with fail
  refine (fix_out _ _ 0 0 0 _ _ hH1 (.inr (Int.le_refl _))).mono ?_
  rintro e w2 ⟨rfl, hw⟩
  subst hw
  go_wp2
  go_ret
  exact ⟨rfl, hbl2⟩

set_option maxHeartbeats 4000000 in
theorem walk_main (a : Option Addr) (n cap : Nat) (d : Nat → It) (a1 : Int) (x : It) (i : Nat) (w : World) (h : Sl w a n d) (hn : n ≤ 1024) (hn0 : 1 ≤ n) (h0 : 0 ≤ a1) (h1 : a1 ≤ 18446744073709551615) (hs : a1 % (n : Int) = i) (hi : i < n) :
    Calls Ycym.prog 12 #[.slice a n cap, .int .u64 a1, .agg #[.int .i64 x.1, .int .u32 x.2]] w fun e w' => e = .returned (.bool true) ∧ Below w.heap.size w w' := by
  have hnz : ((n : Int) == 0) = false := by simp; omega
  have hb0 : Below w.heap.size w (w.alloc (.cells #[.int .i64 x.1, .int .u32 x.2] 29)) := (Below.refl _ _).alloc (Nat.le_refl _) _
  go_enter Ycym.func12, Ycym.ntmps12
  go_wp2_with fail
  refine (fromItems_any a n cap d _ (h.below hb0 (Nat.le_refl _)) (by omega)).mono ?_
  rintro e w1 ⟨rfl, how1, hb1⟩
  have hb1 := hb1.mono (B' := w.heap.size + 1) (by simp)
  simp only [World.size_alloc] at how1 ⊢
  have x0 : w1.cell? ⟨w.heap.size, 0, none⟩ = some (.int .i64 x.1) := (hb1.cell (p := ⟨w.heap.size, 0, none⟩) (by simp)).trans (by go_simp)
  have x1 : w1.cell? ⟨w.heap.size, 1, none⟩ = some (.int .u32 x.2) := (hb1.cell (p := ⟨w.heap.size, 1, none⟩) (by simp)).trans (by go_simp)
  have hz1 : w.heap.size < w1.heap.size := by have := hb1.size; simp at this; omega
  have hbl1 := hb0.trans (hb1.mono (by omega))
  have HHF : Hid (HeapFrom n 0 (mk n d)) := mk_heap n d
  obtain ⟨H, hHe⟩ : ∃ H, H = mk n d := ⟨_, rfl⟩
  rw [← hHe] at how1 HHF
  clear hHe
  have hbz := how1.lt
  obtain ⟨b, hb⟩ : ∃ b, b = w.heap.size + 1 + 1 := ⟨_, rfl⟩
  rw [← hb] at how1 hbz ⊢
  obtain ⟨bx, hbx⟩ : ∃ bx, bx = w.heap.size := ⟨_, rfl⟩
  rw [← hbx] at x0 x1 hz1 ⊢
  have hbb : bx < b := by omega
  have HB : Hid (w.heap.size ≤ b) := by show _ ≤ b; omega
  clear hb hbx hb1 hb0
  have hO0 := (how1.set i x).alloc (.cells #[.slice (some ⟨b, 0, none⟩) n n] 24)
  have hbl2 := ((hbl1.setCell (p := ⟨b, i * 2, none⟩) HB.out (.int .i64 x.1)).setCell (p := ⟨b, i * 2 + 1, none⟩) HB.out (.int .u32 x.2)).alloc (by have := hbl1.size; simp [World.setCell]; omega) (.cells #[.slice (some ⟨b, 0, none⟩) n n] 24)
  have k0 := how1.c0 hi
  have k1 := how1.c1 hi
  have kf := how1.fz
  have hH1 : Hp (((w1.setCell ⟨b, i * 2, none⟩ (.int .i64 x.1)).setCell ⟨b, i * 2 + 1, none⟩ (.int .u32 x.2)).alloc (.cells #[.slice (some ⟨b, 0, none⟩) n n] 24)) w1.heap.size b n n (upd H i x) :=
    ⟨by go_simp, by go_simp, by simp [World.setCell], by omega, hO0, Nat.le_refl _, by omega⟩
  have hsz : ((w1.setCell ⟨b, i * 2, none⟩ (.int .i64 x.1)).setCell ⟨b, i * 2 + 1, none⟩ (.int .u32 x.2)).heap.size = w1.heap.size := by simp [World.setCell]
  have y0 : (((w1.setCell ⟨b, i * 2, none⟩ (.int .i64 x.1)).setCell ⟨b, i * 2 + 1, none⟩ (.int .u32 x.2)).alloc (.cells #[.slice (some ⟨b, 0, none⟩) n n] 24)).cell? ⟨bx, 0, none⟩ = some (.int .i64 x.1) := by
    rw [World.cell?_of_block (Below.heap_alloc _ _ _ (by rw [hsz]; exact hz1)), World.cell?_of_block (Below.heap_setCell _ _ _ _ (by show bx ≠ b; omega)), World.cell?_of_block (Below.heap_setCell _ _ _ _ (by show bx ≠ b; omega))]; exact x0
  have y1 : (((w1.setCell ⟨b, i * 2, none⟩ (.int .i64 x.1)).setCell ⟨b, i * 2 + 1, none⟩ (.int .u32 x.2)).alloc (.cells #[.slice (some ⟨b, 0, none⟩) n n] 24)).cell? ⟨bx, 1, none⟩ = some (.int .u32 x.2) := by
    rw [World.cell?_of_block (Below.heap_alloc _ _ _ (by rw [hsz]; exact hz1)), World.cell?_of_block (Below.heap_setCell _ _ _ _ (by show bx ≠ b; omega)), World.cell?_of_block (Below.heap_setCell _ _ _ _ (by show bx ≠ b; omega))]; exact x1
  have hz2 : bx < (((w1.setCell ⟨b, i * 2, none⟩ (.int .i64 x.1)).setCell ⟨b, i * 2 + 1, none⟩ (.int .u32 x.2)).alloc (.cells #[.slice (some ⟨b, 0, none⟩) n n] 24)).heap.size := by simp [World.setCell]; omega
  clear hsz hO0
  go_wp2_with fail
  rw [hs]
  clear hs h0 h1 k0 k1 kf how1 hbl1 x0 x1
  refine (fix_in w1.heap.size b n n i (upd H i x) _ hH1 hi).mono ?_
  rintro e w2 ⟨rfl, how2, hf2⟩
  have hH2 := hH1.fr hf2 hH1.ne how2
  have q0 := (hf2.cell (p := ⟨bx, 0, none⟩) hz2 (by show ¬ bx = b; omega)).trans y0
  have q1 := (hf2.cell (p := ⟨bx, 1, none⟩) hz2 (by show ¬ bx = b; omega)).trans y1
  have hbl3 := hbl2.trans (hf2.to_below hbl2.size (fun t ht => by have := HB.out; omega))
  have hz3 := Nat.lt_of_lt_of_le hz2 hf2.size
  have HD : Hid (HeapFrom n 0 (fx n (upd H i x) i).1) := fx_heap x hi HHF.out
  have hRn := fx_lt n (upd H i x) i hi
  have HAT : Hid ((fx n (upd H i x) i).1 (fx n (upd H i x) i).2 = x) := by show _ = _; rw [fx_at, upd_same]
  obtain ⟨R, hR⟩ : ∃ R, R = (fx n (upd H i x) i).2 := ⟨_, rfl⟩
  obtain ⟨D, hDe⟩ : ∃ D, D = (fx n (upd H i x) i).1 := ⟨_, rfl⟩
  rw [← hDe] at hH2 HD HAT
  rw [← hR] at hRn HAT ⊢
  obtain ⟨hp, hhp⟩ : ∃ hp, hp = w1.heap.size := ⟨_, rfl⟩
  rw [← hhp] at hH2 ⊢
  clear hR hDe hhp hH1 how2 hf2 hbl2 hz2 y0 y1 HHF hbz hz1
  have g0 := hH2.cell
  have c0 := cell_regrown (hH2.own.c0 hRn)
  have c1 := cell_regrown (hH2.own.c1 hRn)
  rw [HAT.out] at c0 c1
  have c2 := cell_regrown q0
  have c3 := cell_regrown q1
  have c4 := cell_regrown g0
  go_wp2
  refine wp_region_below (by kernel_rfl) (by kernel_rfl) ?_
  repeat (go_big_quiet_step (fail))
  refine wpQuiet_nil ?_
  intro w5 hb5
  have hH5 := hH2.below hb5 (Nat.le_refl _)
  have hbl5 := hbl3.trans (hb5.mono hbl3.size)
  clear c0 c1 c2 c3 c4 hH2 hbl3 hb5 q0 q1 HAT g0 hz3
  go_wp2
  go_loopw [14] (fun u wr => ∃ k : Nat, 1 ≤ k ∧ (k ≤ n ∨ k = 1) ∧ u = .int .i64 k ∧ Hp wr hp b n n D ∧ Below w.heap.size w wr) (fun u _ => n - (intOf u).toNat)
  case atStart => exact ⟨1, Nat.le_refl _, .inr rfl, rfl, hH5, hbl5⟩
  case round =>
    clear hH5 hbl5
    obtain ⟨k, hk1, hk2, rfl, hH, hbl⟩ := hrel
    have g0 := hH.cell
    by_cases hlt : k < n
    · obtain ⟨p, hp⟩ : ∃ p, p = (k - 1) / 2 := ⟨_, rfl⟩
      have hpi : ((k : Int) - 1) / 2 = (p : Int) := by omega
      have hpk : p < k := by omega
      have HL : Hid (∀ w, Calls Ycym.prog 28 #[.agg #[.int .i64 (D k).1, .int .u32 (D k).2], .agg #[.int .i64 (D p).1, .int .u32 (D p).2]] w fun r w' => r = .returned (.bool false) ∧ Below w.heap.size w w') := fun w => by
        have := hless_any (D k) (D p) w
        have hf := HD.out k hk1 hlt (Nat.zero_le _)
        rw [← hp] at hf
        rwa [hf] at this
      clear hp
      have c0 := cell_regrown (hH.own.c0 hlt)
      have c1 := cell_regrown (hH.own.c1 hlt)
      have c2 := cell_regrown (hH.own.c0 (k := p) (by omega))
      have c3 := cell_regrown (hH.own.c1 (k := p) (by omega))
      have c4 := cell_regrown g0
      go_wp2
      refine wp_region_below (by kernel_rfl) (by kernel_rfl) ?_
      repeat (go_big_quiet_step (exact Calls.regrown_of (HL.out _)))
      refine wpQuiet_nil ?_
      intro w8 hb8
      have p1 := hH.below hb8 (Nat.le_refl _)
      have p2 := hbl.trans (hb8.mono hbl.size)
      clear c0 c1 c2 c3 c4 hH hbl hb8 g0
      go_wp2
      go_roundw
      case rel => exact ⟨k + 1, by omega, by omega, by go_num, p1, p2⟩
      case measure => simp [intOf]; omega
    · go_wp2
      go_ret
      exact ⟨rfl, hbl⟩

theorem walk (a : Option Addr) (n cap : Nat) (d : Nat → It) (a1 : Int) (x : It) (w : World) (h : Sl w a n d) (hn : n ≤ maxLen) (w1 : (Lit.int .u64 a1).wf = true) :
    Calls Ycym.prog 12 #[.slice a n cap, .int .u64 a1, .agg #[.int .i64 x.1, .int .u32 x.2]] w fun e w' => e = .returned (.bool true) ∧ Below w.heap.size w w' := by
  have hb := bd_u64 w1
  by_cases hs : n ≤ 1024
  · by_cases hz : n = 0
    · subst hz
      exact walk_none a cap d a1 x w h
    · have h2 : 0 ≤ a1 % (n : Int) := Int.emod_nonneg _ (by omega)
      have h3 : a1 % (n : Int) < (n : Int) := Int.emod_lt_of_pos _ (by omega)
      exact walk_main a n cap d a1 x (a1 % (n : Int)).toNat w h hs (by omega) hb.1 hb.2 (by omega) (by omega)
  · exact walk_long a n cap a1 x w hs hn
end Go.Proofs.Ymbrcy.lawS930008HValid
