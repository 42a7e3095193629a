/- The walk of LawS930008BReversed (seat Ymbrcx): the Go text returns true, and writes nothing that was there. -/
import Derived.Test.YmbrcxBase
import Derived.Test.YmbrcxBefore
import Derived.Test.YmbrcxSorted
import Derived.Test.YmbrcxRanks
import Derived.Test.YmbrcxBeq
namespace Go.Proofs.Ymbrcx.lawS930008BReversed
open Go.RowKit Go.Sort
set_option linter.unusedVariables false

theorem cn_shift (f : It → Bool) (d : Nat → It) : ∀ n, cn f d (n + 1) = (if f (d 0) then 1 else 0) + cn f (fun k => d (k + 1)) n
  | 0 => by show cn f d 0 + _ = _ + cn f _ 0; simp [cn]
  | n + 1 => by
    show cn f d (n + 1) + (if f (d (n + 1)) then 1 else 0) = (if f (d 0) then 1 else 0) + (cn f (fun k => d (k + 1)) n + (if f (d (n + 1)) then 1 else 0))
    rw [cn_shift f d n]; omega
theorem cn_rev (f : It → Bool) : ∀ (n : Nat) (d r : Nat → It), (∀ k, k < n → r k = d (n - 1 - k)) → cn f r n = cn f d n
  | 0, _, _, _ => rfl
  | n + 1, d, r, h => by
    rw [cn_shift f d n]
    show cn f r n + (if f (r n) then 1 else 0) = _
    rw [h n (by omega), (by omega : n + 1 - 1 - n = 0), cn_rev f n (fun k => d (k + 1)) r (fun k hk => by rw [h k (by omega)]; congr 1; omega)]
    omega

theorem walk_long (a : Option Addr) (n cap : Nat) (w : World) (hn : ¬ n ≤ 1024) (hm : n ≤ maxLen) :
    Calls Ycxm.prog 8 #[.slice a n cap] w fun e w' => e = .returned (.bool true) ∧ Below w.heap.size w w' := by
  unfold maxLen at hm
  go_enter Ycxm.func8, Ycxm.ntmps8
  go_wp2
  go_ret
  exact ⟨rfl, Below.refl _ _⟩

set_option maxHeartbeats 4000000 in
theorem walk_main (a : Option Addr) (n cap : Nat) (d : Nat → It) (w : World) (h : Sl w a n d) (hn : n ≤ 1024) :
    Calls Ycxm.prog 8 #[.slice a n cap] w fun e w' => e = .returned (.bool true) ∧ Below w.heap.size w w' := by
  have hmk := run_mk n (by omega)
  have how1 := (own_made w n).alloc (.cells (madeCells #[.int .i64 0, .int .u32 0] (n * 2)) 25)
  have how2 := own_made (w.alloc (.cells (madeCells #[.int .i64 0, .int .u32 0] (n * 2)) 25)) n
  simp only [World.size_alloc] at how2
  have hb0 : Below w.heap.size w ((w.alloc (.cells (madeCells #[.int .i64 0, .int .u32 0] (n * 2)) 25)).alloc (.cells (madeCells #[.int .i64 0, .int .u32 0] (n * 2)) 25)) := ((Below.refl _ _).alloc (Nat.le_refl _) _).alloc (by simp) _
  go_enter Ycxm.func8, Ycxm.ntmps8
  go_wp2
  obtain ⟨b1, hb1⟩ : ∃ b1, b1 = w.heap.size := ⟨_, rfl⟩
  obtain ⟨b2, hb2⟩ : ∃ b2, b2 = w.heap.size + 1 := ⟨_, rfl⟩
  rw [← hb2] at how2 ⊢
  rw [← hb1] at how1 ⊢
  have hne : b1 < b2 := by omega
  have HB1 : Hid (w.heap.size ≤ b1) := by rw [hb1]; exact Nat.le_refl _
  have HB2 : Hid (w.heap.size ≤ b2) := by rw [hb2]; exact Nat.le_succ _
  clear hb1 hb2 hmk
  go_loopw [6] (fun u wr => ∃ (i : Nat) (s r : Nat → It), i ≤ n ∧ u = .int .i64 i ∧ Own wr b1 n s ∧ Own wr b2 n r ∧ Below w.heap.size w wr ∧ Hid (∀ j, j < i → s j = d j) ∧ Hid (∀ j, j < i → r (n - 1 - j) = d j)) (fun u _ => n - (intOf u).toNat)
  case atStart => exact ⟨0, _, _, Nat.zero_le _, rfl, how1, how2, hb0, fun j hj => by omega, fun j hj => by omega⟩
  case round =>
    clear how1 how2 hb0
    obtain ⟨i, s, r, hi, rfl, how1, how2, hbl, HS, HR⟩ := hrel
    by_cases hlt : i < n
    · obtain ⟨ab, off, ha, hc⟩ := h.below hbl (Nat.le_refl _)
      obtain ⟨rfl, hbw⟩ := ha (by omega)
      have c0 := (hc i hlt).1
      have c1 := (hc i hlt).2
      have habB : ab < w.heap.size := by
        obtain ⟨ab', off', ha', _⟩ := h
        obtain ⟨hae, hb⟩ := ha' (by omega)
        obtain ⟨rfl, rfl⟩ : ab = ab' ∧ off = off' := by simpa using hae
        exact hb
      have hn1 : ab ≠ b1 := by have := HB1.out; omega
      have hn2 : ab ≠ b2 := by have := HB2.out; omega
      clear hc ha habB
      have k0 := how1.c0 hlt
      have k1 := how1.c1 hlt
      have kf := how1.fz
      have m0 := how2.c0 (k := n - 1 - i) (by omega)
      have m1 := how2.c1 (k := n - 1 - i) (by omega)
      have mf := how2.fz
      obtain ⟨x, hx⟩ : ∃ x, x = d i := ⟨_, rfl⟩
      rw [← hx] at c0 c1
      have HX : Hid (x = d i) := hx
      clear hx
      have p1 := ((how1.set i x).setOther (a := ⟨b2, (n - 1 - i) * 2, none⟩) (by show b1 ≠ b2; omega) (.int .i64 x.1)).setOther (a := ⟨b2, (n - 1 - i) * 2 + 1, none⟩) (by show b1 ≠ b2; omega) (.int .u32 x.2)
      have p2 := ((how2.setOther (a := ⟨b1, i * 2, none⟩) (by show b2 ≠ b1; omega) (.int .i64 x.1)).setOther (a := ⟨b1, i * 2 + 1, none⟩) (by show b2 ≠ b1; omega) (.int .u32 x.2)).set (n - 1 - i) x
      have p3 := (((hbl.setCell (p := ⟨b1, i * 2, none⟩) HB1.out (.int .i64 x.1)).setCell (p := ⟨b1, i * 2 + 1, none⟩) HB1.out (.int .u32 x.2)).setCell (p := ⟨b2, (n - 1 - i) * 2, none⟩) HB2.out (.int .i64 x.1)).setCell (p := ⟨b2, (n - 1 - i) * 2 + 1, none⟩) HB2.out (.int .u32 x.2)
      go_wp2
      go_roundw
      case rel =>
        refine ⟨i + 1, _, _, by omega, by go_num, p1, p2, p3, fun j hj => ?_, fun j hj => ?_⟩
        · by_cases e : j = i
          · subst e; rw [upd_same, HX.out]
          · rw [upd_other s _ e]; exact HS.out j (by omega)
        · by_cases e : j = i
          · subst e; rw [upd_same, HX.out]
          · rw [upd_other r _ (by omega)]; exact HR.out j (by omega)
      case measure => simp [intOf]; omega
    · have hin : n = i := by omega
      subst hin
      have HRC : Hid (Same n r d) := fun f => cn_rev f n d r fun k hk => by
        have := HR.out (n - 1 - k) (by omega)
        rwa [(by omega : n - 1 - (n - 1 - k) = k)] at this
      have hsn := (how1.congr HS.out)
      clear how1 HS HR hi hlt
      go_wp2_with fail
      refine (sorted_any a n cap d _ (h.below hbl (Nat.le_refl _)) hn).mono ?_
      rintro e w2 ⟨b3, o, rfl, hb3z, how3, hS3, hP3, hb3⟩
      have HS3 : Hid (Srt n o) := hS3
      have HP3 : Hid (Same n o d) := hP3
      have hsn2 := hsn.below hb3 hsn.lt
      have how22 := how2.below hb3 how2.lt
      have hbl2 := hbl.trans (hb3.mono hbl.size)
      clear hsn how2 hbl hb3 hS3 hP3 hb3z
      go_wp2_with fail
      refine (beq_same _ _ n cap n d _ (h.below hbl2 (Nat.le_refl _)) (hsn2.sl (Nat.le_refl _)) hn).mono ?_
      rintro e w3 ⟨rfl, hb4⟩
      have how33 := how3.below hb4 how3.lt
      have how23 := how22.below hb4 how22.lt
      have hbl3 := hbl2.trans (hb4.mono hbl2.size)
      clear hsn2 how22 how3 hbl2 hb4
      go_wp2_with fail
      refine (sorted_any _ n n r _ (how23.sl (Nat.le_refl _)) hn).mono ?_
      rintro e w4 ⟨b5, q, rfl, hb5z, how5, hS5, hP5, hb5⟩
      have HE : Hid (∀ k, k < n → q k = o k) := fun k hk => srt_one hS5 HS3.out ((hP5.trans HRC.out).trans HP3.out.symm) k hk
      have how34 := how33.below hb5 how33.lt
      have hbl4 := hbl3.trans (hb5.mono hbl3.size)
      have hsl5 := (how5.sl (Nat.le_refl _)).congr HE.out
      clear how33 hbl3 how23 hb5 hS5 hP5 how5 HE HRC HP3 hb5z
      go_wp2_with fail
      refine (beq_same _ _ n n n o _ (how34.sl (Nat.le_refl _)) hsl5 hn).mono ?_
      rintro e w5 ⟨rfl, hb6⟩
      have how35 := how34.below hb6 how34.lt
      have hbl5 := hbl4.trans (hb6.mono hbl4.size)
      clear how34 hbl4 hb6 hsl5
      go_wp2
      go_loopw [9] (fun u wr => ∃ k : Nat, 1 ≤ k ∧ (k ≤ n ∨ k = 1) ∧ u = .int .i64 k ∧ Own wr b3 n o ∧ Below w.heap.size w wr) (fun u _ => n - (intOf u).toNat)
      case atStart => exact ⟨1, Nat.le_refl _, .inr rfl, rfl, how35, hbl5⟩
      case round =>
        clear how35 hbl5
        obtain ⟨k, hk1, hk2, rfl, how, hbl⟩ := hrel
        by_cases hlt : k < n
        · have c0 := cell_regrown (how.c0 hlt)
          have c1 := cell_regrown (how.c1 hlt)
          have c2 := cell_regrown (how.c0 (k := k - 1) (by omega))
          have c3 := cell_regrown (how.c1 (k := k - 1) (by omega))
          have HL : Hid (∀ w, Calls Ycxm.prog 19 #[.agg #[.int .i64 (o k).1, .int .u32 (o k).2], .agg #[.int .i64 (o (k - 1)).1, .int .u32 (o (k - 1)).2]] w fun r w' => r = .returned (.bool false) ∧ Below w.heap.size w w') := fun w => by
            have := bbefore_any (o k) (o (k - 1)) w
            rwa [HS3.out k hk1 hlt] at this
          go_wp2
          refine wp_region_below (by kernel_rfl) (by kernel_rfl) ?_
          repeat (go_big_quiet_step (exact Calls.regrown_of (HL.out _)))
          refine wpQuiet_nil ?_
          intro w8 hb8
          have p1 := how.below hb8 how.lt
          have p2 := hbl.trans (hb8.mono hbl.size)
          clear c0 c1 c2 c3 how hbl hb8
          go_wp2
          go_roundw
          case rel => exact ⟨k + 1, by omega, by omega, by go_num, p1, p2⟩
          case measure => simp [intOf]; omega
        · go_wp2
          go_ret
          exact ⟨rfl, hbl⟩

theorem walk (a : Option Addr) (n cap : Nat) (d : Nat → It) (w : World) (h : Sl w a n d) (hn : n ≤ maxLen) :
    Calls Ycxm.prog 8 #[.slice a n cap] w fun e w' => e = .returned (.bool true) ∧ Below w.heap.size w w' := by
  by_cases hs : n ≤ 1024
  · exact walk_main a n cap d w h hs
  · exact walk_long a n cap w hs hn
end Go.Proofs.Ymbrcx.lawS930008BReversed
