/- The walk of LawS930008JExact (seat Ymbrcz): the Go text returns true, and writes nothing that was there. -/
import Derived.Test.YmbrczBase
import Derived.Test.YmbrczBefore
import Derived.Test.YmbrczCopy
import Derived.Test.YmbrczUp
import Derived.Test.YmbrczJsame
namespace Go.Proofs.Ymbrcz.lawS930008JExact
open Go.RowKit Go.Sort
set_option linter.unusedVariables false

/-- the hole version: the state (W, j) stands for the swapped array 'upd W j x' -/
theorem hole_go {f : Nat} {d W : Nat → It} {x : It} {j : Nat} (hW : ∀ k, k < j → W k = d k) (hj : 0 < j) (hl : lt x (d ((j - 1) / 2)) = true) : su (f + 1) (upd W j x) j = su f (upd (upd W j (d ((j - 1) / 2))) ((j - 1) / 2) x) ((j - 1) / 2) := by
  rw [su_go hj (by rw [upd_same, upd_other W x (by omega), hW _ (by omega)]; exact hl)]
  congr 1
  unfold swp
  rw [upd_same, upd_other W x (by omega), hW _ (by omega), upd_upd]
theorem hole_stop {f : Nat} {d W : Nat → It} {x : It} {j : Nat} (hW : ∀ k, k < j → W k = d k) (h : j = 0 ∨ lt x (d ((j - 1) / 2)) = false) : su f (upd W j x) j = (upd W j x, j) := by
  refine su_stop ?_
  by_cases h0 : j = 0
  · exact .inl h0
  · rcases h with h | h
    · exact .inl h
    · right
      rw [upd_same, upd_other W x (by omega), hW _ (by omega)]
      exact h

theorem walk_triv (a : Option Addr) (n cap : Nat) (a1 : Int) (w : World) (hn : n = 0 ∨ ¬ n ≤ 1024) (hm : n ≤ maxLen) :
    Calls Yczm.prog 6 #[.slice a n cap, .int .u16 a1] w fun e w' => e = .returned (.bool true) ∧ Below w.heap.size w w' := by
  unfold maxLen at hm
  by_cases h0 : n = 0
  · subst h0
    go_enter Yczm.func6, Yczm.ntmps6
    go_wp2
    go_ret
    exact ⟨rfl, Below.refl _ _⟩
  · have hnz : ((n : Int) == 0) = false := by simp; omega
    have h1 : (1024 : Int) < (n : Int) := by omega
    clear hn
    go_enter Yczm.func6, Yczm.ntmps6
    go_wp2
    go_ret
    exact ⟨rfl, Below.refl _ _⟩

set_option maxHeartbeats 4000000 in
theorem walk_main (a : Option Addr) (n cap : Nat) (d : Nat → It) (a1 : Int) (i : Nat) (w : World) (h : Sl w a n d) (hn : n ≤ 1024) (hn0 : 1 ≤ n) (h0 : 0 ≤ a1) (h1 : a1 ≤ 65535) (hs : a1 % (n : Int) = i) (hi : i < n) :
    Calls Yczm.prog 6 #[.slice a n cap, .int .u16 a1] w fun e w' => e = .returned (.bool true) ∧ Below w.heap.size w w' := by
  have hnz : ((n : Int) == 0) = false := by simp; omega
  go_enter Yczm.func6, Yczm.ntmps6
  go_wp2_with fail
  rw [hs]
  clear hs h0 h1
  refine (jcopy_any a n cap d _ h (by omega)).mono ?_
  rintro e w1 ⟨rfl, how1, hb1⟩
  obtain ⟨b, hb⟩ : ∃ b, b = w.heap.size := ⟨_, rfl⟩
  rw [← hb] at how1 ⊢
  have HB : Hid (b = w.heap.size) := hb
  clear hb
  go_wp2_with fail
  refine (siftUp_any b n n n i d _ how1 (Nat.le_refl _) hi (by omega)).mono ?_
  rintro e1 w2 ⟨rfl, how2, hfr2⟩
  have hbl2 := hb1.trans (hfr2.to_below hb1.size (fun x hx => by have := HB.out; omega))
  have hRi := su_le n d i
  obtain ⟨R, hR⟩ : ∃ R, R = (su n d i).2 := ⟨_, rfl⟩
  obtain ⟨D, hD⟩ : ∃ D, D = (su n d i).1 := ⟨_, rfl⟩
  rw [← hD] at how2
  rw [← hR] at hRi ⊢
  have HR : Hid (R = (su n d i).2) := hR
  have HD : Hid (D = (su n d i).1) := hD
  clear hR hD how1 hfr2 hb1
  go_wp2_with fail
  refine (jcopy_any a n cap d _ (h.below hbl2 (Nat.le_refl _)) (by omega)).mono ?_
  rintro e w3 ⟨rfl, how3, hb3⟩
  obtain ⟨b2, hb2⟩ : ∃ b2, b2 = w2.heap.size := ⟨_, rfl⟩
  have hbb : b < b2 := by rw [hb2]; exact how2.lt
  rw [← hb2] at how3 ⊢
  have HB2 : Hid (w.heap.size ≤ b2) := by rw [hb2]; exact hbl2.size
  have how4 := how2.below hb3 how2.lt
  have hbl3 := hbl2.trans (hb3.mono hbl2.size)
  clear hb2 hb3 hbl2 how2
  obtain ⟨ab, off, ha, hc⟩ := h.below hbl3 (Nat.le_refl _)
  obtain ⟨rfl, hbw⟩ := ha (by omega)
  have c0 := (hc i hi).1
  have c1 := (hc i hi).2
  clear hc ha
  obtain ⟨x, hx⟩ : ∃ x, x = d i := ⟨_, rfl⟩
  rw [← hx] at c0 c1
  have HX : Hid (x = d i) := hx
  clear hx
  have hb23 : b2 < w3.heap.size := how3.lt
  have hbl5 := hbl3.alloc hbl3.size (.cells #[.int .i64 x.1, .int .u32 x.2] 25)
  have how7 := how4.alloc (.cells #[.int .i64 x.1, .int .u32 x.2] 25)
  have how8 := how3.alloc (.cells #[.int .i64 x.1, .int .u32 x.2] 25)
  have x0 : (w3.alloc (.cells #[.int .i64 x.1, .int .u32 x.2] 25)).cell? ⟨w3.heap.size, 0, none⟩ = some (.int .i64 x.1) := by go_simp
  have x1 : (w3.alloc (.cells #[.int .i64 x.1, .int .u32 x.2] 25)).cell? ⟨w3.heap.size, 1, none⟩ = some (.int .u32 x.2) := by go_simp
  have hz5 : w3.heap.size < (w3.alloc (.cells #[.int .i64 x.1, .int .u32 x.2] 25)).heap.size := by simp
  go_wp2
  obtain ⟨bx, hbx⟩ : ∃ bx, bx = w3.heap.size := ⟨_, rfl⟩
  have hbx2 : b2 < bx := by omega
  rw [← hbx] at x0 x1 hz5 ⊢
  clear how4 how3 hbl3 c0 c1 hbw hbx hb23
  go_loopw [11] (fun u wr => ∃ (j f : Nat) (W : Nat → It), j < n ∧ j ≤ f ∧ u = .int .i64 j ∧ Own wr b n D ∧ Own wr b2 n W ∧ Below w.heap.size w wr ∧ bx < wr.heap.size ∧
      wr.cell? ⟨bx, 0, none⟩ = some (.int .i64 x.1) ∧ wr.cell? ⟨bx, 1, none⟩ = some (.int .u32 x.2) ∧ Hid (∀ k, k < j → W k = d k) ∧ Hid (su f (upd W j x) j = su n d i)) (fun u _ => (intOf u).toNat)
  case atStart => exact ⟨i, n, d, hi, by omega, rfl, how7, how8, hbl5, hz5, x0, x1, fun _ _ => rfl, by rw [HX.out, upd_self]; rfl⟩
  case round =>
    clear how7 how8 hbl5 hz5 x0 x1
    obtain ⟨j, f, W, hj, hf, rfl, howD, howW, hbl, hz, x0, x1, HW, HS⟩ := hrel
    by_cases hj0 : 0 < j
    · obtain ⟨p, hp⟩ : ∃ p, p = (j - 1) / 2 := ⟨_, rfl⟩
      have hpi : ((j : Int) - 1) / 2 = (p : Int) := by omega
      have hpj : p < j := by omega
      have HP : Hid (p = (j - 1) / 2) := hp
      clear hp
      obtain ⟨ab', off', ha', hc'⟩ := h.below hbl (Nat.le_refl _)
      obtain ⟨hae, hbw'⟩ := ha' (by omega)
      obtain ⟨rfl, rfl⟩ : ab = ab' ∧ off = off' := by simpa using hae
      have c0 := cell_regrown (hc' p (by omega)).1
      have c1 := cell_regrown (hc' p (by omega)).2
      have c2 := cell_regrown x0
      have c3 := cell_regrown x1
      clear hc' ha' hae
      go_wp2
      refine wp_region_below (by kernel_rfl) (by kernel_rfl) ?_
      repeat (go_big_quiet_step (exact Calls.regrown_of (jless_any _ _ _)))
      refine wpQuiet_nil ?_
      intro w6 hb6
      have q1 := howD.below hb6 howD.lt
      have q2 := howW.below hb6 howW.lt
      have q3 := hbl.trans (hb6.mono hbl.size)
      have q4 := Nat.lt_of_lt_of_le hz hb6.size
      have q5 := (hb6.cell (p := ⟨bx, 0, none⟩) hz).trans x0
      have q6 := (hb6.cell (p := ⟨bx, 1, none⟩) hz).trans x1
      clear c0 c1 c2 c3 howD howW hbl hz x0 x1 hb6
      cases hl : lt x (d p)
      · have hst := hole_stop (f := f) HW.out (.inr (by rw [← HP.out]; exact hl))
        rw [HS.out] at hst
        have e1 : R = j := by rw [HR.out, hst]
        have e2 : D = upd W j x := by rw [HD.out, hst]
        subst e1 e2
        have k0 := q2.c0 hj
        have k1 := q2.c1 hj
        have kf := q2.fz
        have howW2 := q2.set R x
        have howD2 := (q1.setOther (a := ⟨b2, R * 2, none⟩) (by show b ≠ b2; omega) (.int .i64 x.1)).setOther (a := ⟨b2, R * 2 + 1, none⟩) (by show b ≠ b2; omega) (.int .u32 x.2)
        have hbl2 := (q3.setCell (p := ⟨b2, R * 2, none⟩) HB2.out (.int .i64 x.1)).setCell (p := ⟨b2, R * 2 + 1, none⟩) HB2.out (.int .u32 x.2)
        clear hst HS HW HR HD HX
        go_wp2_with fail
        refine (jsame_same _ _ n n n (upd W R x) _ (howD2.sl (Nat.le_refl _)) (howW2.sl (Nat.le_refl _)) hn).mono ?_
        rintro e w9 ⟨rfl, hb9⟩
        have hbl9 := hbl2.trans (hb9.mono hbl2.size)
        go_wp2
        go_ret
        exact ⟨rfl, hbl9⟩
      · have g1 := hole_go (f := f - 1) HW.out hj0 (by rw [← HP.out]; exact hl)
        rw [(by omega : f - 1 + 1 = f), HS.out, ← HP.out] at g1
        have HG : Hid (su n d i = su (f - 1) (upd (upd W j (d p)) p x) p) := g1
        clear g1
        obtain ⟨ab', off', ha', hc'⟩ := h.below q3 (Nat.le_refl _)
        obtain ⟨hae, hbw'⟩ := ha' (by omega)
        obtain ⟨rfl, rfl⟩ : ab = ab' ∧ off = off' := by simpa using hae
        have c0 := (hc' p (by omega)).1
        have c1 := (hc' p (by omega)).2
        clear hc' ha' hae
        have k0 := q2.c0 hj
        have k1 := q2.c1 hj
        have kf := q2.fz
        have r2 := q2.set j (d p)
        have r1 := (q1.setOther (a := ⟨b2, j * 2, none⟩) (by show b ≠ b2; omega) (.int .i64 (d p).1)).setOther (a := ⟨b2, j * 2 + 1, none⟩) (by show b ≠ b2; omega) (.int .u32 (d p).2)
        have r3 := (q3.setCell (p := ⟨b2, j * 2, none⟩) HB2.out (.int .i64 (d p).1)).setCell (p := ⟨b2, j * 2 + 1, none⟩) HB2.out (.int .u32 (d p).2)
        have r5 : ((w6.setCell ⟨b2, j * 2, none⟩ (.int .i64 (d p).1)).setCell ⟨b2, j * 2 + 1, none⟩ (.int .u32 (d p).2)).cell? ⟨bx, 0, none⟩ = some (.int .i64 x.1) := by
          rw [World.cell?_of_block (Below.heap_setCell _ _ _ _ (by show bx ≠ b2; omega)), World.cell?_of_block (Below.heap_setCell _ _ _ _ (by show bx ≠ b2; omega))]; exact q5
        have r6 : ((w6.setCell ⟨b2, j * 2, none⟩ (.int .i64 (d p).1)).setCell ⟨b2, j * 2 + 1, none⟩ (.int .u32 (d p).2)).cell? ⟨bx, 1, none⟩ = some (.int .u32 x.2) := by
          rw [World.cell?_of_block (Below.heap_setCell _ _ _ _ (by show bx ≠ b2; omega)), World.cell?_of_block (Below.heap_setCell _ _ _ _ (by show bx ≠ b2; omega))]; exact q6
        have r4 : bx < ((w6.setCell ⟨b2, j * 2, none⟩ (.int .i64 (d p).1)).setCell ⟨b2, j * 2 + 1, none⟩ (.int .u32 (d p).2)).heap.size := by simpa [World.setCell] using q4
        clear HS
        go_wp2
        go_roundw
        case rel =>
          refine ⟨p, f - 1, _, by omega, by omega, by go_num, r1, r2, r3, r4, r5, r6, fun k hk => ?_, HG.out.symm⟩
          rw [upd_other W _ (by omega)]; exact HW.out k (by omega)
        case measure => simp [intOf]; omega
    · have hj0' : j = 0 := by omega
      have hst := hole_stop (f := f) (x := x) HW.out (.inl hj0')
      rw [HS.out] at hst
      have e1 : R = j := by rw [HR.out, hst]
      have e2 : D = upd W j x := by rw [HD.out, hst]
      subst e1 e2
      have hR0 : ¬ (0 : Int) < (R : Int) := by omega
      have k0 := howW.c0 hj
      have k1 := howW.c1 hj
      have kf := howW.fz
      have howW2 := howW.set R x
      have howD2 := (howD.setOther (a := ⟨b2, R * 2, none⟩) (by show b ≠ b2; omega) (.int .i64 x.1)).setOther (a := ⟨b2, R * 2 + 1, none⟩) (by show b ≠ b2; omega) (.int .u32 x.2)
      have hbl2 := (hbl.setCell (p := ⟨b2, R * 2, none⟩) HB2.out (.int .i64 x.1)).setCell (p := ⟨b2, R * 2 + 1, none⟩) HB2.out (.int .u32 x.2)
      clear hst hj0' HS HW HR HD HX
      go_wp2_with fail
      refine (jsame_same _ _ n n n (upd W R x) _ (howD2.sl (Nat.le_refl _)) (howW2.sl (Nat.le_refl _)) hn).mono ?_
      rintro e w9 ⟨rfl, hb9⟩
      have hbl9 := hbl2.trans (hb9.mono hbl2.size)
      go_wp2
      go_ret
      exact ⟨rfl, hbl9⟩

theorem walk (a : Option Addr) (n cap : Nat) (d : Nat → It) (a1 : Int) (w : World) (h : Sl w a n d) (hn : n ≤ maxLen) (w1 : (Lit.int .u16 a1).wf = true) :
    Calls Yczm.prog 6 #[.slice a n cap, .int .u16 a1] w fun e w' => e = .returned (.bool true) ∧ Below w.heap.size w w' := by
  have hb := bd_u16 w1
  by_cases hs : n = 0 ∨ ¬ n ≤ 1024
  · exact walk_triv a n cap a1 w hs hn
  · have h2 : 0 ≤ a1 % (n : Int) := Int.emod_nonneg _ (by omega)
    have h3 : a1 % (n : Int) < (n : Int) := Int.emod_lt_of_pos _ (by omega)
    exact walk_main a n cap d a1 (a1 % (n : Int)).toNat w h (by omega) (by omega) hb.1 hb.2 (by omega) (by omega)
end Go.Proofs.Ymbrcz.lawS930008JExact
