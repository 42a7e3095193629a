/- The walk of LawS930008DExact (seat Ymbrcx): the Go text returns true, and writes nothing that was there. -/
import Derived.Test.YmbrcxBase
import Derived.Test.YmbrcxNext
import Derived.Test.YmbrcxCopy
import Derived.Test.YmbrcxDown
import Derived.Test.YmbrcxEqs
namespace Go.Proofs.Ymbrcx.lawS930008DExact
open Go.RowKit Go.Sort
set_option linter.unusedVariables false

theorem chd_congr {n : Nat} {d e : Nat → It} {j : Nat} (h : ∀ k, j < k → e k = d k) : chd n e j = chd n d j := by
  unfold chd
  rw [h (2 * j + 1) (by omega), h (2 * j + 2) (by omega)]
theorem nx_go {n : Nat} {d : Nat → It} {x : It} {j : Nat} (hj : j < n / 2) (hl : lt (d (chd n d j)) x = true) : (nxs n d x j 2).1 = chd n d j := by
  have h1 : 2 * j + 1 + 0 < n := by omega
  cases h2 : lt (d (2 * j + 1 + 0)) x
  · have e1 : nxs n d x j 1 = (j, x) := nxs_miss (t := 0) (.inr h2)
    rcases chd_cases n d j with hc | ⟨hc, hc2⟩
    · rw [hc, show 2 * j + 1 = 2 * j + 1 + 0 from rfl, h2] at hl; cases hl
    · rw [hc] at hl
      rw [hc, nxs_hit (t := 1) (by omega) (by rw [e1]; exact hl)]
  · have e1 : nxs n d x j 1 = (2 * j + 1, d (2 * j + 1)) := nxs_hit (t := 0) h1 h2
    unfold chd
    split
    · rename_i h3
      rw [nxs_hit (t := 1) (by omega) (by rw [e1]; exact h3.2)]
    · rename_i h3
      rw [nxs_miss (t := 1), e1]
      by_cases h4 : 2 * j + 1 + 1 < n
      · right
        rw [e1]
        cases h5 : lt (d (2 * j + 1 + 1)) (2 * j + 1, d (2 * j + 1)).2
        · rfl
        · exact absurd ⟨h4, h5⟩ h3
      · exact .inl h4
theorem nx_stop {n : Nat} {d : Nat → It} {x : It} {j : Nat} (h : n / 2 ≤ j ∨ lt (d (chd n d j)) x = false) : (nxs n d x j 2).1 = j := by
  by_cases h1 : 2 * j + 1 + 0 < n
  · have hl : lt (d (chd n d j)) x = false := by
      rcases h with h | h
      · omega
      · exact h
    have l1 : lt (d (2 * j + 1 + 0)) x = false := le_trans hl (chd_least d (by omega) h1 (by omega))
    have e1 : nxs n d x j 1 = (j, x) := nxs_miss (t := 0) (.inr l1)
    rw [nxs_miss (t := 1), e1]
    by_cases h4 : 2 * j + 1 + 1 < n
    · right
      rw [e1]
      exact le_trans hl (chd_least d (by omega) h4 (by omega))
    · exact .inl h4
  · rw [nxs_miss (t := 1) (.inl (by omega)), nxs_miss (t := 0) (.inl h1)]
    rfl
/-- the hole version: the state (W, j) stands for the swapped array 'upd W j x' -/
theorem hole_go {n f : Nat} {d W : Nat → It} {x : It} {j m : Nat} (hW : ∀ k, j < k → W k = d k) (hm : m = (nxs n d x j 2).1) (hjm : j < m) : sd n (f + 1) (upd W j x) j = sd n f (upd (upd W j (d m)) m x) m ∧ j < n / 2 ∧ m < n ∧ 2 * j + 1 ≤ m := by
  have hc : chd n (upd W j x) j = chd n d j := chd_congr fun k hk => by rw [upd_other W x (by omega)]; exact hW k hk
  rcases sd_or n (upd W j x) j with h | h
  · have h2 := h.2
    have hg := chd_gt n d j
    rw [hc, upd_same, upd_other W x (by omega), hW _ hg] at h2
    have e := nx_go h.1 h2
    rw [← hm] at e
    have hlt := chd_lt d h.1
    rw [sd_go h.1 h.2, hc, ← e]
    refine ⟨?_, h.1, by omega, by rcases chd_cases n d j with h | ⟨h, _⟩ <;> omega⟩
    congr 1
    unfold swp
    rw [upd_same, upd_other W x (by omega), hW m hjm, upd_upd]
  · exfalso
    have h' : n / 2 ≤ j ∨ lt (d (chd n d j)) x = false := by
      rcases h with h | h
      · exact .inl h
      · right
        have hg := chd_gt n d j
        rwa [hc, upd_same, upd_other W x (by omega), hW _ hg] at h
    have := nx_stop h'
    omega
theorem hole_stop {n f : Nat} {d W : Nat → It} {x : It} {j m : Nat} (hW : ∀ k, j < k → W k = d k) (hm : m = (nxs n d x j 2).1) (hjm : ¬ j < m) : sd n f (upd W j x) j = (upd W j x, j) := by
  have hc : chd n (upd W j x) j = chd n d j := chd_congr fun k hk => by rw [upd_other W x (by omega)]; exact hW k hk
  have hg := chd_gt n d j
  rcases sd_or n (upd W j x) j with h | h
  · have h2 := h.2
    rw [hc, upd_same, upd_other W x (by omega), hW _ hg] at h2
    have e := nx_go h.1 h2
    omega
  · exact sd_stop h

theorem walk_long (a : Option Addr) (n cap : Nat) (a1 : Int) (w : World) (hn : ¬ n ≤ 1024) (hm : n ≤ maxLen) :
    Calls Ycxm.prog 12 #[.slice a n cap, .int .u16 a1] w fun e w' => e = .returned (.bool true) ∧ Below w.heap.size w w' := by
  unfold maxLen at hm
  go_enter Ycxm.func12, Ycxm.ntmps12
  go_wp2
  go_ret
  exact ⟨rfl, Below.refl _ _⟩
theorem walk_none (a : Option Addr) (cap : Nat) (d : Nat → It) (a1 : Int) (w : World) (h : Sl w a 0 d) :
    Calls Ycxm.prog 12 #[.slice a 0 cap, .int .u16 a1] w fun e w' => e = .returned (.bool true) ∧ Below w.heap.size w w' := by
  go_enter Ycxm.func12, Ycxm.ntmps12
  go_wp2_with fail
  refine (dcopy_any a 0 cap d _ h (by omega)).mono ?_
  rintro e w1 ⟨rfl, how1, hb1⟩
  go_wp2_with fail
  refine (siftDown_any w.heap.size 0 0 0 0 d _ how1 (Nat.le_refl _) (.inr rfl) (by omega)).mono ?_
  rintro e1 w2 ⟨rfl, how2, hfr2⟩
  have e0 : (sd 0 0 d 0).2 = 0 := rfl
  rw [e0]
  clear e0
  go_wp2
  go_ret
  exact ⟨rfl, hb1.trans (hfr2.to_below hb1.size (fun x hx => by omega))⟩

set_option maxHeartbeats 4000000 in
theorem walk_main (a : Option Addr) (n cap : Nat) (d : Nat → It) (a1 : Int) (i : Nat) (w : World) (h : Sl w a n d) (hn : n ≤ 1024) (hn0 : 1 ≤ n) (h0 : 0 ≤ a1) (h1 : a1 ≤ 65535) (hs : a1 % (n : Int) = i) (hi : i < n) :
    Calls Ycxm.prog 12 #[.slice a n cap, .int .u16 a1] w fun e w' => e = .returned (.bool true) ∧ Below w.heap.size w w' := by
  have hnz : ((n : Int) == 0) = false := by simp; omega
  go_enter Ycxm.func12, Ycxm.ntmps12
  go_wp2_with fail
  refine (dcopy_any a n cap d _ h (by omega)).mono ?_
  rintro e w1 ⟨rfl, how1, hb1⟩
  obtain ⟨b, hb⟩ : ∃ b, b = w.heap.size := ⟨_, rfl⟩
  rw [← hb] at how1 ⊢
  have HB : Hid (b = w.heap.size) := hb
  clear hb
  go_wp2_with fail
  rw [hs]
  clear hs h0 h1
  refine (siftDown_any b n n n i d _ how1 (Nat.le_refl _) (.inl hi) (by omega)).mono ?_
  rintro e1 w2 ⟨rfl, how2, hfr2⟩
  have hbl2 := hb1.trans (hfr2.to_below hb1.size (fun x hx => by have := HB.out; omega))
  obtain ⟨R, hR⟩ : ∃ R, R = (sd n n d i).2 := ⟨_, rfl⟩
  obtain ⟨D, hD⟩ : ∃ D, D = (sd n n d i).1 := ⟨_, rfl⟩
  rw [← hD] at how2
  rw [← hR]
  have HR : Hid (R = (sd n n d i).2) := hR
  have HD : Hid (D = (sd n n d i).1) := hD
  have hRn : R < n := by rw [hR]; exact sd_lt n n d i hi
  clear hR hD how1 hfr2 hb1
  go_wp2_with fail
  refine (dcopy_any a n cap d _ (h.below hbl2 (Nat.le_refl _)) (by omega)).mono ?_
  rintro e w3 ⟨rfl, how3, hb3⟩
  obtain ⟨b2, hb2⟩ : ∃ b2, b2 = w2.heap.size := ⟨_, rfl⟩
  have hbb : b < b2 := by rw [hb2]; exact how2.lt
  rw [← hb2] at how3 ⊢
  have HB2 : Hid (w.heap.size ≤ b2) := by rw [hb2]; exact hbl2.size
  have how4 := how2.below hb3 how2.lt
  have hbl3 := hbl2.trans (hb3.mono hbl2.size)
  clear hb2 hb3 hbl2 how2
  obtain ⟨ab, off, ha, hc⟩ := h.below hbl3 (Nat.le_refl _)
  obtain ⟨rfl, hbw⟩ := ha (by omega)
  have c0 := (hc i hi).1
  have c1 := (hc i hi).2
  clear hc ha
  have hb23 : b2 < w3.heap.size := how3.lt
  have hbl4 := fun o => hbl3.alloc hbl3.size o
  have how5 := fun o => how4.alloc o
  have how6 := fun o => how3.alloc o
  obtain ⟨x, hx⟩ : ∃ x, x = d i := ⟨_, rfl⟩
  rw [← hx] at c0 c1
  have HX : Hid (x = d i) := hx
  clear hx
  go_wp2_with fail
  refine (dnext_any (some ⟨ab, off, none⟩) n cap d x i _ (h.below (hbl4 _) (Nat.le_refl _)) hn (by omega)).mono ?_
  rintro e w5 ⟨rfl, hb5⟩
  have hb5 := hb5.mono (B' := w3.heap.size + 1) (by simp)
  have how7 := (how5 (.cells #[.int .i64 x.1, .int .u32 x.2] 25)).below hb5 (by omega)
  have how8 := (how6 (.cells #[.int .i64 x.1, .int .u32 x.2] 25)).below hb5 (by omega)
  have hbl5 := (hbl4 (.cells #[.int .i64 x.1, .int .u32 x.2] 25)).trans (hb5.mono (by have := hbl3.size; omega))
  have x0 : w5.cell? ⟨w3.heap.size, 0, none⟩ = some (.int .i64 x.1) := (hb5.cell (p := ⟨w3.heap.size, 0, none⟩) (by simp)).trans (by go_simp)
  have x1 : w5.cell? ⟨w3.heap.size, 1, none⟩ = some (.int .u32 x.2) := (hb5.cell (p := ⟨w3.heap.size, 1, none⟩) (by simp)).trans (by go_simp)
  have hz5 : w3.heap.size < w5.heap.size := by have := hb5.size; simp at this; omega
  obtain ⟨bx, hbx⟩ : ∃ bx, bx = w3.heap.size := ⟨_, rfl⟩
  have hbx2 : b2 < bx := by omega
  rw [← hbx] at x0 x1 hz5 ⊢
  clear how5 how6 how4 how3 hbl4 hbl3 hb5 c0 c1 hbw hbx hb23
  go_wp2
  go_loopw [11, 12] (fun u v wr => ∃ (j m f : Nat) (W : Nat → It), j < n ∧ n ≤ j + f ∧ u = .int .i64 j ∧ v = .int .i64 m ∧ Own wr b n D ∧ Own wr b2 n W ∧ Below w.heap.size w wr ∧ bx < wr.heap.size ∧
      wr.cell? ⟨bx, 0, none⟩ = some (.int .i64 x.1) ∧ wr.cell? ⟨bx, 1, none⟩ = some (.int .u32 x.2) ∧ Hid (m = (nxs n d x j 2).1) ∧ Hid (∀ k, j < k → W k = d k) ∧ Hid (sd n f (upd W j x) j = sd n n d i)) (fun u _ _ => n - (intOf u).toNat)
  case atStart => exact ⟨i, _, n, d, hi, by omega, rfl, rfl, how7, how8, hbl5, hz5, x0, x1, rfl, fun _ _ => rfl, by rw [HX.out, upd_self]; rfl⟩
  case round =>
    clear how7 how8 hbl5 hz5 x0 x1
    obtain ⟨j, m, f, W, hj, hf, rfl, rfl, howD, howW, hbl, hz, x0, x1, HM, HW, HS⟩ := hrel
    by_cases hjm : j < m
    · obtain ⟨g1, g2, g3, g4⟩ := hole_go (f := f - 1) HW.out HM.out hjm
      rw [(by omega : f - 1 + 1 = f), HS.out] at g1
      have HG : Hid (sd n n d i = sd n (f - 1) (upd (upd W j (d m)) m x) m) := g1
      clear g1
      obtain ⟨ab', off', ha', hc'⟩ := h.below hbl (Nat.le_refl _)
      obtain ⟨hae, hbw'⟩ := ha' (by omega)
      obtain ⟨rfl, rfl⟩ : ab = ab' ∧ off = off' := by simpa using hae
      have c0 := (hc' m g3).1
      have c1 := (hc' m g3).2
      clear hc' ha' hae
      have k0 := howW.c0 hj
      have k1 := howW.c1 hj
      have kf := howW.fz
      have howW2 := howW.set j (d m)
      have howD2 := (howD.setOther (a := ⟨b2, j * 2, none⟩) (by show b ≠ b2; omega) (.int .i64 (d m).1)).setOther (a := ⟨b2, j * 2 + 1, none⟩) (by show b ≠ b2; omega) (.int .u32 (d m).2)
      have hbl2 := (hbl.setCell (p := ⟨b2, j * 2, none⟩) HB2.out (.int .i64 (d m).1)).setCell (p := ⟨b2, j * 2 + 1, none⟩) HB2.out (.int .u32 (d m).2)
      have y0 : ((wr.setCell ⟨b2, j * 2, none⟩ (.int .i64 (d m).1)).setCell ⟨b2, j * 2 + 1, none⟩ (.int .u32 (d m).2)).cell? ⟨bx, 0, none⟩ = some (.int .i64 x.1) := by
        rw [World.cell?_of_block (Below.heap_setCell _ _ _ _ (by show bx ≠ b2; omega)), World.cell?_of_block (Below.heap_setCell _ _ _ _ (by show bx ≠ b2; omega))]; exact x0
      have y1 : ((wr.setCell ⟨b2, j * 2, none⟩ (.int .i64 (d m).1)).setCell ⟨b2, j * 2 + 1, none⟩ (.int .u32 (d m).2)).cell? ⟨bx, 1, none⟩ = some (.int .u32 x.2) := by
        rw [World.cell?_of_block (Below.heap_setCell _ _ _ _ (by show bx ≠ b2; omega)), World.cell?_of_block (Below.heap_setCell _ _ _ _ (by show bx ≠ b2; omega))]; exact x1
      have hz2 : bx < ((wr.setCell ⟨b2, j * 2, none⟩ (.int .i64 (d m).1)).setCell ⟨b2, j * 2 + 1, none⟩ (.int .u32 (d m).2)).heap.size := by simpa [World.setCell] using hz
      clear howD howW hbl x0 x1 hz
      go_wp2_with fail
      refine (dnext_any (some ⟨ab, off, none⟩) n cap d x m _ (h.below hbl2 (Nat.le_refl _)) hn (by omega)).mono ?_
      rintro e w6 ⟨rfl, hb6⟩
      have q1 := howD2.below hb6 howD2.lt
      have q2 := howW2.below hb6 howW2.lt
      have q3 := hbl2.trans (hb6.mono hbl2.size)
      have q4 := Nat.lt_of_lt_of_le hz2 hb6.size
      have q5 := (hb6.cell (p := ⟨bx, 0, none⟩) hz2).trans y0
      have q6 := (hb6.cell (p := ⟨bx, 1, none⟩) hz2).trans y1
      clear howD2 howW2 hbl2 hz2 y0 y1 hb6 k0 k1 kf c0 c1
      go_wp2
      go_roundw
      case rel =>
        refine ⟨m, _, f - 1, _, g3, by omega, rfl, rfl, q1, q2, q3, q4, q5, q6, rfl, fun k hk => ?_, HG.out.symm⟩
        rw [upd_other W _ (by omega)]; exact HW.out k (by omega)
      case measure => simp [intOf]; omega
    · have hst := hole_stop (f := f) HW.out HM.out hjm
      rw [HS.out] at hst
      have e1 : R = j := by rw [HR.out, hst]
      have e2 : D = upd W j x := by rw [HD.out, hst]
      subst e1 e2
      have howW2 := howW.set R x
      have howD2 := (howD.setOther (a := ⟨b2, R * 2, none⟩) (by show b ≠ b2; omega) (.int .i64 x.1)).setOther (a := ⟨b2, R * 2 + 1, none⟩) (by show b ≠ b2; omega) (.int .u32 x.2)
      have hbl2 := (hbl.setCell (p := ⟨b2, R * 2, none⟩) HB2.out (.int .i64 x.1)).setCell (p := ⟨b2, R * 2 + 1, none⟩) HB2.out (.int .u32 x.2)
      have k0 := howW.c0 hj
      have k1 := howW.c1 hj
      have kf := howW.fz
      clear howD howW hbl hst HS HM HW HR HD HX
      go_wp2
      go_loopw [13] (fun u wr => ∃ (k : Nat), k ≤ n ∧ u = .int .i64 k ∧ Own wr b n (upd W R x) ∧ Own wr b2 n (upd W R x) ∧ Below w.heap.size w wr) (fun u _ => n - (intOf u).toNat)
      case atStart => exact ⟨0, Nat.zero_le _, rfl, howD2, howW2, hbl2⟩
      case round =>
        clear howD2 howW2 hbl2 k0 k1 kf x0 x1 hz
        obtain ⟨k, hk, rfl, o1, o2, hbl⟩ := hrel
        by_cases hlt : k < n
        · have c0 := cell_regrown (o1.c0 hlt)
          have c1 := cell_regrown (o1.c1 hlt)
          have c2 := cell_regrown (o2.c0 hlt)
          have c3 := cell_regrown (o2.c1 hlt)
          go_wp2
          refine wp_region_below (by kernel_rfl) (by kernel_rfl) ?_
          repeat (go_big_quiet_step (fail))
          refine wpQuiet_nil ?_
          intro w8 hb8
          have p1 := o1.below hb8 o1.lt
          have p2 := o2.below hb8 o2.lt
          have p3 := hbl.trans (hb8.mono hbl.size)
          clear c0 c1 c2 c3 o1 o2 hbl hb8
          go_wp2
          go_roundw
          case rel => exact ⟨k + 1, by omega, by go_num, p1, p2, p3⟩
          case measure => simp [intOf]; omega
        · go_wp2
          go_ret
          exact ⟨rfl, hbl⟩

theorem walk (a : Option Addr) (n cap : Nat) (d : Nat → It) (a1 : Int) (w : World) (h : Sl w a n d) (hn : n ≤ maxLen) (w1 : (Lit.int .u16 a1).wf = true) :
    Calls Ycxm.prog 12 #[.slice a n cap, .int .u16 a1] w fun e w' => e = .returned (.bool true) ∧ Below w.heap.size w w' := by
  have hb := bd_u16 w1
  by_cases hs : n ≤ 1024
  · by_cases h0 : n = 0
    · subst h0
      exact walk_none a cap d a1 w h
    · have h2 : 0 ≤ a1 % (n : Int) := Int.emod_nonneg _ (by omega)
      have h3 : a1 % (n : Int) < (n : Int) := Int.emod_lt_of_pos _ (by omega)
      exact walk_main a n cap d a1 (a1 % (n : Int)).toNat w h hs (by omega) hb.1 hb.2 (by omega) (by omega)
  · exact walk_long a n cap a1 w hs hn
end Go.Proofs.Ymbrcx.lawS930008DExact
