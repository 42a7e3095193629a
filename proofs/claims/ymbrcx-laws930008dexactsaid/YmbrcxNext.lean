/- zzs930008dnext (seat Ymbrcx): the first smallest among x and the children of j. -/
import Derived.Test.YmbrcxBefore
namespace Go.Proofs.Ymbrcx
open Go.RowKit Go.Sort

def nxs (n : Nat) (d : Nat → It) (x : It) (j : Nat) : Nat → Nat × It
  | 0 => (j, x)
  | t + 1 => if 2 * j + 1 + t < n ∧ lt (d (2 * j + 1 + t)) (nxs n d x j t).2 = true then (2 * j + 1 + t, d (2 * j + 1 + t)) else nxs n d x j t
theorem nxs_hit {n : Nat} {d : Nat → It} {x : It} {j t : Nat} (h : 2 * j + 1 + t < n) (hl : lt (d (2 * j + 1 + t)) (nxs n d x j t).2 = true) : nxs n d x j (t + 1) = (2 * j + 1 + t, d (2 * j + 1 + t)) := by
  show (if _ then _ else _) = _
  rw [if_pos ⟨h, hl⟩]
theorem nxs_miss {n : Nat} {d : Nat → It} {x : It} {j t : Nat} (h : ¬ 2 * j + 1 + t < n ∨ lt (d (2 * j + 1 + t)) (nxs n d x j t).2 = false) : nxs n d x j (t + 1) = nxs n d x j t := by
  show (if _ then _ else _) = _
  rw [if_neg]
  rintro ⟨h1, h2⟩
  rcases h with h | h
  · exact h h1
  · rw [h] at h2; cases h2
theorem nxs_end {n : Nat} {d : Nat → It} {x : It} {j t : Nat} (ht : t ≤ 2) (h : t = 2 ∨ ¬ 2 * j + 1 + t < n) : nxs n d x j t = nxs n d x j 2 := by
  rcases h with h | h
  · rw [h]
  · have : t = 0 ∨ t = 1 ∨ t = 2 := by omega
    rcases this with rfl | rfl | rfl
    · rw [nxs_miss (t := 1) (.inl (by omega)), nxs_miss (t := 0) (.inl h)]
    · rw [nxs_miss (t := 1) (.inl h)]
    · rfl

set_option maxHeartbeats 1000000 in
theorem dnext_any (a : Option Addr) (n cap : Nat) (d : Nat → It) (x : It) (j : Nat) (w : World) (h : Sl w a n d) (hn : n ≤ 1024) (hj : j ≤ 1024) :
    Calls Ycxm.prog 25 #[.slice a n cap, .agg #[.int .i64 x.1, .int .u32 x.2], .int .i64 j] w fun e w' => e = .returned (.int .i64 (nxs n d x j 2).1) ∧ Below w.heap.size w w' := by
  go_enter Ycxm.func25, Ycxm.ntmps25
  go_wp2
  go_loopw [7, 9] (fun m c wr => ∃ t : Nat, t ≤ 2 ∧ m = .int .i64 (nxs n d x j t).1 ∧ c = .int .i64 ((2 * j + 1 + t : Nat) : Int) ∧ Below w.heap.size w wr ∧ w.heap.size + 1 < wr.heap.size ∧
      wr.cell? ⟨w.heap.size + 1, 0, none⟩ = some (.int .i64 (nxs n d x j t).2.1) ∧ wr.cell? ⟨w.heap.size + 1, 1, none⟩ = some (.int .u32 (nxs n d x j t).2.2) ∧
      wr.frozen? ⟨w.heap.size + 1, 0, none⟩ = false ∧ wr.frozen? ⟨w.heap.size + 1, 1, none⟩ = false) (fun _ c _ => 2 * j + 3 - (intOf c).toNat)
  case atStart => exact ⟨0, by omega, rfl, by go_num, ((Below.refl _ _).alloc (Nat.le_refl _) _).alloc (by simp) _, by simp, by go_simp; rfl, by go_simp; rfl, by go_simp, by go_simp⟩
  case round =>
    obtain ⟨t, ht, rfl, rfl, hb, hz, g0, g1, f0, f1⟩ := hrel
    obtain ⟨y, hy⟩ : ∃ y, y = (nxs n d x j t).2 := ⟨_, rfl⟩
    obtain ⟨m, hmm⟩ : ∃ m, m = (nxs n d x j t).1 := ⟨_, rfl⟩
    obtain ⟨c, hc⟩ : ∃ c, c = 2 * j + 1 + t := ⟨_, rfl⟩
    rw [← hy] at g0 g1
    rw [← hc, ← hmm]
    have HY : Hid (y = (nxs n d x j t).2) := hy
    have HM : Hid (m = (nxs n d x j t).1) := hmm
    have HC : Hid (c = 2 * j + 1 + t) := hc
    have hc1 : 2 * j + 1 ≤ c := by omega
    have hc2 : c ≤ 2 * j + 3 := by omega
    have hmj : m ≤ 3000 := by
      have hcs : t = 0 ∨ t = 1 ∨ t = 2 := by omega
      rw [hmm]
      rcases hcs with rfl | rfl | rfl
      · show j ≤ _; omega
      · show (if _ then _ else _ : Nat × It).1 ≤ _; split
        · show 2 * j + 1 + 0 ≤ _; omega
        · show j ≤ _; omega
      · show (if _ then _ else _ : Nat × It).1 ≤ _; split
        · show 2 * j + 1 + 1 ≤ _; omega
        · show (if _ then _ else _ : Nat × It).1 ≤ _; split
          · show 2 * j + 1 + 0 ≤ _; omega
          · show j ≤ _; omega
    by_cases hg : c ≤ 2 * j + 2 ∧ c < n
    · obtain ⟨hg1, hg2⟩ := hg
      have ht2 : t + 1 ≤ 2 := by omega
      obtain ⟨b, off, ha, hcc⟩ := h.below hb (Nat.le_refl _)
      obtain ⟨rfl, hbw⟩ := ha (by omega)
      have hbs := hcc c hg2
      have c0 := cell_regrown hbs.1
      have c1 := cell_regrown hbs.2
      have c2 := cell_regrown g0
      have c3 := cell_regrown g1
      clear hcc ha hbs hc hy hmm
      go_wp2
      refine wp_region_below (by kernel_rfl) (by kernel_rfl) ?_
      repeat (go_big_quiet_step (exact Calls.regrown_of (dless_any _ _ _)))
      refine wpQuiet_nil ?_
      intro w1 hb1
      have k0 := c0
      clear c0 c1 c2 c3 k0
      have e0 := (hb1.cell (p := ⟨w.heap.size + 1, 0, none⟩) hz).trans g0
      have e1 := (hb1.cell (p := ⟨w.heap.size + 1, 1, none⟩) hz).trans g1
      have f2 := (hb1.frozen (p := ⟨w.heap.size + 1, 0, none⟩) hz).trans f0
      have f3 := (hb1.frozen (p := ⟨w.heap.size + 1, 1, none⟩) hz).trans f1
      have hz1 : w.heap.size + 1 < w1.heap.size := Nat.lt_of_lt_of_le hz hb1.size
      have hb2 := hb.trans (hb1.mono hb.size)
      have hs2 := h.below hb2 (Nat.le_refl _)
      clear g0 g1 f0 f1 hz hb hb1
      cases hl : lt (d c) y
      · have E : nxs n d x j (t + 1) = nxs n d x j t := nxs_miss (.inr (by rw [← HC.out, ← HY.out]; exact hl))
        have HE : Hid (nxs n d x j (t + 1) = nxs n d x j t) := E
        clear E hs2
        go_wp2
        go_roundw
        case rel =>
          refine ⟨t + 1, ht2, by rw [HE.out, ← HM.out], by rw [HC.out]; go_num, hb2, hz1, by rw [HE.out, ← HY.out]; exact e0, by rw [HE.out, ← HY.out]; exact e1, f2, f3⟩
        case measure => simp [intOf]; omega
      · have E : nxs n d x j (t + 1) = (c, d c) := by rw [HC.out]; exact nxs_hit (by rw [← HC.out]; exact hg2) (by rw [← HC.out, ← HY.out]; exact hl)
        have HE : Hid (nxs n d x j (t + 1) = (c, d c)) := E
        clear E
        obtain ⟨b', off', ha', hcc'⟩ := hs2
        obtain ⟨hae, hbw'⟩ := ha' (by omega)
        obtain ⟨rfl, rfl⟩ : b' = b ∧ off' = off := by simpa using hae.symm
        have c0 := (hcc' c hg2).1
        have c1 := (hcc' c hg2).2
        clear hcc' ha' hae
        go_wp2
        go_roundw
        case rel =>
          refine ⟨t + 1, ht2, by rw [HE.out], by rw [HC.out]; go_num, (hb2.setCell (by show w.heap.size ≤ w.heap.size + 1; omega) _).setCell (by show w.heap.size ≤ w.heap.size + 1; omega) _, by simpa [World.setCell] using hz1, ?_, ?_, ?_, ?_⟩
          · rw [HE.out]; go_simp
          · rw [HE.out]; go_simp
          · go_simp
          · go_simp
        case measure => simp [intOf]; omega
    · have E : nxs n d x j t = nxs n d x j 2 := nxs_end ht (by omega)
      rw [E] at hmm
      have HM2 : Hid (m = (nxs n d x j 2).1) := hmm
      clear hmm hc hy E HM HC HY
      by_cases hg1 : c ≤ 2 * j + 2
      · have hg2 : ¬ c < n := fun h => hg ⟨hg1, h⟩
        clear hg
        go_wp2
        go_ret
        exact ⟨by rw [← HM2.out]; rfl, hb⟩
      · clear hg
        go_wp2
        go_ret
        exact ⟨by rw [← HM2.out]; rfl, hb⟩
end Go.Proofs.Ymbrcx
