/- zzs930008binsort (seat Ymbrcx): a plain insertion sort. -/
import Derived.Test.YmbrcxBefore
import Derived.Test.YmbrcxSrt
namespace Go.Proofs.Ymbrcx
open Go.RowKit Go.Sort

/-- the first i items are sorted and are those of d; x is being put in, the hole stands at j (so far the places above j up to i hold what was one place below, all of them after x) -/
structure Hole (d : Nat → It) (i j : Nat) (r : Nat → It) (x : It) : Prop where
  lo : ∀ k, 1 ≤ k → k < j → lt (r k) (r (k - 1)) = false
  hi : ∀ k, j + 2 ≤ k → k ≤ i → lt (r k) (r (k - 1)) = false
  ov : ∀ k, j < k → k ≤ i → lt x (r k) = true
  mid : 1 ≤ j → j < i → lt (r (j + 1)) (r (j - 1)) = false
  cnt : ∀ f, cn f (upd r j x) (i + 1) = cn f d (i + 1)
theorem Hole.step {d : Nat → It} {i j : Nat} {r : Nat → It} {x : It} (h : Hole d i (j + 1) r x) (hj : j + 1 ≤ i) (hl : lt x (r j) = true) : Hole d i j (upd r (j + 1) (r j)) x := by
  refine ⟨fun k a b => ?_, fun k a b => ?_, fun k a b => ?_, fun a b => ?_, fun f => ?_⟩
  · rw [upd_other r _ (by omega), upd_other r _ (by omega)]; exact h.lo k a (by omega)
  · by_cases e : k = j + 2
    · subst e
      rw [upd_other r _ (by omega), (by omega : j + 2 - 1 = j + 1), upd_same]
      have := h.mid (by omega) (by omega)
      rwa [Nat.add_sub_cancel] at this
    · rw [upd_other r _ (by omega), upd_other r _ (by omega)]; exact h.hi k (by omega) b
  · by_cases e : k = j + 1
    · subst e; rw [upd_same]; exact hl
    · rw [upd_other r _ e]; exact h.ov k (by omega) b
  · rw [upd_same, upd_other r _ (by omega)]; exact h.lo j a (by omega)
  · rw [← h.cnt f]
    have h1 := cn_upd f (upd r (j + 1) (r j)) j x (i + 1) (by omega)
    have h2 := cn_upd f r (j + 1) (r j) (i + 1) (by omega)
    have h3 := cn_upd f r (j + 1) x (i + 1) (by omega)
    rw [upd_other r _ (by omega : j ≠ j + 1)] at h1
    omega
theorem Hole.done {d : Nat → It} {i j : Nat} {r : Nat → It} {x : It} (h : Hole d i j r x) (hj : j ≤ i) (hl : j = 0 ∨ lt x (r (j - 1)) = false) : Srt (i + 1) (upd r j x) := by
  intro k a b
  by_cases e1 : k = j
  · subst e1
    rw [upd_same, upd_other r _ (by omega)]
    rcases hl with hl | hl
    · omega
    · exact hl
  · by_cases e2 : k = j + 1
    · subst e2
      rw [upd_other r _ (by omega), Nat.add_sub_cancel, upd_same]
      exact lt_asymm (h.ov (j + 1) (by omega) (by omega))
    · rw [upd_other r _ e1, upd_other r _ (by omega)]
      by_cases e3 : k < j
      · exact h.lo k a e3
      · exact h.hi k (by omega) (by omega)
theorem hole_start {d r : Nat → It} {i : Nat} (hS : Srt i r) (hc : ∀ f, cn f r i = cn f d i) : Hole d i i r (d i) :=
  ⟨fun k a b => hS k a b, fun k a b => by omega, fun k a b => by omega, fun a b => by omega, fun f => by
    show cn f (upd r i (d i)) i + _ = cn f d i + _
    rw [upd_same, cn_upd_out f r i _ i (Nat.le_refl _), hc f]⟩

set_option maxHeartbeats 4000000 in
theorem binsort_any (a : Option Addr) (n cap : Nat) (d : Nat → It) (w : World) (h : Sl w a n d) (hn : n ≤ 1024) :
    Calls Ycxm.prog 16 #[.slice a n cap] w fun e w' => ∃ o, e = .returned (.slice (some ⟨w.heap.size, 0, none⟩) n n) ∧ Own w' w.heap.size n o ∧ Srt n o ∧ Same n o d ∧ Below w.heap.size w w' := by
  have hmk := run_mk n (by omega)
  have how := own_made w n
  have hb0 : Below w.heap.size w (w.alloc (.cells (madeCells #[.int .i64 0, .int .u32 0] (n * 2)) 25)) := (Below.refl _ _).alloc (Nat.le_refl _) _
  obtain ⟨b, hb⟩ : ∃ b, b = w.heap.size := ⟨_, rfl⟩
  go_enter Ycxm.func16, Ycxm.ntmps16
  go_wp2
  rw [← hb] at how ⊢
  have HB : Hid (b = w.heap.size) := hb
  clear hb hmk
  go_loopw [4] (fun u wr => ∃ (i : Nat) (r : Nat → It), i ≤ n ∧ u = .int .i64 i ∧ Own wr b n r ∧ Below w.heap.size w wr ∧ Hid (Srt i r ∧ ∀ f, cn f r i = cn f d i)) (fun u _ => n - (intOf u).toNat)
  case atStart => exact ⟨0, _, Nat.zero_le _, rfl, how, hb0, ⟨fun k a b => by omega, fun _ => rfl⟩⟩
  case round =>
    clear how hb0
    obtain ⟨i, r, hi, rfl, how, hbl, HS⟩ := hrel
    by_cases hlt : i < n
    · obtain ⟨ab, off, ha, hc⟩ := h.below hbl (Nat.le_refl _)
      obtain ⟨rfl, hbw⟩ := ha (by omega)
      have c0 := (hc i hlt).1
      have c1 := (hc i hlt).2
      clear hc ha
      have HH : Hid (Hole d i i r (d i)) := hole_start HS.out.1 HS.out.2
      obtain ⟨x, hx⟩ : ∃ x, x = d i := ⟨_, rfl⟩
      rw [← hx] at c0 c1 HH
      clear hx HS
      have how2 := how.alloc (.cells #[.int .i64 x.1, .int .u32 x.2] 25)
      have hbl2 := hbl.alloc hbl.size (.cells #[.int .i64 x.1, .int .u32 x.2] 25)
      have x0 : (wr.alloc (.cells #[.int .i64 x.1, .int .u32 x.2] 25)).cell? ⟨wr.heap.size, 0, none⟩ = some (.int .i64 x.1) := by go_simp
      have x1 : (wr.alloc (.cells #[.int .i64 x.1, .int .u32 x.2] 25)).cell? ⟨wr.heap.size, 1, none⟩ = some (.int .u32 x.2) := by go_simp
      have hbx := how.lt
      have hxz : wr.heap.size < (wr.alloc (.cells #[.int .i64 x.1, .int .u32 x.2] 25)).heap.size := by simp
      go_wp2
      obtain ⟨bx, hbxe⟩ : ∃ bx, bx = wr.heap.size := ⟨_, rfl⟩
      rw [← hbxe] at x0 x1 hbx hxz ⊢
      clear hbxe c0 c1 hbw how hbl
      go_loopw [6] (fun u wr => ∃ (j : Nat) (r : Nat → It), j ≤ i ∧ u = .int .i64 j ∧ Own wr b n r ∧ Below w.heap.size w wr ∧ wr.cell? ⟨bx, 0, none⟩ = some (.int .i64 x.1) ∧ wr.cell? ⟨bx, 1, none⟩ = some (.int .u32 x.2) ∧ bx < wr.heap.size ∧ Hid (Hole d i j r x)) (fun u _ => (intOf u).toNat)
      case atStart => exact ⟨i, r, Nat.le_refl _, rfl, how2, hbl2, x0, x1, hxz, HH⟩
      case round =>
        clear how2 hbl2 x0 x1 hxz HH
        rename_i wr0 _ _
        clear r
        obtain ⟨j, r, hj, rfl, how, hbl, x0, x1, hxz, HH⟩ := hrel
        cases j with
        | succ j =>
          have ej : (((j + 1 : Nat) : Int)) = (j : Int) + 1 := by omega
          rw [ej]
          have c0 := cell_regrown x0
          have c1 := cell_regrown x1
          have c2 := cell_regrown (how.c0 (k := j) (by omega))
          have c3 := cell_regrown (how.c1 (k := j) (by omega))
          have hg : 0 < (j : Int) + 1 := by omega
          clear ej
          go_wp2
          refine wp_region_below (by kernel_rfl) (by kernel_rfl) ?_
          repeat (go_big_quiet_step (exact Calls.regrown_of (bbefore_any _ _ _)))
          refine wpQuiet_nil ?_
          intro w2 hb2
          have how2 := how.below hb2 how.lt
          have hbl2 := hbl.trans (hb2.mono hbl.size)
          have y0 := (hb2.cell (p := ⟨bx, 0, none⟩) hxz).trans x0
          have y1 := (hb2.cell (p := ⟨bx, 1, none⟩) hxz).trans x1
          have hyz := Nat.lt_of_lt_of_le hxz hb2.size
          clear c0 c1 c2 c3 how hbl x0 x1 hxz hb2
          cases hl : lt x (r j)
          · have HD : Hid (Srt (i + 1) (upd r (j + 1) x) ∧ ∀ f, cn f (upd r (j + 1) x) (i + 1) = cn f d (i + 1)) := ⟨HH.out.done hj (.inr (by rw [Nat.add_sub_cancel]; exact hl)), HH.out.cnt⟩
            have k0 := how2.c0 (k := j + 1) (by omega)
            have k1 := how2.c1 (k := j + 1) (by omega)
            have kf := how2.fz
            have how3 := how2.set (j + 1) x
            have hbl3 := (hbl2.setCell (p := ⟨b, (j + 1) * 2, none⟩) (by rw [← HB.out]; exact Nat.le_refl _) (.int .i64 x.1)).setCell (p := ⟨b, (j + 1) * 2 + 1, none⟩) (by rw [← HB.out]; exact Nat.le_refl _) (.int .u32 x.2)
            clear HH
            go_wp2
            go_roundw
            case rel => exact ⟨i + 1, _, by omega, by go_num, how3, hbl3, HD⟩
            case measure => simp [intOf]; omega
          · have HD : Hid (Hole d i j (upd r (j + 1) (r j)) x) := HH.out.step hj hl
            have k0 := how2.c0 (k := j + 1) (by omega)
            have k1 := how2.c1 (k := j + 1) (by omega)
            have k2 := how2.c0 (k := j) (by omega)
            have k3 := how2.c1 (k := j) (by omega)
            have kf := how2.fz
            have how3 := how2.set (j + 1) (r j)
            have hbl3 := (hbl2.setCell (p := ⟨b, (j + 1) * 2, none⟩) (by rw [← HB.out]; exact Nat.le_refl _) (.int .i64 (r j).1)).setCell (p := ⟨b, (j + 1) * 2 + 1, none⟩) (by rw [← HB.out]; exact Nat.le_refl _) (.int .u32 (r j).2)
            have z0 : ((w2.setCell ⟨b, (j + 1) * 2, none⟩ (.int .i64 (r j).1)).setCell ⟨b, (j + 1) * 2 + 1, none⟩ (.int .u32 (r j).2)).cell? ⟨bx, 0, none⟩ = some (.int .i64 x.1) := by
              rw [World.cell?_of_block (Below.heap_setCell _ _ _ _ (by show bx ≠ b; omega)), World.cell?_of_block (Below.heap_setCell _ _ _ _ (by show bx ≠ b; omega))]; exact y0
            have z1 : ((w2.setCell ⟨b, (j + 1) * 2, none⟩ (.int .i64 (r j).1)).setCell ⟨b, (j + 1) * 2 + 1, none⟩ (.int .u32 (r j).2)).cell? ⟨bx, 1, none⟩ = some (.int .u32 x.2) := by
              rw [World.cell?_of_block (Below.heap_setCell _ _ _ _ (by show bx ≠ b; omega)), World.cell?_of_block (Below.heap_setCell _ _ _ _ (by show bx ≠ b; omega))]; exact y1
            have hzz : bx < ((w2.setCell ⟨b, (j + 1) * 2, none⟩ (.int .i64 (r j).1)).setCell ⟨b, (j + 1) * 2 + 1, none⟩ (.int .u32 (r j).2)).heap.size := by simpa [World.setCell] using hyz
            clear HH
            go_wp2
            go_roundw
            case rel => exact ⟨j, _, by omega, by go_num, how3, hbl3, z0, z1, hzz, HD⟩
            case measure => simp [intOf]
        | zero =>
          have HD : Hid (Srt (i + 1) (upd r 0 x) ∧ ∀ f, cn f (upd r 0 x) (i + 1) = cn f d (i + 1)) := ⟨HH.out.done hj (.inl rfl), HH.out.cnt⟩
          rw [(by rfl : (((0 : Nat) : Int)) = 0)]
          go_wp2
          refine wp_region_below (by kernel_rfl) (by kernel_rfl) ?_
          repeat (go_big_quiet_step (fail))
          refine wpQuiet_nil ?_
          intro w2 hb2
          have how2 := how.below hb2 how.lt
          have hbl2 := hbl.trans (hb2.mono hbl.size)
          have y0 := (hb2.cell (p := ⟨bx, 0, none⟩) hxz).trans x0
          have y1 := (hb2.cell (p := ⟨bx, 1, none⟩) hxz).trans x1
          have k0 := how2.c0 (k := 0) (by omega)
          have k1 := how2.c1 (k := 0) (by omega)
          have kf := how2.fz
          have how3 := how2.set 0 x
          simp only [Nat.zero_mul, Nat.zero_add] at k0 k1 how3
          have hbl3 := (hbl2.setCell (p := ⟨b, 0, none⟩) (by rw [← HB.out]; exact Nat.le_refl _) (.int .i64 x.1)).setCell (p := ⟨b, 1, none⟩) (by rw [← HB.out]; exact Nat.le_refl _) (.int .u32 x.2)
          clear HH how hbl x0 x1 hxz hb2
          go_wp2
          go_roundw
          case rel => exact ⟨i + 1, _, by omega, by go_num, how3, hbl3, HD⟩
          case measure => simp [intOf]; omega
    · have hin : n = i := by omega
      subst hin
      go_wp2
      go_ret
      exact ⟨r, by rw [← HB.out]; rfl, by rw [← HB.out]; exact how, HS.out.1, HS.out.2, hbl⟩
end Go.Proofs.Ymbrcx
