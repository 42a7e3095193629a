/- The walk of LawS930008FBreak (seat Ymbrcy): the Go text returns true, and writes nothing that was there. -/
import Derived.Test.YmbrcyBase
import Derived.Test.YmbrcyValid
import Derived.Test.YmbrcyBytes
namespace Go.Proofs.Ymbrcy.lawS930008FBreak
open Go.RowKit Go.Sort
set_option linter.unusedVariables false

/-- the first j + 1 items are laid: a heap, with bounds -/
structure Gr (P0 : Int) (j : Nat) (H : Nat → It) : Prop where
  heap : HeapFrom (j + 1) 0 H
  lo : ∀ i, i ≤ j → P0 ≤ (H i).1
  hi : ∀ i, i ≤ j → (H i).1 ≤ P0 + 2 * i
  lo2 : ∀ i, i ≤ j → 0 ≤ (H i).2
  hi2 : ∀ i, i ≤ j → (H i).2 ≤ 65535 + 2 * i
theorem Gr.step {P0 : Int} {j : Nat} {H : Nat → It} {x : It} (h : Gr P0 j H) (hl : lt x (H (j / 2)) = false) (h1 : P0 ≤ x.1) (h2 : x.1 ≤ P0 + 2 * ((j + 1 : Nat) : Int)) (h3 : 0 ≤ x.2) (h4 : x.2 ≤ 65535 + 2 * ((j + 1 : Nat) : Int)) : Gr P0 (j + 1) (upd H (j + 1) x) := by
  refine ⟨fun c a b _ => ?_, fun i hi => ?_, fun i hi => ?_, fun i hi => ?_, fun i hi => ?_⟩
  · by_cases e : c = j + 1
    · subst e
      rw [upd_same, Nat.add_sub_cancel, upd_other H x (by omega)]
      exact hl
    · rw [upd_other H x e, upd_other H x (by omega)]
      exact h.heap c a (by omega) (Nat.zero_le _)
  · by_cases e : i = j + 1
    · subst e; rw [upd_same]; exact h1
    · rw [upd_other H x e]; exact h.lo i (by omega)
  · by_cases e : i = j + 1
    · subst e; rw [upd_same]; exact h2
    · rw [upd_other H x e]; exact h.hi i (by omega)
  · by_cases e : i = j + 1
    · subst e; rw [upd_same]; exact h3
    · rw [upd_other H x e]; exact h.lo2 i (by omega)
  · by_cases e : i = j + 1
    · subst e; rw [upd_same]; exact h4
    · rw [upd_other H x e]; exact h.hi2 i (by omega)

set_option maxHeartbeats 2000000 in
theorem fgrow_any (P0 I0 : Int) (a : Option Addr) (n cap : Nat) (z : Nat → Int) (w : World) (hp0 : -2147483648 ≤ P0) (hp1 : P0 ≤ 2147483647) (hi0 : 0 ≤ I0) (hi1 : I0 ≤ 65535) (h : SlB w a n z) (hn : n ≤ 1024) :
    Calls Ycym.prog 21 #[.int .i32 P0, .int .u16 I0, .slice a n cap] w fun e w' => ∃ H, e = .returned (.slice (some ⟨w.heap.size, 0, none⟩) (n + 1) (n + 1)) ∧ Own w' w.heap.size (n + 1) H ∧ Below w.heap.size w w' ∧ Gr P0 n H := by
  have hmk := run_mk (n + 1) (by omega)
  rw [(by omega : ((n + 1 : Nat) : Int) = (n : Int) + 1)] at hmk
  have m0 : (madeCells #[.int .i64 0, .int .u32 0] ((n + 1) * 2))[0]? = some (.int .i64 0) := by simp [madeCells]
  have m1 : (madeCells #[.int .i64 0, .int .u32 0] ((n + 1) * 2))[1]? = some (.int .u32 0) := by
    have : 1 < (n + 1) * 2 := by omega
    simp [madeCells, this]
  have how0 := (own_made w (n + 1)).set 0 (P0, I0)
  rw [Nat.zero_mul, Nat.zero_add, World.setCell_alloc_at _ _ _ _ _ rfl, World.setCell_alloc_at _ _ _ _ _ rfl] at how0
  have hb0 : Below w.heap.size w (w.alloc (.cells (((madeCells #[.int .i64 0, .int .u32 0] ((n + 1) * 2)).setIfInBounds 0 (.int .i64 P0)).setIfInBounds 1 (.int .u32 I0)) 29)) := (Below.refl _ _).alloc (Nat.le_refl _) _
  have hg0 : Hid (Gr P0 0 (upd (fun _ => (0, 0)) 0 (P0, I0))) := by
    have e0 : upd (fun _ => ((0 : Int), (0 : Int))) 0 (P0, I0) 0 = (P0, I0) := upd_same _ _ _
    refine ⟨fun c x y _ => by omega, fun i hi => ?_, fun i hi => ?_, fun i hi => ?_, fun i hi => ?_⟩ <;>
      (have e1 : i = 0 := by omega
       subst e1
       rw [e0])
    · exact Int.le_refl _
    · show P0 ≤ _; omega
    · exact hi0
    · show I0 ≤ _; omega
  obtain ⟨b, hb⟩ : ∃ b, b = w.heap.size := ⟨_, rfl⟩
  go_enter Ycym.func21, Ycym.ntmps21
  go_wp2
  rw [← hb] at how0 ⊢
  have HB : Hid (w.heap.size ≤ b) := by rw [hb]; exact Nat.le_refl _
  have HBE : Hid (b = w.heap.size) := hb
  clear hb hmk m0 m1
  go_loopw [8] (fun u wr => ∃ (j : Nat) (H : Nat → It), j ≤ n ∧ u = .int .i64 j ∧ Own wr b (n + 1) H ∧ Below w.heap.size w wr ∧ Hid (Gr P0 j H)) (fun u _ => n - (intOf u).toNat)
  case atStart => exact ⟨0, _, Nat.zero_le _, rfl, how0, hb0, hg0⟩
  case round =>
    clear how0 hb0 hg0
    obtain ⟨j, H, hj, rfl, how, hbl, HG⟩ := hrel
    by_cases hlt : j < n
    · obtain ⟨_, ab, off, ha, hc⟩ := h.below hbl (Nat.le_refl _)
      obtain ⟨rfl, hbw⟩ := ha (by omega)
      obtain ⟨c0, hz0, hz1⟩ := hc j hlt
      obtain ⟨s, hs⟩ : ∃ s, s = z j := ⟨_, rfl⟩
      rw [← hs] at c0 hz0 hz1
      clear hc ha hs
      obtain ⟨q, hq⟩ : ∃ q, q = H (j / 2) := ⟨_, rfl⟩
      have k0 := how.c0 (k := j / 2) (by omega)
      have k1 := how.c1 (k := j / 2) (by omega)
      have q0 := HG.out.lo (j / 2) (by omega)
      have q1 := HG.out.hi (j / 2) (by omega)
      have q2 := HG.out.lo2 (j / 2) (by omega)
      have q3 := HG.out.hi2 (j / 2) (by omega)
      rw [← hq] at k0 k1 q0 q1 q2 q3
      have HQ : Hid (q = H (j / 2)) := hq
      clear hq
      have q4 : q.1 ≤ P0 + 2 * (j : Int) := by omega
      have q5 : q.2 ≤ 65535 + 2 * (j : Int) := by omega
      clear q1 q3
      have l0 := how.c0 (k := j + 1) (by omega)
      have l1 := how.c1 (k := j + 1) (by omega)
      have lf := how.fz
      have hbz := how.lt
      have t0 : 0 ≤ s / 3 % 3 := by omega
      have t1 : s / 3 % 3 ≤ 2 := by omega
      have hcs : s % 3 = 0 ∨ 1 ≤ s % 3 := by omega
      have t2 : s % 3 ≤ 2 := by omega
      rcases hcs with hm | hm
      · have t3 : (s % 3 == 0) = true := by rw [hm]; rfl
        clear hm
        have how2 := (how.set (j + 1) (q.1, q.2 + s / 3 % 3)).alloc (.cells #[.int .i64 q.1, .int .u32 q.2] 29)
        have hbl2 := ((hbl.setCell (p := ⟨b, (j + 1) * 2, none⟩) HB.out (.int .i64 (q.1))).setCell (p := ⟨b, (j + 1) * 2 + 1, none⟩) HB.out (.int .u32 (q.2 + s / 3 % 3))).alloc (by have := hbl.size; simp [World.setCell]; omega) (.cells #[.int .i64 q.1, .int .u32 q.2] 29)
        have HN : Hid (Gr P0 (j + 1) (upd H (j + 1) (q.1, q.2 + s / 3 % 3))) := HG.out.step (by rw [← HQ.out, lt_false]; right; exact ⟨rfl, by show q.2 ≤ q.2 + s / 3 % 3; omega⟩) (by show P0 ≤ q.1; omega) (by show q.1 ≤ _; omega) (by show 0 ≤ q.2 + s / 3 % 3; omega) (by show q.2 + s / 3 % 3 ≤ _; omega)
        clear how hbl HG
        go_wp2
        go_roundw
        case rel => exact ⟨j + 1, _, by omega, by go_num, how2, hbl2, HN⟩
        case measure => simp [intOf]; omega
      · have t3 : (s % 3 == 0) = false := by simp; omega
        have how2 := (how.set (j + 1) (q.1 + s % 3, s / 3 % 3)).alloc (.cells #[.int .i64 q.1, .int .u32 q.2] 29)
        have hbl2 := ((hbl.setCell (p := ⟨b, (j + 1) * 2, none⟩) HB.out (.int .i64 (q.1 + s % 3))).setCell (p := ⟨b, (j + 1) * 2 + 1, none⟩) HB.out (.int .u32 (s / 3 % 3))).alloc (by have := hbl.size; simp [World.setCell]; omega) (.cells #[.int .i64 q.1, .int .u32 q.2] 29)
        have HN : Hid (Gr P0 (j + 1) (upd H (j + 1) (q.1 + s % 3, s / 3 % 3))) := HG.out.step (by rw [← HQ.out, lt_false]; left; show q.1 < q.1 + s % 3; omega) (by show P0 ≤ q.1 + s % 3; omega) (by show q.1 + s % 3 ≤ _; omega) (by show 0 ≤ s / 3 % 3; omega) (by show s / 3 % 3 ≤ _; omega)
        clear how hbl HG
        go_wp2
        go_roundw
        case rel => exact ⟨j + 1, _, by omega, by go_num, how2, hbl2, HN⟩
        case measure => simp [intOf]; omega
    · have hjn : n = j := by omega
      subst hjn
      go_wp2
      go_ret
      exact ⟨H, by rw [← HBE.out]; rfl, by rw [← HBE.out]; exact how, hbl, HG.out⟩

theorem not_heap {n j : Nat} {H : Nat → It} {x : It} (hj : j < n) (hl : lt x (H (j / 2)) = true) : ¬ HeapFrom (n + 1) 0 (upd H (j + 1) x) := fun h => by
  have := h (j + 1) (by omega) (by omega) (Nat.zero_le _)
  rw [upd_same, Nat.add_sub_cancel, upd_other H x (by omega), hl] at this
  cases this

theorem walk_long (P0 I0 : Int) (a : Option Addr) (n cap : Nat) (a3 : Int) (byId : Bool) (w : World) (hn : ¬ n ≤ 1024) (hm : n ≤ maxLen) :
    Calls Ycym.prog 7 #[.int .i32 P0, .int .u16 I0, .slice a n cap, .int .u16 a3, .bool byId] w fun e w' => e = .returned (.bool true) ∧ Below w.heap.size w w' := by
  unfold maxLen at hm
  go_enter Ycym.func7, Ycym.ntmps7
  go_wp2
  go_ret
  exact ⟨rfl, Below.refl _ _⟩

set_option maxHeartbeats 2000000 in
theorem walk_none (P0 I0 : Int) (a : Option Addr) (cap : Nat) (z : Nat → Int) (a3 : Int) (byId : Bool) (w : World) (hp0 : -2147483648 ≤ P0) (hp1 : P0 ≤ 2147483647) (hi0 : 0 ≤ I0) (hi1 : I0 ≤ 65535) (h : SlB w a 0 z) :
    Calls Ycym.prog 7 #[.int .i32 P0, .int .u16 I0, .slice a 0 cap, .int .u16 a3, .bool byId] w fun e w' => e = .returned (.bool true) ∧ Below w.heap.size w w' := by
  go_enter Ycym.func7, Ycym.ntmps7
  go_wp2_with fail
  refine (fgrow_any P0 I0 a 0 cap z _ hp0 hp1 hi0 hi1 h (by omega)).mono ?_
  rintro e w1 ⟨H, rfl, how1, hb1, hG⟩
  have HG : Hid (Gr P0 0 H) := hG
  clear hG
  go_wp2_with fail
  refine (valid_any _ 1 1 H _ (how1.sl (Nat.le_refl _)) (by omega)).mono ?_
  rintro e w2 ⟨r, rfl, hr, hb2⟩
  obtain rfl : r = true := hr.2 HG.out.heap
  clear hr
  go_wp2
  go_ret
  exact ⟨rfl, hb1.trans (hb2.mono hb1.size)⟩

set_option maxHeartbeats 2000000 in
theorem walk_main (P0 I0 : Int) (a : Option Addr) (n cap : Nat) (z : Nat → Int) (a3 : Int) (byId : Bool) (j : Nat) (w : World) (hp0 : -2147483648 ≤ P0) (hp1 : P0 ≤ 2147483647) (hi0 : 0 ≤ I0) (hi1 : I0 ≤ 65535) (h : SlB w a n z) (hn : n ≤ 1024) (hn0 : 1 ≤ n)
    (h0 : 0 ≤ a3) (h1 : a3 ≤ 65535) (hs : a3 % (n : Int) = j) (hjn : j < n) :
    Calls Ycym.prog 7 #[.int .i32 P0, .int .u16 I0, .slice a n cap, .int .u16 a3, .bool byId] w fun e w' => e = .returned (.bool true) ∧ Below w.heap.size w w' := by
  have hnz : ((n : Int) == 0) = false := by simp; omega
  go_enter Ycym.func7, Ycym.ntmps7
  go_wp2_with fail
  refine (fgrow_any P0 I0 a n cap z _ hp0 hp1 hi0 hi1 h hn).mono ?_
  rintro e w1 ⟨H, rfl, how1, hb1, hG⟩
  have HG : Hid (Gr P0 n H) := hG
  clear hG
  obtain ⟨b, hb⟩ : ∃ b, b = w.heap.size := ⟨_, rfl⟩
  rw [← hb] at how1 ⊢
  have HB : Hid (w.heap.size ≤ b) := by rw [hb]; exact Nat.le_refl _
  clear hb
  go_wp2_with fail
  refine (valid_any _ (n + 1) (n + 1) H _ (how1.sl (Nat.le_refl _)) (by omega)).mono ?_
  rintro e w2 ⟨r, rfl, hr, hb2⟩
  obtain rfl : r = true := hr.2 HG.out.heap
  clear hr
  have how := how1.below hb2 how1.lt
  have hbl := hb1.trans (hb2.mono hb1.size)
  clear how1 hb1 hb2
  obtain ⟨q, hq⟩ : ∃ q, q = H (j / 2) := ⟨_, rfl⟩
  have k0 := how.c0 (k := j / 2) (by omega)
  have k1 := how.c1 (k := j / 2) (by omega)
  have q0 := HG.out.lo (j / 2) (by omega)
  have q1 := HG.out.hi (j / 2) (by omega)
  have q2 := HG.out.lo2 (j / 2) (by omega)
  have q3 := HG.out.hi2 (j / 2) (by omega)
  rw [← hq] at k0 k1 q0 q1 q2 q3
  have HQ : Hid (q = H (j / 2)) := hq
  clear hq
  have q4 : q.1 ≤ P0 + 2 * (j : Int) := by omega
  have q5 : q.2 ≤ 65535 + 2 * (j : Int) := by omega
  clear q1 q3 HG
  have l0 := how.c0 (k := j + 1) (by omega)
  have l1 := how.c1 (k := j + 1) (by omega)
  have lf := how.fz
  have hbz := how.lt
  cases byId
  · have how2 := (how.set (j + 1) (q.1 - 1, q.2)).alloc (.cells #[.int .i64 q.1, .int .u32 q.2] 29)
    have hbl2 := ((hbl.setCell (p := ⟨b, (j + 1) * 2, none⟩) HB.out (.int .i64 (q.1 - 1))).setCell (p := ⟨b, (j + 1) * 2 + 1, none⟩) HB.out (.int .u32 (q.2))).alloc (by have := hbl.size; simp [World.setCell]; omega) (.cells #[.int .i64 q.1, .int .u32 q.2] 29)
    have HN : Hid (¬ HeapFrom (n + 1) 0 (upd H (j + 1) (q.1 - 1, q.2))) := not_heap hjn (by rw [← HQ.out, lt_true]; left; show q.1 - 1 < q.1; omega)
    clear how hbl
    go_wp2_with fail
    refine (valid_any _ (n + 1) (n + 1) (upd H (j + 1) (q.1 - 1, q.2)) _ (how2.sl (Nat.le_refl _)) (by omega)).mono ?_
    rintro e w3 ⟨r, rfl, hr, hb3⟩
    obtain rfl : r = false := by
      cases r
      · rfl
      · exact absurd (hr.1 rfl) HN.out
    clear hr
    have hbl3 := hbl2.trans (hb3.mono hbl2.size)
    go_wp2
    go_ret
    exact ⟨rfl, hbl3⟩
  · by_cases hid : 0 < q.2
    · have how2 := (how.set (j + 1) (q.1, q.2 - 1)).alloc (.cells #[.int .i64 q.1, .int .u32 q.2] 29)
      have hbl2 := ((hbl.setCell (p := ⟨b, (j + 1) * 2, none⟩) HB.out (.int .i64 (q.1))).setCell (p := ⟨b, (j + 1) * 2 + 1, none⟩) HB.out (.int .u32 (q.2 - 1))).alloc (by have := hbl.size; simp [World.setCell]; omega) (.cells #[.int .i64 q.1, .int .u32 q.2] 29)
      have HN : Hid (¬ HeapFrom (n + 1) 0 (upd H (j + 1) (q.1, q.2 - 1))) := not_heap hjn (by rw [← HQ.out, lt_true]; right; exact ⟨rfl, by show q.2 - 1 < q.2; omega⟩)
      clear how hbl
      go_wp2_with fail
      refine (valid_any _ (n + 1) (n + 1) (upd H (j + 1) (q.1, q.2 - 1)) _ (how2.sl (Nat.le_refl _)) (by omega)).mono ?_
      rintro e w3 ⟨r, rfl, hr, hb3⟩
      obtain rfl : r = false := by
        cases r
        · rfl
        · exact absurd (hr.1 rfl) HN.out
      clear hr
      have hbl3 := hbl2.trans (hb3.mono hbl2.size)
      go_wp2
      go_ret
      exact ⟨rfl, hbl3⟩
    · have how2 := (how.set (j + 1) (q.1 - 1, q.2)).alloc (.cells #[.int .i64 q.1, .int .u32 q.2] 29)
      have hbl2 := ((hbl.setCell (p := ⟨b, (j + 1) * 2, none⟩) HB.out (.int .i64 (q.1 - 1))).setCell (p := ⟨b, (j + 1) * 2 + 1, none⟩) HB.out (.int .u32 (q.2))).alloc (by have := hbl.size; simp [World.setCell]; omega) (.cells #[.int .i64 q.1, .int .u32 q.2] 29)
      have HN : Hid (¬ HeapFrom (n + 1) 0 (upd H (j + 1) (q.1 - 1, q.2))) := not_heap hjn (by rw [← HQ.out, lt_true]; left; show q.1 - 1 < q.1; omega)
      clear how hbl
      go_wp2_with fail
      refine (valid_any _ (n + 1) (n + 1) (upd H (j + 1) (q.1 - 1, q.2)) _ (how2.sl (Nat.le_refl _)) (by omega)).mono ?_
      rintro e w3 ⟨r, rfl, hr, hb3⟩
      obtain rfl : r = false := by
        cases r
        · rfl
        · exact absurd (hr.1 rfl) HN.out
      clear hr
      have hbl3 := hbl2.trans (hb3.mono hbl2.size)
      go_wp2
      go_ret
      exact ⟨rfl, hbl3⟩

theorem walk (P0 I0 : Int) (a : Option Addr) (n cap : Nat) (z : Nat → Int) (a3 : Int) (byId : Bool) (w : World) (w0 : (Lit.int .i32 P0).wf = true) (w1 : (Lit.int .u16 I0).wf = true) (h : SlB w a n z) (w3 : (Lit.int .u16 a3).wf = true) :
    Calls Ycym.prog 7 #[.int .i32 P0, .int .u16 I0, .slice a n cap, .int .u16 a3, .bool byId] w fun e w' => e = .returned (.bool true) ∧ Below w.heap.size w w' := by
  have b0 := bd_i32 w0
  have b1 := bd_u16 w1
  have b3 := bd_u16 w3
  by_cases hs : n ≤ 1024
  · by_cases hz : n = 0
    · subst hz
      exact walk_none P0 I0 a cap z a3 byId w b0.1 b0.2 b1.1 b1.2 h
    · have h2 : 0 ≤ a3 % (n : Int) := Int.emod_nonneg _ (by omega)
      have h3 : a3 % (n : Int) < (n : Int) := Int.emod_lt_of_pos _ (by omega)
      exact walk_main P0 I0 a n cap z a3 byId (a3 % (n : Int)).toNat w b0.1 b0.2 b1.1 b1.2 h hs (by omega) b3.1 b3.2 (by omega) (by omega)
  · exact walk_long P0 I0 a n cap a3 byId w hs h.1
end Go.Proofs.Ymbrcy.lawS930008FBreak
