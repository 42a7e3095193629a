/- The walk of LawS930008JHeap (seat Ymbrcz): the Go text returns true, and writes nothing that was there. -/
import Derived.Test.YmbrczBase
import Derived.Test.YmbrczBefore
import Derived.Test.YmbrczCopy
import Derived.Test.YmbrczUp
import Derived.Test.YmbrczEqs
namespace Go.Proofs.Ymbrcz.lawS930008JHeap
open Go.RowKit Go.Sort
set_option linter.unusedVariables false

theorem raise_hit {k : Nat} {e : Nat → It} (hk : 1 ≤ k) (h : HeapFrom k 0 e) : HeapFrom (k + 1) 0 (upd e k (e ((k - 1) / 2))) := by
  intro c a b _
  by_cases ec : c = k
  · subst ec
    rw [upd_same, upd_other e _ (by omega)]
    exact lt_self _
  · rw [upd_other e _ ec, upd_other e _ (by omega)]
    exact h c a (by omega) (Nat.zero_le _)
theorem raise_miss {k : Nat} {e : Nat → It} (h : HeapFrom k 0 e) (hl : lt (e k) (e ((k - 1) / 2)) = false) : HeapFrom (k + 1) 0 e := by
  intro c a b _
  by_cases ec : c = k
  · subst ec; exact hl
  · exact h c a (by omega) (Nat.zero_le _)
theorem put_ok {n i : Nat} {e : Nat → It} (x : It) (hi : i < n) (h : HeapFrom n 0 e) (c : Nat) (h1 : 1 ≤ c) (h2 : c < n) :
    ((c - 1) / 2 = i ∧ (su n (upd e i x) i).2 = i ∧ lt (e i) x = true) ∨ lt ((su n (upd e i x) i).1 c) ((su n (upd e i x) i).1 ((c - 1) / 2)) = false := by
  cases hg : lt (e i) x
  · right
    refine su_heap n n (upd e i x) i (by omega) hi ⟨fun c a b ne => ?_, fun c a1 a b ep => ?_⟩ c h1 h2 (Nat.zero_le _)
    · rw [upd_other e x ne]
      by_cases hp : (c - 1) / 2 = i
      · rw [hp, upd_same]
        have h3 := h c a b (Nat.zero_le _)
        rw [hp] at h3
        exact le_trans hg h3
      · rw [upd_other e x hp]; exact h c a b (Nat.zero_le _)
    · rw [upd_other e x (by omega), upd_other e x (by omega)]
      have h3 := h c a b (Nat.zero_le _)
      rw [ep] at h3
      exact le_trans (h i a1 hi (Nat.zero_le _)) h3
  · have hst : su n (upd e i x) i = (upd e i x, i) := su_stop (by
      by_cases h0 : i = 0
      · exact .inl h0
      · right
        rw [upd_same, upd_other e x (by omega)]
        exact lt_asymm (le_lt (h i (by omega) hi (Nat.zero_le _)) hg))
    rw [hst]
    by_cases hp : (c - 1) / 2 = i
    · exact .inl ⟨hp, rfl, rfl⟩
    · right
      show lt (upd e i x c) (upd e i x ((c - 1) / 2)) = false
      rw [upd_other e x hp]
      by_cases hc : c = i
      · subst hc
        rw [upd_same]
        exact lt_asymm (le_lt (h c h1 h2 (Nat.zero_le _)) hg)
      · rw [upd_other e x hc]; exact h c h1 h2 (Nat.zero_le _)

theorem walk_triv (a : Option Addr) (n cap : Nat) (a1 : Int) (x : It) (w : World) (hn : n = 0 ∨ ¬ n ≤ 1024) (hm : n ≤ maxLen) :
    Calls Yczm.prog 7 #[.slice a n cap, .int .u16 a1, .agg #[.int .i64 x.1, .int .u32 x.2]] w fun e w' => e = .returned (.bool true) ∧ Below w.heap.size w w' := by
  unfold maxLen at hm
  by_cases h0 : n = 0
  · subst h0
    go_enter Yczm.func7, Yczm.ntmps7
    go_wp2
    go_ret
    exact ⟨rfl, (Below.refl _ _).alloc (Nat.le_refl _) _⟩
  · have hnz : ((n : Int) == 0) = false := by simp; omega
    have h1 : (1024 : Int) < (n : Int) := by omega
    clear hn
    go_enter Yczm.func7, Yczm.ntmps7
    go_wp2
    go_ret
    exact ⟨rfl, (Below.refl _ _).alloc (Nat.le_refl _) _⟩

set_option maxHeartbeats 4000000 in
theorem walk_main (a : Option Addr) (n cap : Nat) (d : Nat → It) (a1 : Int) (x : It) (i : Nat) (w : World) (h : Sl w a n d) (hn : n ≤ 1024) (hn0 : 1 ≤ n) (h0 : 0 ≤ a1) (h1 : a1 ≤ 65535) (hs : a1 % (n : Int) = i) (hi : i < n) :
    Calls Yczm.prog 7 #[.slice a n cap, .int .u16 a1, .agg #[.int .i64 x.1, .int .u32 x.2]] w fun e w' => e = .returned (.bool true) ∧ Below w.heap.size w w' := by
  have hnz : ((n : Int) == 0) = false := by simp; omega
  have hb0 : Below w.heap.size w (w.alloc (.cells #[.int .i64 x.1, .int .u32 x.2] 25)) := (Below.refl _ _).alloc (Nat.le_refl _) _
  go_enter Yczm.func7, Yczm.ntmps7
  go_wp2_with fail
  rw [hs]
  clear hs h0 h1
  refine (jcopy_any a n cap d _ (h.below hb0 (Nat.le_refl _)) (by omega)).mono ?_
  rintro e w1 ⟨rfl, how1, hb1⟩
  have hb1 := hb1.mono (B' := w.heap.size + 1) (by simp)
  simp only [World.size_alloc] at how1 ⊢
  have x0 : w1.cell? ⟨w.heap.size, 0, none⟩ = some (.int .i64 x.1) := (hb1.cell (p := ⟨w.heap.size, 0, none⟩) (by simp)).trans (by go_simp)
  have x1 : w1.cell? ⟨w.heap.size, 1, none⟩ = some (.int .u32 x.2) := (hb1.cell (p := ⟨w.heap.size, 1, none⟩) (by simp)).trans (by go_simp)
  have hz1 : w.heap.size < w1.heap.size := by have := hb1.size; simp at this; omega
  have hbl1 := hb0.trans (hb1.mono (by omega))
  obtain ⟨b, hb⟩ : ∃ b, b = w.heap.size + 1 := ⟨_, rfl⟩
  rw [← hb] at how1 ⊢
  obtain ⟨bx, hbx⟩ : ∃ bx, bx = w.heap.size := ⟨_, rfl⟩
  have HB : Hid (w.heap.size ≤ b) := by show _ ≤ b; omega
  have hbb : bx < b := by omega
  rw [← hbx] at x0 x1 hz1 ⊢
  clear hb hbx hb1 hb0
  go_wp2
  go_loopw [10] (fun u wr => ∃ (k : Nat) (e : Nat → It), 1 ≤ k ∧ k ≤ n ∧ u = .int .i64 k ∧ Own wr b n e ∧ Below w.heap.size w wr ∧ wr.cell? ⟨bx, 0, none⟩ = some (.int .i64 x.1) ∧ wr.cell? ⟨bx, 1, none⟩ = some (.int .u32 x.2) ∧ bx < wr.heap.size ∧ Hid (HeapFrom k 0 e)) (fun u _ => n - (intOf u).toNat)
  case atStart => exact ⟨1, d, Nat.le_refl _, hn0, rfl, how1, hbl1, x0, x1, hz1, fun c a b _ => by omega⟩
  case round =>
    clear how1 hbl1 x0 x1 hz1
    obtain ⟨k, e, hk1, hk2, rfl, how, hbl, x0, x1, hz, HH⟩ := hrel
    by_cases hlt : k < n
    · obtain ⟨p, hp⟩ : ∃ p, p = (k - 1) / 2 := ⟨_, rfl⟩
      have hpi : ((k : Int) - 1) / 2 = (p : Int) := by omega
      have hpk : p < k := by omega
      have HP : Hid (p = (k - 1) / 2) := hp
      clear hp
      have c0 := cell_regrown (how.c0 hlt)
      have c1 := cell_regrown (how.c1 hlt)
      have c2 := cell_regrown (how.c0 (k := p) (by omega))
      have c3 := cell_regrown (how.c1 (k := p) (by omega))
      go_wp2
      refine wp_region_below (by kernel_rfl) (by kernel_rfl) ?_
      repeat (go_big_quiet_step (exact Calls.regrown_of (jless_any _ _ _)))
      refine wpQuiet_nil ?_
      intro w2 hb2
      have how2 := how.below hb2 how.lt
      have hbl2 := hbl.trans (hb2.mono hbl.size)
      have y0 := (hb2.cell (p := ⟨bx, 0, none⟩) hz).trans x0
      have y1 := (hb2.cell (p := ⟨bx, 1, none⟩) hz).trans x1
      have hz2 := Nat.lt_of_lt_of_le hz hb2.size
      clear c0 c1 c2 c3 how hbl x0 x1 hz hb2
      cases hl : lt (e k) (e p)
      · have HN : Hid (HeapFrom (k + 1) 0 e) := raise_miss HH.out (by rw [← HP.out]; exact hl)
        go_wp2
        go_roundw
        case rel => exact ⟨k + 1, e, by omega, by omega, by go_num, how2, hbl2, y0, y1, hz2, HN⟩
        case measure => simp [intOf]; omega
      · have HN : Hid (HeapFrom (k + 1) 0 (upd e k (e p))) := by rw [HP.out]; exact raise_hit hk1 HH.out
        have k0 := how2.c0 hlt
        have k1 := how2.c1 hlt
        have k2 := how2.c0 (k := p) (by omega)
        have k3 := how2.c1 (k := p) (by omega)
        have kf := how2.fz
        have how3 := how2.set k (e p)
        have hbl3 := (hbl2.setCell (p := ⟨b, k * 2, none⟩) HB.out (.int .i64 (e p).1)).setCell (p := ⟨b, k * 2 + 1, none⟩) HB.out (.int .u32 (e p).2)
        have z0 : ((w2.setCell ⟨b, k * 2, none⟩ (.int .i64 (e p).1)).setCell ⟨b, k * 2 + 1, none⟩ (.int .u32 (e p).2)).cell? ⟨bx, 0, none⟩ = some (.int .i64 x.1) := by
          rw [World.cell?_of_block (Below.heap_setCell _ _ _ _ (by show bx ≠ b; omega)), World.cell?_of_block (Below.heap_setCell _ _ _ _ (by show bx ≠ b; omega))]; exact y0
        have z1 : ((w2.setCell ⟨b, k * 2, none⟩ (.int .i64 (e p).1)).setCell ⟨b, k * 2 + 1, none⟩ (.int .u32 (e p).2)).cell? ⟨bx, 1, none⟩ = some (.int .u32 x.2) := by
          rw [World.cell?_of_block (Below.heap_setCell _ _ _ _ (by show bx ≠ b; omega)), World.cell?_of_block (Below.heap_setCell _ _ _ _ (by show bx ≠ b; omega))]; exact y1
        have hzz : bx < ((w2.setCell ⟨b, k * 2, none⟩ (.int .i64 (e p).1)).setCell ⟨b, k * 2 + 1, none⟩ (.int .u32 (e p).2)).heap.size := by simpa [World.setCell] using hz2
        clear HH
        go_wp2
        go_roundw
        case rel => exact ⟨k + 1, _, by omega, by omega, by go_num, how3, hbl3, z0, z1, hzz, HN⟩
        case measure => simp [intOf]; omega
    · have hkn : n = k := by omega
      subst hkn
      clear hk2 hlt hk1
      have c0 := cell_regrown (how.c0 hi)
      have c1 := cell_regrown (how.c1 hi)
      have c2 := cell_regrown x0
      have c3 := cell_regrown x1
      go_wp2
      refine wp_region_below (by kernel_rfl) (by kernel_rfl) ?_
      repeat (go_big_quiet_step (exact Calls.regrown_of (jless_any _ _ _)))
      refine wpQuiet_nil ?_
      intro w2 hb2
      have how2 := how.below hb2 how.lt
      have hbl2 := hbl.trans (hb2.mono hbl.size)
      have y0 := (hb2.cell (p := ⟨bx, 0, none⟩) hz).trans x0
      have y1 := (hb2.cell (p := ⟨bx, 1, none⟩) hz).trans x1
      have hz2 := Nat.lt_of_lt_of_le hz hb2.size
      clear c0 c1 c2 c3 how hbl x0 x1 hz hb2
      obtain ⟨grew, hgrew⟩ : ∃ g, g = lt (e i) x := ⟨_, rfl⟩
      rw [← hgrew]
      have HOK : Hid (∀ c, 1 ≤ c → c < n → ((c - 1) / 2 = i ∧ (su n (upd e i x) i).2 = i ∧ grew = true) ∨ lt ((su n (upd e i x) i).1 c) ((su n (upd e i x) i).1 ((c - 1) / 2)) = false) := by rw [hgrew]; exact fun c p q => put_ok x hi HH.out c p q
      clear hgrew HH
      have k0 := how2.c0 hi
      have k1 := how2.c1 hi
      have kf := how2.fz
      have how3 := how2.set i x
      have hbl3 := (hbl2.setCell (p := ⟨b, i * 2, none⟩) HB.out (.int .i64 x.1)).setCell (p := ⟨b, i * 2 + 1, none⟩) HB.out (.int .u32 x.2)
      have z0 : ((w2.setCell ⟨b, i * 2, none⟩ (.int .i64 x.1)).setCell ⟨b, i * 2 + 1, none⟩ (.int .u32 x.2)).cell? ⟨bx, 0, none⟩ = some (.int .i64 x.1) := by
        rw [World.cell?_of_block (Below.heap_setCell _ _ _ _ (by show bx ≠ b; omega)), World.cell?_of_block (Below.heap_setCell _ _ _ _ (by show bx ≠ b; omega))]; exact y0
      have z1 : ((w2.setCell ⟨b, i * 2, none⟩ (.int .i64 x.1)).setCell ⟨b, i * 2 + 1, none⟩ (.int .u32 x.2)).cell? ⟨bx, 1, none⟩ = some (.int .u32 x.2) := by
        rw [World.cell?_of_block (Below.heap_setCell _ _ _ _ (by show bx ≠ b; omega)), World.cell?_of_block (Below.heap_setCell _ _ _ _ (by show bx ≠ b; omega))]; exact y1
      have hzz : bx < ((w2.setCell ⟨b, i * 2, none⟩ (.int .i64 x.1)).setCell ⟨b, i * 2 + 1, none⟩ (.int .u32 x.2)).heap.size := by simpa [World.setCell] using hz2
      clear how2 hbl2
      go_wp2_with fail
      refine (siftUp_any b n n n i (upd e i x) _ how3 (Nat.le_refl _) hi (by omega)).mono ?_
      rintro e9 w3 ⟨rfl, how4, hf4⟩
      have q0 := (hf4.cell (p := ⟨bx, 0, none⟩) hzz (by show ¬ bx = b; omega)).trans z0
      have q1 := (hf4.cell (p := ⟨bx, 1, none⟩) hzz (by show ¬ bx = b; omega)).trans z1
      have hbl4 := hbl3.trans (hf4.to_below hbl3.size (fun t ht => by have := HB.out; omega))
      have hRi := su_le n (upd e i x) i
      have HAT : Hid ((su n (upd e i x) i).1 (su n (upd e i x) i).2 = x) := by
        show _ = x
        rw [su_at, upd_same]
      obtain ⟨R, hR⟩ : ∃ R, R = (su n (upd e i x) i).2 := ⟨_, rfl⟩
      obtain ⟨D, hD⟩ : ∃ D, D = (su n (upd e i x) i).1 := ⟨_, rfl⟩
      rw [← hD] at how4 HAT HOK
      rw [← hR] at hRi HAT HOK ⊢
      clear hR hD how3 hbl3 z0 z1 hzz hf4 k0 k1 kf y0 y1 hz2
      have c0 := cell_regrown (how4.c0 (k := R) (by omega))
      have c1 := cell_regrown (how4.c1 (k := R) (by omega))
      rw [HAT.out] at c0 c1
      have c2 := cell_regrown q0
      have c3 := cell_regrown q1
      have g1 : decide (i < R) = false := decide_eq_false (by omega)
      have g2 : decide ((R : Int) < 0) = false := decide_eq_false (by omega)
      go_wp2
      refine wp_region_below (by kernel_rfl) (by kernel_rfl) ?_
      repeat (go_big_quiet_step (fail))
      refine wpQuiet_nil ?_
      intro w5 hb5
      have how5 := how4.below hb5 how4.lt
      have hbl5 := hbl4.trans (hb5.mono hbl4.size)
      clear c0 c1 c2 c3 g1 g2 how4 hbl4 hb5 q0 q1 HAT
      go_wp2
      go_loopw [14] (fun u wr => ∃ k : Nat, 1 ≤ k ∧ (k ≤ n ∨ k = 1) ∧ u = .int .i64 k ∧ Own wr b n D ∧ Below w.heap.size w wr) (fun u _ => n - (intOf u).toNat)
      case atStart => exact ⟨1, Nat.le_refl _, .inr rfl, rfl, how5, hbl5⟩
      case round =>
        clear how5 hbl5
        obtain ⟨k, hk1, hk2, rfl, how, hbl⟩ := hrel
        by_cases hlt : k < n
        · obtain ⟨p, hp⟩ : ∃ p, p = (k - 1) / 2 := ⟨_, rfl⟩
          have hpi : ((k : Int) - 1) / 2 = (p : Int) := by omega
          have hpk : p < k := by omega
          have hok := HOK.out k hk1 hlt
          rw [← hp] at hok
          clear hp
          by_cases hskip : p = i ∧ R = i ∧ grew = true
          · obtain ⟨e1, e2, e3⟩ := hskip
            subst e1 e2 e3
            clear hok
            go_wp2
            go_roundw
            case rel => exact ⟨k + 1, by omega, by omega, by go_num, how, hbl⟩
            case measure => simp [intOf]; omega
          · have hno : lt (D k) (D p) = false := by
              rcases hok with hok | hok
              · exact absurd hok hskip
              · exact hok
            have HL : Hid (∀ w, Calls Yczm.prog 17 #[.agg #[.int .i64 (D k).1, .int .u32 (D k).2], .agg #[.int .i64 (D p).1, .int .u32 (D p).2]] w fun r w' => r = .returned (.bool false) ∧ Below w.heap.size w w') := fun w => by
              have := jless_any (D k) (D p) w
              rwa [hno] at this
            clear hok hno
            have c0 := cell_regrown (how.c0 hlt)
            have c1 := cell_regrown (how.c1 hlt)
            have c2 := cell_regrown (how.c0 (k := p) (by omega))
            have c3 := cell_regrown (how.c1 (k := p) (by omega))
            by_cases e1 : p = i
            · by_cases e2 : R = i
              · have e3 : grew = false := by
                  cases hgr : grew
                  · rfl
                  · exact absurd ⟨e1, e2, hgr⟩ hskip
                subst e1 e2 e3
                clear hskip
                go_wp2
                refine wp_region_below (by kernel_rfl) (by kernel_rfl) ?_
                repeat (go_big_quiet_step (exact Calls.regrown_of (HL.out _)))
                refine wpQuiet_nil ?_
                intro w8 hb8
                have p1 := how.below hb8 how.lt
                have p2 := hbl.trans (hb8.mono hbl.size)
                clear c0 c1 c2 c3 how hbl hb8
                go_wp2
                go_roundw
                case rel => exact ⟨k + 1, by omega, by omega, by go_num, p1, p2⟩
                case measure => simp [intOf]; omega
              · have t1 : ((R : Int) == (i : Int)) = false := by simp; omega
                subst e1
                clear hskip e2
                go_wp2
                refine wp_region_below (by kernel_rfl) (by kernel_rfl) ?_
                repeat (go_big_quiet_step (exact Calls.regrown_of (HL.out _)))
                refine wpQuiet_nil ?_
                intro w8 hb8
                have p1 := how.below hb8 how.lt
                have p2 := hbl.trans (hb8.mono hbl.size)
                clear c0 c1 c2 c3 how hbl hb8
                go_wp2
                go_roundw
                case rel => exact ⟨k + 1, by omega, by omega, by go_num, p1, p2⟩
                case measure => simp [intOf]; omega
            · have t1 : ((p : Int) == (i : Int)) = false := by simp; omega
              clear hskip e1
              go_wp2
              refine wp_region_below (by kernel_rfl) (by kernel_rfl) ?_
              repeat (go_big_quiet_step (exact Calls.regrown_of (HL.out _)))
              refine wpQuiet_nil ?_
              intro w8 hb8
              have p1 := how.below hb8 how.lt
              have p2 := hbl.trans (hb8.mono hbl.size)
              clear c0 c1 c2 c3 how hbl hb8
              go_wp2
              go_roundw
              case rel => exact ⟨k + 1, by omega, by omega, by go_num, p1, p2⟩
              case measure => simp [intOf]; omega
        · go_wp2
          go_ret
          exact ⟨rfl, hbl⟩

theorem walk (a : Option Addr) (n cap : Nat) (d : Nat → It) (a1 : Int) (x : It) (w : World) (h : Sl w a n d) (hn : n ≤ maxLen) (w1 : (Lit.int .u16 a1).wf = true) :
    Calls Yczm.prog 7 #[.slice a n cap, .int .u16 a1, .agg #[.int .i64 x.1, .int .u32 x.2]] w fun e w' => e = .returned (.bool true) ∧ Below w.heap.size w w' := by
  have hb := bd_u16 w1
  by_cases hs : n = 0 ∨ ¬ n ≤ 1024
  · exact walk_triv a n cap a1 x w hs hn
  · have h2 : 0 ≤ a1 % (n : Int) := Int.emod_nonneg _ (by omega)
    have h3 : a1 % (n : Int) < (n : Int) := Int.emod_lt_of_pos _ (by omega)
    exact walk_main a n cap d a1 x (a1 % (n : Int)).toNat w h (by omega) (by omega) hb.1 hb.2 (by omega) (by omega)
end Go.Proofs.Ymbrcz.lawS930008JHeap
