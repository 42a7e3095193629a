/- The walk of LawS930008KKept (seat Ymbrcz): the Go text returns true, and writes nothing that was there. -/
import Derived.Test.YmbrczBase
import Derived.Test.YmbrczKplain
import Derived.Test.YmbrczCopyL
import Derived.Test.YmbrczCount
namespace Go.Proofs.Ymbrcz.lawS930008KKept
open Go.RowKit Go.Sort
set_option linter.unusedVariables false

theorem walk_long (a : Option Addr) (n cap : Nat) (id : Int) (pick : Bool) (prio : Int) (w : World) (hn : ¬ n ≤ 1024) (hm : n ≤ maxLen) :
    Calls Yczm.prog 9 #[.slice a n cap, .int .u32 id, .bool pick, .int .i64 prio] w fun e w' => e = .returned (.bool true) ∧ Below w.heap.size w w' := by
  unfold maxLen at hm
  go_enter Yczm.func9, Yczm.ntmps9
  go_wp2
  go_ret
  exact ⟨rfl, Below.refl _ _⟩

set_option maxHeartbeats 4000000 in
theorem walk_main (a : Option Addr) (n cap : Nat) (d : Nat → It) (id : Int) (pick : Bool) (prio : Int) (w : World) (h : Sl w a n d) (hn : n ≤ 1024) (h0 : 0 ≤ id) (h1 : id ≤ 4294967295) :
    Calls Yczm.prog 9 #[.slice a n cap, .int .u32 id, .bool pick, .int .i64 prio] w fun e w' => e = .returned (.bool true) ∧ Below w.heap.size w w' := by
  go_enter Yczm.func9, Yczm.ntmps9
  go_wp2_with fail
  refine (kid_any a n cap d id pick _ h hn h0 h1).mono ?_
  rintro e w0 ⟨rfl, hw⟩
  subst hw
  obtain ⟨key, hkey⟩ : ∃ key, key = kk d n id pick := ⟨_, rfl⟩
  rw [← hkey]
  clear hkey
  go_wp2_with fail
  refine (kcopy_any a n cap d _ h hn).mono ?_
  rintro e w1 ⟨rfl, how1, hb1⟩
  obtain ⟨b2, hb2⟩ : ∃ b2, b2 = w.heap.size := ⟨_, rfl⟩
  rw [← hb2] at how1 ⊢
  have HB2 : Hid (w.heap.size ≤ b2) := by rw [hb2]; exact Nat.le_refl _
  clear hb2
  go_wp2_with fail
  refine (kcopy_any a n cap d _ (h.below hb1 (Nat.le_refl _)) hn).mono ?_
  rintro e w2 ⟨rfl, how2, hb2⟩
  obtain ⟨b, hbe⟩ : ∃ b, b = w1.heap.size := ⟨_, rfl⟩
  have hbb : b2 < b := by rw [hbe]; exact how1.lt
  rw [← hbe] at how2 ⊢
  have HB : Hid (w.heap.size ≤ b) := by rw [hbe]; exact hb1.size
  have how3 := how1.below hb2 how1.lt
  have hbl2 := hb1.trans (hb2.mono hb1.size)
  clear hbe how1 hb1 hb2
  have hbz := how2.lt
  have hbl3 := hbl2.alloc hbl2.size (.cells #[.slice (some ⟨b, 0, none⟩) n n] 27)
  have hH1 : Hp (w2.alloc (.cells #[.slice (some ⟨b, 0, none⟩) n n] 27)) w2.heap.size b n n d :=
    ⟨by go_simp, by go_simp, by simp, by omega, how2.alloc _, Nat.le_refl _, by omega⟩
  have how4 := how3.alloc (.cells #[.slice (some ⟨b, 0, none⟩) n n] 27)
  have hb2z : b2 < w2.heap.size := how3.lt
  obtain ⟨hp, hhp⟩ : ∃ hp, hp = w2.heap.size := ⟨_, rfl⟩
  rcases ix_cases d key n with ⟨r, hix, hr, _⟩ | hix
  · have K1 := fun w hs => kfirst_any (some ⟨b2, 0, none⟩) n n d key w hs hn
    rw [hix, show kf (r, true) = (r : Int) from rfl] at K1
    have HK1 : Hid (∀ w, Sl w (some ⟨b2, 0, none⟩) n d → Calls Yczm.prog 22 #[.slice (some ⟨b2, 0, none⟩) n n, .int .u32 key] w fun e w' => e = .returned (.int .i64 (r : Int)) ∧ w = w') := K1
    have HIX : Hid (ix d key n 0 = (r, true)) := hix
    clear K1 hix
    go_wp2_with fail
    refine (HK1.out _ (how4.sl (Nat.le_refl _))).mono ?_
    rintro e w3 ⟨rfl, hw⟩
    subst hw
    go_wp2_with fail
    refine (update_in w2.heap.size b n n r d key prio _ hH1 HIX.out hr hn).mono ?_
    rintro e w3 ⟨rfl, how5, hf5⟩
    have hH2 := hH1.fr hf5 hH1.ne how5
    have how6 := hf5.own how4 (by show ¬ b2 = b; omega)
    have hbl5 := hbl3.trans (hf5.to_below hbl3.size (fun x hx => by have := HB.out; omega))
    rw [← hhp] at hH2 ⊢
    have HHP : Hid (hp = w2.heap.size) := hhp
    have hpb2 : b2 < hp := by omega
    clear hhp hf5 how4 hH1 hbl3 how5 how3 how2 hbl2 HK1
    have HCN : Hid (∀ f, cn f (fx n (upd d r (prio, (d r).2)) r).1 n = cn f (upd d r (prio, (d r).2)) n) := fun f => fx_cn f n _ r hr
    obtain ⟨D, hD⟩ : ∃ D, D = (fx n (upd d r (prio, (d r).2)) r).1 := ⟨_, rfl⟩
    rw [← hD] at hH2 HCN
    clear hD
    have g0 := hH2.cell
    have gz := hH2.lt
    have k0 := how6.c0 hr
    have kf := how6.fz
    have how7 := how6.setPrio r prio
    have hH3 : Hp (w3.setCell ⟨b2, r * 2, none⟩ (.int .i64 prio)) hp b n n D := hH2.fr (S := fun k => k = b2) ((Fr.refl (fun k => k = b2) w3).setCell (p := ⟨b2, r * 2, none⟩) rfl _) (by show ¬ hp = b2; omega) (hH2.own.setOther (by show b ≠ b2; omega) _)
    have hbl7 := hbl5.setCell (p := ⟨b2, r * 2, none⟩) HB2.out (.int .i64 prio)
    obtain ⟨W, hW⟩ : ∃ W, W = upd d r (prio, (d r).2) := ⟨_, rfl⟩
    rw [← hW] at how7 HCN
    clear hW
    go_wp2
    go_loopw [15] (fun u wr => ∃ k : Nat, k ≤ n ∧ u = .int .i64 k ∧ Hp wr hp b n n D ∧ Own wr b2 n W ∧ Below w.heap.size w wr) (fun u _ => n - (intOf u).toNat)
    case atStart => exact ⟨0, Nat.zero_le _, rfl, hH3, how7, hbl7⟩
    case round =>
      clear hH3 how7 hbl7 k0 kf g0 gz how6 hH2 hbl5
      obtain ⟨k, hk, rfl, hH, how, hbl⟩ := hrel
      by_cases hlt : k < n
      · have c0 := cell_regrown (how.c0 hlt)
        have c1 := cell_regrown (how.c1 hlt)
        have c2 := cell_regrown hH.cell
        obtain ⟨x, hx⟩ : ∃ x, x = W k := ⟨_, rfl⟩
        rw [← hx] at c0 c1
        clear hx
        have HC9 := HCN.out (eqq x)
        have HK1 : Hid (∀ dd os, Calls Yczm.prog 24 #[.slice (some ⟨b, 0, none⟩) n n, .agg #[.int .i64 x.1, .int .u32 x.2]] (grow (redrawn wr dd) os) fun e w'' => e = .returned (.int .i64 (cn (eqq x) W n)) ∧ ∃ p : Regrown, w'' = grow (redrawn wr p.d) p.os) := fun dd os => by
          rw [← HC9]
          exact Calls.regrown_of (kcount_any _ n n D x _ ((hH.own.sl (Nat.le_refl _)).below (below_regrown wr dd os) (Nat.le_refl _)) (by unfold maxLen; omega))
        have HK2 : Hid (∀ dd os, Calls Yczm.prog 24 #[.slice (some ⟨b2, 0, none⟩) n n, .agg #[.int .i64 x.1, .int .u32 x.2]] (grow (redrawn wr dd) os) fun e w'' => e = .returned (.int .i64 (cn (eqq x) W n)) ∧ ∃ p : Regrown, w'' = grow (redrawn wr p.d) p.os) := fun dd os =>
          Calls.regrown_of (kcount_any _ n n W x _ ((how.sl (Nat.le_refl _)).below (below_regrown wr dd os) (Nat.le_refl _)) (by unfold maxLen; omega))
        clear HC9
        go_wp2
        refine wp_region_below (by kernel_rfl) (by kernel_rfl) ?_
        repeat (go_big_quiet_step (first | (go_at_call_of 24 b; exact HK1.out _ _) | (go_at_call_of 24 b2; exact HK2.out _ _)))
        refine wpQuiet_nil ?_
        intro w8 hb8
        have p1 := hH.below hb8 (Nat.le_refl _)
        have p2 := how.below hb8 how.lt
        have p3 := hbl.trans (hb8.mono hbl.size)
        clear c0 c1 c2 HK1 HK2 hH how hbl hb8
        go_wp2
        go_roundw
        case rel => exact ⟨k + 1, by omega, by go_num, p1, p2, p3⟩
        case measure => simp [intOf]; omega
      · go_wp2
        go_ret
        exact ⟨rfl, hbl⟩
  · have K1 := fun w hs => kfirst_any (some ⟨b2, 0, none⟩) n n d key w hs hn
    rw [hix, show kf (0, false) = -1 from rfl] at K1
    have HK1 : Hid (∀ w, Sl w (some ⟨b2, 0, none⟩) n d → Calls Yczm.prog 22 #[.slice (some ⟨b2, 0, none⟩) n n, .int .u32 key] w fun e w' => e = .returned (.int .i64 (-1)) ∧ w = w') := K1
    have HIX : Hid (ix d key n 0 = (0, false)) := hix
    clear K1 hix
    go_wp2_with fail
    refine (HK1.out _ (how4.sl (Nat.le_refl _))).mono ?_
    rintro e w3 ⟨rfl, hw⟩
    subst hw
    go_wp2_with fail
    refine (update_out w2.heap.size b n n d key prio _ hH1 HIX.out hn).mono ?_
    rintro e w3 ⟨rfl, hw⟩
    subst hw
    rw [← hhp] at hH1 ⊢
    have g0 := hH1.cell
    have gz := hH1.lt
    clear hhp HK1 how3 how2 hbl2
    go_wp2
    go_loopw [14] (fun u wr => ∃ k : Nat, k ≤ n ∧ u = .int .i64 k ∧ Hp wr hp b n n d ∧ Own wr b2 n d ∧ Below w.heap.size w wr) (fun u _ => n - (intOf u).toNat)
    case atStart => exact ⟨0, Nat.zero_le _, rfl, hH1, how4, hbl3⟩
    case round =>
      clear hH1 how4 hbl3 g0 gz
      obtain ⟨k, hk, rfl, hH, how, hbl⟩ := hrel
      by_cases hlt : k < n
      · have c0 := cell_regrown (how.c0 hlt)
        have c1 := cell_regrown (how.c1 hlt)
        have c2 := cell_regrown (hH.own.c0 hlt)
        have c3 := cell_regrown (hH.own.c1 hlt)
        have c4 := cell_regrown hH.cell
        go_wp2
        refine wp_region_below (by kernel_rfl) (by kernel_rfl) ?_
        repeat (go_big_quiet_step (fail))
        refine wpQuiet_nil ?_
        intro w8 hb8
        have p1 := hH.below hb8 (Nat.le_refl _)
        have p2 := how.below hb8 how.lt
        have p3 := hbl.trans (hb8.mono hbl.size)
        clear c0 c1 c2 c3 c4 hH how hbl hb8
        go_wp2
        go_roundw
        case rel => exact ⟨k + 1, by omega, by go_num, p1, p2, p3⟩
        case measure => simp [intOf]; omega
      · go_wp2
        go_ret
        exact ⟨rfl, hbl⟩

theorem walk (a : Option Addr) (n cap : Nat) (d : Nat → It) (id : Int) (pick : Bool) (prio : Int) (w : World) (h : Sl w a n d) (hn : n ≤ maxLen) (w1 : (Lit.int .u32 id).wf = true) (w3 : (Lit.int .i64 prio).wf = true) :
    Calls Yczm.prog 9 #[.slice a n cap, .int .u32 id, .bool pick, .int .i64 prio] w fun e w' => e = .returned (.bool true) ∧ Below w.heap.size w w' := by
  have hb := bd_u32 w1
  by_cases hs : n ≤ 1024
  · exact walk_main a n cap d id pick prio w h hs hb.1 hb.2
  · exact walk_long a n cap id pick prio w hs hn
end Go.Proofs.Ymbrcz.lawS930008KKept
