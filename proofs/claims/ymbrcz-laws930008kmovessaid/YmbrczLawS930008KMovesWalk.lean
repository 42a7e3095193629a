/- The walk of LawS930008KMoves (seat Ymbrcz): the Go text returns true, and writes nothing that was there. -/
import Derived.Test.YmbrczBase
import Derived.Test.YmbrczKplain
import Derived.Test.YmbrczCopyL
import Derived.Test.YmbrczFrom
import Derived.Test.YmbrczEqs
namespace Go.Proofs.Ymbrcz.lawS930008KMoves
open Go.RowKit Go.Sort
set_option linter.unusedVariables false

theorem walk_long (a : Option Addr) (n cap : Nat) (id : Int) (pick : Bool) (prio : Int) (w : World) (hn : ¬ n ≤ 1024) (hm : n ≤ maxLen) :
    Calls Yczm.prog 11 #[.slice a n cap, .int .u32 id, .bool pick, .int .i64 prio] w fun e w' => e = .returned (.bool true) ∧ Below w.heap.size w w' := by
  unfold maxLen at hm
  go_enter Yczm.func11, Yczm.ntmps11
  go_wp2
  go_ret
  exact ⟨rfl, Below.refl _ _⟩

set_option maxHeartbeats 4000000 in
theorem walk_main (a : Option Addr) (n cap : Nat) (d : Nat → It) (id : Int) (pick : Bool) (prio : Int) (w : World) (h : Sl w a n d) (hn : n ≤ 1024) (h0 : 0 ≤ id) (h1 : id ≤ 4294967295) :
    Calls Yczm.prog 11 #[.slice a n cap, .int .u32 id, .bool pick, .int .i64 prio] w fun e w' => e = .returned (.bool true) ∧ Below w.heap.size w w' := by
  go_enter Yczm.func11, Yczm.ntmps11
  go_wp2_with fail
  refine (kid_any a n cap d id pick _ h hn h0 h1).mono ?_
  rintro e w0 ⟨rfl, hw⟩
  subst hw
  obtain ⟨key, hkey⟩ : ∃ key, key = kk d n id pick := ⟨_, rfl⟩
  rw [← hkey]
  clear hkey
  go_wp2_with fail
  refine (fromItems_any a n cap d _ h (by omega)).mono ?_
  rintro e w1 ⟨rfl, how1, hb1⟩
  have HHF := mk_heap n d
  obtain ⟨H, hHe⟩ : ∃ H, H = mk n d := ⟨_, rfl⟩
  rw [← hHe] at how1 HHF
  clear hHe
  have hbz := how1.lt
  obtain ⟨b, hb⟩ : ∃ b, b = w.heap.size + 1 := ⟨_, rfl⟩
  rw [← hb] at how1 hbz ⊢
  have HB : Hid (w.heap.size ≤ b) := by show _ ≤ b; omega
  clear hb
  have hbl1 := hb1.alloc hb1.size (.cells #[.slice (some ⟨b, 0, none⟩) n n] 27)
  have hH1 : Hp (w1.alloc (.cells #[.slice (some ⟨b, 0, none⟩) n n] 27)) w1.heap.size b n n H :=
    ⟨by go_simp, by go_simp, by simp, by omega, how1.alloc _, Nat.le_refl _, by omega⟩
  obtain ⟨hp, hhp⟩ : ∃ hp, hp = w1.heap.size := ⟨_, rfl⟩
  have HH2 : Hid (HeapFrom n 0 H) := HHF
  go_wp2_with fail
  refine (kcopy_any _ n n H _ (hH1.own.sl (Nat.le_refl _)) hn).mono ?_
  rintro e w2 ⟨rfl, how2, hb2⟩
  have hH3 := hH1.below hb2 (Nat.le_refl _)
  have hbl2 := hbl1.trans (hb2.mono hbl1.size)
  have hB2 : w.heap.size ≤ (w1.alloc (.cells #[.slice (some ⟨b, 0, none⟩) n n] 27)).heap.size := hbl1.size
  have hbb2 : b < (w1.alloc (.cells #[.slice (some ⟨b, 0, none⟩) n n] 27)).heap.size := hH1.own.lt
  have hpb2 : hp < (w1.alloc (.cells #[.slice (some ⟨b, 0, none⟩) n n] 27)).heap.size := by rw [hhp]; exact hH1.lt
  obtain ⟨b2, hb2e⟩ : ∃ b2, b2 = (w1.alloc (.cells #[.slice (some ⟨b, 0, none⟩) n n] 27)).heap.size := ⟨_, rfl⟩
  rw [← hb2e] at how2 hB2 hbb2 hpb2 ⊢
  rw [← hhp] at hH3 ⊢
  have HB2 : Hid (w.heap.size ≤ b2) := hB2
  clear hb2e hhp hH1 hbl1 how1 hb1 hb2 hB2 HHF hbz
  have K1 := fun w hs => kfirst_any (some ⟨b2, 0, none⟩) n n H key w hs hn
  rcases ix_cases H key n with ⟨r, hix, hr, _⟩ | hix
  · rw [hix, show kf (r, true) = (r : Int) from rfl] at K1
    have HK1 : Hid (∀ w, Sl w (some ⟨b2, 0, none⟩) n H → Calls Yczm.prog 22 #[.slice (some ⟨b2, 0, none⟩) n n, .int .u32 key] w fun e w' => e = .returned (.int .i64 (r : Int)) ∧ w = w') := K1
    have HIX : Hid (ix H key n 0 = (r, true)) := hix
    clear K1 hix
    go_wp2_with fail
    refine (HK1.out _ (how2.sl (Nat.le_refl _))).mono ?_
    rintro e w3 ⟨rfl, hw⟩
    subst hw
    go_wp2_with fail
    refine (update_in hp b n n r H key prio _ hH3 HIX.out hr hn).mono ?_
    rintro e w3 ⟨rfl, how5, hf5⟩
    have hH2 := hH3.fr hf5 hH3.ne how5
    have how6 := hf5.own how2 (by show ¬ b2 = b; omega)
    have hbl5 := hbl2.trans (hf5.to_below hbl2.size (fun x hx => by have := HB.out; omega))
    clear hf5 hH3 how2 hbl2 how5 HK1
    obtain ⟨D, hD⟩ : ∃ D, D = (fx n (upd H r (prio, (H r).2)) r).1 := ⟨_, rfl⟩
    rw [← hD] at hH2
    have g0 := hH2.cell
    have gz := hH2.lt
    rcases Int.lt_trichotomy prio (H r).1 with hc | hc | hc
    · have HM : Hid (∀ k, (∀ t, up t r ≠ k) → D k = H k) := fun k hk => by rw [hD]; exact lower_road HH2.out hr hc k hk
      clear hD
      go_wp2
      go_loopw [14] (fun u wr => ∃ k : Nat, k ≤ n ∧ u = .int .i64 k ∧ Hp wr hp b n n D ∧ Own wr b2 n H ∧ Below w.heap.size w wr) (fun u _ => n - (intOf u).toNat)
      case atStart => exact ⟨0, Nat.zero_le _, rfl, hH2, how6, hbl5⟩
      case round =>
        clear hH2 how6 hbl5 g0 gz
        obtain ⟨k, hk, rfl, hH, how, hbl⟩ := hrel
        by_cases hlt : k < n
        · have k0 := how.c0 (k := r) hr
          go_wp2_with fail
          refine (kabove_any k r _ (by omega) (by omega)).mono ?_
          rintro e w9 ⟨rfl, hw⟩
          subst hw
          cases hab : above r k r
          · have hDk : D k = H k := HM.out k (fun t e => by rw [above_true r t r (Nat.le_refl _) e] at hab; cases hab)
            have c0 := cell_regrown (how.c0 hlt)
            have c1 := cell_regrown (how.c1 hlt)
            have c2 := cell_regrown (hH.own.c0 hlt)
            have c3 := cell_regrown (hH.own.c1 hlt)
            have c4 := cell_regrown hH.cell
            rw [hDk] at c2 c3
            go_wp2
            refine wp_region_below (by kernel_rfl) (by kernel_rfl) ?_
            repeat (go_big_quiet_step (fail))
            refine wpQuiet_nil ?_
            intro w8 hb8
            have p1 := hH.below hb8 (Nat.le_refl _)
            have p2 := how.below hb8 how.lt
            have p3 := hbl.trans (hb8.mono hbl.size)
            clear c0 c1 c2 c3 c4 k0 hH how hbl hb8
            go_wp2
            go_roundw
            case rel => exact ⟨k + 1, by omega, by go_num, p1, p2, p3⟩
            case measure => simp [intOf]; omega
          · go_wp2
            refine wp_region_below (by kernel_rfl) (by kernel_rfl) ?_
            repeat (go_big_quiet_step (fail))
            refine wpQuiet_nil ?_
            intro w8 hb8
            have p1 := hH.below hb8 (Nat.le_refl _)
            have p2 := how.below hb8 how.lt
            have p3 := hbl.trans (hb8.mono hbl.size)
            clear k0 hH how hbl hb8
            go_wp2
            go_roundw
            case rel => exact ⟨k + 1, by omega, by go_num, p1, p2, p3⟩
            case measure => simp [intOf]; omega
        · go_wp2
          go_ret
          exact ⟨rfl, hbl⟩
    · have HM : Hid (∀ k, D k = H k) := fun k => by rw [hD, hc]; exact congrFun (equal_road HH2.out hr) k
      clear hD
      have n1 : ¬ prio < (H r).1 := by omega
      have n2 : ¬ (H r).1 < prio := by omega
      clear hc
      go_wp2
      go_loopw [14] (fun u wr => ∃ k : Nat, k ≤ n ∧ u = .int .i64 k ∧ Hp wr hp b n n D ∧ Own wr b2 n H ∧ Below w.heap.size w wr) (fun u _ => n - (intOf u).toNat)
      case atStart => exact ⟨0, Nat.zero_le _, rfl, hH2, how6, hbl5⟩
      case round =>
        clear hH2 how6 hbl5 g0 gz
        obtain ⟨k, hk, rfl, hH, how, hbl⟩ := hrel
        by_cases hlt : k < n
        · have k0 := how.c0 (k := r) hr
          have hDk : D k = H k := HM.out k
          have c0 := cell_regrown (how.c0 hlt)
          have c1 := cell_regrown (how.c1 hlt)
          have c2 := cell_regrown (hH.own.c0 hlt)
          have c3 := cell_regrown (hH.own.c1 hlt)
          have c4 := cell_regrown hH.cell
          rw [hDk] at c2 c3
          go_wp2
          refine wp_region_below (by kernel_rfl) (by kernel_rfl) ?_
          repeat (go_big_quiet_step (fail))
          refine wpQuiet_nil ?_
          intro w8 hb8
          have p1 := hH.below hb8 (Nat.le_refl _)
          have p2 := how.below hb8 how.lt
          have p3 := hbl.trans (hb8.mono hbl.size)
          clear c0 c1 c2 c3 c4 k0 hH how hbl hb8
          go_wp2
          go_roundw
          case rel => exact ⟨k + 1, by omega, by go_num, p1, p2, p3⟩
          case measure => simp [intOf]; omega
        · go_wp2
          go_ret
          exact ⟨rfl, hbl⟩
    · have HM : Hid (∀ k, (∀ t, up t k ≠ r) → D k = H k) := fun k hk => by rw [hD]; exact raise_road HH2.out hr hc k hk
      clear hD
      have n1 : ¬ prio < (H r).1 := by omega
      go_wp2
      go_loopw [14] (fun u wr => ∃ k : Nat, k ≤ n ∧ u = .int .i64 k ∧ Hp wr hp b n n D ∧ Own wr b2 n H ∧ Below w.heap.size w wr) (fun u _ => n - (intOf u).toNat)
      case atStart => exact ⟨0, Nat.zero_le _, rfl, hH2, how6, hbl5⟩
      case round =>
        clear hH2 how6 hbl5 g0 gz
        obtain ⟨k, hk, rfl, hH, how, hbl⟩ := hrel
        by_cases hlt : k < n
        · have k0 := how.c0 (k := r) hr
          go_wp2_with fail
          refine (kabove_any r k _ (by omega) (by omega)).mono ?_
          rintro e w9 ⟨rfl, hw⟩
          subst hw
          cases hab : above k r k
          · have hDk : D k = H k := HM.out k (fun t e => by rw [above_true k t k (Nat.le_refl _) e] at hab; cases hab)
            have c0 := cell_regrown (how.c0 hlt)
            have c1 := cell_regrown (how.c1 hlt)
            have c2 := cell_regrown (hH.own.c0 hlt)
            have c3 := cell_regrown (hH.own.c1 hlt)
            have c4 := cell_regrown hH.cell
            rw [hDk] at c2 c3
            go_wp2
            refine wp_region_below (by kernel_rfl) (by kernel_rfl) ?_
            repeat (go_big_quiet_step (fail))
            refine wpQuiet_nil ?_
            intro w8 hb8
            have p1 := hH.below hb8 (Nat.le_refl _)
            have p2 := how.below hb8 how.lt
            have p3 := hbl.trans (hb8.mono hbl.size)
            clear c0 c1 c2 c3 c4 k0 hH how hbl hb8
            go_wp2
            go_roundw
            case rel => exact ⟨k + 1, by omega, by go_num, p1, p2, p3⟩
            case measure => simp [intOf]; omega
          · go_wp2
            refine wp_region_below (by kernel_rfl) (by kernel_rfl) ?_
            repeat (go_big_quiet_step (fail))
            refine wpQuiet_nil ?_
            intro w8 hb8
            have p1 := hH.below hb8 (Nat.le_refl _)
            have p2 := how.below hb8 how.lt
            have p3 := hbl.trans (hb8.mono hbl.size)
            clear k0 hH how hbl hb8
            go_wp2
            go_roundw
            case rel => exact ⟨k + 1, by omega, by go_num, p1, p2, p3⟩
            case measure => simp [intOf]; omega
        · go_wp2
          go_ret
          exact ⟨rfl, hbl⟩
  · rw [hix, show kf (0, false) = -1 from rfl] at K1
    have HK1 : Hid (∀ w, Sl w (some ⟨b2, 0, none⟩) n H → Calls Yczm.prog 22 #[.slice (some ⟨b2, 0, none⟩) n n, .int .u32 key] w fun e w' => e = .returned (.int .i64 (-1)) ∧ w = w') := K1
    have HIX : Hid (ix H key n 0 = (0, false)) := hix
    clear K1 hix
    go_wp2_with fail
    refine (HK1.out _ (how2.sl (Nat.le_refl _))).mono ?_
    rintro e w3 ⟨rfl, hw⟩
    subst hw
    go_wp2_with fail
    refine (update_out hp b n n H key prio _ hH3 HIX.out hn).mono ?_
    rintro e w3 ⟨rfl, hw⟩
    subst hw
    have g0 := hH3.cell
    have gz := hH3.lt
    have hH2 := hH3
    have how6 := how2
    have hbl5 := hbl2
    clear hH3 how2 hbl2
    go_wp2
    go_loopw [14] (fun u wr => ∃ k : Nat, k ≤ n ∧ u = .int .i64 k ∧ Hp wr hp b n n H ∧ Own wr b2 n H ∧ Below w.heap.size w wr) (fun u _ => n - (intOf u).toNat)
    case atStart => exact ⟨0, Nat.zero_le _, rfl, hH2, how6, hbl5⟩
    case round =>
      clear hH2 how6 hbl5 g0 gz
      obtain ⟨k, hk, rfl, hH, how, hbl⟩ := hrel
      by_cases hlt : k < n
      · have hDk : H k = H k := rfl
        have c0 := cell_regrown (how.c0 hlt)
        have c1 := cell_regrown (how.c1 hlt)
        have c2 := cell_regrown (hH.own.c0 hlt)
        have c3 := cell_regrown (hH.own.c1 hlt)
        have c4 := cell_regrown hH.cell
        clear hDk
        go_wp2
        refine wp_region_below (by kernel_rfl) (by kernel_rfl) ?_
        repeat (go_big_quiet_step (fail))
        refine wpQuiet_nil ?_
        intro w8 hb8
        have p1 := hH.below hb8 (Nat.le_refl _)
        have p2 := how.below hb8 how.lt
        have p3 := hbl.trans (hb8.mono hbl.size)
        clear c0 c1 c2 c3 c4 hH how hbl hb8
        go_wp2
        go_roundw
        case rel => exact ⟨k + 1, by omega, by go_num, p1, p2, p3⟩
        case measure => simp [intOf]; omega
      · go_wp2
        go_ret
        exact ⟨rfl, hbl⟩

theorem walk (a : Option Addr) (n cap : Nat) (d : Nat → It) (id : Int) (pick : Bool) (prio : Int) (w : World) (h : Sl w a n d) (hn : n ≤ maxLen) (w1 : (Lit.int .u32 id).wf = true) (w3 : (Lit.int .i64 prio).wf = true) :
    Calls Yczm.prog 11 #[.slice a n cap, .int .u32 id, .bool pick, .int .i64 prio] w fun e w' => e = .returned (.bool true) ∧ Below w.heap.size w w' := by
  have hb := bd_u32 w1
  by_cases hs : n ≤ 1024
  · exact walk_main a n cap d id pick prio w h hs hb.1 hb.2
  · exact walk_long a n cap id pick prio w hs hn
end Go.Proofs.Ymbrcz.lawS930008KMoves
