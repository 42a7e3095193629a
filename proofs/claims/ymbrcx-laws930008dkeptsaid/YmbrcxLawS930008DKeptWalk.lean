/- The walk of LawS930008DKept (seat Ymbrcx): the Go text returns true, and writes nothing that was there. -/
import Derived.Test.YmbrcxBase
import Derived.Test.YmbrcxCopy
import Derived.Test.YmbrcxDown
import Derived.Test.YmbrcxCount
import Derived.Test.YmbrcxPath
namespace Go.Proofs.Ymbrcx.lawS930008DKept
open Go.RowKit Go.Sort
set_option linter.unusedVariables false

theorem Ycxm.info4 : (Ycxm.prog.info? 4).map (fun i => (i.zero, i.size, i.bytes)) = some (some (.bool false), 1, 1) := by kernel_rfl
/-- the marks laid when t steps of the road from r have been taken -/
def Mk (i r t : Nat) (M : Nat → Bool) : Prop := ∀ k, M k = true ↔ k = i ∨ ∃ s, s < t ∧ k = up s r
theorem mk_step {i r t : Nat} {M : Nat → Bool} (h : Mk i r t M) : Mk i r (t + 1) (fun k => if k = up t r then true else M k) := by
  intro k
  by_cases e : k = up t r
  · simp only [e, if_true, true_iff]
    exact .inr ⟨t, by omega, rfl⟩
  · simp only [e, if_false]
    rw [h k]
    constructor
    · rintro (h | ⟨s, h1, h2⟩)
      · exact .inl h
      · exact .inr ⟨s, by omega, h2⟩
    · rintro (h | ⟨s, h1, h2⟩)
      · exact .inl h
      · by_cases e2 : s = t
        · subst e2; exact absurd h2 e
        · exact .inr ⟨s, by omega, h2⟩

theorem road0 (w3 : World) (n i : Nat) (hi : i < n) : (w3.alloc (.cells ((madeCells #[.bool false] n).setIfInBounds i (.bool true)) 4)).rowIs w3.heap.size 4 n (fun k => .bool (decide (k = i))) := by
  have hsz : ((madeCells #[.bool false] n).setIfInBounds i (.bool true)).size = n := by simp [madeCells]
  have := World.rowIs_alloc w3 ((madeCells #[.bool false] n).setIfInBounds i (.bool true)) 4 (fun k => .bool (decide (k = i))) (fun k hk => by
    rw [hsz] at hk
    rw [Array.getElem?_setIfInBounds]
    by_cases e : i = k
    · subst e
      rw [if_pos rfl, if_pos (by simpa [madeCells] using hk)]
      simp
    · rw [if_neg e]
      have e2 : ¬ k = i := fun h => e h.symm
      simp [madeCells, hk, e2, Nat.mod_one])
  rwa [hsz] at this

theorem walk_long (a : Option Addr) (n cap : Nat) (a1 a2 : Int) (w : World) (hn : ¬ n ≤ 1024) (hm : n ≤ maxLen) :
    Calls Ycxm.prog 14 #[.slice a n cap, .int .u16 a1, .int .u16 a2] w fun e w' => e = .returned (.bool true) ∧ Below w.heap.size w w' := by
  unfold maxLen at hm
  go_enter Ycxm.func14, Ycxm.ntmps14
  go_wp2
  go_ret
  exact ⟨rfl, Below.refl _ _⟩
theorem walk_none (a : Option Addr) (cap : Nat) (d : Nat → It) (a1 a2 : Int) (w : World) (h : Sl w a 0 d) :
    Calls Ycxm.prog 14 #[.slice a 0 cap, .int .u16 a1, .int .u16 a2] w fun e w' => e = .returned (.bool true) ∧ Below w.heap.size w w' := by
  go_enter Ycxm.func14, Ycxm.ntmps14
  go_wp2_with fail
  refine (dcopy_any a 0 cap d _ h (by omega)).mono ?_
  rintro e w1 ⟨rfl, how1, hb1⟩
  go_wp2_with fail
  refine (siftDown_any w.heap.size 0 0 0 0 d _ how1 (Nat.le_refl _) (.inr rfl) (by omega)).mono ?_
  rintro e1 w2 ⟨rfl, how2, hfr2⟩
  have e0 : (sd 0 0 d 0).2 = 0 := rfl
  rw [e0]
  clear e0
  go_wp2
  go_ret
  exact ⟨rfl, hb1.trans (hfr2.to_below hb1.size (fun x hx => by omega))⟩

set_option maxHeartbeats 4000000 in
theorem walk_main (a : Option Addr) (n cap : Nat) (d : Nat → It) (a1 a2 : Int) (i p : Nat) (w : World) (h : Sl w a n d) (hn : n ≤ 1024) (hn0 : 1 ≤ n) (h0 : 0 ≤ a1) (h1 : a1 ≤ 65535) (h2 : 0 ≤ a2) (h3 : a2 ≤ 65535)
    (hs : a1 % (n : Int) = i) (hi : i < n) (hp : a2 % (n : Int) = p) (hpn : p < n) :
    Calls Ycxm.prog 14 #[.slice a n cap, .int .u16 a1, .int .u16 a2] w fun e w' => e = .returned (.bool true) ∧ Below w.heap.size w w' := by
  have hnz : ((n : Int) == 0) = false := by simp; omega
  have hmk := run_make_row' (P := Ycxm.prog) 40 4 (.bool false) 1 Ycxm.underlying40 Ycxm.info4 rfl .i64 .i64 n (by omega) (by omega)
  have HMK : Hid (∀ w, (Instr.makeSlice 40 (.int .i64 (n : Int)) (.int .i64 (n : Int))).run Ycxm.prog w = .ok (.slice (some ⟨w.heap.size, 0, none⟩) n n) (w.alloc (.cells (madeCells #[.bool false] n) 4))) := hmk
  clear hmk
  obtain ⟨T, hT, hK⟩ := sd_road n n d i
  have HT : Hid (Rd i (sd n n d i).2 T) := hT
  have HK : Hid (∀ k, (∀ t, t ≤ T → k ≠ up t (sd n n d i).2) → (sd n n d i).1 k = d k) := hK
  clear hT hK
  go_enter Ycxm.func14, Ycxm.ntmps14
  go_wp2_with fail
  refine (dcopy_any a n cap d _ h (by omega)).mono ?_
  rintro e w1 ⟨rfl, how1, hb1⟩
  obtain ⟨b, hb⟩ : ∃ b, b = w.heap.size := ⟨_, rfl⟩
  rw [← hb] at how1 ⊢
  have HB : Hid (b = w.heap.size) := hb
  clear hb
  go_wp2_with fail
  rw [hs]
  clear hs h0 h1
  refine (siftDown_any b n n n i d _ how1 (Nat.le_refl _) (.inl hi) (by omega)).mono ?_
  rintro e1 w2 ⟨rfl, how2, hfr2⟩
  have hbl2 := hb1.trans (hfr2.to_below hb1.size (fun x hx => by have := HB.out; omega))
  have hRn := sd_lt n n d i hi
  have hRi := sd_ge n n d i
  have HAT : Hid ((sd n n d i).1 (sd n n d i).2 = d i) := sd_at n n d i
  have HCN : Hid (∀ f, cn f (sd n n d i).1 n = cn f d n) := fun f => sd_cn f n n d i
  obtain ⟨R, hR⟩ : ∃ R, R = (sd n n d i).2 := ⟨_, rfl⟩
  obtain ⟨D, hD⟩ : ∃ D, D = (sd n n d i).1 := ⟨_, rfl⟩
  rw [← hD] at how2 HK HAT HCN
  rw [← hR] at HT HK HAT hRn hRi ⊢
  clear hR hD how1 hfr2 hb1
  obtain ⟨ab, off, ha, hc⟩ := h.below hbl2 (Nat.le_refl _)
  obtain ⟨rfl, hbw⟩ := ha (by omega)
  have c0 := cell_regrown (hc i hi).1
  have c1 := cell_regrown (hc i hi).2
  have c2 := cell_regrown (how2.c0 hRn)
  have c3 := cell_regrown (how2.c1 hRn)
  rw [HAT.out] at c2 c3
  clear hc ha
  have g1 : decide (R < i) = false := decide_eq_false (by omega)
  have g2 : decide (n ≤ R) = false := decide_eq_false (by omega)
  go_wp2
  refine wp_region_below (by kernel_rfl) (by kernel_rfl) ?_
  repeat (go_big_quiet_step (fail))
  refine wpQuiet_nil ?_
  intro w3 hb3
  have how3 := how2.below hb3 how2.lt
  have hbl3 := hbl2.trans (hb3.mono hbl2.size)
  clear c0 c1 c2 c3 g1 g2 how2 hbl2 hb3 hbw
  have hmk := HMK.out
  have hmc : (madeCells #[.bool false] n)[i]? = some (.bool false) := by simp [madeCells, hi, Nat.mod_one]
  go_wp2
  clear hmc
  have hrow0 := road0 w3 n i hi
  have how4 := how3.alloc (.cells ((madeCells #[.bool false] n).setIfInBounds i (.bool true)) 4)
  have hbl4 := hbl3.alloc hbl3.size (.cells ((madeCells #[.bool false] n).setIfInBounds i (.bool true)) 4)
  have hbr := how3.lt
  have HBR : Hid (w.heap.size ≤ w3.heap.size) := hbl3.size
  clear how3 hbl3 hmk HMK
  obtain ⟨br, hbre⟩ : ∃ br, br = w3.heap.size := ⟨_, rfl⟩
  rw [← hbre] at hrow0 hbr HBR ⊢
  clear hbre
  go_loopw [12] (fun u wr => ∃ (t : Nat) (M : Nat → Bool), t ≤ T ∧ u = .int .i64 (up t R) ∧ Own wr b n D ∧ wr.rowIs br 4 n (fun k => .bool (M k)) ∧ Below w.heap.size w wr ∧ Hid (Mk i R t M)) (fun u _ => (intOf u).toNat)
  case atStart => exact ⟨0, _, Nat.zero_le _, rfl, how4, hrow0, hbl4, fun k => by simp⟩
  case round =>
    clear how4 hrow0 hbl4
    obtain ⟨t, M, ht, rfl, how, hrow, hbl, HM⟩ := hrel
    have hqR := up_le t R
    obtain ⟨q, hq⟩ : ∃ q, q = up t R := ⟨_, rfl⟩
    rw [← hq] at hqR ⊢
    by_cases hlt : i < q
    · have htT : t + 1 ≤ T := by
        by_cases e : t = T
        · exfalso; subst e; rw [HT.out.1] at hq; omega
        · omega
      have hq2 : up (t + 1) R = (q - 1) / 2 := by rw [hq]; rfl
      have HQ2 : Hid (up (t + 1) R = (q - 1) / 2) := hq2
      have hrow2 : (wr.setCell ⟨br, q, none⟩ (.bool true)).rowIs br 4 n (fun k => .bool (if k = up t R then true else M k)) := by
        refine World.rowIs.congr (World.rowIs.set hrow q (.bool true)) fun k hk => ?_
        rw [← hq]
        by_cases e : k = q <;> simp [e]
      have how2 := how.setOther (a := ⟨br, q, none⟩) (by show b ≠ br; omega) (.bool true)
      have hbl2 := hbl.setCell (p := ⟨br, q, none⟩) HBR.out (.bool true)
      have k0 := World.rowIs.cell hrow (i := q) (by omega)
      have k1 := World.rowIs.frozen hrow q
      have hqi : ((q : Int) - 1) / 2 = (((q - 1) / 2 : Nat) : Int) := by omega
      have HM2 : Hid (Mk i R (t + 1) (fun k => if k = up t R then true else M k)) := mk_step HM.out
      clear how hrow hbl HM hq hq2
      go_wp2
      go_roundw
      case rel => exact ⟨t + 1, _, htT, by rw [HQ2.out]; go_num, how2, hrow2, hbl2, HM2⟩
      case measure => simp [intOf]; omega
    · have hti : t = T := by
        by_cases e : t = T
        · exact e
        · have := HT.out.2 t (by omega); omega
      subst hti
      have hqi : q = i := by rw [hq, HT.out.1]
      subst hqi
      have HU : Hid (∀ k, k < n → M k = false → D k = d k) := fun k _ hk => HK.out k fun s hs e => by
        have : M k = true := (HM.out k).2 (by
          by_cases e2 : s = t
          · subst e2; exact .inl (by rw [e, ← hq])
          · exact .inr ⟨s, by omega, e⟩)
        rw [hk] at this; cases this
      clear hq HM HK HT ht hqR hlt HAT
      go_wp2
      go_loopw [13] (fun u wr => ∃ (k : Nat), k ≤ n ∧ u = .int .i64 k ∧ Own wr b n D ∧ wr.rowIs br 4 n (fun k => .bool (M k)) ∧ Below w.heap.size w wr) (fun u _ => n - (intOf u).toNat)
      case atStart => exact ⟨0, Nat.zero_le _, rfl, how, hrow, hbl⟩
      case round =>
        clear how hrow hbl
        obtain ⟨k, hk, rfl, how, hrow, hbl⟩ := hrel
        by_cases hkn : k < n
        · have m0 := cell_regrown (World.rowIs.cell hrow hkn)
          cases hMk : M k
          · obtain ⟨ab', off', ha', hc'⟩ := h.below hbl (Nat.le_refl _)
            obtain ⟨hae, hbw'⟩ := ha' (by omega)
            obtain ⟨rfl, rfl⟩ : ab = ab' ∧ off = off' := by simpa using hae
            have c0 := cell_regrown (hc' k hkn).1
            have c1 := cell_regrown (hc' k hkn).2
            have c2 := cell_regrown (how.c0 hkn)
            have c3 := cell_regrown (how.c1 hkn)
            rw [HU.out k hkn hMk] at c2 c3
            clear hc' ha' hae
            rw [hMk] at m0
            go_wp2
            refine wp_region_below (by kernel_rfl) (by kernel_rfl) ?_
            repeat (go_big_quiet_step (fail))
            refine wpQuiet_nil ?_
            intro w8 hb8
            have p1 := how.below hb8 how.lt
            have p2 := World.rowIs.of_block hrow (hb8.block br (World.rowIs.lt hrow))
            have p3 := hbl.trans (hb8.mono hbl.size)
            clear c0 c1 c2 c3 m0 how hrow hbl hb8
            go_wp2
            go_roundw
            case rel => exact ⟨k + 1, by omega, by go_num, p1, p2, p3⟩
            case measure => simp [intOf]; omega
          · rw [hMk] at m0
            go_wp2
            refine wp_region_below (by kernel_rfl) (by kernel_rfl) ?_
            repeat (go_big_quiet_step (fail))
            refine wpQuiet_nil ?_
            intro w8 hb8
            have p1 := how.below hb8 how.lt
            have p2 := World.rowIs.of_block hrow (hb8.block br (World.rowIs.lt hrow))
            have p3 := hbl.trans (hb8.mono hbl.size)
            clear m0 how hrow hbl hb8
            go_wp2
            go_roundw
            case rel => exact ⟨k + 1, by omega, by go_num, p1, p2, p3⟩
            case measure => simp [intOf]; omega
        · obtain ⟨ab', off', ha', hc'⟩ := h.below hbl (Nat.le_refl _)
          obtain ⟨hae, hbw'⟩ := ha' (by omega)
          obtain ⟨rfl, rfl⟩ : ab = ab' ∧ off = off' := by simpa using hae
          have c0 := (hc' p hpn).1
          have c1 := (hc' p hpn).2
          clear hc' ha' hae
          have hpt : (a2 % (n : Int)).toNat = p := by omega
          have hpl : a2 % (n : Int) < (n : Int) := by omega
          have hp0 : 0 ≤ a2 % (n : Int) := by omega
          obtain ⟨x, hx⟩ : ∃ x, x = d p := ⟨_, rfl⟩
          rw [← hx] at c0 c1
          clear hx
          have hbl2 := hbl.alloc hbl.size (.cells #[.int .i64 x.1, .int .u32 x.2] 25)
          have how2 := how.alloc (.cells #[.int .i64 x.1, .int .u32 x.2] 25)
          obtain ⟨w9, hw9⟩ : ∃ w9, w9 = wr.alloc (.cells #[.int .i64 x.1, .int .u32 x.2] 25) := ⟨_, rfl⟩
          have x0 : w9.cell? ⟨wr.heap.size, 0, none⟩ = some (.int .i64 x.1) := by rw [hw9]; go_simp
          have x1 : w9.cell? ⟨wr.heap.size, 1, none⟩ = some (.int .u32 x.2) := by rw [hw9]; go_simp
          have HC9 := HCN.out (eqq x)
          have K1 : ∀ dd os, Calls Ycxm.prog 27 #[.slice (some ⟨b, 0, none⟩) n n, .agg #[.int .i64 x.1, .int .u32 x.2]] (grow (redrawn w9 dd) os) fun e w'' => e = .returned (.int .i64 (cn (eqq x) d n)) ∧ ∃ p : Regrown, w'' = grow (redrawn w9 p.d) p.os := fun dd os => by
            rw [← HC9]
            rw [← hw9] at how2
            exact Calls.regrown_of (dcount_any _ n n D x _ ((how2.sl (Nat.le_refl _)).below (below_regrown w9 dd os) (Nat.le_refl _)) (by unfold maxLen; omega))
          have K2 : ∀ dd os, Calls Ycxm.prog 27 #[.slice (some ⟨ab, off, none⟩) n cap, .agg #[.int .i64 x.1, .int .u32 x.2]] (grow (redrawn w9 dd) os) fun e w'' => e = .returned (.int .i64 (cn (eqq x) d n)) ∧ ∃ p : Regrown, w'' = grow (redrawn w9 p.d) p.os := fun dd os => by
            rw [← hw9] at hbl2
            exact Calls.regrown_of (dcount_any _ n cap d x _ ((h.below hbl2 (Nat.le_refl _)).below (below_regrown w9 dd os) (Nat.le_refl _)) (by unfold maxLen; omega))
          have HK1 : Hid (∀ dd os, Calls Ycxm.prog 27 #[.slice (some ⟨b, 0, none⟩) n n, .agg #[.int .i64 x.1, .int .u32 x.2]] (grow (redrawn w9 dd) os) fun e w'' => e = .returned (.int .i64 (cn (eqq x) d n)) ∧ ∃ p : Regrown, w'' = grow (redrawn w9 p.d) p.os) := K1
          have HK2 : Hid (∀ dd os, Calls Ycxm.prog 27 #[.slice (some ⟨ab, off, none⟩) n cap, .agg #[.int .i64 x.1, .int .u32 x.2]] (grow (redrawn w9 dd) os) fun e w'' => e = .returned (.int .i64 (cn (eqq x) d n)) ∧ ∃ p : Regrown, w'' = grow (redrawn w9 p.d) p.os) := K2
          have z0 := cell_regrown x0
          have z1 := cell_regrown x1
          have HW9 : Hid (w9 = wr.alloc (.cells #[.int .i64 x.1, .int .u32 x.2] 25)) := hw9
          clear K1 K2 HC9 x0 x1 hw9
          go_wp2
          rw [← HW9.out]
          refine wp_region_below (by kernel_rfl) (by kernel_rfl) ?_
          repeat (go_big_quiet_step (first | (go_at_call_of 27 b; exact HK1.out _ _) | (go_at_call_of 27 ab; exact HK2.out _ _)))
          refine wpQuiet_nil ?_
          intro w10 hb10
          have hbl9 : Below w.heap.size w w9 := by rw [HW9.out]; exact hbl2
          have p3 := hbl9.trans (hb10.mono hbl9.size)
          go_wp2
          go_ret
          exact ⟨rfl, p3⟩

theorem walk (a : Option Addr) (n cap : Nat) (d : Nat → It) (a1 a2 : Int) (w : World) (h : Sl w a n d) (hn : n ≤ maxLen) (w1 : (Lit.int .u16 a1).wf = true) (w2 : (Lit.int .u16 a2).wf = true) :
    Calls Ycxm.prog 14 #[.slice a n cap, .int .u16 a1, .int .u16 a2] w fun e w' => e = .returned (.bool true) ∧ Below w.heap.size w w' := by
  have hb := bd_u16 w1
  have hb2 := bd_u16 w2
  by_cases hs : n ≤ 1024
  · by_cases h0 : n = 0
    · subst h0
      exact walk_none a cap d a1 a2 w h
    · have h2 : 0 ≤ a1 % (n : Int) := Int.emod_nonneg _ (by omega)
      have h3 : a1 % (n : Int) < (n : Int) := Int.emod_lt_of_pos _ (by omega)
      have h4 : 0 ≤ a2 % (n : Int) := Int.emod_nonneg _ (by omega)
      have h5 : a2 % (n : Int) < (n : Int) := Int.emod_lt_of_pos _ (by omega)
      exact walk_main a n cap d a1 a2 (a1 % (n : Int)).toNat (a2 % (n : Int)).toNat w h hs (by omega) hb.1 hb.2 hb2.1 hb2.2 (by omega) (by omega) (by omega) (by omega)
  · exact walk_long a n cap a1 a2 w hs hn
end Go.Proofs.Ymbrcx.lawS930008DKept
