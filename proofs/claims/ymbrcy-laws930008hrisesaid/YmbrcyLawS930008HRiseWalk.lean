/- The walk of LawS930008HRise (seat Ymbrcy): the Go text returns true, and writes nothing that was there. -/
import Derived.Test.YmbrcyBase
import Derived.Test.YmbrcyBefore
import Derived.Test.YmbrcyFrom
import Derived.Test.YmbrcyFix
import Derived.Test.YmbrcyEqs
import Derived.Test.YmbrcyPath
namespace Go.Proofs.Ymbrcy.lawS930008HRise
open Go.RowKit Go.Sort
set_option linter.unusedVariables false

theorem su_climb : ∀ (g : Nat) (d : Nat → It) (i : Nat), i ≤ g → ∃ T, (su g d i).2 = up T i ∧ (∀ s, s < T → 0 < up s i ∧ lt (d i) (d (up (s + 1) i)) = true) ∧ (up T i = 0 ∨ lt (d i) (d (up (T + 1) i)) = false)
  | 0, d, i, h => ⟨0, rfl, fun s hs => by omega, .inl (by show i = 0; omega)⟩
  | g + 1, d, i, h => by
    rcases su_or d i with h1 | h1
    · rw [su_go h1.1 h1.2]
      obtain ⟨T, e1, e2, e3⟩ := su_climb g (swp d i ((i - 1) / 2)) ((i - 1) / 2) (by omega)
      rw [swp_right] at e2 e3
      have hsw : ∀ s, 0 < up s ((i - 1) / 2) → swp d i ((i - 1) / 2) (up (s + 1) ((i - 1) / 2)) = d (up (s + 1) ((i - 1) / 2)) := fun s hs => by
        have a1 := up_le s ((i - 1) / 2)
        have a2 : up (s + 1) ((i - 1) / 2) = (up s ((i - 1) / 2) - 1) / 2 := rfl
        exact swp_other d (by omega) (by omega)
      refine ⟨T + 1, by rw [up_succ]; exact e1, fun s hs => ?_, ?_⟩
      · cases s with
        | zero => exact ⟨h1.1, h1.2⟩
        | succ s =>
          obtain ⟨a1, a2⟩ := e2 s (by omega)
          rw [hsw s a1] at a2
          rw [up_succ, up_succ (s + 1)]
          exact ⟨a1, a2⟩
      · rw [up_succ, up_succ (T + 1)]
        rcases e3 with e3 | e3
        · exact .inl e3
        · by_cases hz : up T ((i - 1) / 2) = 0
          · exact .inl hz
          · rw [hsw T (by omega)] at e3
            exact .inr e3
    · rw [su_stop h1]
      exact ⟨0, rfl, fun s hs => by omega, h1⟩

theorem climb {n : Nat} {H : Nat → It} {i : Nat} (x : It) (hi : i < n) (h : HeapFrom n 0 H) :
    ∃ T, (su n (upd H i x) i).2 = up T i ∧ (∀ s, s < T → 0 < up s i ∧ lt x (upd H i x (up (s + 1) i)) = true) ∧ (∀ s, T ≤ s → 0 < up s i → lt x (upd H i x (up (s + 1) i)) = false) := by
  obtain ⟨T, e1, e2, e3⟩ := su_climb n (upd H i x) i (by omega)
  rw [upd_same] at e2 e3
  refine ⟨T, e1, e2, fun s => ?_⟩
  induction s with
  | zero =>
    intro h1 h2
    have : T = 0 := by omega
    subst this
    rcases e3 with e3 | e3
    · omega
    · exact e3
  | succ s ih =>
    intro h1 h2
    by_cases e : T = s + 1
    · subst e
      rcases e3 with e3 | e3
      · omega
      · exact e3
    · have a0 := up_le s i
      have a1 : up (s + 1) i = (up s i - 1) / 2 := rfl
      have a2 : up (s + 1 + 1) i = (up (s + 1) i - 1) / 2 := rfl
      have h3 := ih (by omega) (by omega)
      have h4 := h (up (s + 1) i) (by omega) (by omega) (Nat.zero_le _)
      rw [← a2] at h4
      rw [upd_other H x (k := up (s + 1) i) (by omega)] at h3
      rw [upd_other H x (k := up (s + 1 + 1) i) (by omega)]
      exact le_trans h4 h3

theorem sinks {n : Nat} {D : Nat → It} {i c : Nat} (h : c < n) (hp : (c - 1) / 2 = i) (h0 : 1 ≤ c) (hl : lt (D c) (D i) = true) : i < (sd n n D i).2 := by
  obtain ⟨g, rfl⟩ : ∃ g, n = g + 1 := ⟨n - 1, by omega⟩
  have h1 := chd_least D h0 h hp
  have h2 := le_lt h1 hl
  rw [sd_go (f := g) (by omega) h2]
  have h3 := sd_ge (g + 1) g (swp D i (chd (g + 1) D i)) (chd (g + 1) D i)
  have h4 := chd_gt (g + 1) D i
  omega

theorem stays {n : Nat} {D : Nat → It} {i : Nat} (h1 : 2 * i + 1 < n → lt (D (2 * i + 1)) (D i) = false) (h2 : 2 * i + 2 < n → lt (D (2 * i + 2)) (D i) = false) : (sd n n D i).2 = i := by
  rw [sd_stop]
  by_cases h : 2 * i + 1 < n
  · refine .inr ?_
    rcases chd_cases n D i with e | ⟨e, e2⟩
    · rw [e]; exact h1 h
    · rw [e]; exact h2 e2
  · exact .inl (by omega)

theorem walk_long (a : Option Addr) (n cap : Nat) (a1 : Int) (x : It) (w : World) (hn : ¬ n ≤ 1024) (hm : n ≤ maxLen) :
    Calls Ycym.prog 14 #[.slice a n cap, .int .u64 a1, .agg #[.int .i64 x.1, .int .u32 x.2]] w fun e w' => e = .returned (.bool true) ∧ Below w.heap.size w w' := by
  unfold maxLen at hm
  go_enter Ycym.func14, Ycym.ntmps14
  go_wp2
  go_ret
  exact ⟨rfl, (Below.refl _ _).alloc (Nat.le_refl _) _⟩

set_option maxHeartbeats 1000000 in
theorem walk_none (a : Option Addr) (cap : Nat) (d : Nat → It) (a1 : Int) (x : It) (w : World) (h : Sl w a 0 d) :
    Calls Ycym.prog 14 #[.slice a 0 cap, .int .u64 a1, .agg #[.int .i64 x.1, .int .u32 x.2]] w fun e w' => e = .returned (.bool true) ∧ Below w.heap.size w w' := by
  have hb0 : Below w.heap.size w (w.alloc (.cells #[.int .i64 x.1, .int .u32 x.2] 29)) := (Below.refl _ _).alloc (Nat.le_refl _) _
  go_enter Ycym.func14, Ycym.ntmps14
  go_wp2_with fail
  refine (fromItems_any a 0 cap d _ (h.below hb0 (Nat.le_refl _)) (by omega)).mono ?_
  rintro e w1 ⟨rfl, how1, hb1⟩
  have hb1 := hb1.mono (B' := w.heap.size + 1) (by simp)
  simp only [World.size_alloc] at how1 ⊢
  have hbl1 := hb0.trans (hb1.mono (by omega))
  have hbz := how1.lt
  have hbl2 := hbl1.alloc hbl1.size (.cells #[.slice (some ⟨w.heap.size + 1 + 1, 0, none⟩) 0 0] 24)
  have hH1 : Hp (w1.alloc (.cells #[.slice (some ⟨w.heap.size + 1 + 1, 0, none⟩) 0 0] 24)) w1.heap.size (w.heap.size + 1 + 1) 0 0 (mk 0 d) :=
    ⟨by go_simp, by go_simp, by simp, by omega, how1.alloc _, Nat.le_refl _, by omega⟩
  have g0 := hH1.cell
  go_wp2_with fail
  refine (fix_out _ _ 0 0 0 _ _ hH1 (.inr (Int.le_refl _))).mono ?_
  rintro e w2 ⟨rfl, hw⟩
  subst hw
  go_wp2
  go_ret
  exact ⟨rfl, hbl2⟩

set_option maxHeartbeats 4000000 in
theorem walk_main (a : Option Addr) (n cap : Nat) (d : Nat → It) (a1 : Int) (x : It) (i : Nat) (w : World) (h : Sl w a n d) (hn : n ≤ 1024) (hn0 : 1 ≤ n) (h0 : 0 ≤ a1) (h1 : a1 ≤ 18446744073709551615) (hs : a1 % (n : Int) = i) (hi : i < n) :
    Calls Ycym.prog 14 #[.slice a n cap, .int .u64 a1, .agg #[.int .i64 x.1, .int .u32 x.2]] w fun e w' => e = .returned (.bool true) ∧ Below w.heap.size w w' := by
  have hnz : ((n : Int) == 0) = false := by simp; omega
  have hb0 : Below w.heap.size w (w.alloc (.cells #[.int .i64 x.1, .int .u32 x.2] 29)) := (Below.refl _ _).alloc (Nat.le_refl _) _
  go_enter Ycym.func14, Ycym.ntmps14
  go_wp2_with fail
  refine (fromItems_any a n cap d _ (h.below hb0 (Nat.le_refl _)) (by omega)).mono ?_
  rintro e w1 ⟨rfl, how1, hb1⟩
  have hb1 := hb1.mono (B' := w.heap.size + 1) (by simp)
  simp only [World.size_alloc] at how1 ⊢
  have x0 : w1.cell? ⟨w.heap.size, 0, none⟩ = some (.int .i64 x.1) := (hb1.cell (p := ⟨w.heap.size, 0, none⟩) (by simp)).trans (by go_simp)
  have x1 : w1.cell? ⟨w.heap.size, 1, none⟩ = some (.int .u32 x.2) := (hb1.cell (p := ⟨w.heap.size, 1, none⟩) (by simp)).trans (by go_simp)
  have hz1 : w.heap.size < w1.heap.size := by have := hb1.size; simp at this; omega
  have hbl1 := hb0.trans (hb1.mono (by omega))
  have HHF : Hid (HeapFrom n 0 (mk n d)) := mk_heap n d
  obtain ⟨H, hHe⟩ : ∃ H, H = mk n d := ⟨_, rfl⟩
  rw [← hHe] at how1 HHF
  clear hHe
  have hbz := how1.lt
  obtain ⟨b, hb⟩ : ∃ b, b = w.heap.size + 1 + 1 := ⟨_, rfl⟩
  rw [← hb] at how1 hbz ⊢
  obtain ⟨bx, hbx⟩ : ∃ bx, bx = w.heap.size := ⟨_, rfl⟩
  rw [← hbx] at x0 x1 hz1 ⊢
  have hbb : bx < b := by omega
  have HB : Hid (w.heap.size ≤ b) := by show _ ≤ b; omega
  clear hb hbx hb1 hb0
  have hO0 := (how1.set i x).alloc (.cells #[.slice (some ⟨b, 0, none⟩) n n] 24)
  have hbl2 := ((hbl1.setCell (p := ⟨b, i * 2, none⟩) HB.out (.int .i64 x.1)).setCell (p := ⟨b, i * 2 + 1, none⟩) HB.out (.int .u32 x.2)).alloc (by have := hbl1.size; simp [World.setCell]; omega) (.cells #[.slice (some ⟨b, 0, none⟩) n n] 24)
  have k0 := how1.c0 hi
  have k1 := how1.c1 hi
  have kf := how1.fz
  have hH1 : Hp (((w1.setCell ⟨b, i * 2, none⟩ (.int .i64 x.1)).setCell ⟨b, i * 2 + 1, none⟩ (.int .u32 x.2)).alloc (.cells #[.slice (some ⟨b, 0, none⟩) n n] 24)) w1.heap.size b n n (upd H i x) :=
    ⟨by go_simp, by go_simp, by simp [World.setCell], by omega, hO0, Nat.le_refl _, by omega⟩
  have hsz : ((w1.setCell ⟨b, i * 2, none⟩ (.int .i64 x.1)).setCell ⟨b, i * 2 + 1, none⟩ (.int .u32 x.2)).heap.size = w1.heap.size := by simp [World.setCell]
  have y0 : (((w1.setCell ⟨b, i * 2, none⟩ (.int .i64 x.1)).setCell ⟨b, i * 2 + 1, none⟩ (.int .u32 x.2)).alloc (.cells #[.slice (some ⟨b, 0, none⟩) n n] 24)).cell? ⟨bx, 0, none⟩ = some (.int .i64 x.1) := by
    rw [World.cell?_of_block (Below.heap_alloc _ _ _ (by rw [hsz]; exact hz1)), World.cell?_of_block (Below.heap_setCell _ _ _ _ (by show bx ≠ b; omega)), World.cell?_of_block (Below.heap_setCell _ _ _ _ (by show bx ≠ b; omega))]; exact x0
  have y1 : (((w1.setCell ⟨b, i * 2, none⟩ (.int .i64 x.1)).setCell ⟨b, i * 2 + 1, none⟩ (.int .u32 x.2)).alloc (.cells #[.slice (some ⟨b, 0, none⟩) n n] 24)).cell? ⟨bx, 1, none⟩ = some (.int .u32 x.2) := by
    rw [World.cell?_of_block (Below.heap_alloc _ _ _ (by rw [hsz]; exact hz1)), World.cell?_of_block (Below.heap_setCell _ _ _ _ (by show bx ≠ b; omega)), World.cell?_of_block (Below.heap_setCell _ _ _ _ (by show bx ≠ b; omega))]; exact x1
  have hz2 : bx < (((w1.setCell ⟨b, i * 2, none⟩ (.int .i64 x.1)).setCell ⟨b, i * 2 + 1, none⟩ (.int .u32 x.2)).alloc (.cells #[.slice (some ⟨b, 0, none⟩) n n] 24)).heap.size := by simp [World.setCell]; omega
  clear hsz hO0
  go_wp2
  rw [hs]
  clear hs h0 h1 k0 k1 kf how1 hbl1 x0 x1
  obtain ⟨hp, hhp⟩ : ∃ hp, hp = w1.heap.size := ⟨_, rfl⟩
  rw [← hhp] at hH1 ⊢
  clear hhp
  generalize ((w1.setCell ⟨b, i * 2, none⟩ (.int .i64 x.1)).setCell ⟨b, i * 2 + 1, none⟩ (.int .u32 x.2)).alloc (.cells #[.slice (some ⟨b, 0, none⟩) n n] 24) = W at *
  clear hbz hz1
  obtain ⟨T, hT1, hT2, hT3⟩ := climb x hi HHF.out
  have HT1 : Hid ((su n (upd H i x) i).2 = up T i) := hT1
  have HT2 : Hid (∀ s, s < T → 0 < up s i ∧ lt x (upd H i x (up (s + 1) i)) = true) := hT2
  have HT3 : Hid (∀ s, T ≤ s → 0 < up s i → lt x (upd H i x (up (s + 1) i)) = false) := hT3
  clear hT1 hT2 hT3 HHF
  go_loopw [12, 13] (fun r u wr => ∃ t : Nat, u = .int .i64 (up t i) ∧ r = .int .i64 (up (min t T) i) ∧ Below W.heap.size W wr) (fun _ u _ => (intOf u).toNat)
  case atStart => exact ⟨0, rfl, by rw [Nat.zero_min]; rfl, Below.refl _ _⟩
  case round =>
    obtain ⟨t, rfl, rfl, hb⟩ := hrel
    have hki := up_le t i
    obtain ⟨k, hk⟩ : ∃ k, k = up t i := ⟨_, rfl⟩
    obtain ⟨q, hq⟩ : ∃ q, q = up (min t T) i := ⟨_, rfl⟩
    rw [← hk] at hki
    rw [← hk, ← hq]
    by_cases h0 : 0 < k
    · obtain ⟨p, hpe⟩ : ∃ p, p = (k - 1) / 2 := ⟨_, rfl⟩
      have hpi : ((k : Int) - 1) / 2 = (p : Int) := by omega
      have hpk : p < k := by omega
      have HP1 : Hid (up (t + 1) i = p) := by show (up t i - 1) / 2 = p; rw [← hk, hpe]
      have hHr := hH1.below hb (Nat.le_refl _)
      have c0 := cell_regrown (hHr.own.c0 (k := p) (by omega))
      have c1 := cell_regrown (hHr.own.c1 (k := p) (by omega))
      have c4 := cell_regrown hHr.cell
      have e0 := cell_regrown ((hb.cell (p := ⟨bx, 0, none⟩) hz2).trans y0)
      have e1 := cell_regrown ((hb.cell (p := ⟨bx, 1, none⟩) hz2).trans y1)
      clear hHr hpe
      by_cases htT : t < T
      · have hl := ((HT2.out) t htT).2
        rw [HP1.out] at hl
        have HL : Hid (∀ w, Calls Ycym.prog 28 #[.agg #[.int .i64 x.1, .int .u32 x.2], .agg #[.int .i64 (upd H i x p).1, .int .u32 (upd H i x p).2]] w fun r w' => r = .returned (.bool true) ∧ Below w.heap.size w w') := fun w => by
          have := hless_any x (upd H i x p) w
          rwa [hl] at this
        have hqk : q = k := by rw [hq, hk, Nat.min_eq_left (by omega)]
        have HM : Hid (up (min (t + 1) T) i = p) := by show _ = _; rw [Nat.min_eq_left (by omega)]; exact HP1.out
        clear hq hk hl
        subst hqk
        go_wp2
        refine wp_region_below (by kernel_rfl) (by kernel_rfl) ?_
        repeat (go_big_quiet_step (exact Calls.regrown_of (HL.out _)))
        refine wpQuiet_nil ?_
        intro w5 hb5
        have hb5 := hb.trans (hb5.mono hb.size)
        clear c0 c1 c4 e0 e1 HL
        go_wp2
        go_roundw
        case rel => exact ⟨t + 1, by rw [HP1.out, hpi], by rw [HM.out, hpi], hb5⟩
        case measure => simp [intOf]; omega
      · have hl := (HT3.out) t (by omega) (by omega)
        rw [HP1.out] at hl
        have HL : Hid (∀ w, Calls Ycym.prog 28 #[.agg #[.int .i64 x.1, .int .u32 x.2], .agg #[.int .i64 (upd H i x p).1, .int .u32 (upd H i x p).2]] w fun r w' => r = .returned (.bool false) ∧ Below w.heap.size w w') := fun w => by
          have := hless_any x (upd H i x p) w
          rwa [hl] at this
        have HM : Hid (up (min (t + 1) T) i = q) := by show _ = _; rw [hq, Nat.min_eq_right (by omega), Nat.min_eq_right (by omega)]
        clear hq hk hl
        go_wp2
        refine wp_region_below (by kernel_rfl) (by kernel_rfl) ?_
        repeat (go_big_quiet_step (exact Calls.regrown_of (HL.out _)))
        refine wpQuiet_nil ?_
        intro w5 hb5
        have hb5 := hb.trans (hb5.mono hb.size)
        clear c0 c1 c4 e0 e1 HL
        go_wp2
        go_roundw
        case rel => exact ⟨t + 1, by rw [HP1.out, hpi], by rw [HM.out], hb5⟩
        case measure => simp [intOf]; omega
    · have hTt : T ≤ t := by
        by_cases e : t < T
        · have := ((HT2.out) t e).1; omega
        · omega
      rw [Nat.min_eq_right hTt] at hq
      have hqi' := up_le T i
      rw [← hq] at hqi'
      obtain ⟨L, hL⟩ : ∃ L, L = 2 * i + 1 := ⟨_, rfl⟩
      obtain ⟨r, hr⟩ : ∃ r, r = 2 * i + 2 := ⟨_, rfl⟩
      have hLi : 2 * (i : Int) + 1 = (L : Int) := by omega
      have hri : 2 * (i : Int) + 2 = (r : Int) := by omega
      have hLr : L < r := by omega
      have HF : Hid ((q < i → (fx n (upd H i x) i).2 = q) ∧ (q = i → ((L < n → lt (upd H i x L) x = true → i < (fx n (upd H i x) i).2) ∧ (r < n → lt (upd H i x r) x = true → i < (fx n (upd H i x) i).2)) ∧ ((L < n → lt (upd H i x L) x = false) → (r < n → lt (upd H i x r) x = false) → (fx n (upd H i x) i).2 = i))) := by
        have hsu := HT1.out
        rw [← hq] at hsu
        refine ⟨fun h => ?_, fun h => ?_⟩
        · unfold fx; rw [if_pos (by omega)]; exact hsu
        · have hfx : fx n (upd H i x) i = sd n n (upd H i x) i := by
            unfold fx; rw [if_neg (by omega), su_eq_of_rest (by omega)]
          rw [hfx]
          have hat := upd_same H i x
          refine ⟨⟨fun h1 h2 => sinks (c := L) h1 (by omega) (by omega) (by rw [hat]; exact h2), fun h1 h2 => sinks (c := r) h1 (by omega) (by omega) (by rw [hat]; exact h2)⟩, fun h1 h2 => stays ?_ ?_⟩
          · rw [← hL, hat]; exact h1
          · rw [← hr, hat]; exact h2
      have h0 : k = 0 := by omega
      subst h0
      clear hL hr hq hk HT1 HT2 HT3
      have hHr := hH1.below hb (Nat.le_refl _)
      have c4 := cell_regrown hHr.cell
      have e0 := cell_regrown ((hb.cell (p := ⟨bx, 0, none⟩) hz2).trans y0)
      have e1 := cell_regrown ((hb.cell (p := ⟨bx, 1, none⟩) hz2).trans y1)
      by_cases gL : L < n
      · cases hA : lt (upd H i x L) x
        · by_cases gR : r < n
          · cases hB : lt (upd H i x r) x
            · have HLc : Hid (∀ w, Calls Ycym.prog 28 #[.agg #[.int .i64 (upd H i x L).1, .int .u32 (upd H i x L).2], .agg #[.int .i64 x.1, .int .u32 x.2]] w fun r w' => r = .returned (.bool false) ∧ Below w.heap.size w w') := fun w => by
                have := hless_any (upd H i x L) x w
                rwa [hA] at this
              have c0 := cell_regrown (hHr.own.c0 gL)
              have c1 := cell_regrown (hHr.own.c1 gL)
              have HRc : Hid (∀ w, Calls Ycym.prog 28 #[.agg #[.int .i64 (upd H i x r).1, .int .u32 (upd H i x r).2], .agg #[.int .i64 x.1, .int .u32 x.2]] w fun r w' => r = .returned (.bool false) ∧ Below w.heap.size w w') := fun w => by
                have := hless_any (upd H i x r) x w
                rwa [hB] at this
              have c2 := cell_regrown (hHr.own.c0 gR)
              have c3 := cell_regrown (hHr.own.c1 gR)
              have HLF : Hid (lt (upd H i x L) x = false) := hA
              have HRF : Hid (lt (upd H i x r) x = false) := hB
              clear hHr
              go_wp2
              refine wp_region_below (by kernel_rfl) (by kernel_rfl) ?_
              repeat (go_big_quiet_step (first | (go_at_call_of 28 L; exact Calls.regrown_of (HLc.out _)) | (go_at_call_of 28 r; exact Calls.regrown_of (HRc.out _))))
              refine wpQuiet_nil ?_
              intro w5 hb5
              have hb5 := hb.trans (hb5.mono hb.size)
              have hH5 := hH1.below hb5 (Nat.le_refl _)
              clear c4 e0 e1 hb
              go_wp2_with fail
              refine (fix_in hp b n n i (upd H i x) _ hH5 hi).mono ?_
              rintro e w6 ⟨rfl, _, hf6⟩
              have hfin := (hbl2.trans (hb5.mono hbl2.size)).trans (hf6.to_below (Nat.le_trans hbl2.size hb5.size) (fun t ht => by have := HB.out; omega))
              clear hf6 hH5 hb5 hbl2 hH1 y0 y1
              obtain ⟨R, hR⟩ : ∃ R, R = (fx n (upd H i x) i).2 := ⟨_, rfl⟩
              rw [← hR] at HF ⊢
              clear hR
              by_cases hqi : q < i
              · have hRq := (HF.out).1 hqi
                clear HF
                subst hRq
                go_wp2
                go_ret
                exact ⟨rfl, hfin⟩
              · have hqe : q = i := by omega
                subst hqe
                have HG := (HF.out).2 rfl
                clear HF
                have hRi : R = q := HG.2 (fun h => by first | exact HLF.out | (exfalso; simp at gL; omega)) (fun h => by first | exact HRF.out | (exfalso; simp at gR; omega))
                subst hRi
                clear HG
                go_wp2
                go_ret
                exact ⟨rfl, hfin⟩
            · have HLc : Hid (∀ w, Calls Ycym.prog 28 #[.agg #[.int .i64 (upd H i x L).1, .int .u32 (upd H i x L).2], .agg #[.int .i64 x.1, .int .u32 x.2]] w fun r w' => r = .returned (.bool false) ∧ Below w.heap.size w w') := fun w => by
                have := hless_any (upd H i x L) x w
                rwa [hA] at this
              have c0 := cell_regrown (hHr.own.c0 gL)
              have c1 := cell_regrown (hHr.own.c1 gL)
              have HRc : Hid (∀ w, Calls Ycym.prog 28 #[.agg #[.int .i64 (upd H i x r).1, .int .u32 (upd H i x r).2], .agg #[.int .i64 x.1, .int .u32 x.2]] w fun r w' => r = .returned (.bool true) ∧ Below w.heap.size w w') := fun w => by
                have := hless_any (upd H i x r) x w
                rwa [hB] at this
              have c2 := cell_regrown (hHr.own.c0 gR)
              have c3 := cell_regrown (hHr.own.c1 gR)
              have HRT : Hid (lt (upd H i x r) x = true) := hB
              clear hHr
              go_wp2
              refine wp_region_below (by kernel_rfl) (by kernel_rfl) ?_
              repeat (go_big_quiet_step (first | (go_at_call_of 28 L; exact Calls.regrown_of (HLc.out _)) | (go_at_call_of 28 r; exact Calls.regrown_of (HRc.out _))))
              refine wpQuiet_nil ?_
              intro w5 hb5
              have hb5 := hb.trans (hb5.mono hb.size)
              have hH5 := hH1.below hb5 (Nat.le_refl _)
              clear c4 e0 e1 hb
              go_wp2_with fail
              refine (fix_in hp b n n i (upd H i x) _ hH5 hi).mono ?_
              rintro e w6 ⟨rfl, _, hf6⟩
              have hfin := (hbl2.trans (hb5.mono hbl2.size)).trans (hf6.to_below (Nat.le_trans hbl2.size hb5.size) (fun t ht => by have := HB.out; omega))
              clear hf6 hH5 hb5 hbl2 hH1 y0 y1
              obtain ⟨R, hR⟩ : ∃ R, R = (fx n (upd H i x) i).2 := ⟨_, rfl⟩
              rw [← hR] at HF ⊢
              clear hR
              by_cases hqi : q < i
              · have hRq := (HF.out).1 hqi
                clear HF
                subst hRq
                go_wp2
                go_ret
                exact ⟨rfl, hfin⟩
              · have hqe : q = i := by omega
                subst hqe
                have HG := (HF.out).2 rfl
                clear HF
                have hRi : q < R := by exact HG.1.2 gR HRT.out
                clear HG
                go_wp2
                go_ret
                exact ⟨rfl, hfin⟩
          · have HLc : Hid (∀ w, Calls Ycym.prog 28 #[.agg #[.int .i64 (upd H i x L).1, .int .u32 (upd H i x L).2], .agg #[.int .i64 x.1, .int .u32 x.2]] w fun r w' => r = .returned (.bool false) ∧ Below w.heap.size w w') := fun w => by
              have := hless_any (upd H i x L) x w
              rwa [hA] at this
            have c0 := cell_regrown (hHr.own.c0 gL)
            have c1 := cell_regrown (hHr.own.c1 gL)
            have HLF : Hid (lt (upd H i x L) x = false) := hA
            have gR : decide (r < n) = false := decide_eq_false gR
            clear hHr
            go_wp2
            refine wp_region_below (by kernel_rfl) (by kernel_rfl) ?_
            repeat (go_big_quiet_step (exact Calls.regrown_of (HLc.out _)))
            refine wpQuiet_nil ?_
            intro w5 hb5
            have hb5 := hb.trans (hb5.mono hb.size)
            have hH5 := hH1.below hb5 (Nat.le_refl _)
            clear c4 e0 e1 hb
            go_wp2_with fail
            refine (fix_in hp b n n i (upd H i x) _ hH5 hi).mono ?_
            rintro e w6 ⟨rfl, _, hf6⟩
            have hfin := (hbl2.trans (hb5.mono hbl2.size)).trans (hf6.to_below (Nat.le_trans hbl2.size hb5.size) (fun t ht => by have := HB.out; omega))
            clear hf6 hH5 hb5 hbl2 hH1 y0 y1
            obtain ⟨R, hR⟩ : ∃ R, R = (fx n (upd H i x) i).2 := ⟨_, rfl⟩
            rw [← hR] at HF ⊢
            clear hR
            by_cases hqi : q < i
            · have hRq := (HF.out).1 hqi
              clear HF
              subst hRq
              go_wp2
              go_ret
              exact ⟨rfl, hfin⟩
            · have hqe : q = i := by omega
              subst hqe
              have HG := (HF.out).2 rfl
              clear HF
              have hRi : R = q := HG.2 (fun h => by first | exact HLF.out | (exfalso; simp at gL; omega)) (fun h => by first | exact HRF.out | (exfalso; simp at gR; omega))
              subst hRi
              clear HG
              go_wp2
              go_ret
              exact ⟨rfl, hfin⟩
        · have HLc : Hid (∀ w, Calls Ycym.prog 28 #[.agg #[.int .i64 (upd H i x L).1, .int .u32 (upd H i x L).2], .agg #[.int .i64 x.1, .int .u32 x.2]] w fun r w' => r = .returned (.bool true) ∧ Below w.heap.size w w') := fun w => by
            have := hless_any (upd H i x L) x w
            rwa [hA] at this
          have c0 := cell_regrown (hHr.own.c0 gL)
          have c1 := cell_regrown (hHr.own.c1 gL)
          have HLT : Hid (lt (upd H i x L) x = true) := hA
          clear hHr
          go_wp2
          refine wp_region_below (by kernel_rfl) (by kernel_rfl) ?_
          repeat (go_big_quiet_step (exact Calls.regrown_of (HLc.out _)))
          refine wpQuiet_nil ?_
          intro w5 hb5
          have hb5 := hb.trans (hb5.mono hb.size)
          have hH5 := hH1.below hb5 (Nat.le_refl _)
          clear c4 e0 e1 hb
          go_wp2_with fail
          refine (fix_in hp b n n i (upd H i x) _ hH5 hi).mono ?_
          rintro e w6 ⟨rfl, _, hf6⟩
          have hfin := (hbl2.trans (hb5.mono hbl2.size)).trans (hf6.to_below (Nat.le_trans hbl2.size hb5.size) (fun t ht => by have := HB.out; omega))
          clear hf6 hH5 hb5 hbl2 hH1 y0 y1
          obtain ⟨R, hR⟩ : ∃ R, R = (fx n (upd H i x) i).2 := ⟨_, rfl⟩
          rw [← hR] at HF ⊢
          clear hR
          by_cases hqi : q < i
          · have hRq := (HF.out).1 hqi
            clear HF
            subst hRq
            go_wp2
            go_ret
            exact ⟨rfl, hfin⟩
          · have hqe : q = i := by omega
            subst hqe
            have HG := (HF.out).2 rfl
            clear HF
            have hRi : q < R := by exact HG.1.1 gL HLT.out
            clear HG
            go_wp2
            go_ret
            exact ⟨rfl, hfin⟩
      · have gR : decide (r < n) = false := decide_eq_false (by omega)
        have gL : decide (L < n) = false := decide_eq_false gL
        clear hHr
        go_wp2
        refine wp_region_below (by kernel_rfl) (by kernel_rfl) ?_
        repeat (go_big_quiet_step (fail))
        refine wpQuiet_nil ?_
        intro w5 hb5
        have hb5 := hb.trans (hb5.mono hb.size)
        have hH5 := hH1.below hb5 (Nat.le_refl _)
        clear c4 e0 e1 hb
        go_wp2_with fail
        refine (fix_in hp b n n i (upd H i x) _ hH5 hi).mono ?_
        rintro e w6 ⟨rfl, _, hf6⟩
        have hfin := (hbl2.trans (hb5.mono hbl2.size)).trans (hf6.to_below (Nat.le_trans hbl2.size hb5.size) (fun t ht => by have := HB.out; omega))
        clear hf6 hH5 hb5 hbl2 hH1 y0 y1
        obtain ⟨R, hR⟩ : ∃ R, R = (fx n (upd H i x) i).2 := ⟨_, rfl⟩
        rw [← hR] at HF ⊢
        clear hR
        by_cases hqi : q < i
        · have hRq := (HF.out).1 hqi
          clear HF
          subst hRq
          go_wp2
          go_ret
          exact ⟨rfl, hfin⟩
        · have hqe : q = i := by omega
          subst hqe
          have HG := (HF.out).2 rfl
          clear HF
          have hRi : R = q := HG.2 (fun h => by first | exact HLF.out | (exfalso; simp at gL; omega)) (fun h => by first | exact HRF.out | (exfalso; simp at gR; omega))
          subst hRi
          clear HG
          go_wp2
          go_ret
          exact ⟨rfl, hfin⟩

theorem walk (a : Option Addr) (n cap : Nat) (d : Nat → It) (a1 : Int) (x : It) (w : World) (h : Sl w a n d) (hn : n ≤ maxLen) (w1 : (Lit.int .u64 a1).wf = true) :
    Calls Ycym.prog 14 #[.slice a n cap, .int .u64 a1, .agg #[.int .i64 x.1, .int .u32 x.2]] w fun e w' => e = .returned (.bool true) ∧ Below w.heap.size w w' := by
  have hb := bd_u64 w1
  by_cases hs : n ≤ 1024
  · by_cases hz : n = 0
    · subst hz
      exact walk_none a cap d a1 x w h
    · have h2 : 0 ≤ a1 % (n : Int) := Int.emod_nonneg _ (by omega)
      have h3 : a1 % (n : Int) < (n : Int) := Int.emod_lt_of_pos _ (by omega)
      exact walk_main a n cap d a1 x (a1 % (n : Int)).toNat w h hs (by omega) hb.1 hb.2 (by omega) (by omega)
  · exact walk_long a n cap a1 x w hs hn
end Go.Proofs.Ymbrcy.lawS930008HRise
