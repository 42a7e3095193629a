/- The walk of LawS930008HPath (seat Ymbrcy): the Go text returns true, and writes nothing that was there. -/
import Derived.Test.YmbrcyBase
import Derived.Test.YmbrcyBefore
import Derived.Test.YmbrcyCopy
import Derived.Test.YmbrcyFix
import Derived.Test.YmbrcyEqs
import Derived.Test.YmbrcyPath
namespace Go.Proofs.Ymbrcy.lawS930008HPath
open Go.RowKit Go.Sort
set_option linter.unusedVariables false

theorem up_mono (i : Nat) : ∀ (t s : Nat), s ≤ t → up t i ≤ up s i
  | 0, s, h => by
    have : s = 0 := by omega
    subst this; exact Nat.le_refl _
  | t + 1, s, h => by
    by_cases e : s = t + 1
    · subst e; exact Nat.le_refl _
    · have h1 := up_mono i t s (by omega)
      have h2 : up (t + 1) i = (up t i - 1) / 2 := rfl
      omega
theorem rd_down {i r T : Nat} (h : Rd i r T) {s t : Nat} (hs : s < t) (ht : t ≤ T) : up t r < up s r := by
  have h1 := up_mono r t (s + 1) hs
  have h2 : up (s + 1) r = (up s r - 1) / 2 := rfl
  have h3 := h.2 s (by omega)
  omega

theorem su_exact : ∀ (g : Nat) (d : Nat → It) (i : Nat), ∃ T, Rd (su g d i).2 i T ∧ (∀ k, (∀ t, t ≤ T → k ≠ up t i) → (su g d i).1 k = d k) ∧ ∀ s, s < T → (su g d i).1 (up s i) = d (up (s + 1) i)
  | 0, d, i => ⟨0, Rd.refl i, fun _ _ => rfl, fun s hs => by omega⟩
  | g + 1, d, i => by
    rcases su_or d i with h | h
    · rw [su_go h.1 h.2]
      obtain ⟨T, hr, hk, hx⟩ := su_exact g (swp d i ((i - 1) / 2)) ((i - 1) / 2)
      refine ⟨T + 1, ⟨?_, fun t ht => ?_⟩, fun k hn => ?_, fun s hs => ?_⟩
      · rw [up_succ]; exact hr.1
      · cases t with
        | zero =>
          show _ < i
          have := su_le g (swp d i ((i - 1) / 2)) ((i - 1) / 2)
          omega
        | succ t => rw [up_succ]; exact hr.2 t (by omega)
      · rw [hk k (fun t ht => by have := hn (t + 1) (by omega); rwa [up_succ] at this)]
        exact swp_other d (hn 0 (by omega)) (by have := hn 1 (by omega); exact this)
      · cases s with
        | zero =>
          show (su g (swp d i ((i - 1) / 2)) ((i - 1) / 2)).1 i = d ((i - 1) / 2)
          rw [hk i (fun t ht => by have := up_le t ((i - 1) / 2); omega), swp_left]
        | succ s =>
          have h1 := hr.2 s (by omega)
          have h2 := up_le s ((i - 1) / 2)
          have h3 : up (s + 1) ((i - 1) / 2) = (up s ((i - 1) / 2) - 1) / 2 := rfl
          rw [up_succ, up_succ (s + 1), hx s (by omega)]
          exact swp_other d (by omega) (by omega)
    · rw [su_stop h]
      exact ⟨0, Rd.refl i, fun _ _ => rfl, fun s hs => by omega⟩

theorem sd_exact (n : Nat) : ∀ (g : Nat) (d : Nat → It) (i : Nat), ∃ T, Rd i (sd n g d i).2 T ∧ (∀ k, (∀ t, t ≤ T → k ≠ up t (sd n g d i).2) → (sd n g d i).1 k = d k) ∧ ∀ s, s < T → (sd n g d i).1 (up (s + 1) (sd n g d i).2) = d (up s (sd n g d i).2)
  | 0, d, i => ⟨0, Rd.refl i, fun _ _ => rfl, fun s hs => by omega⟩
  | g + 1, d, i => by
    rcases sd_or n d i with h | h
    · rw [sd_go h.1 h.2]
      obtain ⟨T, hr, hk, hx⟩ := sd_exact n g (swp d i (chd n d i)) (chd n d i)
      have hc := chd_gt n d i
      have h3 : up (T + 1) (sd n g (swp d i (chd n d i)) (chd n d i)).2 = i := by
        show (up T _ - 1) / 2 = i
        rw [hr.1]; exact chd_par n d i
      have hne : ∀ t, t ≤ T → i ≠ up t (sd n g (swp d i (chd n d i)) (chd n d i)).2 := fun t ht => by
        by_cases e : t = T
        · subst e; rw [hr.1]; omega
        · have := hr.2 t (by omega); omega
      refine ⟨T + 1, hr.step (chd_par n d i) (chd_gt n d i), fun k hn => ?_, fun s hs => ?_⟩
      · rw [hk k (fun t ht => hn t (by omega))]
        have h1 := hn T (by omega)
        rw [hr.1] at h1
        have h2 := hn (T + 1) (Nat.le_refl _)
        rw [h3] at h2
        exact swp_other d h2 h1
      · by_cases e : s = T
        · subst e
          rw [h3, hk i hne, hr.1, swp_left]
        · have h4 := hr.2 s (by omega)
          rw [hx s (by omega)]
          exact swp_other d (by omega) (by omega)
    · rw [sd_stop h]
      exact ⟨0, Rd.refl i, fun _ _ => rfl, fun s hs => by omega⟩

/-- t steps of the upward road shifted -/
def ShU (d : Nat → It) (i t : Nat) (V : Nat → It) : Prop := (∀ s, s < t → V (up s i) = d (up (s + 1) i)) ∧ ∀ k, (∀ s, s < t → k ≠ up s i) → V k = d k
theorem ShU.step {d : Nat → It} {i r T t : Nat} {V : Nat → It} (h : ShU d i t V) (hr : Rd r i T) (ht : t < T) : ShU d i (t + 1) (upd V (up t i) (d (up (t + 1) i))) := by
  refine ⟨fun s hs => ?_, fun k hk => ?_⟩
  · by_cases e : s = t
    · subst e; rw [upd_same]
    · have h1 := rd_down hr (s := s) (t := t) (by omega) (by omega)
      rw [upd_other _ _ (by omega)]
      exact h.1 s (by omega)
  · rw [upd_other _ _ (hk t (by omega))]
    exact h.2 k fun s hs => hk s (by omega)
/-- t steps of the downward road shifted -/
def ShD (d : Nat → It) (r t : Nat) (V : Nat → It) : Prop := (∀ s, s < t → V (up (s + 1) r) = d (up s r)) ∧ ∀ k, (∀ s, s < t → k ≠ up (s + 1) r) → V k = d k
theorem ShD.step {d : Nat → It} {i r T t : Nat} {V : Nat → It} (h : ShD d r t V) (hr : Rd i r T) (ht : t < T) : ShD d r (t + 1) (upd V (up (t + 1) r) (d (up t r))) := by
  refine ⟨fun s hs => ?_, fun k hk => ?_⟩
  · by_cases e : s = t
    · subst e; rw [upd_same]
    · have h1 := rd_down hr (s := s + 1) (t := t + 1) (by omega) (by omega)
      rw [upd_other _ _ (by omega)]
      exact h.1 s (by omega)
  · rw [upd_other _ _ (hk t (by omega))]
    exact h.2 k fun s hs => hk s (by omega)

theorem su_shift {g : Nat} {d : Nat → It} {i T : Nat} {V : Nat → It} (hr : Rd (su g d i).2 i T) (hk : ∀ k, (∀ t, t ≤ T → k ≠ up t i) → (su g d i).1 k = d k) (hx : ∀ s, s < T → (su g d i).1 (up s i) = d (up (s + 1) i)) (h : ShU d i T V) (k : Nat) :
    upd V (su g d i).2 (d i) k = (su g d i).1 k := by
  by_cases e : k = (su g d i).2
  · rw [e, upd_same, su_at]
  · rw [upd_other _ _ e]
    by_cases e2 : ∃ s, s < T ∧ k = up s i
    · obtain ⟨s, h1, rfl⟩ := e2
      rw [h.1 s h1, hx s h1]
    · rw [h.2 k (fun s hs e3 => e2 ⟨s, hs, e3⟩), hk k (fun t ht e3 => by
        by_cases e4 : t = T
        · subst e4; rw [hr.1] at e3; exact e e3
        · exact e2 ⟨t, by omega, e3⟩)]
theorem sd_shift {n g : Nat} {d : Nat → It} {i T : Nat} {V : Nat → It} (hk : ∀ k, (∀ t, t ≤ T → k ≠ up t (sd n g d i).2) → (sd n g d i).1 k = d k) (hx : ∀ s, s < T → (sd n g d i).1 (up (s + 1) (sd n g d i).2) = d (up s (sd n g d i).2)) (h : ShD d (sd n g d i).2 T V) (k : Nat) :
    upd V (sd n g d i).2 (d i) k = (sd n g d i).1 k := by
  by_cases e : k = (sd n g d i).2
  · rw [e, upd_same, sd_at]
  · rw [upd_other _ _ e]
    by_cases e2 : ∃ s, s < T ∧ k = up (s + 1) (sd n g d i).2
    · obtain ⟨s, h1, h2⟩ := e2
      rw [h2, h.1 s h1, hx s h1]
    · rw [h.2 k (fun s hs e3 => e2 ⟨s, hs, e3⟩), hk k (fun t ht e3 => by
        cases t with
        | zero => exact e e3
        | succ t => exact e2 ⟨t, by omega, e3⟩)]

theorem walk_long (a : Option Addr) (n cap : Nat) (a1 : Int) (a2 : Bool) (w : World) (hn : ¬ n ≤ 1024) (hm : n ≤ maxLen) :
    Calls Ycym.prog 13 #[.slice a n cap, .int .i64 a1, .bool a2] w fun e w' => e = .returned (.bool true) ∧ Below w.heap.size w w' := by
  unfold maxLen at hm
  go_enter Ycym.func13, Ycym.ntmps13
  go_wp2
  go_ret
  exact ⟨rfl, Below.refl _ _⟩

set_option maxRecDepth 100000 in
set_option maxHeartbeats 4000000 in
theorem walk_out (a : Option Addr) (n cap : Nat) (d : Nat → It) (a1 : Int) (w : World) (h : Sl w a n d) (hn : n ≤ 1024) (g : a1 < 0 ∨ (decide (a1 < 0) = false ∧ (n : Int) ≤ a1)) :
    Calls Ycym.prog 13 #[.slice a n cap, .int .i64 a1, .bool false] w fun e w' => e = .returned (.bool true) ∧ Below w.heap.size w w' := by
  have hmk := run_mk n (by omega)
  have how := own_made w n
  have hb0 : Below w.heap.size w (w.alloc (.cells (madeCells #[.int .i64 0, .int .u32 0] (n * 2)) 29)) := (Below.refl _ _).alloc (Nat.le_refl _) _
  have hs0 := h.below hb0 (Nat.le_refl _)
  go_enter Ycym.func13, Ycym.ntmps13
  go_wp2_with (first
    | (refine wpList_cp rfl _ _ rfl w.heap.size n n cap a d (fun _ => (0, 0)) rfl rfl how hs0 ?_
       intro w1 how1 hf1
       have hbl1 := hb0.trans (hf1.to_below (by simp) (fun k hk => by omega))
       clear how hb0 hs0 hf1
       have hown := own_made w1 n
       have hbl2 := hbl1.alloc hbl1.size (.cells (madeCells #[.int .i64 0, .int .u32 0] (n * 2)) 29)
       have how2 := how1.alloc (.cells (madeCells #[.int .i64 0, .int .u32 0] (n * 2)) 29)
       have hlt := how1.lt
       have hs2 := h.below hbl2 (Nat.le_refl _)
       have HZ1 : Hid (w.heap.size ≤ w1.heap.size) := hbl1.size
       clear hbl1 how1)
    | (refine wpList_cp rfl _ _ rfl w1.heap.size n n cap a d (fun _ => (0, 0)) rfl rfl hown hs2 ?_
       intro w2 how3 hf2))
  have hbl3 := hbl2.trans (hf2.to_below hbl2.size (fun k hk => by have := HZ1.out; omega))
  have how4 := hf2.own how2 (by show ¬ w.heap.size = w1.heap.size; omega)
  have hz2 := how3.lt
  clear hown hs2 hf2 how2 hbl2 hmk
  have hH : Hp (w2.alloc (.cells #[.slice (some ⟨w.heap.size, 0, none⟩) n n] 24)) w2.heap.size w.heap.size n n d :=
    ⟨by go_simp, by go_simp, by simp, by omega, how4.alloc _, Nat.le_refl _, by omega⟩
  have hW := how3.alloc (.cells #[.slice (some ⟨w.heap.size, 0, none⟩) n n] 24)
  have hbl4 := hbl3.alloc hbl3.size (.cells #[.slice (some ⟨w.heap.size, 0, none⟩) n n] 24)
  clear how3 how4 hbl3
  generalize w2.alloc (.cells #[.slice (some ⟨w.heap.size, 0, none⟩) n n] 24) = W at *
  have hz1 := HZ1.out
  have HB1 : ∃ b, Hid (b = w.heap.size) ∧ b = w.heap.size := ⟨_, rfl, rfl⟩
  obtain ⟨b1, HB1, hb1⟩ := HB1
  obtain ⟨b2, hb2⟩ : ∃ b, b = w1.heap.size := ⟨_, rfl⟩
  rw [← hb2] at hW hz1 hz2 hlt ⊢
  rw [← hb1] at hH hlt ⊢
  clear hb1 hb2 HZ1
  obtain ⟨hp, hhp⟩ : ∃ hp, hp = w2.heap.size := ⟨_, rfl⟩
  rw [← hhp] at hH hz2 ⊢
  clear hhp
  refine (fix_out _ _ n n a1 _ _ hH (by omega)).mono ?_
  rintro e w3 ⟨rfl, hw⟩
  subst hw
  have g0 := hH.cell
  rcases g with g | ⟨g, g2⟩
  · go_wp2
    clear g0
    go_loopw [18] (fun u wr => ∃ k : Nat, k ≤ n ∧ u = .int .i64 k ∧ Hp wr hp b1 n n (d) ∧ Own wr b2 n (d) ∧ Below w.heap.size w wr) (fun u _ => n - (intOf u).toNat)
    case atStart => exact ⟨0, Nat.zero_le _, rfl, hH, hW, hbl4⟩
    case round =>
      clear hH hW hbl4
      obtain ⟨k, hk, rfl, hHr, hWr, hbl⟩ := hrel
      by_cases hlt3 : k < n
      · have hq := run_neI
        have c0 := cell_regrown (hHr.own.c0 hlt3)
        have c1 := cell_regrown (hHr.own.c1 hlt3)
        have c2 := cell_regrown (hWr.c0 hlt3)
        have c3 := cell_regrown (hWr.c1 hlt3)
        have c4 := cell_regrown hHr.cell
        go_wp2
        refine wp_region_below (by kernel_rfl) (by kernel_rfl) ?_
        repeat (go_big_quiet_step (fail))
        refine wpQuiet_nil ?_
        intro w8 hb8
        have p1 := hHr.below hb8 (Nat.le_refl _)
        have p2 := hWr.below hb8 hWr.lt
        have p3 := hbl.trans (hb8.mono hbl.size)
        clear c0 c1 c2 c3 c4 hHr hWr hbl hb8 hq
        go_wp2
        go_roundw
        case rel => exact ⟨k + 1, by omega, by go_num, p1, p2, p3⟩
        case measure => simp [intOf]; omega
      · go_wp2
        go_ret
        exact ⟨rfl, hbl⟩
  · go_wp2
    clear g0
    go_loopw [18] (fun u wr => ∃ k : Nat, k ≤ n ∧ u = .int .i64 k ∧ Hp wr hp b1 n n (d) ∧ Own wr b2 n (d) ∧ Below w.heap.size w wr) (fun u _ => n - (intOf u).toNat)
    case atStart => exact ⟨0, Nat.zero_le _, rfl, hH, hW, hbl4⟩
    case round =>
      clear hH hW hbl4
      obtain ⟨k, hk, rfl, hHr, hWr, hbl⟩ := hrel
      by_cases hlt3 : k < n
      · have hq := run_neI
        have c0 := cell_regrown (hHr.own.c0 hlt3)
        have c1 := cell_regrown (hHr.own.c1 hlt3)
        have c2 := cell_regrown (hWr.c0 hlt3)
        have c3 := cell_regrown (hWr.c1 hlt3)
        have c4 := cell_regrown hHr.cell
        go_wp2
        refine wp_region_below (by kernel_rfl) (by kernel_rfl) ?_
        repeat (go_big_quiet_step (fail))
        refine wpQuiet_nil ?_
        intro w8 hb8
        have p1 := hHr.below hb8 (Nat.le_refl _)
        have p2 := hWr.below hb8 hWr.lt
        have p3 := hbl.trans (hb8.mono hbl.size)
        clear c0 c1 c2 c3 c4 hHr hWr hbl hb8 hq
        go_wp2
        go_roundw
        case rel => exact ⟨k + 1, by omega, by go_num, p1, p2, p3⟩
        case measure => simp [intOf]; omega
      · go_wp2
        go_ret
        exact ⟨rfl, hbl⟩

set_option maxRecDepth 100000 in
set_option maxHeartbeats 4000000 in
theorem walk_out0 (a : Option Addr) (n cap : Nat) (d : Nat → It) (a1 : Int) (w : World) (h : Sl w a n d) (hn : n ≤ 1024) (hn0 : decide (0 < n) = false) (hn1 : decide ((0 : Int) < (n : Int)) = false) (g : a1 < 0 ∨ (decide (a1 < 0) = false ∧ (n : Int) ≤ a1)) :
    Calls Ycym.prog 13 #[.slice a n cap, .int .i64 a1, .bool true] w fun e w' => e = .returned (.bool true) ∧ Below w.heap.size w w' := by
  have hmk := run_mk n (by omega)
  have how := own_made w n
  have hb0 : Below w.heap.size w (w.alloc (.cells (madeCells #[.int .i64 0, .int .u32 0] (n * 2)) 29)) := (Below.refl _ _).alloc (Nat.le_refl _) _
  have hs0 := h.below hb0 (Nat.le_refl _)
  go_enter Ycym.func13, Ycym.ntmps13
  go_wp2_with (first
    | (refine wpList_cp rfl _ _ rfl w.heap.size n n cap a d (fun _ => (0, 0)) rfl rfl how hs0 ?_
       intro w1 how1 hf1
       have hbl1 := hb0.trans (hf1.to_below (by simp) (fun k hk => by omega))
       clear how hb0 hs0 hf1
       have hown := own_made w1 n
       have hbl2 := hbl1.alloc hbl1.size (.cells (madeCells #[.int .i64 0, .int .u32 0] (n * 2)) 29)
       have how2 := how1.alloc (.cells (madeCells #[.int .i64 0, .int .u32 0] (n * 2)) 29)
       have hlt := how1.lt
       have hs2 := h.below hbl2 (Nat.le_refl _)
       have HZ1 : Hid (w.heap.size ≤ w1.heap.size) := hbl1.size
       clear hbl1 how1)
    | (refine wpList_cp rfl _ _ rfl w1.heap.size n n cap a d (fun _ => (0, 0)) rfl rfl hown hs2 ?_
       intro w2 how3 hf2))
  have hbl3 := hbl2.trans (hf2.to_below hbl2.size (fun k hk => by have := HZ1.out; omega))
  have how4 := hf2.own how2 (by show ¬ w.heap.size = w1.heap.size; omega)
  have hz2 := how3.lt
  clear hown hs2 hf2 how2 hbl2 hmk
  have hH : Hp (w2.alloc (.cells #[.slice (some ⟨w.heap.size, 0, none⟩) n n] 24)) w2.heap.size w.heap.size n n d :=
    ⟨by go_simp, by go_simp, by simp, by omega, how4.alloc _, Nat.le_refl _, by omega⟩
  have hW := how3.alloc (.cells #[.slice (some ⟨w.heap.size, 0, none⟩) n n] 24)
  have hbl4 := hbl3.alloc hbl3.size (.cells #[.slice (some ⟨w.heap.size, 0, none⟩) n n] 24)
  clear how3 how4 hbl3
  generalize w2.alloc (.cells #[.slice (some ⟨w.heap.size, 0, none⟩) n n] 24) = W at *
  have hz1 := HZ1.out
  have HB1 : ∃ b, Hid (b = w.heap.size) ∧ b = w.heap.size := ⟨_, rfl, rfl⟩
  obtain ⟨b1, HB1, hb1⟩ := HB1
  obtain ⟨b2, hb2⟩ : ∃ b, b = w1.heap.size := ⟨_, rfl⟩
  rw [← hb2] at hW hz1 hz2 hlt ⊢
  rw [← hb1] at hH hlt ⊢
  clear hb1 hb2 HZ1
  obtain ⟨hp, hhp⟩ : ∃ hp, hp = w2.heap.size := ⟨_, rfl⟩
  rw [← hhp] at hH hz2 ⊢
  clear hhp
  refine (fix_out _ _ n n a1 _ _ hH (by omega)).mono ?_
  rintro e w3 ⟨rfl, hw⟩
  subst hw
  have g0 := hH.cell
  rcases g with g | ⟨g, g2⟩
  · go_wp2
    clear g0
    go_loopw [18] (fun u wr => ∃ k : Nat, k ≤ n ∧ u = .int .i64 k ∧ Hp wr hp b1 n n (d) ∧ Own wr b2 n (d) ∧ Below w.heap.size w wr) (fun u _ => n - (intOf u).toNat)
    case atStart => exact ⟨0, Nat.zero_le _, rfl, hH, hW, hbl4⟩
    case round =>
      clear hH hW hbl4
      obtain ⟨k, hk, rfl, hHr, hWr, hbl⟩ := hrel
      by_cases hlt3 : k < n
      · have hq := run_neI
        have c0 := cell_regrown (hHr.own.c0 hlt3)
        have c1 := cell_regrown (hHr.own.c1 hlt3)
        have c2 := cell_regrown (hWr.c0 hlt3)
        have c3 := cell_regrown (hWr.c1 hlt3)
        have c4 := cell_regrown hHr.cell
        go_wp2
        refine wp_region_below (by kernel_rfl) (by kernel_rfl) ?_
        repeat (go_big_quiet_step (fail))
        refine wpQuiet_nil ?_
        intro w8 hb8
        have p1 := hHr.below hb8 (Nat.le_refl _)
        have p2 := hWr.below hb8 hWr.lt
        have p3 := hbl.trans (hb8.mono hbl.size)
        clear c0 c1 c2 c3 c4 hHr hWr hbl hb8 hq
        go_wp2
        go_roundw
        case rel => exact ⟨k + 1, by omega, by go_num, p1, p2, p3⟩
        case measure => simp [intOf]; omega
      · go_wp2
        go_ret
        exact ⟨rfl, hbl⟩
  · go_wp2
    clear g0
    go_loopw [18] (fun u wr => ∃ k : Nat, k ≤ n ∧ u = .int .i64 k ∧ Hp wr hp b1 n n (d) ∧ Own wr b2 n (d) ∧ Below w.heap.size w wr) (fun u _ => n - (intOf u).toNat)
    case atStart => exact ⟨0, Nat.zero_le _, rfl, hH, hW, hbl4⟩
    case round =>
      clear hH hW hbl4
      obtain ⟨k, hk, rfl, hHr, hWr, hbl⟩ := hrel
      by_cases hlt3 : k < n
      · have hq := run_neI
        have c0 := cell_regrown (hHr.own.c0 hlt3)
        have c1 := cell_regrown (hHr.own.c1 hlt3)
        have c2 := cell_regrown (hWr.c0 hlt3)
        have c3 := cell_regrown (hWr.c1 hlt3)
        have c4 := cell_regrown hHr.cell
        go_wp2
        refine wp_region_below (by kernel_rfl) (by kernel_rfl) ?_
        repeat (go_big_quiet_step (fail))
        refine wpQuiet_nil ?_
        intro w8 hb8
        have p1 := hHr.below hb8 (Nat.le_refl _)
        have p2 := hWr.below hb8 hWr.lt
        have p3 := hbl.trans (hb8.mono hbl.size)
        clear c0 c1 c2 c3 c4 hHr hWr hbl hb8 hq
        go_wp2
        go_roundw
        case rel => exact ⟨k + 1, by omega, by go_num, p1, p2, p3⟩
        case measure => simp [intOf]; omega
      · go_wp2
        go_ret
        exact ⟨rfl, hbl⟩

set_option maxRecDepth 100000 in
set_option maxHeartbeats 8000000 in
theorem walk_in (a : Option Addr) (n cap : Nat) (d : Nat → It) (i : Nat) (w : World) (h : Sl w a n d) (hn : n ≤ 1024) (hi : i < n) :
    Calls Ycym.prog 13 #[.slice a n cap, .int .i64 i, .bool false] w fun e w' => e = .returned (.bool true) ∧ Below w.heap.size w w' := by
  have hmk := run_mk n (by omega)
  have how := own_made w n
  have hb0 : Below w.heap.size w (w.alloc (.cells (madeCells #[.int .i64 0, .int .u32 0] (n * 2)) 29)) := (Below.refl _ _).alloc (Nat.le_refl _) _
  have hs0 := h.below hb0 (Nat.le_refl _)
  go_enter Ycym.func13, Ycym.ntmps13
  go_wp2_with (first
    | (refine wpList_cp rfl _ _ rfl w.heap.size n n cap a d (fun _ => (0, 0)) rfl rfl how hs0 ?_
       intro w1 how1 hf1
       have hbl1 := hb0.trans (hf1.to_below (by simp) (fun k hk => by omega))
       clear how hb0 hs0 hf1
       have hown := own_made w1 n
       have hbl2 := hbl1.alloc hbl1.size (.cells (madeCells #[.int .i64 0, .int .u32 0] (n * 2)) 29)
       have how2 := how1.alloc (.cells (madeCells #[.int .i64 0, .int .u32 0] (n * 2)) 29)
       have hlt := how1.lt
       have hs2 := h.below hbl2 (Nat.le_refl _)
       have HZ1 : Hid (w.heap.size ≤ w1.heap.size) := hbl1.size
       clear hbl1 how1)
    | (refine wpList_cp rfl _ _ rfl w1.heap.size n n cap a d (fun _ => (0, 0)) rfl rfl hown hs2 ?_
       intro w2 how3 hf2))
  have hbl3 := hbl2.trans (hf2.to_below hbl2.size (fun k hk => by have := HZ1.out; omega))
  have how4 := hf2.own how2 (by show ¬ w.heap.size = w1.heap.size; omega)
  have hz2 := how3.lt
  clear hown hs2 hf2 how2 hbl2 hmk
  have hH : Hp (w2.alloc (.cells #[.slice (some ⟨w.heap.size, 0, none⟩) n n] 24)) w2.heap.size w.heap.size n n d :=
    ⟨by go_simp, by go_simp, by simp, by omega, how4.alloc _, Nat.le_refl _, by omega⟩
  have hW := how3.alloc (.cells #[.slice (some ⟨w.heap.size, 0, none⟩) n n] 24)
  have hbl4 := hbl3.alloc hbl3.size (.cells #[.slice (some ⟨w.heap.size, 0, none⟩) n n] 24)
  clear how3 how4 hbl3
  generalize w2.alloc (.cells #[.slice (some ⟨w.heap.size, 0, none⟩) n n] 24) = W at *
  have hz1 := HZ1.out
  have HB1 : ∃ b, Hid (b = w.heap.size) ∧ b = w.heap.size := ⟨_, rfl, rfl⟩
  obtain ⟨b1, HB1, hb1⟩ := HB1
  obtain ⟨b2, hb2⟩ : ∃ b, b = w1.heap.size := ⟨_, rfl⟩
  rw [← hb2] at hW hz1 hz2 hlt ⊢
  rw [← hb1] at hH hlt ⊢
  clear hb1 hb2 HZ1
  obtain ⟨hp, hhp⟩ : ∃ hp, hp = w2.heap.size := ⟨_, rfl⟩
  rw [← hhp] at hH hz2 ⊢
  clear hhp
  refine (fix_in hp b1 n n i d _ hH hi).mono ?_
  rintro e w3 ⟨rfl, how5, hf3⟩
  have hH3 := hH.fr hf3 hH.ne how5
  have hW3 := hf3.own hW (by show ¬ b2 = b1; omega)
  have hbl5 := hbl4.trans (hf3.to_below hbl4.size (fun k hk => by have := HB1.out; omega))
  have hRn := fx_lt n d i hi
  clear hH hW hbl4 how5 hf3
  have g0 := hH3.cell
  obtain ⟨p, hpe⟩ : ∃ p, p = (i - 1) / 2 := ⟨_, rfl⟩
  obtain ⟨ab, off, ha, hc⟩ := h.below hbl5 (Nat.le_refl _)
  obtain ⟨rfl, hbw⟩ := ha (by omega)
  by_cases hi0 : 0 < i
  · have hpi : ((i : Int) - 1) / 2 = (p : Int) := by omega
    have hpn : p < n := by omega
    have hpl : p < i := by omega
    have c0 := cell_regrown (hc i hi).1
    have c1 := cell_regrown (hc i hi).2
    have c2 := cell_regrown (hc p hpn).1
    have c3 := cell_regrown (hc p hpn).2
    clear hc ha
    cases hl : lt (d i) (d p)
    · have hfu := fx_down (n := n) (d := d) (i := i) (.inr (by rw [← hpe]; exact hl))
      rw [hfu] at hRn hH3 ⊢
      have hRi := sd_ge n n d i
      obtain ⟨T, hT, hTk, hTx⟩ := sd_exact n n d i
      have HS : Hid (∀ V, ShD d (sd n n d i).2 T V → ∀ k, upd V (sd n n d i).2 (d i) k = (sd n n d i).1 k) := fun V hV k => sd_shift hTk hTx hV k
      clear hfu hTk hTx
      obtain ⟨R, hR⟩ : ∃ R, R = (sd n n d i).2 := ⟨_, rfl⟩
      obtain ⟨D, hD⟩ : ∃ D, D = (sd n n d i).1 := ⟨_, rfl⟩
      rw [← hR] at hRn HS hT hRi ⊢
      rw [← hD] at HS hH3
      clear hR hD
      have HT : Hid (Rd i R T) := hT
      clear hT
      have gRi : decide (R < i) = false := decide_eq_false (by omega)
      have HL : Hid (∀ w, Calls Ycym.prog 28 #[.agg #[.int .i64 (d i).1, .int .u32 (d i).2], .agg #[.int .i64 (d p).1, .int .u32 (d p).2]] w fun r w' => r = .returned (.bool false) ∧ Below w.heap.size w w') := fun w => by
        have := hless_any (d i) (d p) w
        rwa [hl] at this
      clear hl hpe
      go_wp2
      refine wp_region_below (by kernel_rfl) (by kernel_rfl) ?_
      repeat (go_big_quiet_step (exact Calls.regrown_of (HL.out _)))
      refine wpQuiet_nil ?_
      intro w5 hb5
      have hH5 := hH3.below hb5 (Nat.le_refl _)
      have hW5 := hW3.below hb5 hW3.lt
      have hbl6 := hbl5.trans (hb5.mono hbl5.size)
      clear c0 c1 c2 c3 HL g0 hb5 hH3 hW3 hbl5
      go_wp2
      go_loopw [16] (fun u wr => ∃ (t : Nat) (V : Nat → It), t ≤ T ∧ u = .int .i64 (up t R) ∧ Hp wr hp b1 n n D ∧ Own wr b2 n V ∧ Below w.heap.size w wr ∧ Hid (ShD d R t V)) (fun u _ => (intOf u).toNat)
      case atStart => exact ⟨0, d, Nat.zero_le _, rfl, hH5, hW5, hbl6, ⟨fun s hs => by omega, fun k _ => rfl⟩⟩
      case round =>
        clear hH5 hW5 hbl6
        obtain ⟨t, V, ht, rfl, hHr, hWr, hblr, HV⟩ := hrel
        have hki := up_le t R
        obtain ⟨k, hk⟩ : ∃ k, k = up t R := ⟨_, rfl⟩
        rw [← hk] at hki ⊢
        by_cases hkR : i < k
        · have htT : t < T := by
            by_cases e : t = T
            · exfalso; subst e; rw [HT.out.1] at hk; omega
            · omega
          obtain ⟨q, hqe⟩ : ∃ q, q = (k - 1) / 2 := ⟨_, rfl⟩
          have hqi : ((k : Int) - 1) / 2 = (q : Int) := by omega
          have hqk : q < k := by omega
          have hu : up (t + 1) R = q := by show (up t R - 1) / 2 = q; rw [← hk, hqe]
          have HU : Hid (up (t + 1) R = q) := hu
          have HV2 : Hid (ShD d R (t + 1) (upd V q (d k))) := by
            have := HV.out.step HT.out htT
            rwa [← hk, hu] at this
          obtain ⟨ab', off', ha', hc'⟩ := h.below hblr (Nat.le_refl _)
          obtain ⟨hae, hbw'⟩ := ha' (by omega)
          obtain ⟨rfl, rfl⟩ : ab = ab' ∧ off = off' := by simpa using hae
          have c0 := (hc' k (by omega)).1
          have c1 := (hc' k (by omega)).2
          have k0 := hWr.c0 (k := q) (by omega)
          have k1 := hWr.c1 (k := q) (by omega)
          have kf := hWr.fz
          have hW9 := hWr.set q (d k)
          have hHn := hHr.ne
          have hf9 : Fr (fun j => j = b2) wr ((wr.setCell ⟨b2, q * 2, none⟩ (.int .i64 (d k).1)).setCell ⟨b2, q * 2 + 1, none⟩ (.int .u32 (d k).2)) := ((Fr.refl (fun j => j = b2) wr).setCell (p := ⟨b2, q * 2, none⟩) rfl _).setCell (p := ⟨b2, q * 2 + 1, none⟩) rfl _
          have hH9 := hHr.fr hf9 (by show ¬ hp = b2; omega) (hf9.own hHr.own (by show ¬ b1 = b2; omega))
          have hbl9 := (hblr.setCell (p := ⟨b2, q * 2, none⟩) hz1 (.int .i64 (d k).1)).setCell (p := ⟨b2, q * 2 + 1, none⟩) hz1 (.int .u32 (d k).2)
          clear hc' ha' hae hf9 hHr hWr hblr hu hk hqe HV
          go_wp2
          go_roundw
          case rel => exact ⟨t + 1, _, htT, by rw [HU.out, hqi], hH9, hW9, hbl9, HV2⟩
          case measure => simp [intOf]; omega
        · have hti : t = T := by
            by_cases e : t = T
            · exact e
            · have := HT.out.2 t (by omega); omega
          subst hti
          have hkR2 : k = i := by rw [hk, HT.out.1]
          subst hkR2
          have HQ : Hid (∀ j, upd V R (d k) j = D j) := fun j => HS.out V HV.out j
          clear hk HV HS HT ht hki
          obtain ⟨ab', off', ha', hc'⟩ := h.below hblr (Nat.le_refl _)
          obtain ⟨hae, hbw'⟩ := ha' (by omega)
          obtain ⟨rfl, rfl⟩ : ab = ab' ∧ off = off' := by simpa using hae
          have c0 := (hc' k hi).1
          have c1 := (hc' k hi).2
          have k0 := hWr.c0 (k := R) hRn
          have k1 := hWr.c1 (k := R) hRn
          have kf := hWr.fz
          have hW9 := hWr.set R (d k)
          have hHn := hHr.ne
          have hf9 : Fr (fun k => k = b2) wr ((wr.setCell ⟨b2, R * 2, none⟩ (.int .i64 (d k).1)).setCell ⟨b2, R * 2 + 1, none⟩ (.int .u32 (d k).2)) := ((Fr.refl (fun k => k = b2) wr).setCell (p := ⟨b2, R * 2, none⟩) rfl _).setCell (p := ⟨b2, R * 2 + 1, none⟩) rfl _
          have hH9 := hHr.fr hf9 (by show ¬ hp = b2; omega) (hf9.own hHr.own (by show ¬ b1 = b2; omega))
          have hbl9 := (hblr.setCell (p := ⟨b2, R * 2, none⟩) hz1 (.int .i64 (d k).1)).setCell (p := ⟨b2, R * 2 + 1, none⟩) hz1 (.int .u32 (d k).2)
          clear hc' ha' hae hf9 hHr hWr hblr
          go_wp2
          clear c0 c1 k0 k1 kf
          go_loopw [18] (fun u wr => ∃ j : Nat, j ≤ n ∧ u = .int .i64 j ∧ Hp wr hp b1 n n (D) ∧ Own wr b2 n (upd V R (d k)) ∧ Below w.heap.size w wr) (fun u _ => n - (intOf u).toNat)
          case atStart => exact ⟨0, Nat.zero_le _, rfl, hH9, hW9, hbl9⟩
          case round =>
            clear hH9 hW9 hbl9
            obtain ⟨j, hk, rfl, hHr, hWr, hbl⟩ := hrel
            by_cases hlt3 : j < n
            · have hq := run_neI
              have c0 := cell_regrown (hHr.own.c0 hlt3)
              have c1 := cell_regrown (hHr.own.c1 hlt3)
              have c2 := cell_regrown (hWr.c0 hlt3)
              have c3 := cell_regrown (hWr.c1 hlt3)
              have c4 := cell_regrown hHr.cell
              rw [HQ.out j] at c2 c3
              go_wp2
              refine wp_region_below (by kernel_rfl) (by kernel_rfl) ?_
              repeat (go_big_quiet_step (fail))
              refine wpQuiet_nil ?_
              intro w8 hb8
              have p1 := hHr.below hb8 (Nat.le_refl _)
              have p2 := hWr.below hb8 hWr.lt
              have p3 := hbl.trans (hb8.mono hbl.size)
              clear c0 c1 c2 c3 c4 hHr hWr hbl hb8 hq
              go_wp2
              go_roundw
              case rel => exact ⟨j + 1, by omega, by go_num, p1, p2, p3⟩
              case measure => simp [intOf]; omega
            · go_wp2
              go_ret
              exact ⟨rfl, hbl⟩
    · have hfu := fx_up hi0 hi (by rw [← hpe]; exact hl)
      rw [hfu.1] at hRn hH3 ⊢
      have hRi := hfu.2
      obtain ⟨T, hT, hTk, hTx⟩ := su_exact n d i
      have HS : Hid (∀ V, ShU d i T V → ∀ k, upd V (su n d i).2 (d i) k = (su n d i).1 k) := fun V hV k => su_shift hT hTk hTx hV k
      clear hfu hTk hTx
      obtain ⟨R, hR⟩ : ∃ R, R = (su n d i).2 := ⟨_, rfl⟩
      obtain ⟨D, hD⟩ : ∃ D, D = (su n d i).1 := ⟨_, rfl⟩
      rw [← hR] at hRn HS hT hRi ⊢
      rw [← hD] at HS hH3
      clear hR hD
      have HT : Hid (Rd R i T) := hT
      clear hT
      have HL : Hid (∀ w, Calls Ycym.prog 28 #[.agg #[.int .i64 (d i).1, .int .u32 (d i).2], .agg #[.int .i64 (d p).1, .int .u32 (d p).2]] w fun r w' => r = .returned (.bool true) ∧ Below w.heap.size w w') := fun w => by
        have := hless_any (d i) (d p) w
        rwa [hl] at this
      clear hl hpe
      go_wp2
      refine wp_region_below (by kernel_rfl) (by kernel_rfl) ?_
      repeat (go_big_quiet_step (exact Calls.regrown_of (HL.out _)))
      refine wpQuiet_nil ?_
      intro w5 hb5
      have hH5 := hH3.below hb5 (Nat.le_refl _)
      have hW5 := hW3.below hb5 hW3.lt
      have hbl6 := hbl5.trans (hb5.mono hbl5.size)
      clear c0 c1 c2 c3 g0 HL hb5 hH3 hW3 hbl5
      go_wp2
      go_loopw [14] (fun u wr => ∃ (t : Nat) (V : Nat → It), t ≤ T ∧ u = .int .i64 (up t i) ∧ Hp wr hp b1 n n D ∧ Own wr b2 n V ∧ Below w.heap.size w wr ∧ Hid (ShU d i t V)) (fun u _ => (intOf u).toNat)
      case atStart => exact ⟨0, d, Nat.zero_le _, rfl, hH5, hW5, hbl6, ⟨fun s hs => by omega, fun k _ => rfl⟩⟩
      case round =>
        clear hH5 hW5 hbl6
        obtain ⟨t, V, ht, rfl, hHr, hWr, hblr, HV⟩ := hrel
        have hki := up_le t i
        obtain ⟨k, hk⟩ : ∃ k, k = up t i := ⟨_, rfl⟩
        rw [← hk] at hki ⊢
        by_cases hkR : R < k
        · have htT : t < T := by
            by_cases e : t = T
            · exfalso; subst e; rw [HT.out.1] at hk; omega
            · omega
          obtain ⟨q, hqe⟩ : ∃ q, q = (k - 1) / 2 := ⟨_, rfl⟩
          have hqi : ((k : Int) - 1) / 2 = (q : Int) := by omega
          have hqk : q < k := by omega
          have hu : up (t + 1) i = q := by show (up t i - 1) / 2 = q; rw [← hk, hqe]
          have HU : Hid (up (t + 1) i = q) := hu
          have HV2 : Hid (ShU d i (t + 1) (upd V k (d q))) := by
            have := HV.out.step HT.out htT
            rwa [← hk, hu] at this
          obtain ⟨ab', off', ha', hc'⟩ := h.below hblr (Nat.le_refl _)
          obtain ⟨hae, hbw'⟩ := ha' (by omega)
          obtain ⟨rfl, rfl⟩ : ab = ab' ∧ off = off' := by simpa using hae
          have c0 := (hc' q (by omega)).1
          have c1 := (hc' q (by omega)).2
          have k0 := hWr.c0 (k := k) (by omega)
          have k1 := hWr.c1 (k := k) (by omega)
          have kf := hWr.fz
          have hW9 := hWr.set k (d q)
          have hHn := hHr.ne
          have hf9 : Fr (fun j => j = b2) wr ((wr.setCell ⟨b2, k * 2, none⟩ (.int .i64 (d q).1)).setCell ⟨b2, k * 2 + 1, none⟩ (.int .u32 (d q).2)) := ((Fr.refl (fun j => j = b2) wr).setCell (p := ⟨b2, k * 2, none⟩) rfl _).setCell (p := ⟨b2, k * 2 + 1, none⟩) rfl _
          have hH9 := hHr.fr hf9 (by show ¬ hp = b2; omega) (hf9.own hHr.own (by show ¬ b1 = b2; omega))
          have hbl9 := (hblr.setCell (p := ⟨b2, k * 2, none⟩) hz1 (.int .i64 (d q).1)).setCell (p := ⟨b2, k * 2 + 1, none⟩) hz1 (.int .u32 (d q).2)
          clear hc' ha' hae hf9 hHr hWr hblr hu hk hqe HV
          go_wp2
          go_roundw
          case rel => exact ⟨t + 1, _, htT, by rw [HU.out, hqi], hH9, hW9, hbl9, HV2⟩
          case measure => simp [intOf]; omega
        · have hti : t = T := by
            by_cases e : t = T
            · exact e
            · have := HT.out.2 t (by omega); omega
          subst hti
          have hkR2 : k = R := by rw [hk, HT.out.1]
          subst hkR2
          have HQ : Hid (∀ j, upd V k (d i) j = D j) := fun j => HS.out V HV.out j
          clear hk HV HS HT ht hki
          obtain ⟨ab', off', ha', hc'⟩ := h.below hblr (Nat.le_refl _)
          obtain ⟨hae, hbw'⟩ := ha' (by omega)
          obtain ⟨rfl, rfl⟩ : ab = ab' ∧ off = off' := by simpa using hae
          have c0 := (hc' i hi).1
          have c1 := (hc' i hi).2
          have k0 := hWr.c0 (k := k) hRn
          have k1 := hWr.c1 (k := k) hRn
          have kf := hWr.fz
          have hW9 := hWr.set k (d i)
          have hHn := hHr.ne
          have hf9 : Fr (fun k => k = b2) wr ((wr.setCell ⟨b2, k * 2, none⟩ (.int .i64 (d i).1)).setCell ⟨b2, k * 2 + 1, none⟩ (.int .u32 (d i).2)) := ((Fr.refl (fun k => k = b2) wr).setCell (p := ⟨b2, k * 2, none⟩) rfl _).setCell (p := ⟨b2, k * 2 + 1, none⟩) rfl _
          have hH9 := hHr.fr hf9 (by show ¬ hp = b2; omega) (hf9.own hHr.own (by show ¬ b1 = b2; omega))
          have hbl9 := (hblr.setCell (p := ⟨b2, k * 2, none⟩) hz1 (.int .i64 (d i).1)).setCell (p := ⟨b2, k * 2 + 1, none⟩) hz1 (.int .u32 (d i).2)
          clear hc' ha' hae hf9 hHr hWr hblr
          go_wp2
          clear c0 c1 k0 k1 kf
          go_loopw [18] (fun u wr => ∃ j : Nat, j ≤ n ∧ u = .int .i64 j ∧ Hp wr hp b1 n n (D) ∧ Own wr b2 n (upd V k (d i)) ∧ Below w.heap.size w wr) (fun u _ => n - (intOf u).toNat)
          case atStart => exact ⟨0, Nat.zero_le _, rfl, hH9, hW9, hbl9⟩
          case round =>
            clear hH9 hW9 hbl9
            obtain ⟨j, hk, rfl, hHr, hWr, hbl⟩ := hrel
            by_cases hlt3 : j < n
            · have hq := run_neI
              have c0 := cell_regrown (hHr.own.c0 hlt3)
              have c1 := cell_regrown (hHr.own.c1 hlt3)
              have c2 := cell_regrown (hWr.c0 hlt3)
              have c3 := cell_regrown (hWr.c1 hlt3)
              have c4 := cell_regrown hHr.cell
              rw [HQ.out j] at c2 c3
              go_wp2
              refine wp_region_below (by kernel_rfl) (by kernel_rfl) ?_
              repeat (go_big_quiet_step (fail))
              refine wpQuiet_nil ?_
              intro w8 hb8
              have p1 := hHr.below hb8 (Nat.le_refl _)
              have p2 := hWr.below hb8 hWr.lt
              have p3 := hbl.trans (hb8.mono hbl.size)
              clear c0 c1 c2 c3 c4 hHr hWr hbl hb8 hq
              go_wp2
              go_roundw
              case rel => exact ⟨j + 1, by omega, by go_num, p1, p2, p3⟩
              case measure => simp [intOf]; omega
            · go_wp2
              go_ret
              exact ⟨rfl, hbl⟩
  · have hfu := fx_down (n := n) (d := d) (i := i) (.inl (by omega))
    have gi0 : decide (0 < i) = false := decide_eq_false hi0
    clear hc ha
    rw [hfu] at hRn hH3 ⊢
    have hRi := sd_ge n n d i
    obtain ⟨T, hT, hTk, hTx⟩ := sd_exact n n d i
    have HS : Hid (∀ V, ShD d (sd n n d i).2 T V → ∀ k, upd V (sd n n d i).2 (d i) k = (sd n n d i).1 k) := fun V hV k => sd_shift hTk hTx hV k
    clear hfu hTk hTx
    obtain ⟨R, hR⟩ : ∃ R, R = (sd n n d i).2 := ⟨_, rfl⟩
    obtain ⟨D, hD⟩ : ∃ D, D = (sd n n d i).1 := ⟨_, rfl⟩
    rw [← hR] at hRn HS hT hRi ⊢
    rw [← hD] at HS hH3
    clear hR hD
    have HT : Hid (Rd i R T) := hT
    clear hT
    have gRi : decide (R < i) = false := decide_eq_false (by omega)
    clear hpe
    go_wp2
    refine wp_region_below (by kernel_rfl) (by kernel_rfl) ?_
    repeat (go_big_quiet_step (fail))
    refine wpQuiet_nil ?_
    intro w5 hb5
    have hH5 := hH3.below hb5 (Nat.le_refl _)
    have hW5 := hW3.below hb5 hW3.lt
    have hbl6 := hbl5.trans (hb5.mono hbl5.size)
    clear gi0 g0 hb5 hH3 hW3 hbl5
    go_wp2
    go_loopw [16] (fun u wr => ∃ (t : Nat) (V : Nat → It), t ≤ T ∧ u = .int .i64 (up t R) ∧ Hp wr hp b1 n n D ∧ Own wr b2 n V ∧ Below w.heap.size w wr ∧ Hid (ShD d R t V)) (fun u _ => (intOf u).toNat)
    case atStart => exact ⟨0, d, Nat.zero_le _, rfl, hH5, hW5, hbl6, ⟨fun s hs => by omega, fun k _ => rfl⟩⟩
    case round =>
      clear hH5 hW5 hbl6
      obtain ⟨t, V, ht, rfl, hHr, hWr, hblr, HV⟩ := hrel
      have hki := up_le t R
      obtain ⟨k, hk⟩ : ∃ k, k = up t R := ⟨_, rfl⟩
      rw [← hk] at hki ⊢
      by_cases hkR : i < k
      · have htT : t < T := by
          by_cases e : t = T
          · exfalso; subst e; rw [HT.out.1] at hk; omega
          · omega
        obtain ⟨q, hqe⟩ : ∃ q, q = (k - 1) / 2 := ⟨_, rfl⟩
        have hqi : ((k : Int) - 1) / 2 = (q : Int) := by omega
        have hqk : q < k := by omega
        have hu : up (t + 1) R = q := by show (up t R - 1) / 2 = q; rw [← hk, hqe]
        have HU : Hid (up (t + 1) R = q) := hu
        have HV2 : Hid (ShD d R (t + 1) (upd V q (d k))) := by
          have := HV.out.step HT.out htT
          rwa [← hk, hu] at this
        obtain ⟨ab', off', ha', hc'⟩ := h.below hblr (Nat.le_refl _)
        obtain ⟨hae, hbw'⟩ := ha' (by omega)
        obtain ⟨rfl, rfl⟩ : ab = ab' ∧ off = off' := by simpa using hae
        have c0 := (hc' k (by omega)).1
        have c1 := (hc' k (by omega)).2
        have k0 := hWr.c0 (k := q) (by omega)
        have k1 := hWr.c1 (k := q) (by omega)
        have kf := hWr.fz
        have hW9 := hWr.set q (d k)
        have hHn := hHr.ne
        have hf9 : Fr (fun j => j = b2) wr ((wr.setCell ⟨b2, q * 2, none⟩ (.int .i64 (d k).1)).setCell ⟨b2, q * 2 + 1, none⟩ (.int .u32 (d k).2)) := ((Fr.refl (fun j => j = b2) wr).setCell (p := ⟨b2, q * 2, none⟩) rfl _).setCell (p := ⟨b2, q * 2 + 1, none⟩) rfl _
        have hH9 := hHr.fr hf9 (by show ¬ hp = b2; omega) (hf9.own hHr.own (by show ¬ b1 = b2; omega))
        have hbl9 := (hblr.setCell (p := ⟨b2, q * 2, none⟩) hz1 (.int .i64 (d k).1)).setCell (p := ⟨b2, q * 2 + 1, none⟩) hz1 (.int .u32 (d k).2)
        clear hc' ha' hae hf9 hHr hWr hblr hu hk hqe HV
        go_wp2
        go_roundw
        case rel => exact ⟨t + 1, _, htT, by rw [HU.out, hqi], hH9, hW9, hbl9, HV2⟩
        case measure => simp [intOf]; omega
      · have hti : t = T := by
          by_cases e : t = T
          · exact e
          · have := HT.out.2 t (by omega); omega
        subst hti
        have hkR2 : k = i := by rw [hk, HT.out.1]
        subst hkR2
        have HQ : Hid (∀ j, upd V R (d k) j = D j) := fun j => HS.out V HV.out j
        clear hk HV HS HT ht hki
        obtain ⟨ab', off', ha', hc'⟩ := h.below hblr (Nat.le_refl _)
        obtain ⟨hae, hbw'⟩ := ha' (by omega)
        obtain ⟨rfl, rfl⟩ : ab = ab' ∧ off = off' := by simpa using hae
        have c0 := (hc' k hi).1
        have c1 := (hc' k hi).2
        have k0 := hWr.c0 (k := R) hRn
        have k1 := hWr.c1 (k := R) hRn
        have kf := hWr.fz
        have hW9 := hWr.set R (d k)
        have hHn := hHr.ne
        have hf9 : Fr (fun k => k = b2) wr ((wr.setCell ⟨b2, R * 2, none⟩ (.int .i64 (d k).1)).setCell ⟨b2, R * 2 + 1, none⟩ (.int .u32 (d k).2)) := ((Fr.refl (fun k => k = b2) wr).setCell (p := ⟨b2, R * 2, none⟩) rfl _).setCell (p := ⟨b2, R * 2 + 1, none⟩) rfl _
        have hH9 := hHr.fr hf9 (by show ¬ hp = b2; omega) (hf9.own hHr.own (by show ¬ b1 = b2; omega))
        have hbl9 := (hblr.setCell (p := ⟨b2, R * 2, none⟩) hz1 (.int .i64 (d k).1)).setCell (p := ⟨b2, R * 2 + 1, none⟩) hz1 (.int .u32 (d k).2)
        clear hc' ha' hae hf9 hHr hWr hblr
        go_wp2
        clear c0 c1 k0 k1 kf
        go_loopw [18] (fun u wr => ∃ j : Nat, j ≤ n ∧ u = .int .i64 j ∧ Hp wr hp b1 n n (D) ∧ Own wr b2 n (upd V R (d k)) ∧ Below w.heap.size w wr) (fun u _ => n - (intOf u).toNat)
        case atStart => exact ⟨0, Nat.zero_le _, rfl, hH9, hW9, hbl9⟩
        case round =>
          clear hH9 hW9 hbl9
          obtain ⟨j, hk, rfl, hHr, hWr, hbl⟩ := hrel
          by_cases hlt3 : j < n
          · have hq := run_neI
            have c0 := cell_regrown (hHr.own.c0 hlt3)
            have c1 := cell_regrown (hHr.own.c1 hlt3)
            have c2 := cell_regrown (hWr.c0 hlt3)
            have c3 := cell_regrown (hWr.c1 hlt3)
            have c4 := cell_regrown hHr.cell
            rw [HQ.out j] at c2 c3
            go_wp2
            refine wp_region_below (by kernel_rfl) (by kernel_rfl) ?_
            repeat (go_big_quiet_step (fail))
            refine wpQuiet_nil ?_
            intro w8 hb8
            have p1 := hHr.below hb8 (Nat.le_refl _)
            have p2 := hWr.below hb8 hWr.lt
            have p3 := hbl.trans (hb8.mono hbl.size)
            clear c0 c1 c2 c3 c4 hHr hWr hbl hb8 hq
            go_wp2
            go_roundw
            case rel => exact ⟨j + 1, by omega, by go_num, p1, p2, p3⟩
            case measure => simp [intOf]; omega
          · go_wp2
            go_ret
            exact ⟨rfl, hbl⟩

set_option maxRecDepth 100000 in
set_option maxHeartbeats 8000000 in
theorem walk_fold (a : Option Addr) (n cap : Nat) (d : Nat → It) (a1 : Int) (i : Nat) (w : World) (h : Sl w a n d) (hn : n ≤ 1024) (hi : i < n) (hs : wrap64 ((IntKind.u64.wrap a1).tmod (n : Int)) = i) :
    Calls Ycym.prog 13 #[.slice a n cap, .int .i64 a1, .bool true] w fun e w' => e = .returned (.bool true) ∧ Below w.heap.size w w' := by
  have hnz : ((n : Int) == 0) = false := by simp; omega
  have hmk := run_mk n (by omega)
  have how := own_made w n
  have hb0 : Below w.heap.size w (w.alloc (.cells (madeCells #[.int .i64 0, .int .u32 0] (n * 2)) 29)) := (Below.refl _ _).alloc (Nat.le_refl _) _
  have hs0 := h.below hb0 (Nat.le_refl _)
  go_enter Ycym.func13, Ycym.ntmps13
  go_wp2_with (first
    | (refine wpList_cp rfl _ _ rfl w.heap.size n n cap a d (fun _ => (0, 0)) rfl rfl how hs0 ?_
       intro w1 how1 hf1
       have hbl1 := hb0.trans (hf1.to_below (by simp) (fun k hk => by omega))
       clear how hb0 hs0 hf1
       have hown := own_made w1 n
       have hbl2 := hbl1.alloc hbl1.size (.cells (madeCells #[.int .i64 0, .int .u32 0] (n * 2)) 29)
       have how2 := how1.alloc (.cells (madeCells #[.int .i64 0, .int .u32 0] (n * 2)) 29)
       have hlt := how1.lt
       have hs2 := h.below hbl2 (Nat.le_refl _)
       have HZ1 : Hid (w.heap.size ≤ w1.heap.size) := hbl1.size
       clear hbl1 how1)
    | (refine wpList_cp rfl _ _ rfl w1.heap.size n n cap a d (fun _ => (0, 0)) rfl rfl hown hs2 ?_
       intro w2 how3 hf2))
  clear hs
  have hbl3 := hbl2.trans (hf2.to_below hbl2.size (fun k hk => by have := HZ1.out; omega))
  have how4 := hf2.own how2 (by show ¬ w.heap.size = w1.heap.size; omega)
  have hz2 := how3.lt
  clear hown hs2 hf2 how2 hbl2 hmk
  have hH : Hp (w2.alloc (.cells #[.slice (some ⟨w.heap.size, 0, none⟩) n n] 24)) w2.heap.size w.heap.size n n d :=
    ⟨by go_simp, by go_simp, by simp, by omega, how4.alloc _, Nat.le_refl _, by omega⟩
  have hW := how3.alloc (.cells #[.slice (some ⟨w.heap.size, 0, none⟩) n n] 24)
  have hbl4 := hbl3.alloc hbl3.size (.cells #[.slice (some ⟨w.heap.size, 0, none⟩) n n] 24)
  clear how3 how4 hbl3
  generalize w2.alloc (.cells #[.slice (some ⟨w.heap.size, 0, none⟩) n n] 24) = W at *
  have hz1 := HZ1.out
  have HB1 : ∃ b, Hid (b = w.heap.size) ∧ b = w.heap.size := ⟨_, rfl, rfl⟩
  obtain ⟨b1, HB1, hb1⟩ := HB1
  obtain ⟨b2, hb2⟩ : ∃ b, b = w1.heap.size := ⟨_, rfl⟩
  rw [← hb2] at hW hz1 hz2 hlt ⊢
  rw [← hb1] at hH hlt ⊢
  clear hb1 hb2 HZ1
  obtain ⟨hp, hhp⟩ : ∃ hp, hp = w2.heap.size := ⟨_, rfl⟩
  rw [← hhp] at hH hz2 ⊢
  clear hhp
  refine (fix_in hp b1 n n i d _ hH hi).mono ?_
  rintro e w3 ⟨rfl, how5, hf3⟩
  have hH3 := hH.fr hf3 hH.ne how5
  have hW3 := hf3.own hW (by show ¬ b2 = b1; omega)
  have hbl5 := hbl4.trans (hf3.to_below hbl4.size (fun k hk => by have := HB1.out; omega))
  have hRn := fx_lt n d i hi
  clear hH hW hbl4 how5 hf3
  have g0 := hH3.cell
  obtain ⟨p, hpe⟩ : ∃ p, p = (i - 1) / 2 := ⟨_, rfl⟩
  obtain ⟨ab, off, ha, hc⟩ := h.below hbl5 (Nat.le_refl _)
  obtain ⟨rfl, hbw⟩ := ha (by omega)
  by_cases hi0 : 0 < i
  · have hpi : ((i : Int) - 1) / 2 = (p : Int) := by omega
    have hpn : p < n := by omega
    have hpl : p < i := by omega
    have c0 := cell_regrown (hc i hi).1
    have c1 := cell_regrown (hc i hi).2
    have c2 := cell_regrown (hc p hpn).1
    have c3 := cell_regrown (hc p hpn).2
    clear hc ha
    cases hl : lt (d i) (d p)
    · have hfu := fx_down (n := n) (d := d) (i := i) (.inr (by rw [← hpe]; exact hl))
      rw [hfu] at hRn hH3 ⊢
      have hRi := sd_ge n n d i
      obtain ⟨T, hT, hTk, hTx⟩ := sd_exact n n d i
      have HS : Hid (∀ V, ShD d (sd n n d i).2 T V → ∀ k, upd V (sd n n d i).2 (d i) k = (sd n n d i).1 k) := fun V hV k => sd_shift hTk hTx hV k
      clear hfu hTk hTx
      obtain ⟨R, hR⟩ : ∃ R, R = (sd n n d i).2 := ⟨_, rfl⟩
      obtain ⟨D, hD⟩ : ∃ D, D = (sd n n d i).1 := ⟨_, rfl⟩
      rw [← hR] at hRn HS hT hRi ⊢
      rw [← hD] at HS hH3
      clear hR hD
      have HT : Hid (Rd i R T) := hT
      clear hT
      have gRi : decide (R < i) = false := decide_eq_false (by omega)
      have HL : Hid (∀ w, Calls Ycym.prog 28 #[.agg #[.int .i64 (d i).1, .int .u32 (d i).2], .agg #[.int .i64 (d p).1, .int .u32 (d p).2]] w fun r w' => r = .returned (.bool false) ∧ Below w.heap.size w w') := fun w => by
        have := hless_any (d i) (d p) w
        rwa [hl] at this
      clear hl hpe
      go_wp2
      refine wp_region_below (by kernel_rfl) (by kernel_rfl) ?_
      repeat (go_big_quiet_step (exact Calls.regrown_of (HL.out _)))
      refine wpQuiet_nil ?_
      intro w5 hb5
      have hH5 := hH3.below hb5 (Nat.le_refl _)
      have hW5 := hW3.below hb5 hW3.lt
      have hbl6 := hbl5.trans (hb5.mono hbl5.size)
      clear c0 c1 c2 c3 HL g0 hb5 hH3 hW3 hbl5
      go_wp2
      go_loopw [16] (fun u wr => ∃ (t : Nat) (V : Nat → It), t ≤ T ∧ u = .int .i64 (up t R) ∧ Hp wr hp b1 n n D ∧ Own wr b2 n V ∧ Below w.heap.size w wr ∧ Hid (ShD d R t V)) (fun u _ => (intOf u).toNat)
      case atStart => exact ⟨0, d, Nat.zero_le _, rfl, hH5, hW5, hbl6, ⟨fun s hs => by omega, fun k _ => rfl⟩⟩
      case round =>
        clear hH5 hW5 hbl6
        obtain ⟨t, V, ht, rfl, hHr, hWr, hblr, HV⟩ := hrel
        have hki := up_le t R
        obtain ⟨k, hk⟩ : ∃ k, k = up t R := ⟨_, rfl⟩
        rw [← hk] at hki ⊢
        by_cases hkR : i < k
        · have htT : t < T := by
            by_cases e : t = T
            · exfalso; subst e; rw [HT.out.1] at hk; omega
            · omega
          obtain ⟨q, hqe⟩ : ∃ q, q = (k - 1) / 2 := ⟨_, rfl⟩
          have hqi : ((k : Int) - 1) / 2 = (q : Int) := by omega
          have hqk : q < k := by omega
          have hu : up (t + 1) R = q := by show (up t R - 1) / 2 = q; rw [← hk, hqe]
          have HU : Hid (up (t + 1) R = q) := hu
          have HV2 : Hid (ShD d R (t + 1) (upd V q (d k))) := by
            have := HV.out.step HT.out htT
            rwa [← hk, hu] at this
          obtain ⟨ab', off', ha', hc'⟩ := h.below hblr (Nat.le_refl _)
          obtain ⟨hae, hbw'⟩ := ha' (by omega)
          obtain ⟨rfl, rfl⟩ : ab = ab' ∧ off = off' := by simpa using hae
          have c0 := (hc' k (by omega)).1
          have c1 := (hc' k (by omega)).2
          have k0 := hWr.c0 (k := q) (by omega)
          have k1 := hWr.c1 (k := q) (by omega)
          have kf := hWr.fz
          have hW9 := hWr.set q (d k)
          have hHn := hHr.ne
          have hf9 : Fr (fun j => j = b2) wr ((wr.setCell ⟨b2, q * 2, none⟩ (.int .i64 (d k).1)).setCell ⟨b2, q * 2 + 1, none⟩ (.int .u32 (d k).2)) := ((Fr.refl (fun j => j = b2) wr).setCell (p := ⟨b2, q * 2, none⟩) rfl _).setCell (p := ⟨b2, q * 2 + 1, none⟩) rfl _
          have hH9 := hHr.fr hf9 (by show ¬ hp = b2; omega) (hf9.own hHr.own (by show ¬ b1 = b2; omega))
          have hbl9 := (hblr.setCell (p := ⟨b2, q * 2, none⟩) hz1 (.int .i64 (d k).1)).setCell (p := ⟨b2, q * 2 + 1, none⟩) hz1 (.int .u32 (d k).2)
          clear hc' ha' hae hf9 hHr hWr hblr hu hk hqe HV
          go_wp2
          go_roundw
          case rel => exact ⟨t + 1, _, htT, by rw [HU.out, hqi], hH9, hW9, hbl9, HV2⟩
          case measure => simp [intOf]; omega
        · have hti : t = T := by
            by_cases e : t = T
            · exact e
            · have := HT.out.2 t (by omega); omega
          subst hti
          have hkR2 : k = i := by rw [hk, HT.out.1]
          subst hkR2
          have HQ : Hid (∀ j, upd V R (d k) j = D j) := fun j => HS.out V HV.out j
          clear hk HV HS HT ht hki
          obtain ⟨ab', off', ha', hc'⟩ := h.below hblr (Nat.le_refl _)
          obtain ⟨hae, hbw'⟩ := ha' (by omega)
          obtain ⟨rfl, rfl⟩ : ab = ab' ∧ off = off' := by simpa using hae
          have c0 := (hc' k hi).1
          have c1 := (hc' k hi).2
          have k0 := hWr.c0 (k := R) hRn
          have k1 := hWr.c1 (k := R) hRn
          have kf := hWr.fz
          have hW9 := hWr.set R (d k)
          have hHn := hHr.ne
          have hf9 : Fr (fun k => k = b2) wr ((wr.setCell ⟨b2, R * 2, none⟩ (.int .i64 (d k).1)).setCell ⟨b2, R * 2 + 1, none⟩ (.int .u32 (d k).2)) := ((Fr.refl (fun k => k = b2) wr).setCell (p := ⟨b2, R * 2, none⟩) rfl _).setCell (p := ⟨b2, R * 2 + 1, none⟩) rfl _
          have hH9 := hHr.fr hf9 (by show ¬ hp = b2; omega) (hf9.own hHr.own (by show ¬ b1 = b2; omega))
          have hbl9 := (hblr.setCell (p := ⟨b2, R * 2, none⟩) hz1 (.int .i64 (d k).1)).setCell (p := ⟨b2, R * 2 + 1, none⟩) hz1 (.int .u32 (d k).2)
          clear hc' ha' hae hf9 hHr hWr hblr
          go_wp2
          clear c0 c1 k0 k1 kf
          go_loopw [18] (fun u wr => ∃ j : Nat, j ≤ n ∧ u = .int .i64 j ∧ Hp wr hp b1 n n (D) ∧ Own wr b2 n (upd V R (d k)) ∧ Below w.heap.size w wr) (fun u _ => n - (intOf u).toNat)
          case atStart => exact ⟨0, Nat.zero_le _, rfl, hH9, hW9, hbl9⟩
          case round =>
            clear hH9 hW9 hbl9
            obtain ⟨j, hk, rfl, hHr, hWr, hbl⟩ := hrel
            by_cases hlt3 : j < n
            · have hq := run_neI
              have c0 := cell_regrown (hHr.own.c0 hlt3)
              have c1 := cell_regrown (hHr.own.c1 hlt3)
              have c2 := cell_regrown (hWr.c0 hlt3)
              have c3 := cell_regrown (hWr.c1 hlt3)
              have c4 := cell_regrown hHr.cell
              rw [HQ.out j] at c2 c3
              go_wp2
              refine wp_region_below (by kernel_rfl) (by kernel_rfl) ?_
              repeat (go_big_quiet_step (fail))
              refine wpQuiet_nil ?_
              intro w8 hb8
              have p1 := hHr.below hb8 (Nat.le_refl _)
              have p2 := hWr.below hb8 hWr.lt
              have p3 := hbl.trans (hb8.mono hbl.size)
              clear c0 c1 c2 c3 c4 hHr hWr hbl hb8 hq
              go_wp2
              go_roundw
              case rel => exact ⟨j + 1, by omega, by go_num, p1, p2, p3⟩
              case measure => simp [intOf]; omega
            · go_wp2
              go_ret
              exact ⟨rfl, hbl⟩
    · have hfu := fx_up hi0 hi (by rw [← hpe]; exact hl)
      rw [hfu.1] at hRn hH3 ⊢
      have hRi := hfu.2
      obtain ⟨T, hT, hTk, hTx⟩ := su_exact n d i
      have HS : Hid (∀ V, ShU d i T V → ∀ k, upd V (su n d i).2 (d i) k = (su n d i).1 k) := fun V hV k => su_shift hT hTk hTx hV k
      clear hfu hTk hTx
      obtain ⟨R, hR⟩ : ∃ R, R = (su n d i).2 := ⟨_, rfl⟩
      obtain ⟨D, hD⟩ : ∃ D, D = (su n d i).1 := ⟨_, rfl⟩
      rw [← hR] at hRn HS hT hRi ⊢
      rw [← hD] at HS hH3
      clear hR hD
      have HT : Hid (Rd R i T) := hT
      clear hT
      have HL : Hid (∀ w, Calls Ycym.prog 28 #[.agg #[.int .i64 (d i).1, .int .u32 (d i).2], .agg #[.int .i64 (d p).1, .int .u32 (d p).2]] w fun r w' => r = .returned (.bool true) ∧ Below w.heap.size w w') := fun w => by
        have := hless_any (d i) (d p) w
        rwa [hl] at this
      clear hl hpe
      go_wp2
      refine wp_region_below (by kernel_rfl) (by kernel_rfl) ?_
      repeat (go_big_quiet_step (exact Calls.regrown_of (HL.out _)))
      refine wpQuiet_nil ?_
      intro w5 hb5
      have hH5 := hH3.below hb5 (Nat.le_refl _)
      have hW5 := hW3.below hb5 hW3.lt
      have hbl6 := hbl5.trans (hb5.mono hbl5.size)
      clear c0 c1 c2 c3 g0 HL hb5 hH3 hW3 hbl5
      go_wp2
      go_loopw [14] (fun u wr => ∃ (t : Nat) (V : Nat → It), t ≤ T ∧ u = .int .i64 (up t i) ∧ Hp wr hp b1 n n D ∧ Own wr b2 n V ∧ Below w.heap.size w wr ∧ Hid (ShU d i t V)) (fun u _ => (intOf u).toNat)
      case atStart => exact ⟨0, d, Nat.zero_le _, rfl, hH5, hW5, hbl6, ⟨fun s hs => by omega, fun k _ => rfl⟩⟩
      case round =>
        clear hH5 hW5 hbl6
        obtain ⟨t, V, ht, rfl, hHr, hWr, hblr, HV⟩ := hrel
        have hki := up_le t i
        obtain ⟨k, hk⟩ : ∃ k, k = up t i := ⟨_, rfl⟩
        rw [← hk] at hki ⊢
        by_cases hkR : R < k
        · have htT : t < T := by
            by_cases e : t = T
            · exfalso; subst e; rw [HT.out.1] at hk; omega
            · omega
          obtain ⟨q, hqe⟩ : ∃ q, q = (k - 1) / 2 := ⟨_, rfl⟩
          have hqi : ((k : Int) - 1) / 2 = (q : Int) := by omega
          have hqk : q < k := by omega
          have hu : up (t + 1) i = q := by show (up t i - 1) / 2 = q; rw [← hk, hqe]
          have HU : Hid (up (t + 1) i = q) := hu
          have HV2 : Hid (ShU d i (t + 1) (upd V k (d q))) := by
            have := HV.out.step HT.out htT
            rwa [← hk, hu] at this
          obtain ⟨ab', off', ha', hc'⟩ := h.below hblr (Nat.le_refl _)
          obtain ⟨hae, hbw'⟩ := ha' (by omega)
          obtain ⟨rfl, rfl⟩ : ab = ab' ∧ off = off' := by simpa using hae
          have c0 := (hc' q (by omega)).1
          have c1 := (hc' q (by omega)).2
          have k0 := hWr.c0 (k := k) (by omega)
          have k1 := hWr.c1 (k := k) (by omega)
          have kf := hWr.fz
          have hW9 := hWr.set k (d q)
          have hHn := hHr.ne
          have hf9 : Fr (fun j => j = b2) wr ((wr.setCell ⟨b2, k * 2, none⟩ (.int .i64 (d q).1)).setCell ⟨b2, k * 2 + 1, none⟩ (.int .u32 (d q).2)) := ((Fr.refl (fun j => j = b2) wr).setCell (p := ⟨b2, k * 2, none⟩) rfl _).setCell (p := ⟨b2, k * 2 + 1, none⟩) rfl _
          have hH9 := hHr.fr hf9 (by show ¬ hp = b2; omega) (hf9.own hHr.own (by show ¬ b1 = b2; omega))
          have hbl9 := (hblr.setCell (p := ⟨b2, k * 2, none⟩) hz1 (.int .i64 (d q).1)).setCell (p := ⟨b2, k * 2 + 1, none⟩) hz1 (.int .u32 (d q).2)
          clear hc' ha' hae hf9 hHr hWr hblr hu hk hqe HV
          go_wp2
          go_roundw
          case rel => exact ⟨t + 1, _, htT, by rw [HU.out, hqi], hH9, hW9, hbl9, HV2⟩
          case measure => simp [intOf]; omega
        · have hti : t = T := by
            by_cases e : t = T
            · exact e
            · have := HT.out.2 t (by omega); omega
          subst hti
          have hkR2 : k = R := by rw [hk, HT.out.1]
          subst hkR2
          have HQ : Hid (∀ j, upd V k (d i) j = D j) := fun j => HS.out V HV.out j
          clear hk HV HS HT ht hki
          obtain ⟨ab', off', ha', hc'⟩ := h.below hblr (Nat.le_refl _)
          obtain ⟨hae, hbw'⟩ := ha' (by omega)
          obtain ⟨rfl, rfl⟩ : ab = ab' ∧ off = off' := by simpa using hae
          have c0 := (hc' i hi).1
          have c1 := (hc' i hi).2
          have k0 := hWr.c0 (k := k) hRn
          have k1 := hWr.c1 (k := k) hRn
          have kf := hWr.fz
          have hW9 := hWr.set k (d i)
          have hHn := hHr.ne
          have hf9 : Fr (fun k => k = b2) wr ((wr.setCell ⟨b2, k * 2, none⟩ (.int .i64 (d i).1)).setCell ⟨b2, k * 2 + 1, none⟩ (.int .u32 (d i).2)) := ((Fr.refl (fun k => k = b2) wr).setCell (p := ⟨b2, k * 2, none⟩) rfl _).setCell (p := ⟨b2, k * 2 + 1, none⟩) rfl _
          have hH9 := hHr.fr hf9 (by show ¬ hp = b2; omega) (hf9.own hHr.own (by show ¬ b1 = b2; omega))
          have hbl9 := (hblr.setCell (p := ⟨b2, k * 2, none⟩) hz1 (.int .i64 (d i).1)).setCell (p := ⟨b2, k * 2 + 1, none⟩) hz1 (.int .u32 (d i).2)
          clear hc' ha' hae hf9 hHr hWr hblr
          go_wp2
          clear c0 c1 k0 k1 kf
          go_loopw [18] (fun u wr => ∃ j : Nat, j ≤ n ∧ u = .int .i64 j ∧ Hp wr hp b1 n n (D) ∧ Own wr b2 n (upd V k (d i)) ∧ Below w.heap.size w wr) (fun u _ => n - (intOf u).toNat)
          case atStart => exact ⟨0, Nat.zero_le _, rfl, hH9, hW9, hbl9⟩
          case round =>
            clear hH9 hW9 hbl9
            obtain ⟨j, hk, rfl, hHr, hWr, hbl⟩ := hrel
            by_cases hlt3 : j < n
            · have hq := run_neI
              have c0 := cell_regrown (hHr.own.c0 hlt3)
              have c1 := cell_regrown (hHr.own.c1 hlt3)
              have c2 := cell_regrown (hWr.c0 hlt3)
              have c3 := cell_regrown (hWr.c1 hlt3)
              have c4 := cell_regrown hHr.cell
              rw [HQ.out j] at c2 c3
              go_wp2
              refine wp_region_below (by kernel_rfl) (by kernel_rfl) ?_
              repeat (go_big_quiet_step (fail))
              refine wpQuiet_nil ?_
              intro w8 hb8
              have p1 := hHr.below hb8 (Nat.le_refl _)
              have p2 := hWr.below hb8 hWr.lt
              have p3 := hbl.trans (hb8.mono hbl.size)
              clear c0 c1 c2 c3 c4 hHr hWr hbl hb8 hq
              go_wp2
              go_roundw
              case rel => exact ⟨j + 1, by omega, by go_num, p1, p2, p3⟩
              case measure => simp [intOf]; omega
            · go_wp2
              go_ret
              exact ⟨rfl, hbl⟩
  · have hfu := fx_down (n := n) (d := d) (i := i) (.inl (by omega))
    have gi0 : decide (0 < i) = false := decide_eq_false hi0
    clear hc ha
    rw [hfu] at hRn hH3 ⊢
    have hRi := sd_ge n n d i
    obtain ⟨T, hT, hTk, hTx⟩ := sd_exact n n d i
    have HS : Hid (∀ V, ShD d (sd n n d i).2 T V → ∀ k, upd V (sd n n d i).2 (d i) k = (sd n n d i).1 k) := fun V hV k => sd_shift hTk hTx hV k
    clear hfu hTk hTx
    obtain ⟨R, hR⟩ : ∃ R, R = (sd n n d i).2 := ⟨_, rfl⟩
    obtain ⟨D, hD⟩ : ∃ D, D = (sd n n d i).1 := ⟨_, rfl⟩
    rw [← hR] at hRn HS hT hRi ⊢
    rw [← hD] at HS hH3
    clear hR hD
    have HT : Hid (Rd i R T) := hT
    clear hT
    have gRi : decide (R < i) = false := decide_eq_false (by omega)
    clear hpe
    go_wp2
    refine wp_region_below (by kernel_rfl) (by kernel_rfl) ?_
    repeat (go_big_quiet_step (fail))
    refine wpQuiet_nil ?_
    intro w5 hb5
    have hH5 := hH3.below hb5 (Nat.le_refl _)
    have hW5 := hW3.below hb5 hW3.lt
    have hbl6 := hbl5.trans (hb5.mono hbl5.size)
    clear gi0 g0 hb5 hH3 hW3 hbl5
    go_wp2
    go_loopw [16] (fun u wr => ∃ (t : Nat) (V : Nat → It), t ≤ T ∧ u = .int .i64 (up t R) ∧ Hp wr hp b1 n n D ∧ Own wr b2 n V ∧ Below w.heap.size w wr ∧ Hid (ShD d R t V)) (fun u _ => (intOf u).toNat)
    case atStart => exact ⟨0, d, Nat.zero_le _, rfl, hH5, hW5, hbl6, ⟨fun s hs => by omega, fun k _ => rfl⟩⟩
    case round =>
      clear hH5 hW5 hbl6
      obtain ⟨t, V, ht, rfl, hHr, hWr, hblr, HV⟩ := hrel
      have hki := up_le t R
      obtain ⟨k, hk⟩ : ∃ k, k = up t R := ⟨_, rfl⟩
      rw [← hk] at hki ⊢
      by_cases hkR : i < k
      · have htT : t < T := by
          by_cases e : t = T
          · exfalso; subst e; rw [HT.out.1] at hk; omega
          · omega
        obtain ⟨q, hqe⟩ : ∃ q, q = (k - 1) / 2 := ⟨_, rfl⟩
        have hqi : ((k : Int) - 1) / 2 = (q : Int) := by omega
        have hqk : q < k := by omega
        have hu : up (t + 1) R = q := by show (up t R - 1) / 2 = q; rw [← hk, hqe]
        have HU : Hid (up (t + 1) R = q) := hu
        have HV2 : Hid (ShD d R (t + 1) (upd V q (d k))) := by
          have := HV.out.step HT.out htT
          rwa [← hk, hu] at this
        obtain ⟨ab', off', ha', hc'⟩ := h.below hblr (Nat.le_refl _)
        obtain ⟨hae, hbw'⟩ := ha' (by omega)
        obtain ⟨rfl, rfl⟩ : ab = ab' ∧ off = off' := by simpa using hae
        have c0 := (hc' k (by omega)).1
        have c1 := (hc' k (by omega)).2
        have k0 := hWr.c0 (k := q) (by omega)
        have k1 := hWr.c1 (k := q) (by omega)
        have kf := hWr.fz
        have hW9 := hWr.set q (d k)
        have hHn := hHr.ne
        have hf9 : Fr (fun j => j = b2) wr ((wr.setCell ⟨b2, q * 2, none⟩ (.int .i64 (d k).1)).setCell ⟨b2, q * 2 + 1, none⟩ (.int .u32 (d k).2)) := ((Fr.refl (fun j => j = b2) wr).setCell (p := ⟨b2, q * 2, none⟩) rfl _).setCell (p := ⟨b2, q * 2 + 1, none⟩) rfl _
        have hH9 := hHr.fr hf9 (by show ¬ hp = b2; omega) (hf9.own hHr.own (by show ¬ b1 = b2; omega))
        have hbl9 := (hblr.setCell (p := ⟨b2, q * 2, none⟩) hz1 (.int .i64 (d k).1)).setCell (p := ⟨b2, q * 2 + 1, none⟩) hz1 (.int .u32 (d k).2)
        clear hc' ha' hae hf9 hHr hWr hblr hu hk hqe HV
        go_wp2
        go_roundw
        case rel => exact ⟨t + 1, _, htT, by rw [HU.out, hqi], hH9, hW9, hbl9, HV2⟩
        case measure => simp [intOf]; omega
      · have hti : t = T := by
          by_cases e : t = T
          · exact e
          · have := HT.out.2 t (by omega); omega
        subst hti
        have hkR2 : k = i := by rw [hk, HT.out.1]
        subst hkR2
        have HQ : Hid (∀ j, upd V R (d k) j = D j) := fun j => HS.out V HV.out j
        clear hk HV HS HT ht hki
        obtain ⟨ab', off', ha', hc'⟩ := h.below hblr (Nat.le_refl _)
        obtain ⟨hae, hbw'⟩ := ha' (by omega)
        obtain ⟨rfl, rfl⟩ : ab = ab' ∧ off = off' := by simpa using hae
        have c0 := (hc' k hi).1
        have c1 := (hc' k hi).2
        have k0 := hWr.c0 (k := R) hRn
        have k1 := hWr.c1 (k := R) hRn
        have kf := hWr.fz
        have hW9 := hWr.set R (d k)
        have hHn := hHr.ne
        have hf9 : Fr (fun k => k = b2) wr ((wr.setCell ⟨b2, R * 2, none⟩ (.int .i64 (d k).1)).setCell ⟨b2, R * 2 + 1, none⟩ (.int .u32 (d k).2)) := ((Fr.refl (fun k => k = b2) wr).setCell (p := ⟨b2, R * 2, none⟩) rfl _).setCell (p := ⟨b2, R * 2 + 1, none⟩) rfl _
        have hH9 := hHr.fr hf9 (by show ¬ hp = b2; omega) (hf9.own hHr.own (by show ¬ b1 = b2; omega))
        have hbl9 := (hblr.setCell (p := ⟨b2, R * 2, none⟩) hz1 (.int .i64 (d k).1)).setCell (p := ⟨b2, R * 2 + 1, none⟩) hz1 (.int .u32 (d k).2)
        clear hc' ha' hae hf9 hHr hWr hblr
        go_wp2
        clear c0 c1 k0 k1 kf
        go_loopw [18] (fun u wr => ∃ j : Nat, j ≤ n ∧ u = .int .i64 j ∧ Hp wr hp b1 n n (D) ∧ Own wr b2 n (upd V R (d k)) ∧ Below w.heap.size w wr) (fun u _ => n - (intOf u).toNat)
        case atStart => exact ⟨0, Nat.zero_le _, rfl, hH9, hW9, hbl9⟩
        case round =>
          clear hH9 hW9 hbl9
          obtain ⟨j, hk, rfl, hHr, hWr, hbl⟩ := hrel
          by_cases hlt3 : j < n
          · have hq := run_neI
            have c0 := cell_regrown (hHr.own.c0 hlt3)
            have c1 := cell_regrown (hHr.own.c1 hlt3)
            have c2 := cell_regrown (hWr.c0 hlt3)
            have c3 := cell_regrown (hWr.c1 hlt3)
            have c4 := cell_regrown hHr.cell
            rw [HQ.out j] at c2 c3
            go_wp2
            refine wp_region_below (by kernel_rfl) (by kernel_rfl) ?_
            repeat (go_big_quiet_step (fail))
            refine wpQuiet_nil ?_
            intro w8 hb8
            have p1 := hHr.below hb8 (Nat.le_refl _)
            have p2 := hWr.below hb8 hWr.lt
            have p3 := hbl.trans (hb8.mono hbl.size)
            clear c0 c1 c2 c3 c4 hHr hWr hbl hb8 hq
            go_wp2
            go_roundw
            case rel => exact ⟨j + 1, by omega, by go_num, p1, p2, p3⟩
            case measure => simp [intOf]; omega
          · go_wp2
            go_ret
            exact ⟨rfl, hbl⟩

theorem walk (a : Option Addr) (n cap : Nat) (d : Nat → It) (a1 : Int) (a2 : Bool) (w : World) (h : Sl w a n d) (hn : n ≤ maxLen) (_w1 : (Lit.int .i64 a1).wf = true) :
    Calls Ycym.prog 13 #[.slice a n cap, .int .i64 a1, .bool a2] w fun e w' => e = .returned (.bool true) ∧ Below w.heap.size w w' := by
  by_cases hs : n ≤ 1024
  · have hout : ¬ (0 ≤ a1 ∧ a1 < (n : Int)) → a1 < 0 ∨ (decide (a1 < 0) = false ∧ (n : Int) ≤ a1) := fun hx => by
      by_cases h0 : a1 < 0
      · exact .inl h0
      · exact .inr ⟨decide_eq_false h0, by omega⟩
    cases a2
    · by_cases hx : 0 ≤ a1 ∧ a1 < (n : Int)
      · obtain ⟨i, rfl⟩ : ∃ i : Nat, a1 = i := ⟨a1.toNat, by omega⟩
        exact walk_in a n cap d i w h hs (by omega)
      · exact walk_out a n cap d a1 w h hs (hout hx)
    · by_cases hz : n = 0
      · exact walk_out0 a n cap d a1 w h hs (decide_eq_false (by omega)) (decide_eq_false (by omega)) (hout (by omega))
      · have h2 : 0 ≤ a1 % 18446744073709551616 % (n : Int) := Int.emod_nonneg _ (by omega)
        have h3 : a1 % 18446744073709551616 % (n : Int) < (n : Int) := Int.emod_lt_of_pos _ (by omega)
        exact walk_fold a n cap d a1 (a1 % 18446744073709551616 % (n : Int)).toNat w h hs (by omega) (by rw [IntKind.wrap_u64, Int.tmod_eq_emod_of_nonneg (by omega)]; unfold wrap64; omega)
  · exact walk_long a n cap a1 a2 w hs hn
end Go.Proofs.Ymbrcy.lawS930008HPath
