/- The walk of LawS930008DHeap (seat Ymbrcx): the Go text returns true, and writes nothing that was there. -/
import Derived.Test.YmbrcxBase
import Derived.Test.YmbrcxBefore
import Derived.Test.YmbrcxCopy
import Derived.Test.YmbrcxDown
namespace Go.Proofs.Ymbrcx.lawS930008DHeap
open Go.RowKit Go.Sort
set_option linter.unusedVariables false

/-- what holds of the array when places kk and up have been sifted -/
def St (n kk : Nat) (d e : Nat → It) : Prop := HeapFrom n kk e ∧ ∀ j, j < kk → e j = d j
theorem st_step {n kk : Nat} {d e : Nat → It} (hk : kk < n / 2) (h : St n (kk + 1) d e) : St n kk d (sd n n e kk).1 :=
  ⟨sd_heap n kk n e kk (by omega) (Nat.le_refl _) (.inl (by omega)) ⟨fun c a b _ _ => h.1 c a b (by omega), fun _ _ _ _ _ _ => by omega⟩, fun j hj => by rw [sd_below n n e kk j hj]; exact h.2 j (by omega)⟩

theorem walk_long (a : Option Addr) (n cap : Nat) (a1 : Int) (w : World) (hn : ¬ n ≤ 1024) (hm : n ≤ maxLen) :
    Calls Ycxm.prog 13 #[.slice a n cap, .int .u16 a1] w fun e w' => e = .returned (.bool true) ∧ Below w.heap.size w w' := by
  unfold maxLen at hm
  go_enter Ycxm.func13, Ycxm.ntmps13
  go_wp2
  go_ret
  exact ⟨rfl, Below.refl _ _⟩

set_option maxHeartbeats 2000000 in
theorem walk_short (a : Option Addr) (n cap : Nat) (d : Nat → It) (a1 : Int) (s : Nat) (w : World) (h : Sl w a n d) (hn : n ≤ 1024) (h0 : 0 ≤ a1) (h1 : a1 ≤ 65535) (hs : a1 % ((n : Int) / 2 + 1) = s) (hs2 : s ≤ n / 2) :
    Calls Ycxm.prog 13 #[.slice a n cap, .int .u16 a1] w fun e w' => e = .returned (.bool true) ∧ Below w.heap.size w w' := by
  go_enter Ycxm.func13, Ycxm.ntmps13
  go_wp2_with fail
  refine (dcopy_any a n cap d _ h (by omega)).mono ?_
  rintro e w1 ⟨rfl, how1, hb1⟩
  rw [hs]
  clear hs h0 h1
  obtain ⟨b, hb⟩ : ∃ b, b = w.heap.size := ⟨_, rfl⟩
  rw [← hb] at how1 ⊢
  have HB : Hid (b = w.heap.size) := hb
  clear hb
  go_wp2
  go_loopw [8] (fun u wr => ∃ (kk : Nat) (e : Nat → It), s ≤ kk ∧ kk ≤ n / 2 ∧ u = .int .i64 ((kk : Int) - 1) ∧ Own wr b n e ∧ Below w.heap.size w wr ∧ Hid (St n kk d e)) (fun u _ => (intOf u + 1).toNat)
  case atStart => exact ⟨n / 2, d, hs2, Nat.le_refl _, by go_num, how1, hb1, ⟨fun c x y z => by omega, fun _ _ => rfl⟩⟩
  case round =>
    obtain ⟨kk, e, hk1, hk2, rfl, how, hbl, HS⟩ := hrel
    clear how1 hb1
    by_cases hlt : s < kk
    · obtain ⟨k, rfl⟩ : ∃ k, kk = k + 1 := ⟨kk - 1, by omega⟩
      have ek : (((k + 1 : Nat) : Int) - 1) = (k : Int) := by omega
      rw [ek]
      clear ek
      go_wp2_with fail
      refine (siftDown_any b n n n k e _ how (Nat.le_refl _) (.inl (by omega)) (by omega)).mono ?_
      rintro e1 w2 ⟨rfl, how2, hfr2⟩
      have hbl2 := hbl.trans (hfr2.to_below hbl.size (fun x hx => by have := HB.out; omega))
      go_wp2
      go_roundw
      case rel => exact ⟨k, _, by omega, by omega, rfl, how2, hbl2, st_step (by omega) HS.out⟩
      case measure => simp [intOf]
    · have hks : kk = s := by omega
      subst hks
      clear hlt hk1
      obtain ⟨hH, hE⟩ := HS.out
      clear HS
      have HH : Hid (HeapFrom n kk e) := hH
      have HE : Hid (∀ j, j < kk → e j = d j) := hE
      clear hH hE
      go_wp2
      go_loopw [9] (fun u wr => ∃ (k : Nat), k ≤ kk ∧ u = .int .i64 k ∧ Own wr b n e ∧ Below w.heap.size w wr) (fun u _ => kk - (intOf u).toNat)
      case atStart => exact ⟨0, Nat.zero_le _, rfl, how, hbl⟩
      case round =>
        clear how hbl
        obtain ⟨k, hk, rfl, how, hbl⟩ := hrel
        by_cases hlt : k < kk
        · obtain ⟨ab, off, ha, hc⟩ := h.below hbl (Nat.le_refl _)
          obtain ⟨rfl, hbw⟩ := ha (by omega)
          have c0 := cell_regrown (hc k (by omega)).1
          have c1 := cell_regrown (hc k (by omega)).2
          have c2 := cell_regrown (how.c0 (k := k) (by omega))
          have c3 := cell_regrown (how.c1 (k := k) (by omega))
          rw [HE.out k hlt] at c2 c3
          clear hc ha
          go_wp2
          refine wp_region_below (by kernel_rfl) (by kernel_rfl) ?_
          repeat (go_big_quiet_step (fail))
          refine wpQuiet_nil ?_
          intro w2 hb2
          have how2 := how.below hb2 how.lt
          have hbl2 := hbl.trans (hb2.mono hbl.size)
          clear c0 c1 c2 c3 how hbl hb2
          go_wp2
          go_roundw
          case rel => exact ⟨k + 1, by omega, by go_num, how2, hbl2⟩
          case measure => simp [intOf]; omega
        · go_wp2
          go_loopw [10] (fun u wr => ∃ (k : Nat), 1 ≤ k ∧ (k ≤ n ∨ k = 1) ∧ u = .int .i64 k ∧ Own wr b n e ∧ Below w.heap.size w wr) (fun u _ => n - (intOf u).toNat)
          case atStart => exact ⟨1, Nat.le_refl _, .inr rfl, rfl, how, hbl⟩
          case round =>
            clear how hbl hk hlt
            obtain ⟨c, hc1, hc2, rfl, how, hbl⟩ := hrel
            by_cases hlt : c < n
            · obtain ⟨p, hp⟩ : ∃ p, p = (c - 1) / 2 := ⟨_, rfl⟩
              have hpi : ((c : Int) - 1) / 2 = (p : Int) := by omega
              have HP : Hid (p = (c - 1) / 2) := hp
              have hpc : p < c := by omega
              clear hp
              by_cases hg : kk ≤ p
              · have hgi : (kk : Int) ≤ (p : Int) := by omega
                have c0 := cell_regrown (how.c0 (k := c) (by omega))
                have c1 := cell_regrown (how.c1 (k := c) (by omega))
                have c2 := cell_regrown (how.c0 (k := p) (by omega))
                have c3 := cell_regrown (how.c1 (k := p) (by omega))
                have L : ∀ w, Calls Ycxm.prog 26 #[.agg #[.int .i64 (e c).1, .int .u32 (e c).2], .agg #[.int .i64 (e p).1, .int .u32 (e p).2]] w fun r w' => r = .returned (.bool false) ∧ Below w.heap.size w w' := fun w => by
                  have := dless_any (e c) (e p) w
                  have hf := HH.out c hc1 hlt (by rw [← HP.out]; exact hg)
                  rw [← HP.out] at hf
                  rwa [hf] at this
                have HL : Hid (∀ w, Calls Ycxm.prog 26 #[.agg #[.int .i64 (e c).1, .int .u32 (e c).2], .agg #[.int .i64 (e p).1, .int .u32 (e p).2]] w fun r w' => r = .returned (.bool false) ∧ Below w.heap.size w w') := L
                clear L
                go_wp2
                refine wp_region_below (by kernel_rfl) (by kernel_rfl) ?_
                repeat (go_big_quiet_step (exact Calls.regrown_of (HL.out _)))
                refine wpQuiet_nil ?_
                intro w2 hb2
                have how2 := how.below hb2 how.lt
                have hbl2 := hbl.trans (hb2.mono hbl.size)
                clear c0 c1 c2 c3 how hbl hb2
                go_wp2
                go_roundw
                case rel => exact ⟨c + 1, by omega, by omega, by go_num, how2, hbl2⟩
                case measure => simp [intOf]; omega
              · have hgi : decide ((kk : Int) ≤ (p : Int)) = false := decide_eq_false (by omega)
                go_wp2
                refine wp_region_below (by kernel_rfl) (by kernel_rfl) ?_
                repeat (go_big_quiet_step (fail))
                refine wpQuiet_nil ?_
                intro w2 hb2
                have how2 := how.below hb2 how.lt
                have hbl2 := hbl.trans (hb2.mono hbl.size)
                clear how hbl hb2
                go_wp2
                go_roundw
                case rel => exact ⟨c + 1, by omega, by omega, by go_num, how2, hbl2⟩
                case measure => simp [intOf]; omega
            · go_wp2
              go_ret
              exact ⟨rfl, hbl⟩

theorem walk (a : Option Addr) (n cap : Nat) (d : Nat → It) (a1 : Int) (w : World) (h : Sl w a n d) (hn : n ≤ maxLen) (w1 : (Lit.int .u16 a1).wf = true) :
    Calls Ycxm.prog 13 #[.slice a n cap, .int .u16 a1] w fun e w' => e = .returned (.bool true) ∧ Below w.heap.size w w' := by
  have hb := bd_u16 w1
  by_cases hs : n ≤ 1024
  · have h2 : 0 ≤ a1 % ((n : Int) / 2 + 1) := Int.emod_nonneg _ (by omega)
    have h3 : a1 % ((n : Int) / 2 + 1) < (n : Int) / 2 + 1 := Int.emod_lt_of_pos _ (by omega)
    exact walk_short a n cap d a1 (a1 % ((n : Int) / 2 + 1)).toNat w h hs hb.1 hb.2 (by omega) (by omega)
  · exact walk_long a n cap a1 w hs hn
end Go.Proofs.Ymbrcx.lawS930008DHeap
