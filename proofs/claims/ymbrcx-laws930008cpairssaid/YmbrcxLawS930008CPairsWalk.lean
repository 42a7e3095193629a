/- The walk of LawS930008CPairs (seat Ymbrcx): the Go text returns true, and writes nothing that was there. -/
import Derived.Test.YmbrcxBase
import Derived.Test.YmbrcxBefore
import Derived.Test.YmbrcxSrt
namespace Go.Proofs.Ymbrcx.lawS930008CPairs
open Go.RowKit Go.Sort
set_option linter.unusedVariables false

/-- of the first i items and, for place i, of those before j: no later one comes before an earlier one -/
def Pr (d : Nat → It) (n i : Nat) : Prop := ∀ p q, p < i → p < q → q < n → lt (d q) (d p) = false
def Pr2 (d : Nat → It) (n i j : Nat) : Prop := Pr d n i ∧ ∀ q, i < q → q < j → lt (d q) (d i) = false
theorem pr_all {d : Nat → It} {n : Nat} : Pr d n n ↔ Srt n d := by
  constructor
  · intro h k h1 h2; exact h (k - 1) k (by omega) (by omega) h2
  · intro h p q _ h1 h2; exact h.pairs p q h1 h2
theorem pr_step {d : Nat → It} {n i : Nat} (h : Pr2 d n i n) : Pr d n (i + 1) := fun p q h1 h2 h3 => by
  by_cases e : p = i
  · subst e; exact h.2 q h2 h3
  · exact h.1 p q (by omega) h2 h3

set_option maxHeartbeats 1000000 in
theorem walk (a : Option Addr) (n cap : Nat) (d : Nat → It) (w : World) (h : Sl w a n d) (hn : n ≤ maxLen) :
    Calls Ycxm.prog 9 #[.slice a n cap] w fun e w' => e = .returned (.bool true) ∧ Below w.heap.size w w' := by
  have hn' := hn
  unfold maxLen at hn
  have HN : Hid (n ≤ maxLen) := hn'
  clear hn'
  go_enter Ycxm.func9, Ycxm.ntmps9
  go_wp2
  go_loopw [3, 4] (fun v i wr => ∃ (k : Nat) (t : Bool), k ≤ n ∧ i = .int .i64 k ∧ v = .bool t ∧ Below w.heap.size w wr ∧ Hid (t = true ↔ Pr d n k)) (fun _ i _ => n - (intOf i).toNat)
  case atStart => exact ⟨0, true, by omega, rfl, rfl, Below.refl _ _, ⟨fun _ p q h1 => by omega, fun _ => rfl⟩⟩
  case round =>
    obtain ⟨k, t, hk, rfl, rfl, hb, HT⟩ := hrel
    by_cases hlt : k < n
    · go_wp2
      go_loopw [3, 5] (fun v j wr => ∃ (q : Nat) (t : Bool), k < q ∧ q ≤ n ∧ j = .int .i64 q ∧ v = .bool t ∧ Below w.heap.size w wr ∧ Hid (t = true ↔ Pr2 d n k q)) (fun _ j _ => n - (intOf j).toNat)
      case atStart => exact ⟨k + 1, t, by omega, by omega, by go_num, rfl, hb, HT.out.trans ⟨fun h => ⟨h, fun q h1 h2 => by omega⟩, fun h => h.1⟩⟩
      case round =>
        rename_i wr0 _ _
        clear HT hb
        obtain ⟨q, t, hkq, hq, rfl, rfl, hb, HT⟩ := hrel
        by_cases hqn : q < n
        · obtain ⟨b, off, ha, hc⟩ := h.below hb (Nat.le_refl _)
          obtain ⟨rfl, hbw⟩ := ha (by omega)
          have c0 := cell_regrown (hc q hqn).1
          have c1 := cell_regrown (hc q hqn).2
          have c2 := cell_regrown (hc k hlt).1
          have c3 := cell_regrown (hc k hlt).2
          clear hc ha
          go_wp2
          refine wp_region_below (by kernel_rfl) (by kernel_rfl) ?_
          repeat (go_big_quiet_step (exact Calls.regrown_of (cbefore_any _ _ _)))
          refine wpQuiet_nil ?_
          intro w1 hb1
          have hb1 := hb.trans (hb1.mono hb.size)
          clear c0 c1 c2 c3
          cases hl : lt (d q) (d k)
          · go_wp2
            go_roundw
            case rel =>
              refine ⟨q + 1, t, by omega, by omega, by go_num, rfl, hb1, HT.out.trans ⟨fun h => ⟨h.1, fun x h1 h2 => ?_⟩, fun h => ⟨h.1, fun x h1 h2 => h.2 x h1 (by omega)⟩⟩⟩
              by_cases e : x = q
              · subst e; exact hl
              · exact h.2 x h1 (by omega)
            case measure => simp [intOf]; omega
          · go_wp2
            go_roundw
            case rel => exact ⟨q + 1, false, by omega, by omega, by go_num, rfl, hb1, ⟨(fun h => by cases h), (fun h => by rw [h.2 q hkq (by omega)] at hl; cases hl)⟩⟩
            case measure => simp [intOf]; omega
        · go_wp2
          go_roundw
          case rel =>
            have hqe : q = n := by omega
            subst hqe
            exact ⟨k + 1, t, by omega, by go_num, rfl, hb, HT.out.trans ⟨pr_step, fun h => ⟨fun p x h1 h2 h3 => h p x (by omega) h2 h3, fun x h1 h2 => h k x (by omega) h1 h2⟩⟩⟩
          case measure => simp [intOf]; omega
    · go_wp2_with fail
      refine (isSorted_any a n cap d _ (h.below hb (Nat.le_refl _)) HN.out).mono ?_
      rintro e w1 ⟨r, rfl, hr, hb1⟩
      have hrt : (r == t) = true := by
        have hkn : k = n := by omega
        subst hkn
        have := HT.out.trans pr_all
        have e : r = true ↔ t = true := hr.trans this.symm
        cases r <;> cases t <;> simp_all
      have hb1 := hb.trans (hb1.mono hb.size)
      clear hr HT
      go_wp2
      go_ret
      exact ⟨rfl, hb1⟩
end Go.Proofs.Ymbrcx.lawS930008CPairs
