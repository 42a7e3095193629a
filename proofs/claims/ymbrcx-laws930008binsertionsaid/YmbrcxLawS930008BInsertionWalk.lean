/- The walk of LawS930008BInsertion (seat Ymbrcx): the Go text returns true, and writes nothing that was there. -/
import Derived.Test.YmbrcxBase
import Derived.Test.YmbrcxIns
import Derived.Test.YmbrcxSorted
import Derived.Test.YmbrcxRanks
import Derived.Test.YmbrcxBeq
namespace Go.Proofs.Ymbrcx.lawS930008BInsertion
open Go.RowKit Go.Sort
set_option linter.unusedVariables false

theorem walk_long (a : Option Addr) (n cap : Nat) (w : World) (hn : ¬ n ≤ 1024) (hm : n ≤ maxLen) :
    Calls Ycxm.prog 6 #[.slice a n cap] w fun e w' => e = .returned (.bool true) ∧ Below w.heap.size w w' := by
  unfold maxLen at hm
  go_enter Ycxm.func6, Ycxm.ntmps6
  go_wp2
  go_ret
  exact ⟨rfl, Below.refl _ _⟩
theorem run_nonnil (b n c : Nat) (w : World) : (binOp .neq 29 (.slice (some ⟨b, 0, none⟩) n c) (.slice none 0 0)).run Ycxm.prog w = .ok (.bool true) w := by
  go_simp

set_option maxHeartbeats 1000000 in
theorem walk_main (a : Option Addr) (n cap : Nat) (d : Nat → It) (w : World) (h : Sl w a n d) (hn : n ≤ 1024) :
    Calls Ycxm.prog 6 #[.slice a n cap] w fun e w' => e = .returned (.bool true) ∧ Below w.heap.size w w' := by
  have hnn := run_nonnil
  go_enter Ycxm.func6, Ycxm.ntmps6
  go_wp2_with fail
  refine (binsort_any a n cap d _ h hn).mono ?_
  rintro e w1 ⟨p, rfl, how1, hS1, hP1, hb1⟩
  go_wp2_with fail
  refine (sorted_any a n cap d _ (h.below hb1 (Nat.le_refl _)) hn).mono ?_
  rintro e w2 ⟨b, o, rfl, hbz, how2, hS2, hP2, hb2⟩
  have how3 := how1.below hb2 how1.lt
  have hbl := hb1.trans (hb2.mono hb1.size)
  have HE : Hid (∀ k, k < n → p k = o k) := fun k hk => srt_one hS1 hS2 (hP1.trans hP2.symm) k hk
  have hsl := (how3.sl (Nat.le_refl _)).congr HE.out
  have hsl2 := how2.sl (Nat.le_refl _)
  clear hS1 hP1 hS2 hP2 how1 how2 how3 hb1 hb2 HE
  go_wp2_with fail
  refine (beq_same _ _ n n n o _ hsl2 hsl hn).mono ?_
  rintro e w3 ⟨rfl, hb3⟩
  have hbl3 := hbl.trans (hb3.mono hbl.size)
  go_wp2
  go_ret
  exact ⟨rfl, hbl3⟩

theorem walk (a : Option Addr) (n cap : Nat) (d : Nat → It) (w : World) (h : Sl w a n d) (hn : n ≤ maxLen) :
    Calls Ycxm.prog 6 #[.slice a n cap] w fun e w' => e = .returned (.bool true) ∧ Below w.heap.size w w' := by
  by_cases hs : n ≤ 1024
  · exact walk_main a n cap d w h hs
  · exact walk_long a n cap w hs hn
end Go.Proofs.Ymbrcx.lawS930008BInsertion
