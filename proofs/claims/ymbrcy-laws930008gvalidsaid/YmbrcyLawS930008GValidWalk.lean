/- The walk of LawS930008GValid (seat Ymbrcy): the Go text returns true, and writes nothing that was there. -/
import Derived.Test.YmbrcyBase
import Derived.Test.YmbrcyFrom
import Derived.Test.YmbrcyRem
import Derived.Test.YmbrcyGfns
namespace Go.Proofs.Ymbrcy.lawS930008GValid
open Go.RowKit Go.Sort
set_option linter.unusedVariables false

theorem walk_long (a : Option Addr) (n cap : Nat) (a1 : Int) (w : World) (hn : ¬ n ≤ 1024) (hm : n ≤ maxLen) :
    Calls Ycym.prog 10 #[.slice a n cap, .int .u32 a1] w fun e w' => e = .returned (.bool true) ∧ Below w.heap.size w w' := by
  unfold maxLen at hm
  go_enter Ycym.func10, Ycym.ntmps10
  go_wp2
  go_ret
  exact ⟨rfl, Below.refl _ _⟩

set_option maxHeartbeats 1000000 in
theorem walk_none (a : Option Addr) (cap : Nat) (d : Nat → It) (a1 : Int) (w : World) (h : Sl w a 0 d) :
    Calls Ycym.prog 10 #[.slice a 0 cap, .int .u32 a1] w fun e w' => e = .returned (.bool true) ∧ Below w.heap.size w w' := by
  go_enter Ycym.func10, Ycym.ntmps10
  go_wp2_with fail
  refine (fromItems_any a 0 cap d _ h (by omega)).mono ?_
  rintro e w1 ⟨rfl, how1, hb1⟩
  have hbl1 := hb1
  have hbl2 := hbl1.alloc hbl1.size (.cells #[.slice (some ⟨w.heap.size + 1, 0, none⟩) 0 0] 24)
  have hH1 : Hp (w1.alloc (.cells #[.slice (some ⟨w.heap.size + 1, 0, none⟩) 0 0] 24)) w1.heap.size (w.heap.size + 1) 0 0 (mk 0 d) :=
    ⟨by go_simp, by go_simp, by simp, by have := how1.lt; omega, how1.alloc _, Nat.le_refl _, by omega⟩
  go_wp2_with fail
  refine (rem_out _ _ 0 0 0 _ _ hH1 (.inr (Int.le_refl _))).mono ?_
  rintro e w2 ⟨rfl, hb2⟩
  have hH2 := (hH1.below hb2 (Nat.le_refl _)).below ((Below.refl _ w2).alloc (Nat.le_refl _) (.cells #[.int .i64 0, .int .u32 0] 29)) (Nat.le_refl _)
  have hbl3 := (hbl2.trans (hb2.mono hbl2.size))
  have hbl4 := hbl3.alloc hbl3.size (.cells #[.int .i64 0, .int .u32 0] 29)
  have g0 := hH2.cell
  clear hH1 hbl3 hb2 how1
  go_wp2_with fail
  refine (gvalid_ok _ 0 0 (mk 0 d) _ (hH2.own.sl (Nat.le_refl _)) (by omega) (fun c h1 h2 => by omega)).mono ?_
  rintro e w3 ⟨rfl, hb3⟩
  go_wp2
  go_ret
  exact ⟨rfl, hbl4.trans (hb3.mono hbl4.size)⟩

set_option maxHeartbeats 1000000 in
theorem walk_main (a : Option Addr) (n cap : Nat) (d : Nat → It) (a1 : Int) (i : Nat) (w : World) (h : Sl w a n d) (hn : n ≤ 1024) (hn0 : 1 ≤ n) (h0 : 0 ≤ a1) (h1 : a1 ≤ 4294967295) (hs : a1 % (n : Int) = i) (hi : i < n) :
    Calls Ycym.prog 10 #[.slice a n cap, .int .u32 a1] w fun e w' => e = .returned (.bool true) ∧ Below w.heap.size w w' := by
  have hnz : ((n : Int) == 0) = false := by simp; omega
  go_enter Ycym.func10, Ycym.ntmps10
  go_wp2_with fail
  refine (fromItems_any a n cap d _ h (by omega)).mono ?_
  rintro e w1 ⟨rfl, how1, hb1⟩
  have hbl1 := hb1
  have hbl2 := hbl1.alloc hbl1.size (.cells #[.slice (some ⟨w.heap.size + 1, 0, none⟩) n n] 24)
  have hH1 : Hp (w1.alloc (.cells #[.slice (some ⟨w.heap.size + 1, 0, none⟩) n n] 24)) w1.heap.size (w.heap.size + 1) n n (mk n d) :=
    ⟨by go_simp, by go_simp, by simp, by have := how1.lt; omega, how1.alloc _, Nat.le_refl _, by omega⟩
  have HHF : Hid (HeapFrom n 0 (mk n d)) := mk_heap n d
  have HB : Hid (w.heap.size ≤ w1.heap.size) := hbl1.size
  clear how1
  go_wp2_with fail
  rw [hs]
  clear hs h0 h1
  refine (rem_in _ _ n n i _ _ hH1 hi).mono ?_
  rintro e w2 ⟨rfl, hH2, hf2⟩
  have hbl3 := hbl2.trans (hf2.to_below hbl2.size (fun t ht => by have := HB.out; omega))
  obtain ⟨x, hx⟩ : ∃ x, x = mk n d i := ⟨_, rfl⟩
  rw [← hx]
  have hH3 := hH2.below ((Below.refl _ w2).alloc (Nat.le_refl _) (.cells #[.int .i64 x.1, .int .u32 x.2] 29)) (Nat.le_refl _)
  have hbl4 := hbl3.alloc hbl3.size (.cells #[.int .i64 x.1, .int .u32 x.2] 29)
  have g0 := hH3.cell
  clear hH1 hbl3 hf2 hH2 hx
  go_wp2_with fail
  refine (gvalid_ok _ (n - 1) n (rmv n (mk n d) i) _ (hH3.own.sl (by omega)) (by omega) (rmv_heap hi HHF.out)).mono ?_
  rintro e w3 ⟨rfl, hb3⟩
  go_wp2
  go_ret
  exact ⟨rfl, hbl4.trans (hb3.mono hbl4.size)⟩

theorem walk (a : Option Addr) (n cap : Nat) (d : Nat → It) (a1 : Int) (w : World) (h : Sl w a n d) (hn : n ≤ maxLen) (w1 : (Lit.int .u32 a1).wf = true) :
    Calls Ycym.prog 10 #[.slice a n cap, .int .u32 a1] w fun e w' => e = .returned (.bool true) ∧ Below w.heap.size w w' := by
  have hb := bd_u32 w1
  by_cases hs : n ≤ 1024
  · by_cases hz : n = 0
    · subst hz
      exact walk_none a cap d a1 w h
    · have h2 : 0 ≤ a1 % (n : Int) := Int.emod_nonneg _ (by omega)
      have h3 : a1 % (n : Int) < (n : Int) := Int.emod_lt_of_pos _ (by omega)
      exact walk_main a n cap d a1 (a1 % (n : Int)).toNat w h hs (by omega) hb.1 hb.2 (by omega) (by omega)
  · exact walk_long a n cap a1 w hs hn
end Go.Proofs.Ymbrcy.lawS930008GValid
