/- The walk of LawS930008IExact (seat Ymbrcz): the Go text returns true, and writes nothing that was there. -/
import Derived.Test.YmbrczBase
import Derived.Test.YmbrczIdx
namespace Go.Proofs.Ymbrcz.lawS930008IExact
open Go.RowKit Go.Sort
set_option linter.unusedVariables false

theorem fst_hit {d : Nat → It} {k n : Nat} {id : Int} {r : Nat} {ok : Bool} (h : Fst d (k + 1) n id r ok) (hk : k < n) (he : (d k).2 = id) : Fst d k n id k true :=
  .inl ⟨rfl, Nat.le_refl _, hk, he, fun j a b => by omega⟩
theorem fst_miss {d : Nat → It} {k n : Nat} {id : Int} {r : Nat} {ok : Bool} (h : Fst d (k + 1) n id r ok) (he : (d k).2 ≠ id) : Fst d k n id r ok := by
  rcases h with ⟨h0, h1, h2, h3, h4⟩ | ⟨h0, h1, h2⟩
  · refine .inl ⟨h0, by omega, h2, h3, fun j a b => ?_⟩
    by_cases e : j = k
    · subst e; exact he
    · exact h4 j (by omega) b
  · refine .inr ⟨h0, h1, fun j a b => ?_⟩
    by_cases e : j = k
    · subst e; exact he
    · exact h2 j (by omega) b

set_option maxHeartbeats 1000000 in
theorem walk (a : Option Addr) (n cap : Nat) (d : Nat → It) (id : Int) (w : World) (h : Sl w a n d) (hn : n ≤ maxLen) (w1 : (Lit.int .u32 id).wf = true) :
    Calls Yczm.prog 3 #[.slice a n cap, .int .u32 id] w fun e w' => e = .returned (.bool true) ∧ Below w.heap.size w w' := by
  clear w1
  have HN : Hid (n ≤ maxLen) := hn
  unfold maxLen at hn
  go_enter Yczm.func3, Yczm.ntmps3
  go_wp2
  go_loop [5, 6, 7] (fun p q u => ∃ (kk r : Nat) (ok : Bool), kk ≤ n ∧ p = .int .i64 r ∧ q = .bool ok ∧ u = .int .i64 ((kk : Int) - 1) ∧ Hid (Fst d kk n id r ok)) (fun _ _ u => (intOf u + 1).toNat)
  case atStart => exact ⟨n, 0, false, Nat.le_refl _, rfl, rfl, rfl, .inr ⟨rfl, rfl, fun j a b => by omega⟩⟩
  case round =>
    obtain ⟨kk, r, ok, hk, rfl, rfl, rfl, HF⟩ := hrel
    cases kk with
    | succ k =>
      have ek : (((k + 1 : Nat) : Int) - 1) = (k : Int) := by omega
      rw [ek]
      clear ek
      obtain ⟨b, off, ha, hcc⟩ := h
      obtain ⟨rfl, hbw⟩ := ha (by omega)
      have c1 := (hcc k (by omega)).2
      clear hcc ha
      by_cases he : (d k).2 = id
      · have hb : ((d k).2 == id) = true := by simp [he]
        have HE : Hid (Fst d k n id k true) := fst_hit HF.out (by omega) he
        clear he HF
        go_wp2
        go_round
        case rel => exact ⟨k, k, true, by omega, rfl, rfl, rfl, HE⟩
        case measure => simp [intOf]
      · have hb : ((d k).2 == id) = false := by simp [he]
        have HE : Hid (Fst d k n id r ok) := fst_miss HF.out he
        clear he HF
        go_wp2
        go_round
        case rel => exact ⟨k, r, ok, by omega, rfl, rfl, rfl, HE⟩
        case measure => simp [intOf]
    | zero =>
      rw [(by omega : (((0 : Nat) : Int) - 1) = -1)]
      have hb0 : Below w.heap.size w (w.alloc (.cells #[.slice a n cap] 27)) := (Below.refl _ _).alloc (Nat.le_refl _) _
      have hs := h.below hb0 (Nat.le_refl _)
      go_wp2_with fail
      refine (indexOf_any w.heap.size a n cap d id _ (by go_simp) hs HN.out).mono ?_
      rintro e w1 ⟨rfl, hw⟩
      subst hw
      rw [ix_eq HF.out]
      clear HF
      go_wp2
      go_ret
      exact ⟨rfl, hb0⟩
end Go.Proofs.Ymbrcz.lawS930008IExact
