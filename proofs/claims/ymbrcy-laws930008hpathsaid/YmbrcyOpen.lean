/- Opening the arguments of a law (seat Ymbrcy): a slice of items, an item by value. -/
import Derived.Test.YmbrcyBase
import Derived.ProofKit
import Derived.ShutString
import Derived.ChangeOld
import Derived.Deep.SlicePairs
import Derived.Lib.SmallJoins
namespace Go.Proofs.Ymbrcy
open Go.RowKit Go.ChangeShapes Go.WideShapes Go.ChangeAt Go.Deep Go.Joins

theorem own : ownKnob Ycym.prog.godebug = none := by kernel_rfl
theorem laidOut : laidOutB Ycym.prog = true := by kernel_rfl
theorem Ycym.cells29 : Ycym.prog.cellsOf 29 = 2 := by kernel_rfl

theorem open_items {H : Type} {enc : TypeId × Value → H} {W : World} {base : Nat} {spare : Nat → Bool} {held : Bool} {fuel : Nat} {a : Option Addr} {len cap : Nat} {x : DataW H × List MemPlace}
    (h : DataW.trod enc Ycym.prog W base spare held fuel 22 [.slice a len cap] = some x) : ∃ d, Sl W a len d ∧ len ≤ maxLen := by
  rcases open_slice_pairs Ycym.underlying22 Ycym.underlying29 Ycym.cells29 rfl rfl (by kernel_rfl) (by kernel_rfl) h with ⟨hcs, _⟩ | ⟨ad, l, c, m, n, V0, V1, D0, D1, P0, P1, hcs, _, hl, hm, hmm, _, hx⟩
  · simp only [List.cons.injEq, Value.slice.injEq, and_true] at hcs
    obtain ⟨rfl, rfl, rfl⟩ := hcs
    exact ⟨fun _ => (0, 0), ⟨0, 0, fun h => by omega, fun k hk => by omega⟩, Nat.zero_le _⟩
  · simp only [List.cons.injEq, Value.slice.injEq, and_true] at hcs
    obtain ⟨rfl, rfl, rfl⟩ := hcs
    have hlm : len ≤ m := by rw [hmm]; split <;> omega
    have each : ∀ i, i < len → ∃ q : It, W.cell? (ad.add (i * 2)) = some (.int .i64 q.1) ∧ W.cell? (ad.add (i * 2 + 1)) = some (.int .u32 q.2) := by
      intro i hi
      obtain ⟨h1, h2, h3, h4⟩ := hx i (by omega)
      obtain ⟨p, e1, _, _⟩ := DataW.trod_int Ycym.underlying2 h3
      obtain ⟨q, e2, _, _⟩ := DataW.trod_int Ycym.underlying27 h4
      simp only [List.cons.injEq, and_true] at e1 e2
      rw [e1] at h1
      rw [e2] at h2
      exact ⟨(p, q), h1, h2⟩
    obtain ⟨q, hq⟩ := choose_lt each
    refine ⟨q, ⟨ad.block, ad.off, fun h1 => ?_, fun k hk => ?_⟩, by omega⟩
    · have h0 := (hq 0 (by omega)).1
      rw [Nat.zero_mul] at h0
      obtain ⟨b, o, s⟩ := ad
      have hs : s = none := by simpa [Addr.add] using World.cell?_spot h0
      subst hs
      exact ⟨rfl, by simpa [Addr.add] using block_lt_of_cell h0⟩
    · have h0 := (hq 0 (by omega)).1
      rw [Nat.zero_mul] at h0
      obtain ⟨b, o, s⟩ := ad
      have hs : s = none := by simpa [Addr.add] using World.cell?_spot h0
      subst hs
      have := hq k hk
      rw [add_plain, add_plain] at this
      exact ⟨this.1, by rw [Nat.add_assoc]; exact this.2⟩

theorem open_item {H : Type} {enc : TypeId × Value → H} {W : World} {base b0 : Nat} {r : Reach} {spare : Nat → Bool} {held : Bool} {v : Value} {d : DataW H} {p : List MemPlace}
    (hv : Value.okWide Ycym.prog W r b0 29 v) (h : DataW.Trod enc Ycym.prog W base spare held 29 v d p) : ∃ q : It, v = .agg #[.int .i64 q.1, .int .u32 q.2] := by
  obtain ⟨c0, c1, y0, y1, m, rfl, rfl, rfl, hy0, hy1⟩ := open_agg2 Ycym.underlying29 (by kernel_rfl) Ycym.cells29 hv h
  obtain ⟨p, e1, _, _⟩ := DataW.trod_int Ycym.underlying2 hy0
  obtain ⟨q, e2, _, _⟩ := DataW.trod_int Ycym.underlying27 hy1
  simp only [List.cons.injEq, and_true] at e1 e2
  subst e1 e2
  exact ⟨(p, q), rfl⟩

end Go.Proofs.Ymbrcy
