/- A slice of bytes that is read (seat Ymbrcy). -/
import Derived.Test.YmbrcyBase
namespace Go.Proofs.Ymbrcy
open Go.RowKit Go.Sort

def SlB (w : World) (a : Option Addr) (n : Nat) (z : Nat → Int) : Prop :=
  n ≤ maxLen ∧ ∃ b off, (1 ≤ n → a = some ⟨b, off, none⟩ ∧ b < w.heap.size) ∧ ∀ k, k < n → w.cell? ⟨b, off + k, none⟩ = some (.int .u8 (z k)) ∧ 0 ≤ z k ∧ z k ≤ 255
theorem SlB.below {B : Nat} {w w' : World} {a : Option Addr} {n : Nat} {z : Nat → Int} (h : SlB w a n z) (hb : Below B w w') (hB : w.heap.size ≤ B) : SlB w' a n z := by
  obtain ⟨hm, b, off, h1, h2⟩ := h
  refine ⟨hm, b, off, fun hn => ⟨(h1 hn).1, Nat.lt_of_lt_of_le (h1 hn).2 hb.size⟩, fun k hk => ?_⟩
  have hlt : b < B := Nat.lt_of_lt_of_le (h1 (by omega)).2 hB
  exact ⟨(hb.cell hlt).trans (h2 k hk).1, (h2 k hk).2⟩
end Go.Proofs.Ymbrcy
