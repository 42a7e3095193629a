/- Opening a slice of bytes (seat Ymbrcy). -/
import Derived.Test.YmbrcyBytes
import Derived.ProofKit
import Derived.ChangeOld
namespace Go.Proofs.Ymbrcy
open Go.RowKit Go.ChangeShapes Go.WideShapes Go.ChangeAt

theorem open_bytes {H : Type} {enc : TypeId × Value → H} {W : World} {base : Nat} {spare : Nat → Bool} {held : Bool} {fuel : Nat} {a : Option Addr} {len cap : Nat} {x : DataW H × List MemPlace}
    (h : DataW.trod enc Ycym.prog W base spare held fuel 35 [.slice a len cap] = some x) : ∃ z, SlB W a len z := by
  rcases open_ints Ycym.underlying35 Ycym.underlying5 (by kernel_rfl) h with ⟨hcs, _⟩ | ⟨ad, l, c, zs, hcs, _, hl, hm, hz, _, hcell, hwz⟩
  · simp only [List.cons.injEq, Value.slice.injEq, and_true] at hcs
    obtain ⟨rfl, rfl, rfl⟩ := hcs
    exact ⟨fun _ => 0, Nat.zero_le _, 0, 0, fun h => by omega, fun k hk => by omega⟩
  · simp only [List.cons.injEq, Value.slice.injEq, and_true] at hcs
    obtain ⟨rfl, rfl, rfl⟩ := hcs
    have hlz : len ≤ zs.length := by rw [hz]; split <;> omega
    refine ⟨fun k => zs.getD k 0, by omega, ad.block, ad.off, fun h1 => ?_, fun k hk => ?_⟩
    · have h0 := hcell 0 (by omega)
      obtain ⟨b, o, s⟩ := ad
      have hs : s = none := by simpa [Addr.add] using World.cell?_spot h0
      subst hs
      exact ⟨rfl, by simpa [Addr.add] using block_lt_of_cell h0⟩
    · have h0 := hcell 0 (by omega)
      obtain ⟨b, o, s⟩ := ad
      have hs : s = none := by simpa [Addr.add] using World.cell?_spot h0
      subst hs
      have h1 := hcell k (by omega)
      rw [add_plain] at h1
      refine ⟨h1, bd_u8 (hwz _ ?_)⟩
      show zs.getD k 0 ∈ zs
      rw [List.getD_eq_getElem?_getD, List.getElem?_eq_getElem (by omega : k < zs.length)]
      exact List.getElem_mem _
end Go.Proofs.Ymbrcy
