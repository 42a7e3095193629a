/- (*Heap).Fix (seat Ymbrcy): the walk. -/
import Derived.Test.YmbrcyUp
import Derived.Test.YmbrcyDown
namespace Go.Proofs.Ymbrcy
open Go.RowKit Go.Sort

/-- a Heap in memory: at hp lies its one field, a slice of n items, which begins at the head of a block of ours -/
structure Hp (w : World) (hp b n m : Nat) (d : Nat → It) : Prop where
  cell : w.cell? ⟨hp, 0, none⟩ = some (.slice (some ⟨b, 0, none⟩) n m)
  fz : w.frozen? ⟨hp, 0, none⟩ = false
  lt : hp < w.heap.size
  ne : hp ≠ b
  own : Own w b m d
  le : n ≤ m
  bd : m ≤ 17592186044416
theorem Hp.fr {S : Nat → Prop} {w w' : World} {hp b n m : Nat} {d e : Nat → It} (h : Hp w hp b n m d) (hf : Fr S w w') (hS : ¬ S hp) (ho : Own w' b m e) : Hp w' hp b n m e :=
  ⟨(hf.cell (p := ⟨hp, 0, none⟩) h.lt hS).trans h.cell, (hf.frozen (p := ⟨hp, 0, none⟩) h.lt hS).trans h.fz, Nat.lt_of_lt_of_le h.lt hf.size, h.ne, ho, h.le, h.bd⟩
theorem Hp.below {B : Nat} {w w' : World} {hp b n m : Nat} {d : Nat → It} (h : Hp w hp b n m d) (hb : Below B w w') (hB : w.heap.size ≤ B) : Hp w' hp b n m d :=
  h.fr (S := fun _ => False) (Fr.of_below hb hB) (fun h => h) (h.own.below hb (Nat.lt_of_lt_of_le h.own.lt hB))

set_option maxHeartbeats 1000000 in
theorem fix_in (hp b n m i : Nat) (d : Nat → It) (w : World) (h : Hp w hp b n m d) (hi : i < n) :
    Calls Ycym.prog 27 #[.pointer (some ⟨hp, 0, none⟩), .int .i64 i] w fun e w' => e = .returned (.tuple #[.int .i64 (fx n d i).2, .bool true]) ∧ Own w' b m (fx n d i).1 ∧ Fr (· = b) w w' := by
  obtain ⟨hc, hz, hlt, hne, how, hle, hbd⟩ := h
  have hni : ¬ (n : Int) ≤ (i : Int) := by omega
  go_enter Ycym.func27, Ycym.ntmps27
  go_wp2_with fail
  refine (siftUp_any b m n m i d _ how hle hi hbd).mono ?_
  rintro e w1 ⟨rfl, how1, hf1⟩
  have hc1 := (hf1.cell (p := ⟨hp, 0, none⟩) hlt hne).trans hc
  obtain ⟨j, hj⟩ : ∃ j, j = (su n d i).2 := ⟨_, rfl⟩
  rw [← hj]
  have HJ : Hid (j = (su n d i).2) := hj
  clear hj
  by_cases hji : j < i
  · have E : fx n d i = su n d i := by unfold fx; rw [if_pos (by rw [← HJ.out]; exact hji)]
    go_wp2
    go_ret2
    rw [E]
    exact ⟨by rw [← HJ.out]; rfl, how1, hf1⟩
  · have E : fx n d i = sd n n (su n d i).1 i := by unfold fx; rw [if_neg (by rw [← HJ.out]; exact hji)]
    have HE : Hid (fx n d i = sd n n (su n d i).1 i) := E
    clear E
    go_wp2_with fail
    refine (siftDown_any b m n m i _ _ how1 hle (.inl hi) hbd).mono ?_
    rintro e w2 ⟨rfl, how2, hf2⟩
    go_wp2
    go_ret2
    rw [HE.out]
    exact ⟨rfl, how2, hf1.trans hf2⟩

set_option maxHeartbeats 1000000 in
theorem fix_out (hp b n m : Nat) (i : Int) (d : Nat → It) (w : World) (h : Hp w hp b n m d) (hi : i < 0 ∨ (n : Int) ≤ i) :
    Calls Ycym.prog 27 #[.pointer (some ⟨hp, 0, none⟩), .int .i64 i] w fun e w' => e = .returned (.tuple #[.int .i64 0, .bool false]) ∧ w = w' := by
  obtain ⟨hc, hz, hlt, hne, how, hle, hbd⟩ := h
  by_cases h0 : i < 0
  · go_enter Ycym.func27, Ycym.ntmps27
    go_wp2
    go_ret2
    exact ⟨rfl, rfl⟩
  · have h1 : (n : Int) ≤ i := by omega
    clear hi
    go_enter Ycym.func27, Ycym.ntmps27
    go_wp2
    go_ret2
    exact ⟨rfl, rfl⟩
end Go.Proofs.Ymbrcy
