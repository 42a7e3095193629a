/- (*Heap).RemoveAt (seat Ymbrcy): the walk. -/
import Derived.Test.YmbrcyFix
import Derived.Test.YmbrcyPlain2
namespace Go.Proofs.Ymbrcy
open Go.RowKit Go.Sort

set_option maxHeartbeats 2000000 in
theorem rem_in (hp b n m i : Nat) (d : Nat → It) (w : World) (h : Hp w hp b n m d) (hi : i < n) :
    Calls Ycym.prog 23 #[.pointer (some ⟨hp, 0, none⟩), .int .i64 i] w fun e w' => e = .returned (.tuple #[.agg #[.int .i64 (d i).1, .int .u32 (d i).2], .bool true]) ∧ Hp w' hp b (n - 1) m (rmv n d i) ∧ Fr (fun k => k = b ∨ k = hp) w w' := by
  obtain ⟨hc, hz, hlt, hne, how, hle, hbd⟩ := h
  have hni : ¬ (n : Int) ≤ (i : Int) := by omega
  obtain ⟨x, hx⟩ : ∃ x, x = d i := ⟨_, rfl⟩
  obtain ⟨l, hl⟩ : ∃ l, n = l + 1 := ⟨n - 1, by omega⟩
  obtain ⟨y, hy⟩ : ∃ y, y = d l := ⟨_, rfl⟩
  subst hl
  have c0 := how.c0 (k := i) (by omega)
  have c1 := how.c1 (k := i) (by omega)
  have c2 := how.c0 (k := l) (by omega)
  have c3 := how.c1 (k := l) (by omega)
  have kf := how.fz
  have hbz := how.lt
  rw [← hx] at c0 c1
  rw [← hy] at c2 c3
  have HX : Hid (x = d i) := hx
  have HY : Hid (y = d l) := hy
  rw [← hx]
  clear hx hy
  go_enter Ycym.func23, Ycym.ntmps23
  go_wp2
  go_region
  have hS0 : Fr (fun k => k = b ∨ k = hp) w (((w.setCell ⟨b, i * 2, none⟩ (.int .i64 y.1)).setCell ⟨b, i * 2 + 1, none⟩ (.int .u32 y.2)).setCell ⟨hp, 0, none⟩ (.slice (some ⟨b, 0, none⟩) l m)) :=
    (((Fr.refl _ _).setCell (.inl rfl) _).setCell (.inl rfl) _).setCell (.inr rfl) _
  have hO0 : Own (((w.setCell ⟨b, i * 2, none⟩ (.int .i64 y.1)).setCell ⟨b, i * 2 + 1, none⟩ (.int .u32 y.2)).setCell ⟨hp, 0, none⟩ (.slice (some ⟨b, 0, none⟩) l m)) b m (upd d i y) :=
    (how.set i y).setOther (fun e => hne e.symm) _
  have hC0 : (((w.setCell ⟨b, i * 2, none⟩ (.int .i64 y.1)).setCell ⟨b, i * 2 + 1, none⟩ (.int .u32 y.2)).setCell ⟨hp, 0, none⟩ (.slice (some ⟨b, 0, none⟩) l m)).cell? ⟨hp, 0, none⟩ = some (.slice (some ⟨b, 0, none⟩) l m) := by go_simp
  have hF0 : (((w.setCell ⟨b, i * 2, none⟩ (.int .i64 y.1)).setCell ⟨b, i * 2 + 1, none⟩ (.int .u32 y.2)).setCell ⟨hp, 0, none⟩ (.slice (some ⟨b, 0, none⟩) l m)).frozen? ⟨hp, 0, none⟩ = false := by go_simp
  have hZ0 : (((w.setCell ⟨b, i * 2, none⟩ (.int .i64 y.1)).setCell ⟨b, i * 2 + 1, none⟩ (.int .u32 y.2)).setCell ⟨hp, 0, none⟩ (.slice (some ⟨b, 0, none⟩) l m)).heap.size = w.heap.size := by simp [World.setCell]
  by_cases hil : i < l
  · go_wp2_with fail
    generalize (((w.setCell ⟨b, i * 2, none⟩ (.int .i64 y.1)).setCell ⟨b, i * 2 + 1, none⟩ (.int .u32 y.2)).setCell ⟨hp, 0, none⟩ (.slice (some ⟨b, 0, none⟩) l m)) = W at *
    have hH : Hp ((W.alloc (.cells #[.int .i64 0, .int .u32 0] 29)).alloc (.cells #[.int .i64 x.1, .int .u32 x.2] 29)).drew hp b l m (upd d i y) := by
      have hp2 : hp < W.heap.size := by omega
      have hf : Fr (fun _ => False) W ((W.alloc (.cells #[.int .i64 0, .int .u32 0] 29)).alloc (.cells #[.int .i64 x.1, .int .u32 x.2] 29)).drew := (((Fr.refl _ _).alloc _).alloc _).drew
      exact Hp.fr (S := fun _ => False) (d := upd d i y) ⟨hC0, hF0, hp2, hne, hO0, by omega, hbd⟩ hf (fun h => h) ((hO0.alloc _).alloc _).drew
    have hS1 : Fr (fun k => k = b ∨ k = hp) w ((W.alloc (.cells #[.int .i64 0, .int .u32 0] 29)).alloc (.cells #[.int .i64 x.1, .int .u32 x.2] 29)).drew := ((hS0.alloc _).alloc _).drew
    refine (fix_in hp b l m i (upd d i y) _ hH hil).mono ?_
    rintro e w2 ⟨rfl, how2, hf2⟩
    have q0 : w2.cell? ⟨w.heap.size, 0, none⟩ = some (.int .i64 0) := (hf2.cell (p := ⟨w.heap.size, 0, none⟩) (by simp [hZ0]; omega) (by show ¬ w.heap.size = b; omega)).trans (by go_simp)
    have q1 : w2.cell? ⟨w.heap.size, 1, none⟩ = some (.int .u32 0) := (hf2.cell (p := ⟨w.heap.size, 1, none⟩) (by simp [hZ0]; omega) (by show ¬ w.heap.size = b; omega)).trans (by go_simp)
    have q2 : w2.frozen? ⟨w.heap.size, 0, none⟩ = false := (hf2.frozen (p := ⟨w.heap.size, 0, none⟩) (by simp [hZ0]; omega) (by show ¬ w.heap.size = b; omega)).trans (by go_simp)
    have q3 : w2.frozen? ⟨w.heap.size, 1, none⟩ = false := (hf2.frozen (p := ⟨w.heap.size, 1, none⟩) (by simp [hZ0]; omega) (by show ¬ w.heap.size = b; omega)).trans (by go_simp)
    have r0 : w2.cell? ⟨w.heap.size + 1, 0, none⟩ = some (.int .i64 x.1) := (hf2.cell (p := ⟨w.heap.size + 1, 0, none⟩) (by simp [hZ0]) (by show ¬ w.heap.size + 1 = b; omega)).trans (by go_simp)
    have r1 : w2.cell? ⟨w.heap.size + 1, 1, none⟩ = some (.int .u32 x.2) := (hf2.cell (p := ⟨w.heap.size + 1, 1, none⟩) (by simp [hZ0]) (by show ¬ w.heap.size + 1 = b; omega)).trans (by go_simp)
    have hz2 : w.heap.size < w2.heap.size := by have := hf2.size; simp [hZ0] at this; omega
    have hH2 := hH.fr hf2 hne how2
    have hS2 := hS1.trans (hf2.mono fun k _ hk => Or.inl hk)
    clear hH hS1 hS0 hO0 hC0 hF0 how2 hf2 how c0 c1 c2 c3 kf hc hz
    go_wp2
    refine bodyPost_ret (v := .tuple #[.agg #[.int .i64 x.1, .int .u32 x.2], .bool true]) (by simp [results, Ycym.results23, go_sem, q0, q1]) rfl ⟨rfl, ?_, ?_⟩
    · have e1 : rmv (l + 1) d i = (fx l (upd d i y) i).1 := by unfold rmv; rw [Nat.add_sub_cancel, if_pos hil, ← HY.out]
      rw [e1, Nat.add_sub_cancel]
      have hf3 : Fr (fun k => k = w.heap.size) w2 ((w2.setCell ⟨w.heap.size, 0, none⟩ (.int .i64 x.1)).setCell ⟨w.heap.size, 1, none⟩ (.int .u32 x.2)) := ((Fr.refl (fun k => k = w.heap.size) w2).setCell (p := ⟨w.heap.size, 0, none⟩) rfl _).setCell (p := ⟨w.heap.size, 1, none⟩) rfl _
      exact hH2.fr hf3 (by show ¬ hp = w.heap.size; omega) (hf3.own hH2.own (by show ¬ b = w.heap.size; omega))
    · have hf3 : Fr (fun k => k = w.heap.size ∨ k = b ∨ k = hp) w ((w2.setCell ⟨w.heap.size, 0, none⟩ (.int .i64 x.1)).setCell ⟨w.heap.size, 1, none⟩ (.int .u32 x.2)) := ((hS2.mono (T := fun k => k = w.heap.size ∨ k = b ∨ k = hp) fun k _ hk => Or.inr hk).setCell (p := ⟨w.heap.size, 0, none⟩) (.inl rfl) _).setCell (p := ⟨w.heap.size, 1, none⟩) (.inl rfl) _
      exact hf3.mono fun k hk h => by
        rcases h with h | h
        · omega
        · exact h
  · go_wp2
    have hil2 : i = l := by omega
    generalize (((w.setCell ⟨b, i * 2, none⟩ (.int .i64 y.1)).setCell ⟨b, i * 2 + 1, none⟩ (.int .u32 y.2)).setCell ⟨hp, 0, none⟩ (.slice (some ⟨b, 0, none⟩) l m)) = W at *
    refine bodyPost_ret (v := .tuple #[.agg #[.int .i64 x.1, .int .u32 x.2], .bool true]) (by simp [results, Ycym.results23, go_sem, hZ0]) rfl ⟨rfl, ?_, ?_⟩
    · have e1 : rmv (l + 1) d i = upd d i y := by unfold rmv; rw [Nat.add_sub_cancel, if_neg hil, ← HY.out]
      rw [e1, Nat.add_sub_cancel]
      have hp2 : hp < W.heap.size := by omega
      have hf : Fr (fun _ => False) W ((W.alloc (.cells #[.int .i64 x.1, .int .u32 x.2] 29)).alloc (.cells #[.int .i64 x.1, .int .u32 x.2] 29)).drew := (((Fr.refl _ _).alloc _).alloc _).drew
      exact Hp.fr (S := fun _ => False) (d := upd d i y) ⟨hC0, hF0, hp2, hne, hO0, by omega, hbd⟩ hf (fun h => h) ((hO0.alloc _).alloc _).drew
    · exact ((hS0.alloc _).alloc _).drew

set_option maxHeartbeats 1000000 in
theorem rem_out (hp b n m : Nat) (i : Int) (d : Nat → It) (w : World) (h : Hp w hp b n m d) (hi : i < 0 ∨ (n : Int) ≤ i) :
    Calls Ycym.prog 23 #[.pointer (some ⟨hp, 0, none⟩), .int .i64 i] w fun e w' => e = .returned (.tuple #[.agg #[.int .i64 0, .int .u32 0], .bool false]) ∧ Below w.heap.size w w' := by
  obtain ⟨hc, hz, hlt, hne, how, hle, hbd⟩ := h
  by_cases h0 : i < 0
  · go_enter Ycym.func23, Ycym.ntmps23
    go_wp2
    exact bodyPost_ret (v := .tuple #[.agg #[.int .i64 0, .int .u32 0], .bool false]) (by simp [results, Ycym.results23, go_sem]) rfl ⟨rfl, (Below.refl _ _).alloc (Nat.le_refl _) _⟩
  · have h1 : (n : Int) ≤ i := by omega
    clear hi
    go_enter Ycym.func23, Ycym.ntmps23
    go_wp2
    exact bodyPost_ret (v := .tuple #[.agg #[.int .i64 0, .int .u32 0], .bool false]) (by simp [results, Ycym.results23, go_sem]) rfl ⟨rfl, (Below.refl _ _).alloc (Nat.le_refl _) _⟩
end Go.Proofs.Ymbrcy
