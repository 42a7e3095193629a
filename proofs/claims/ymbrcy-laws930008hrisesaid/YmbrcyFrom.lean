/- FromItems (seat Ymbrcy): the walk. -/
import Derived.Test.YmbrcyCopy
import Derived.Test.YmbrcyDown
namespace Go.Proofs.Ymbrcy
open Go.RowKit Go.Sort

set_option maxHeartbeats 1000000 in
theorem fromItems_any (a : Option Addr) (n cap : Nat) (d : Nat → It) (w : World) (h : Sl w a n d) (hn : n ≤ 17592186044416) :
    Calls Ycym.prog 15 #[.slice a n cap] w fun e w' => e = .returned (.agg #[.slice (some ⟨w.heap.size + 1, 0, none⟩) n n]) ∧ Own w' (w.heap.size + 1) n (mk n d) ∧ Below w.heap.size w w' := by
  have hmk := run_mk n hn
  have how := own_made (w.alloc (.cells #[.slice none 0 0] 24)) n
  have hb0 : Below w.heap.size w ((w.alloc (.cells #[.slice none 0 0] 24)).alloc (.cells (madeCells #[.int .i64 0, .int .u32 0] (n * 2)) 29)) := ((Below.refl _ _).alloc (Nat.le_refl _) _).alloc (by simp) _
  have hs := h.below hb0 (Nat.le_refl _)
  simp only [World.size_alloc] at how
  obtain ⟨b, hb⟩ : ∃ b, b = w.heap.size + 1 := ⟨_, rfl⟩
  rw [← hb] at how
  go_enter Ycym.func15, Ycym.ntmps15
  go_wp2_with (refine wpList_cp rfl _ _ rfl (w.heap.size + 1) n n cap a d (fun _ => (0, 0)) rfl rfl (hb ▸ how) hs ?_; intro w1 how1 hf1)
  have hbl1 := hb0.trans (hf1.to_below hb0.size (fun k hk => by omega))
  have q0 : w1.cell? ⟨w.heap.size, 0, none⟩ = some (.slice none 0 0) := (hf1.cell (p := ⟨w.heap.size, 0, none⟩) (by simp; omega) (by simp)).trans (by go_simp)
  have q1 : w1.frozen? ⟨w.heap.size, 0, none⟩ = false := (hf1.frozen (p := ⟨w.heap.size, 0, none⟩) (by simp; omega) (by simp)).trans (by go_simp)
  have q2 : w.heap.size < w1.heap.size := by have := hf1.size; simp at this; omega
  have hbw : w.heap.size < b := by omega
  rw [← hb] at how1 ⊢
  have HB : Hid (b = w.heap.size + 1) := hb
  clear hb hb0 how hf1 hmk hs
  go_loopw [4] (fun u wr => ∃ (kk : Nat) (e : Nat → It), kk ≤ n / 2 ∧ u = .int .i64 ((kk : Int) - 1) ∧ Own wr b n e ∧ Below w.heap.size w wr ∧ wr.cell? ⟨w.heap.size, 0, none⟩ = some (.slice none 0 0) ∧ wr.frozen? ⟨w.heap.size, 0, none⟩ = false ∧ w.heap.size < wr.heap.size ∧ Hid (Go.Proofs.Ymbrcy.hb n kk e = mk n d)) (fun u _ => (intOf u + 1).toNat)
  case atStart => exact ⟨n / 2, d, Nat.le_refl _, by go_num, how1, hbl1, q0, q1, q2, rfl⟩
  case round =>
    clear how1 hbl1 q0 q1 q2
    obtain ⟨kk, e, hk, rfl, how, hbl, q0, q1, q2, HM⟩ := hrel
    cases kk with
    | succ k =>
      have ek : (((k + 1 : Nat) : Int) - 1) = (k : Int) := by omega
      rw [ek]
      clear ek
      go_wp2_with fail
      refine (siftDown_any b n n n k e _ how (Nat.le_refl _) (.inl (by omega)) hn).mono ?_
      rintro e1 w2 ⟨rfl, how2, hfr2⟩
      have hbl2 := hbl.trans (hfr2.to_below hbl.size (fun x hx => by omega))
      have p0 := (hfr2.cell (p := ⟨w.heap.size, 0, none⟩) q2 (by show ¬ w.heap.size = b; omega)).trans q0
      have p1 := (hfr2.frozen (p := ⟨w.heap.size, 0, none⟩) q2 (by show ¬ w.heap.size = b; omega)).trans q1
      have p2 := Nat.lt_of_lt_of_le q2 hfr2.size
      go_wp2
      go_roundw
      case rel => exact ⟨k, _, by omega, rfl, how2, hbl2, p0, p1, p2, HM.out⟩
      case measure => simp [intOf]
    | zero =>
      have e0 : e = mk n d := HM.out
      subst e0
      have how2 := how.setOther (a := ⟨w.heap.size, 0, none⟩) (by show b ≠ w.heap.size; omega) (.slice (some ⟨b, 0, none⟩) n n)
      have hbl2 := hbl.setCell (p := ⟨w.heap.size, 0, none⟩) (Nat.le_refl _) (.slice (some ⟨b, 0, none⟩) n n)
      rw [(by omega : (((0 : Nat) : Int) - 1) = -1)]
      go_wp2
      refine bodyPost_ret (v := .agg #[.slice (some ⟨b, 0, none⟩) n n]) (by simp [results, Ycym.results15, go_sem, q0]) rfl ?_
      refine ⟨?_, ?_, ?_⟩
      · rw [HB.out]
      · rw [← HB.out]; exact how2
      · exact hbl2
end Go.Proofs.Ymbrcy
