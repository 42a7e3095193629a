/- (*Heap).Pop and Sorted (seat Ymbrcx): the walks. -/
import Derived.Test.YmbrcxFrom
import Derived.Test.YmbrcxRem
import Derived.Test.YmbrcxSrt
namespace Go.Proofs.Ymbrcx
open Go.RowKit Go.Sort

set_option maxHeartbeats 1000000 in
theorem pop_in (hp b n m : Nat) (d : Nat → It) (w : World) (h : Hp w hp b n m d) (hi : 0 < n) :
    Calls Ycxm.prog 29 #[.pointer (some ⟨hp, 0, none⟩)] w fun e w' => e = .returned (.tuple #[.agg #[.int .i64 (d 0).1, .int .u32 (d 0).2], .bool true]) ∧ Hp w' hp b (n - 1) m (rmv n d 0) ∧ Fr (fun k => k = b ∨ k = hp) w w' := by
  have hb0 : Below w.heap.size w (w.alloc (.cells #[.int .i64 0, .int .u32 0] 25)) := (Below.refl _ _).alloc (Nat.le_refl _) _
  have h1 := h.below hb0 (Nat.le_refl _)
  have hlt := h.lt
  have hbl := h.own.lt
  go_enter Ycxm.func29, Ycxm.ntmps29
  go_wp2_with fail
  refine (rem_in hp b n m 0 d _ h1 hi).mono ?_
  rintro e w1 ⟨rfl, hH, hf⟩
  have q0 : w1.cell? ⟨w.heap.size, 0, none⟩ = some (.int .i64 0) := (hf.cell (p := ⟨w.heap.size, 0, none⟩) (by simp) (by show ¬ (w.heap.size = b ∨ w.heap.size = hp); omega)).trans (by go_simp)
  have q1 : w1.cell? ⟨w.heap.size, 1, none⟩ = some (.int .u32 0) := (hf.cell (p := ⟨w.heap.size, 1, none⟩) (by simp) (by show ¬ (w.heap.size = b ∨ w.heap.size = hp); omega)).trans (by go_simp)
  have q2 : w1.frozen? ⟨w.heap.size, 0, none⟩ = false := (hf.frozen (p := ⟨w.heap.size, 0, none⟩) (by simp) (by show ¬ (w.heap.size = b ∨ w.heap.size = hp); omega)).trans (by go_simp)
  have q3 : w1.frozen? ⟨w.heap.size, 1, none⟩ = false := (hf.frozen (p := ⟨w.heap.size, 1, none⟩) (by simp) (by show ¬ (w.heap.size = b ∨ w.heap.size = hp); omega)).trans (by go_simp)
  obtain ⟨x, hx⟩ : ∃ x, x = d 0 := ⟨_, rfl⟩
  rw [← hx]
  have HX : Hid (x = d 0) := hx
  clear hx
  go_wp2
  refine bodyPost_ret (v := .tuple #[.agg #[.int .i64 x.1, .int .u32 x.2], .bool true]) (by simp [results, Ycxm.results29, go_sem, q0, q1]) rfl ⟨by rw [HX.out], ?_, ?_⟩
  · have hf3 : Fr (fun k => k = w.heap.size) w1 ((w1.setCell ⟨w.heap.size, 0, none⟩ (.int .i64 x.1)).setCell ⟨w.heap.size, 1, none⟩ (.int .u32 x.2)) := ((Fr.refl (fun k => k = w.heap.size) w1).setCell (p := ⟨w.heap.size, 0, none⟩) rfl _).setCell (p := ⟨w.heap.size, 1, none⟩) rfl _
    exact hH.fr hf3 (by show ¬ hp = w.heap.size; omega) (hf3.own hH.own (by show ¬ b = w.heap.size; omega))
  · have hf2 : Fr (fun k => k = w.heap.size ∨ k = b ∨ k = hp) w w1 := (Fr.of_below hb0 (Nat.le_refl _)).trans (hf.mono fun k _ hk => Or.inr hk)
    have hf3 : Fr (fun k => k = w.heap.size ∨ k = b ∨ k = hp) w ((w1.setCell ⟨w.heap.size, 0, none⟩ (.int .i64 x.1)).setCell ⟨w.heap.size, 1, none⟩ (.int .u32 x.2)) := (hf2.setCell (p := ⟨w.heap.size, 0, none⟩) (.inl rfl) _).setCell (p := ⟨w.heap.size, 1, none⟩) (.inl rfl) _
    exact hf3.mono fun k hk h => by
      rcases h with h | h
      · omega
      · exact h

set_option maxHeartbeats 2000000 in
theorem sorted_any (a : Option Addr) (n cap : Nat) (d : Nat → It) (w : World) (h : Sl w a n d) (hn : n ≤ 1024) :
    Calls Ycxm.prog 17 #[.slice a n cap] w fun e w' => ∃ b o, e = .returned (.slice (some ⟨b, 0, none⟩) n n) ∧ w.heap.size ≤ b ∧ Own w' b n o ∧ Srt n o ∧ Same n o d ∧ Below w.heap.size w w' := by
  have hmk := run_mk n (by omega)
  have HMK : Hid (∀ w, (Instr.makeSlice 29 (.int .i64 (n : Int)) (.int .i64 (n : Int))).run Ycxm.prog w = .ok (.slice (some ⟨w.heap.size, 0, none⟩) n n) (w.alloc (.cells (madeCells #[.int .i64 0, .int .u32 0] (n * 2)) 25))) := hmk
  clear hmk
  go_enter Ycxm.func17, Ycxm.ntmps17
  go_wp2_with fail
  refine (fromItems_any a n cap d _ h (by omega)).mono ?_
  rintro e w1 ⟨rfl, how1, hb1⟩
  have hbz := how1.lt
  obtain ⟨b, hb⟩ : ∃ b, b = w.heap.size + 1 := ⟨_, rfl⟩
  rw [← hb] at how1 hbz ⊢
  have HB : Hid (w.heap.size < b) := by rw [hb]; exact Nat.lt_succ_self _
  clear hb
  have hmk := HMK.out
  go_wp2
  have hf1 : Fr (fun _ => False) w1 ((w1.alloc (.cells #[.slice (some ⟨b, 0, none⟩) n n] 44)).alloc (.cells (madeCells #[.int .i64 0, .int .u32 0] (n * 2)) 25)) := ((Fr.refl _ _).alloc _).alloc _
  have hH1 : Hp ((w1.alloc (.cells #[.slice (some ⟨b, 0, none⟩) n n] 44)).alloc (.cells (madeCells #[.int .i64 0, .int .u32 0] (n * 2)) 25)) w1.heap.size b n n (mk n d) :=
    ⟨by go_simp, by go_simp, by simp; omega, by omega, hf1.own how1 (fun h => h), Nat.le_refl _, by omega⟩
  have hO1 : Own ((w1.alloc (.cells #[.slice (some ⟨b, 0, none⟩) n n] 44)).alloc (.cells (madeCells #[.int .i64 0, .int .u32 0] (n * 2)) 25)) (w1.heap.size + 1) n (fun _ => (0, 0)) := by
    have := own_made (w1.alloc (.cells #[.slice (some ⟨b, 0, none⟩) n n] 44)) n
    simp only [World.size_alloc] at this
    exact this
  have hbl1 := (hb1.alloc hb1.size (.cells #[.slice (some ⟨b, 0, none⟩) n n] 44)).alloc (by simp; have := hb1.size; omega) (.cells (madeCells #[.int .i64 0, .int .u32 0] (n * 2)) 25)
  obtain ⟨hp, hhp⟩ : ∃ hp, hp = w1.heap.size := ⟨_, rfl⟩
  have hbp : b < hp := by omega
  rw [← hhp] at hH1 hO1 ⊢
  obtain ⟨b2, hb2⟩ : ∃ b2, b2 = hp + 1 := ⟨_, rfl⟩
  rw [← hb2] at hO1 ⊢
  have hb2p : hp < b2 := by omega
  have HP : Hid (w.heap.size ≤ hp) := by rw [hhp]; exact hb1.size
  have hbn : ((n : Nat) : Int) ≤ 1024 := by omega
  clear hb2 hhp hf1 how1 hbz hb1 hmk HMK
  go_loopw [5] (fun u wr => ∃ (k : Nat) (e o : Nat → It), k ≤ n ∧ u = .int .i64 k ∧ Hp wr hp b (n - k) n e ∧ Own wr b2 n o ∧ Below w.heap.size w wr ∧ Hid (Pops n d k e o)) (fun u _ => n - (intOf u).toNat)
  case atStart => exact ⟨0, _, _, Nat.zero_le _, rfl, hH1, hO1, hbl1, pops_start n d _⟩
  case round =>
    clear hH1 hO1 hbl1
    obtain ⟨k, e, o, hk, rfl, hH, hO, hbl, HQ⟩ := hrel
    by_cases hlt : k < n
    · go_wp2_with fail
      refine (pop_in hp b (n - k) n e _ hH (by omega)).mono ?_
      rintro e1 w2 ⟨rfl, hH2, hf2⟩
      have hO2 := hf2.own hO (by show ¬ (b2 = b ∨ b2 = hp); omega)
      have hbl2 := hbl.trans (hf2.to_below hbl.size (fun x hx => by have h1 := HB.out; have h2 := HP.out; omega))
      have HQ2 : Hid (Pops n d (k + 1) (rmv (n - k) e 0) (upd o k (e 0))) := HQ.out.step hlt
      obtain ⟨x, hx⟩ : ∃ x, x = e 0 := ⟨_, rfl⟩
      rw [← hx] at HQ2 ⊢
      have k0 := hO2.c0 hlt
      have k1 := hO2.c1 hlt
      have kf := hO2.fz
      have kz := hO2.lt
      have hO3 := (hO2.set k x).alloc (.cells #[.int .i64 x.1, .int .u32 x.2] 25)
      have hf3 : Fr (fun t => t = b2) w2 (((w2.setCell ⟨b2, k * 2, none⟩ (.int .i64 x.1)).setCell ⟨b2, k * 2 + 1, none⟩ (.int .u32 x.2)).alloc (.cells #[.int .i64 x.1, .int .u32 x.2] 25)) := (((Fr.refl (fun t => t = b2) w2).setCell (p := ⟨b2, k * 2, none⟩) rfl _).setCell (p := ⟨b2, k * 2 + 1, none⟩) rfl _).alloc _
      have hH3 := hH2.fr hf3 (by show ¬ hp = b2; omega) (hf3.own hH2.own (by show ¬ b = b2; omega))
      have hbl3 := hbl2.trans (hf3.to_below hbl2.size (fun x hx => by have h1 := HP.out; omega))
      clear hx hH hO hbl HQ hH2 hf2 hO2 hbl2 hf3
      go_wp2
      go_roundw
      case rel => exact ⟨k + 1, _, _, by omega, by go_num, by rw [(by omega : n - (k + 1) = n - k - 1)]; exact hH3, hO3, hbl3, HQ2⟩
      case measure => simp [intOf]; omega
    · have hkn : n = k := by omega
      subst hkn
      go_wp2
      go_ret
      refine ⟨b2, o, rfl, by have := HP.out; omega, hO, HQ.out.srt, fun f => ?_, hbl⟩
      have := HQ.out.cnt f
      rw [Nat.sub_self] at this
      exact this
end Go.Proofs.Ymbrcx
