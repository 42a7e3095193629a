/- The walk of LawS930008LLeast (seat Ymbrcz): the Go text returns true, and writes nothing that was there. -/
import Derived.Test.YmbrczBase
import Derived.Test.YmbrczPeek
import Derived.Test.YmbrczFrom
import Derived.Test.YmbrczPlain2
namespace Go.Proofs.Ymbrcz.lawS930008LLeast
open Go.RowKit Go.Sort
set_option linter.unusedVariables false

/-- m is the least of the first k -/
structure Lst (d : Nat → It) (k : Nat) (m : It) : Prop where
  le : ∀ j, j < k → lt (d j) m = false
  is : ∃ j, j < k ∧ d j = m
theorem Lst.hit {d : Nat → It} {k n : Nat} {m x : It} (h : Lst d k m) (hk : k < n) (hl : lt (d k) m = true) (hx : x = d k) : Lst d (k + 1) x := by
  subst hx
  refine ⟨fun j hj => ?_, k, by omega, rfl⟩
  by_cases e : j = k
  · subst e; exact lt_self _
  · exact le_trans (lt_asymm hl) (h.le j (by omega))
theorem Lst.miss {d : Nat → It} {k : Nat} {m : It} (h : Lst d k m) (hl : lt (d k) m = false) : Lst d (k + 1) m := by
  obtain ⟨i, hi, he⟩ := h.is
  refine ⟨fun j hj => ?_, i, by omega, he⟩
  by_cases e : j = k
  · subst e; exact hl
  · exact h.le j (by omega)
theorem lst_root {d : Nat → It} {n : Nat} {m : It} (h : Lst d n m) (hn : 1 ≤ n) : mk n d 0 = m := by
  have hs := mk_same n d
  refine le_anti ?_ ?_
  · have h1 : cn (fun y => !lt y m) (mk n d) n = n := by
      rw [hs]; exact cn_all fun k hk => by show (!lt (d k) m) = true; rw [h.le k hk]; rfl
    have := cn_full h1 0 (by omega)
    simpa using this
  · have h1 : cn (fun y => !lt y (mk n d 0)) d n = n := by
      rw [← hs]; exact cn_all fun k hk => by show (!lt (mk n d k) (mk n d 0)) = true; rw [heap_root (mk_heap n d) k k (Nat.le_refl _) hk]; rfl
    obtain ⟨i, hi, he⟩ := h.is
    have := cn_full h1 i hi
    rw [he] at this
    simpa using this

theorem walk_long (a : Option Addr) (n cap : Nat) (w : World) (hn : ¬ n ≤ 1024) (hm : n ≤ maxLen) :
    Calls Yczm.prog 13 #[.slice a n cap] w fun e w' => e = .returned (.bool true) ∧ Below w.heap.size w w' := by
  unfold maxLen at hm
  go_enter Yczm.func13, Yczm.ntmps13
  go_wp2
  go_ret
  exact ⟨rfl, Below.refl _ _⟩
set_option maxHeartbeats 1000000 in
theorem walk_none (a : Option Addr) (cap : Nat) (d : Nat → It) (w : World) (h : Sl w a 0 d) :
    Calls Yczm.prog 13 #[.slice a 0 cap] w fun e w' => e = .returned (.bool true) ∧ Below w.heap.size w w' := by
  go_enter Yczm.func13, Yczm.ntmps13
  go_wp2_with fail
  refine (fromItems_any a 0 cap d _ h (by omega)).mono ?_
  rintro e w1 ⟨rfl, how1, hb1⟩
  have hbl0 := hb1.alloc hb1.size (.cells #[.slice (some ⟨w.heap.size + 1, 0, none⟩) 0 0] 27)
  go_wp2_with fail
  refine (peek_none w1.heap.size (some ⟨w.heap.size + 1, 0, none⟩) 0 _ (by go_simp) (by simp)).mono ?_
  rintro e w2 ⟨rfl, hb2⟩
  have hbl := hbl0.trans (hb2.mono (by have := hb1.size; simp; omega))
  have hbl2 := hbl.alloc hbl.size (.cells #[.int .i64 0, .int .u32 0] 25)
  go_wp2
  go_ret
  exact ⟨rfl, hbl2⟩
set_option maxHeartbeats 4000000 in
theorem walk_main (ab off n cap : Nat) (d : Nat → It) (w : World) (h : Sl w (some ⟨ab, off, none⟩) n d) (hn : n ≤ 1024) (hn0 : 1 ≤ n) :
    Calls Yczm.prog 13 #[.slice (some ⟨ab, off, none⟩) n cap] w fun e w' => e = .returned (.bool true) ∧ Below w.heap.size w w' := by
  have hnz : ((n : Int) == 0) = false := by simp; omega
  go_enter Yczm.func13, Yczm.ntmps13
  go_wp2_with fail
  refine (fromItems_any _ n cap d _ h (by omega)).mono ?_
  rintro e w1 ⟨rfl, how1, hb1⟩
  have hbl0 := hb1.alloc hb1.size (.cells #[.slice (some ⟨w.heap.size + 1, 0, none⟩) n n] 27)
  have how2 := how1.alloc (.cells #[.slice (some ⟨w.heap.size + 1, 0, none⟩) n n] 27)
  go_wp2_with fail
  refine (peek_in w1.heap.size (some ⟨w.heap.size + 1, 0, none⟩) n n (mk n d) _ (by go_simp) (by simp) (how2.sl (Nat.le_refl _)) hn0).mono ?_
  rintro e w2 ⟨rfl, hb2⟩
  have hbl := hbl0.trans (hb2.mono (by have := hb1.size; simp; omega))
  obtain ⟨g, hg⟩ : ∃ g, g = mk n d 0 := ⟨_, rfl⟩
  rw [← hg]
  have HG : Hid (g = mk n d 0) := hg
  clear hg how1 how2 hbl0 hb2 hb1
  have hs2 := h.below hbl (Nat.le_refl _)
  obtain ⟨ab', off', ha', hc'⟩ := hs2
  obtain ⟨hae, hbw'⟩ := ha' hn0
  obtain ⟨rfl, rfl⟩ : ab = ab' ∧ off = off' := by simpa using hae
  have c0 := (hc' 0 (by omega)).1
  have c1 := (hc' 0 (by omega)).2
  rw [Nat.zero_mul, Nat.add_zero] at c0 c1
  clear hc' ha' hae
  obtain ⟨y, hy⟩ : ∃ y, y = d 0 := ⟨_, rfl⟩
  rw [← hy] at c0 c1
  have HY : Hid (Lst d 1 y) := ⟨fun j hj => by have : j = 0 := by omega
                                               subst this; rw [hy]; exact lt_self _, 0, by omega, hy.symm⟩
  clear hy
  have hbl3 := (hbl.alloc hbl.size (.cells #[.int .i64 g.1, .int .u32 g.2] 25)).alloc (by have := hbl.size; simp; omega) (.cells #[.int .i64 y.1, .int .u32 y.2] 25)
  have e0 : ((w2.alloc (.cells #[.int .i64 g.1, .int .u32 g.2] 25)).alloc (.cells #[.int .i64 y.1, .int .u32 y.2] 25)).cell? ⟨w2.heap.size + 1, 0, none⟩ = some (.int .i64 y.1) := by go_simp
  have e1 : ((w2.alloc (.cells #[.int .i64 g.1, .int .u32 g.2] 25)).alloc (.cells #[.int .i64 y.1, .int .u32 y.2] 25)).cell? ⟨w2.heap.size + 1, 1, none⟩ = some (.int .u32 y.2) := by go_simp
  have e2 : ((w2.alloc (.cells #[.int .i64 g.1, .int .u32 g.2] 25)).alloc (.cells #[.int .i64 y.1, .int .u32 y.2] 25)).frozen? ⟨w2.heap.size + 1, 0, none⟩ = false := by go_simp
  have e3 : ((w2.alloc (.cells #[.int .i64 g.1, .int .u32 g.2] 25)).alloc (.cells #[.int .i64 y.1, .int .u32 y.2] 25)).frozen? ⟨w2.heap.size + 1, 1, none⟩ = false := by go_simp
  have e4 : w2.heap.size + 1 < ((w2.alloc (.cells #[.int .i64 g.1, .int .u32 g.2] 25)).alloc (.cells #[.int .i64 y.1, .int .u32 y.2] 25)).heap.size := by simp
  have e5 : ((w2.alloc (.cells #[.int .i64 g.1, .int .u32 g.2] 25)).alloc (.cells #[.int .i64 y.1, .int .u32 y.2] 25)).cell? ⟨w2.heap.size, 0, none⟩ = some (.int .i64 g.1) := by go_simp
  have e6 : ((w2.alloc (.cells #[.int .i64 g.1, .int .u32 g.2] 25)).alloc (.cells #[.int .i64 y.1, .int .u32 y.2] 25)).cell? ⟨w2.heap.size, 1, none⟩ = some (.int .u32 g.2) := by go_simp
  go_wp2
  obtain ⟨bl, hble⟩ : ∃ bl, bl = w2.heap.size + 1 := ⟨_, rfl⟩
  rw [← hble] at e0 e1 e2 e3 e4 ⊢
  obtain ⟨bg, hbge⟩ : ∃ bg, bg = w2.heap.size := ⟨_, rfl⟩
  rw [← hbge] at e5 e6 ⊢
  have hgl : bg < bl := by omega
  have hgl2 : ¬ bg = bl := by omega
  have hgl3 : ¬ bl = bg := by omega
  have HBL : Hid (w.heap.size ≤ bl) := by have := hbl.size; show _ ≤ bl; omega
  clear hble hbge hbl c0 c1
  go_loopw [7] (fun u wr => ∃ (k : Nat) (m : It), 1 ≤ k ∧ k ≤ n ∧ u = .int .i64 k ∧ Below w.heap.size w wr ∧ wr.cell? ⟨bl, 0, none⟩ = some (.int .i64 m.1) ∧ wr.cell? ⟨bl, 1, none⟩ = some (.int .u32 m.2) ∧ wr.frozen? ⟨bl, 0, none⟩ = false ∧ wr.frozen? ⟨bl, 1, none⟩ = false ∧ bl < wr.heap.size ∧
      wr.cell? ⟨bg, 0, none⟩ = some (.int .i64 g.1) ∧ wr.cell? ⟨bg, 1, none⟩ = some (.int .u32 g.2) ∧ Hid (Lst d k m)) (fun u _ => n - (intOf u).toNat)
  case atStart => exact ⟨1, y, Nat.le_refl _, hn0, rfl, hbl3, e0, e1, e2, e3, e4, e5, e6, HY⟩
  case round =>
    clear hbl3 e0 e1 e2 e3 e4 e5 e6 HY
    obtain ⟨k, m, hk1, hk2, rfl, hbl, m0, m1, f0, f1, hz, g0, g1, HM⟩ := hrel
    have hgz : bg < wr.heap.size := by omega
    have hs2 := h.below hbl (Nat.le_refl _)
    obtain ⟨ab', off', ha', hc'⟩ := hs2
    obtain ⟨hae, hbw'⟩ := ha' hn0
    obtain ⟨rfl, rfl⟩ : ab = ab' ∧ off = off' := by simpa using hae
    by_cases hlt : k < n
    · have c0 := (hc' k hlt).1
      have c1 := (hc' k hlt).2
      clear hc' ha' hae
      obtain ⟨x, hx⟩ : ∃ x, x = d k := ⟨_, rfl⟩
      rw [← hx] at c0 c1
      have HX : Hid (x = d k) := hx
      clear hx
      rcases Int.lt_trichotomy x.1 m.1 with h1 | h1 | h1
      · have HL : Hid (lt x m = true) := by show lt x m = _; rw [lt_true]; omega
        have n0 : (((wr.setCell ⟨bl, 0, none⟩ (.int .i64 x.1)).setCell ⟨bl, 1, none⟩ (.int .u32 x.2)).alloc (.cells #[.int .i64 x.1, .int .u32 x.2] 25)).cell? ⟨bl, 0, none⟩ = some (.int .i64 x.1) := by go_simp
        have n1 : (((wr.setCell ⟨bl, 0, none⟩ (.int .i64 x.1)).setCell ⟨bl, 1, none⟩ (.int .u32 x.2)).alloc (.cells #[.int .i64 x.1, .int .u32 x.2] 25)).cell? ⟨bl, 1, none⟩ = some (.int .u32 x.2) := by go_simp
        have n2 : (((wr.setCell ⟨bl, 0, none⟩ (.int .i64 x.1)).setCell ⟨bl, 1, none⟩ (.int .u32 x.2)).alloc (.cells #[.int .i64 x.1, .int .u32 x.2] 25)).cell? ⟨bg, 0, none⟩ = some (.int .i64 g.1) := by go_simp
        have n3 : (((wr.setCell ⟨bl, 0, none⟩ (.int .i64 x.1)).setCell ⟨bl, 1, none⟩ (.int .u32 x.2)).alloc (.cells #[.int .i64 x.1, .int .u32 x.2] 25)).cell? ⟨bg, 1, none⟩ = some (.int .u32 g.2) := by go_simp
        have n4 : (((wr.setCell ⟨bl, 0, none⟩ (.int .i64 x.1)).setCell ⟨bl, 1, none⟩ (.int .u32 x.2)).alloc (.cells #[.int .i64 x.1, .int .u32 x.2] 25)).frozen? ⟨bl, 0, none⟩ = false := by go_simp
        have n5 : (((wr.setCell ⟨bl, 0, none⟩ (.int .i64 x.1)).setCell ⟨bl, 1, none⟩ (.int .u32 x.2)).alloc (.cells #[.int .i64 x.1, .int .u32 x.2] 25)).frozen? ⟨bl, 1, none⟩ = false := by go_simp
        have n6 : bl < (((wr.setCell ⟨bl, 0, none⟩ (.int .i64 x.1)).setCell ⟨bl, 1, none⟩ (.int .u32 x.2)).alloc (.cells #[.int .i64 x.1, .int .u32 x.2] 25)).heap.size := by simp [World.setCell]; omega
        have n7 : Below w.heap.size w (((wr.setCell ⟨bl, 0, none⟩ (.int .i64 x.1)).setCell ⟨bl, 1, none⟩ (.int .u32 x.2)).alloc (.cells #[.int .i64 x.1, .int .u32 x.2] 25)) := ((hbl.setCell (p := ⟨bl, 0, none⟩) HBL.out _).setCell (p := ⟨bl, 1, none⟩) HBL.out _).alloc (by have := hbl.size; simp [World.setCell]; omega) _
        go_wp2
        go_roundw
        case rel => exact ⟨k + 1, x, by omega, by omega, by go_num, n7, n0, n1, n4, n5, n6, n2, n3, HM.out.hit hlt (by rw [← HX.out]; exact HL.out) HX.out⟩
        case measure => simp [intOf]; omega
      · have hne : ¬ x.1 < m.1 := by omega
        have heq : (x.1 == m.1) = true := by simp [h1]
        by_cases h2 : x.2 < m.2
        · have HL : Hid (lt x m = true) := by show lt x m = _; rw [lt_true]; omega
          clear h1
          have n0 : (((wr.setCell ⟨bl, 0, none⟩ (.int .i64 x.1)).setCell ⟨bl, 1, none⟩ (.int .u32 x.2)).alloc (.cells #[.int .i64 x.1, .int .u32 x.2] 25)).cell? ⟨bl, 0, none⟩ = some (.int .i64 x.1) := by go_simp
          have n1 : (((wr.setCell ⟨bl, 0, none⟩ (.int .i64 x.1)).setCell ⟨bl, 1, none⟩ (.int .u32 x.2)).alloc (.cells #[.int .i64 x.1, .int .u32 x.2] 25)).cell? ⟨bl, 1, none⟩ = some (.int .u32 x.2) := by go_simp
          have n2 : (((wr.setCell ⟨bl, 0, none⟩ (.int .i64 x.1)).setCell ⟨bl, 1, none⟩ (.int .u32 x.2)).alloc (.cells #[.int .i64 x.1, .int .u32 x.2] 25)).cell? ⟨bg, 0, none⟩ = some (.int .i64 g.1) := by go_simp
          have n3 : (((wr.setCell ⟨bl, 0, none⟩ (.int .i64 x.1)).setCell ⟨bl, 1, none⟩ (.int .u32 x.2)).alloc (.cells #[.int .i64 x.1, .int .u32 x.2] 25)).cell? ⟨bg, 1, none⟩ = some (.int .u32 g.2) := by go_simp
          have n4 : (((wr.setCell ⟨bl, 0, none⟩ (.int .i64 x.1)).setCell ⟨bl, 1, none⟩ (.int .u32 x.2)).alloc (.cells #[.int .i64 x.1, .int .u32 x.2] 25)).frozen? ⟨bl, 0, none⟩ = false := by go_simp
          have n5 : (((wr.setCell ⟨bl, 0, none⟩ (.int .i64 x.1)).setCell ⟨bl, 1, none⟩ (.int .u32 x.2)).alloc (.cells #[.int .i64 x.1, .int .u32 x.2] 25)).frozen? ⟨bl, 1, none⟩ = false := by go_simp
          have n6 : bl < (((wr.setCell ⟨bl, 0, none⟩ (.int .i64 x.1)).setCell ⟨bl, 1, none⟩ (.int .u32 x.2)).alloc (.cells #[.int .i64 x.1, .int .u32 x.2] 25)).heap.size := by simp [World.setCell]; omega
          have n7 : Below w.heap.size w (((wr.setCell ⟨bl, 0, none⟩ (.int .i64 x.1)).setCell ⟨bl, 1, none⟩ (.int .u32 x.2)).alloc (.cells #[.int .i64 x.1, .int .u32 x.2] 25)) := ((hbl.setCell (p := ⟨bl, 0, none⟩) HBL.out _).setCell (p := ⟨bl, 1, none⟩) HBL.out _).alloc (by have := hbl.size; simp [World.setCell]; omega) _
          go_wp2
          go_roundw
          case rel => exact ⟨k + 1, x, by omega, by omega, by go_num, n7, n0, n1, n4, n5, n6, n2, n3, HM.out.hit hlt (by rw [← HX.out]; exact HL.out) HX.out⟩
          case measure => simp [intOf]; omega
        · have HL : Hid (lt x m = false) := by show lt x m = _; rw [lt_false]; omega
          clear h1
          have n0 : (wr.alloc (.cells #[.int .i64 x.1, .int .u32 x.2] 25)).cell? ⟨bl, 0, none⟩ = some (.int .i64 m.1) := by go_simp
          have n1 : (wr.alloc (.cells #[.int .i64 x.1, .int .u32 x.2] 25)).cell? ⟨bl, 1, none⟩ = some (.int .u32 m.2) := by go_simp
          have n2 : (wr.alloc (.cells #[.int .i64 x.1, .int .u32 x.2] 25)).cell? ⟨bg, 0, none⟩ = some (.int .i64 g.1) := by go_simp
          have n3 : (wr.alloc (.cells #[.int .i64 x.1, .int .u32 x.2] 25)).cell? ⟨bg, 1, none⟩ = some (.int .u32 g.2) := by go_simp
          have n4 : (wr.alloc (.cells #[.int .i64 x.1, .int .u32 x.2] 25)).frozen? ⟨bl, 0, none⟩ = false := by go_simp
          have n5 : (wr.alloc (.cells #[.int .i64 x.1, .int .u32 x.2] 25)).frozen? ⟨bl, 1, none⟩ = false := by go_simp
          have n6 : bl < (wr.alloc (.cells #[.int .i64 x.1, .int .u32 x.2] 25)).heap.size := by simp; omega
          have n7 : Below w.heap.size w (wr.alloc (.cells #[.int .i64 x.1, .int .u32 x.2] 25)) := hbl.alloc hbl.size _
          go_wp2
          go_roundw
          case rel => exact ⟨k + 1, m, by omega, by omega, by go_num, n7, n0, n1, n4, n5, n6, n2, n3, HM.out.miss (by rw [← HX.out]; exact HL.out)⟩
          case measure => simp [intOf]; omega
      · have hne : ¬ x.1 < m.1 := by omega
        have heq : (x.1 == m.1) = false := by simp; omega
        have HL : Hid (lt x m = false) := by show lt x m = _; rw [lt_false]; omega
        have n0 : (wr.alloc (.cells #[.int .i64 x.1, .int .u32 x.2] 25)).cell? ⟨bl, 0, none⟩ = some (.int .i64 m.1) := by go_simp
        have n1 : (wr.alloc (.cells #[.int .i64 x.1, .int .u32 x.2] 25)).cell? ⟨bl, 1, none⟩ = some (.int .u32 m.2) := by go_simp
        have n2 : (wr.alloc (.cells #[.int .i64 x.1, .int .u32 x.2] 25)).cell? ⟨bg, 0, none⟩ = some (.int .i64 g.1) := by go_simp
        have n3 : (wr.alloc (.cells #[.int .i64 x.1, .int .u32 x.2] 25)).cell? ⟨bg, 1, none⟩ = some (.int .u32 g.2) := by go_simp
        have n4 : (wr.alloc (.cells #[.int .i64 x.1, .int .u32 x.2] 25)).frozen? ⟨bl, 0, none⟩ = false := by go_simp
        have n5 : (wr.alloc (.cells #[.int .i64 x.1, .int .u32 x.2] 25)).frozen? ⟨bl, 1, none⟩ = false := by go_simp
        have n6 : bl < (wr.alloc (.cells #[.int .i64 x.1, .int .u32 x.2] 25)).heap.size := by simp; omega
        have n7 : Below w.heap.size w (wr.alloc (.cells #[.int .i64 x.1, .int .u32 x.2] 25)) := hbl.alloc hbl.size _
        go_wp2
        go_roundw
        case rel => exact ⟨k + 1, m, by omega, by omega, by go_num, n7, n0, n1, n4, n5, n6, n2, n3, HM.out.miss (by rw [← HX.out]; exact HL.out)⟩
        case measure => simp [intOf]; omega
    · have hkn : n = k := by omega
      subst hkn
      have e1 : g = m := by rw [HG.out]; exact lst_root HM.out hn0
      subst e1
      go_wp2
      go_ret
      exact ⟨rfl, hbl⟩

theorem walk (a : Option Addr) (n cap : Nat) (d : Nat → It) (w : World) (h : Sl w a n d) (hn : n ≤ maxLen) :
    Calls Yczm.prog 13 #[.slice a n cap] w fun e w' => e = .returned (.bool true) ∧ Below w.heap.size w w' := by
  by_cases hs : n ≤ 1024
  · by_cases h0 : n = 0
    · subst h0
      exact walk_none a cap d w h
    · have h' := h
      obtain ⟨ab, off, ha, _⟩ := h'
      obtain ⟨rfl, _⟩ := ha (by omega)
      exact walk_main ab off n cap d w h hs (by omega)
  · exact walk_long a n cap w hs hn
end Go.Proofs.Ymbrcz.lawS930008LLeast
