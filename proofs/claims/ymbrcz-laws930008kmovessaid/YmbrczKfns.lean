/- The helpers of the K laws and (*Heap).Update (seat Ymbrcz): the walks. -/
import Derived.Test.YmbrczIdx
import Derived.Test.YmbrczFix
import Derived.Test.YmbrczPath
namespace Go.Proofs.Ymbrcz
open Go.RowKit Go.Sort

/-- what zzs930008kid answers -/
def kk (d : Nat → It) (n : Nat) (id : Int) (pick : Bool) : Int := if pick = true ∧ 1 ≤ n then (d (id % (n : Int)).toNat).2 else id
set_option maxHeartbeats 400000 in
theorem kid_any (a : Option Addr) (n cap : Nat) (d : Nat → It) (id : Int) (pick : Bool) (w : World) (h : Sl w a n d) (hn : n ≤ 1024) (h0 : 0 ≤ id) (h1 : id ≤ 4294967295) :
    Calls Yczm.prog 20 #[.slice a n cap, .int .u32 id, .bool pick] w fun e w' => e = .returned (.int .u32 (kk d n id pick)) ∧ w = w' := by
  cases pick
  · have e : kk d n id false = id := by unfold kk; rw [if_neg (by rintro ⟨h, _⟩; cases h)]
    rw [e]
    clear e
    go_enter Yczm.func20, Yczm.ntmps20
    go_wp2
    go_ret
    exact ⟨rfl, rfl⟩
  · by_cases hz : n = 0
    · subst hz
      have e : kk d 0 id true = id := by unfold kk; rw [if_neg (by rintro ⟨_, h⟩; omega)]
      rw [e]
      clear e
      go_enter Yczm.func20, Yczm.ntmps20
      go_wp2
      go_ret
      exact ⟨rfl, rfl⟩
    · have h2 : 0 ≤ id % (n : Int) := Int.emod_nonneg _ (by omega)
      have h3 : id % (n : Int) < (n : Int) := Int.emod_lt_of_pos _ (by omega)
      obtain ⟨p, hp⟩ : ∃ p : Nat, id % (n : Int) = p := ⟨(id % (n : Int)).toNat, by omega⟩
      have e : kk d n id true = (d p).2 := by unfold kk; rw [if_pos ⟨rfl, by omega⟩, hp, Int.toNat_natCast]
      rw [e]
      clear e
      have hpn : p < n := by omega
      obtain ⟨b, off, ha, hc⟩ := h
      obtain ⟨rfl, hbw⟩ := ha (by omega)
      have c1 := (hc p hpn).2
      have hn0 : (0 : Int) < (n : Int) := by omega
      clear hc ha
      go_enter Yczm.func20, Yczm.ntmps20
      go_wp2
      go_ret
      exact ⟨rfl, rfl⟩

/-- what zzs930008kfirst answers -/
def kf (p : Nat × Bool) : Int := if p.2 = true then (p.1 : Int) else -1
set_option maxHeartbeats 400000 in
theorem kfirst_any (a : Option Addr) (n cap : Nat) (d : Nat → It) (id : Int) (w : World) (h : Sl w a n d) (hn : n ≤ 1024) :
    Calls Yczm.prog 22 #[.slice a n cap, .int .u32 id] w fun e w' => e = .returned (.int .i64 (kf (ix d id n 0))) ∧ w = w' := by
  go_enter Yczm.func22, Yczm.ntmps22
  go_wp2
  go_loop [5] (fun u => ∃ k : Nat, k ≤ n ∧ u = .int .i64 k ∧ Hid (∀ j, j < k → (d j).2 ≠ id)) (fun u => n - (intOf u).toNat)
  case atStart => exact ⟨0, Nat.zero_le _, rfl, fun j hj => by omega⟩
  case round =>
    obtain ⟨k, hk, rfl, HK⟩ := hrel
    by_cases hlt : k < n
    · obtain ⟨b, off, ha, hcc⟩ := h
      obtain ⟨rfl, hbw⟩ := ha (by omega)
      have c1 := (hcc k hlt).2
      clear hcc ha
      by_cases he : (d k).2 = id
      · have hb : ((d k).2 == id) = true := by simp [he]
        have HE : Hid ((d k).2 = id) := he
        clear he
        go_wp2
        go_ret
        exact ⟨by rw [ix_eq (.inl ⟨rfl, Nat.zero_le _, hlt, HE.out, fun j _ hj => HK.out j hj⟩ : Fst d 0 n id k true)]; rfl, rfl⟩
      · have hb : ((d k).2 == id) = false := by simp [he]
        have HE : Hid ((d k).2 ≠ id) := he
        clear he
        go_wp2
        go_round
        case rel =>
          refine ⟨k + 1, by omega, by go_num, fun j hj => ?_⟩
          by_cases e : j = k
          · subst e; exact HE.out
          · exact HK.out j (by omega)
        case measure => simp [intOf]; omega
    · go_wp2
      go_ret
      exact ⟨by rw [ix_eq (.inr ⟨rfl, rfl, fun j _ hj => HK.out j (by omega)⟩ : Fst d 0 n id 0 false)]; rfl, rfl⟩

set_option maxHeartbeats 1000000 in
theorem update_in (hp b n m r : Nat) (d : Nat → It) (id prio : Int) (w : World) (h : Hp w hp b n m d) (hix : ix d id n 0 = (r, true)) (hr : r < n) (hn : n ≤ 1024) :
    Calls Yczm.prog 23 #[.pointer (some ⟨hp, 0, none⟩), .int .u32 id, .int .i64 prio] w fun e w' => e = .returned (.bool true) ∧ Own w' b m (fx n (upd d r (prio, (d r).2)) r).1 ∧ Fr (· = b) w w' := by
  have h' := h
  obtain ⟨hc, hz, hlt, hne, how, hle, hbd⟩ := h'
  have K1 := fun w hc hs => indexOf_any hp (some ⟨b, 0, none⟩) n m d id w hc hs (by unfold maxLen; omega)
  rw [hix] at K1
  have HK1 : Hid (∀ w, w.cell? ⟨hp, 0, none⟩ = some (.slice (some ⟨b, 0, none⟩) n m) → Sl w (some ⟨b, 0, none⟩) n d → Calls Yczm.prog 14 #[.pointer (some ⟨hp, 0, none⟩), .int .u32 id] w fun e w' => e = .returned (.tuple #[.int .i64 (r : Nat), .bool true]) ∧ w = w') := K1
  clear K1 hix
  have k0 := how.c0 (k := r) (by omega)
  have kf := how.fz
  have hH2 : Hp (w.setCell ⟨b, r * 2, none⟩ (.int .i64 prio)) hp b n m (upd d r (prio, (d r).2)) := h.fr (S := fun k => k = b) ((Fr.refl (fun k => k = b) w).setCell (p := ⟨b, r * 2, none⟩) rfl _) hne (how.setPrio r prio)
  go_enter Yczm.func23, Yczm.ntmps23
  go_wp2_with fail
  refine (HK1.out _ hc (how.sl hle)).mono ?_
  rintro e w1 ⟨rfl, hw⟩
  subst hw
  go_wp2_with fail
  refine (fix_in hp b n m r _ _ hH2 hr).mono ?_
  rintro e w2 ⟨rfl, how2, hf2⟩
  have hf3 := ((Fr.refl (fun k => k = b) w).setCell (p := ⟨b, r * 2, none⟩) rfl (.int .i64 prio)).trans hf2
  go_wp2
  go_ret
  exact ⟨rfl, how2, hf3⟩
set_option maxHeartbeats 1000000 in
theorem update_out (hp b n m : Nat) (d : Nat → It) (id prio : Int) (w : World) (h : Hp w hp b n m d) (hix : ix d id n 0 = (0, false)) (hn : n ≤ 1024) :
    Calls Yczm.prog 23 #[.pointer (some ⟨hp, 0, none⟩), .int .u32 id, .int .i64 prio] w fun e w' => e = .returned (.bool false) ∧ w = w' := by
  obtain ⟨hc, hz, hlt, hne, how, hle, hbd⟩ := h
  have K1 := fun w hc hs => indexOf_any hp (some ⟨b, 0, none⟩) n m d id w hc hs (by unfold maxLen; omega)
  rw [hix] at K1
  have HK1 : Hid (∀ w, w.cell? ⟨hp, 0, none⟩ = some (.slice (some ⟨b, 0, none⟩) n m) → Sl w (some ⟨b, 0, none⟩) n d → Calls Yczm.prog 14 #[.pointer (some ⟨hp, 0, none⟩), .int .u32 id] w fun e w' => e = .returned (.tuple #[.int .i64 ((0 : Nat) : Int), .bool false]) ∧ w = w') := K1
  clear K1 hix
  go_enter Yczm.func23, Yczm.ntmps23
  go_wp2_with fail
  refine (HK1.out _ hc (how.sl hle)).mono ?_
  rintro e w1 ⟨rfl, hw⟩
  subst hw
  go_wp2
  go_ret
  exact ⟨rfl, rfl⟩

/-- what zzs930008kabove answers: is a on the road up from b -/
def above : Nat → Nat → Nat → Bool
  | 0, a, b => decide (a = b)
  | f + 1, a, b => if a < b then above f a ((b - 1) / 2) else decide (a = b)
theorem above_true {a : Nat} : ∀ (f t b : Nat), b ≤ f → up t b = a → above f a b = true
  | 0, t, b, hf, h => by
    have h0 : b = 0 := by omega
    subst h0
    have := up_le t 0
    show decide (a = 0) = true
    simp; omega
  | f + 1, t, b, hf, h => by
    have h1 := up_le t b
    show (if a < b then _ else _) = true
    by_cases hab : a < b
    · rw [if_pos hab]
      cases t with
      | zero => exact absurd h (by show ¬ b = a; omega)
      | succ t => exact above_true f t _ (by omega) (by rw [← up_succ]; exact h)
    · rw [if_neg hab]
      simp; omega
set_option maxHeartbeats 400000 in
theorem kabove_any (a b : Nat) (w : World) (ha : a ≤ 1024) (hb : b ≤ 1024) :
    Calls Yczm.prog 27 #[.int .i64 a, .int .i64 b] w fun e w' => e = .returned (.bool (above b a b)) ∧ w = w' := by
  go_enter Yczm.func27, Yczm.ntmps27
  go_wp2
  go_loop [1] (fun u => ∃ c f : Nat, c ≤ b ∧ c ≤ f ∧ u = .int .i64 c ∧ Hid (above f a c = above b a b)) (fun u => (intOf u).toNat)
  case atStart => exact ⟨b, b, Nat.le_refl _, Nat.le_refl _, rfl, rfl⟩
  case round =>
    obtain ⟨c, f, hc, hf, rfl, HA⟩ := hrel
    by_cases hlt : a < c
    · have hci : ((c : Int) - 1) / 2 = (((c - 1) / 2 : Nat) : Int) := by omega
      have HA2 : Hid (above (f - 1) a ((c - 1) / 2) = above b a b) := by
        have h1 := HA.out
        obtain ⟨g, rfl⟩ : ∃ g, f = g + 1 := ⟨f - 1, by omega⟩
        rw [show above (g + 1) a c = if a < c then above g a ((c - 1) / 2) else decide (a = c) from rfl, if_pos hlt] at h1
        exact h1
      clear HA
      go_wp2
      go_round
      case rel => exact ⟨(c - 1) / 2, f - 1, by omega, by omega, by go_num, HA2⟩
      case measure => simp [intOf]; omega
    · have h1 : above f a c = decide (a = c) := by
        cases f with
        | zero => rfl
        | succ g => show (if a < c then _ else _) = _; rw [if_neg hlt]
      rw [HA.out] at h1
      have hd : ((a : Int) == (c : Int)) = decide (a = c) := by
        by_cases e : a = c
        · subst e; simp
        · have e2 : ¬ (a : Int) = (c : Int) := by omega
          simp [e, e2]
      have HD : Hid (above b a b = decide (a = c)) := h1
      clear HA h1
      go_wp2
      go_ret
      exact ⟨by rw [HD.out, ← hd]; rfl, rfl⟩
end Go.Proofs.Ymbrcz
