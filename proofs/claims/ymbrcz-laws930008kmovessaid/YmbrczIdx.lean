/- (*Heap).IndexOf (seat Ymbrcz): the walk. -/
import Derived.Test.YmbrczBase
namespace Go.Proofs.Ymbrcz
open Go.RowKit Go.Sort

/-- the first place from lo on (before n) that holds the id, or 0 and false -/
def Fst (d : Nat → It) (lo n : Nat) (id : Int) (r : Nat) (ok : Bool) : Prop :=
  (ok = true ∧ lo ≤ r ∧ r < n ∧ (d r).2 = id ∧ ∀ j, lo ≤ j → j < r → (d j).2 ≠ id) ∨ (ok = false ∧ r = 0 ∧ ∀ j, lo ≤ j → j < n → (d j).2 ≠ id)
theorem Fst.one {d : Nat → It} {lo n : Nat} {id : Int} {r s : Nat} {p q : Bool} (h : Fst d lo n id r p) (k : Fst d lo n id s q) : r = s ∧ p = q := by
  rcases h with ⟨rfl, h0, h1, h2, h3⟩ | ⟨rfl, h1, h2⟩ <;> rcases k with ⟨rfl, k0, k1, k2, k3⟩ | ⟨rfl, k1, k2⟩
  · refine ⟨?_, rfl⟩
    rcases Nat.lt_trichotomy r s with e | e | e
    · exact absurd h2 (k3 r h0 e)
    · exact e
    · exact absurd k2 (h3 s k0 e)
  · exact absurd h2 (k2 r h0 h1)
  · exact absurd k2 (h2 s k0 k1)
  · exact ⟨h1.trans k1.symm, rfl⟩

/-- what IndexOf answers -/
def ix (d : Nat → It) (id : Int) : Nat → Nat → Nat × Bool
  | 0, _ => (0, false)
  | m + 1, lo => if (d lo).2 = id then (lo, true) else ix d id m (lo + 1)
theorem ix_fst (d : Nat → It) (id : Int) : ∀ m lo, Fst d lo (lo + m) id (ix d id m lo).1 (ix d id m lo).2
  | 0, lo => .inr ⟨rfl, rfl, fun j a b => by omega⟩
  | m + 1, lo => by
    unfold ix
    split
    · rename_i h
      exact .inl ⟨rfl, Nat.le_refl _, by show lo < _; omega, h, fun j a b => by have : j < lo := b; omega⟩
    · rename_i h
      have := ix_fst d id m (lo + 1)
      rw [(by omega : lo + 1 + m = lo + (m + 1))] at this
      rcases this with ⟨h0, h1, h2, h3, h4⟩ | ⟨h0, h1, h2⟩
      · refine .inl ⟨h0, by omega, h2, h3, fun j a b => ?_⟩
        by_cases e : j = lo
        · subst e; exact h
        · exact h4 j (by omega) b
      · refine .inr ⟨h0, h1, fun j a b => ?_⟩
        by_cases e : j = lo
        · subst e; exact h
        · exact h2 j (by omega) b
theorem ix_eq {d : Nat → It} {id : Int} {n r : Nat} {ok : Bool} (h : Fst d 0 n id r ok) : ix d id n 0 = (r, ok) := by
  have h1 := ix_fst d id n 0
  rw [Nat.zero_add] at h1
  obtain ⟨e1, e2⟩ := Fst.one h1 h
  exact Prod.ext e1 e2

set_option maxHeartbeats 400000 in
theorem indexOf_any (hp : Nat) (a : Option Addr) (n cap : Nat) (d : Nat → It) (id : Int) (w : World) (hc : w.cell? ⟨hp, 0, none⟩ = some (.slice a n cap)) (h : Sl w a n d) (hn : n ≤ maxLen) :
    Calls Yczm.prog 14 #[.pointer (some ⟨hp, 0, none⟩), .int .u32 id] w fun e w' => e = .returned (.tuple #[.int .i64 (ix d id n 0).1, .bool (ix d id n 0).2]) ∧ w = w' := by
  unfold maxLen at hn
  go_enter Yczm.func14, Yczm.ntmps14
  go_wp2
  go_loop [6] (fun u => ∃ k : Nat, k ≤ n ∧ u = .int .i64 k ∧ Hid (∀ j, j < k → (d j).2 ≠ id)) (fun u => n - (intOf u).toNat)
  case atStart => exact ⟨0, Nat.zero_le _, rfl, fun j hj => by omega⟩
  case round =>
    obtain ⟨k, hk, rfl, HK⟩ := hrel
    by_cases hlt : k < n
    · obtain ⟨b, off, ha, hcc⟩ := h
      obtain ⟨rfl, hbw⟩ := ha (by omega)
      have c1 := (hcc k hlt).2
      clear hcc ha
      by_cases he : (d k).2 = id
      · have hb : ((d k).2 == id) = true := by simp [he]
        have HE : Hid ((d k).2 = id) := he
        clear he
        go_wp2
        go_ret2
        exact ⟨by rw [ix_eq (.inl ⟨rfl, Nat.zero_le _, hlt, HE.out, fun j _ hj => HK.out j hj⟩ : Fst d 0 n id k true)]; rfl, rfl⟩
      · have hb : ((d k).2 == id) = false := by simp [he]
        have HE : Hid ((d k).2 ≠ id) := he
        clear he
        go_wp2
        go_round
        case rel =>
          refine ⟨k + 1, by omega, by go_num, fun j hj => ?_⟩
          by_cases e : j = k
          · subst e; exact HE.out
          · exact HK.out j (by omega)
        case measure => simp [intOf]; omega
    · go_wp2
      go_ret2
      exact ⟨by rw [ix_eq (.inr ⟨rfl, rfl, fun j _ hj => HK.out j (by omega)⟩ : Fst d 0 n id 0 false)]; rfl, rfl⟩
end Go.Proofs.Ymbrcz
