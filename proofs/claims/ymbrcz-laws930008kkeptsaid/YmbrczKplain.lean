/- Plain mathematics of the K laws (seat Ymbrcz): presence of an id; what an update may turn. -/
import Derived.Test.YmbrczKfns
namespace Go.Proofs.Ymbrcz

def hasId (id : Int) (y : It) : Bool := y.2 == id
theorem ix_pos {d : Nat → It} {id : Int} {n : Nat} : (ix d id n 0).2 = true ↔ 1 ≤ cn (hasId id) d n := by
  have hF := ix_fst d id n 0
  rw [Nat.zero_add] at hF
  constructor
  · intro h
    rcases hF with ⟨_, _, h2, h3, _⟩ | ⟨h0, _, _⟩
    · exact cn_pos (k := (ix d id n 0).1) h2 (by unfold hasId; simp [h3])
    · rw [h] at h0; cases h0
  · intro h
    obtain ⟨k, hk, hk2⟩ := cn_ex h
    rcases hF with ⟨h0, _, _, _, _⟩ | ⟨_, _, h2⟩
    · exact h0
    · exact absurd (by simpa [hasId] using hk2) (h2 k (Nat.zero_le _) hk)
theorem ix_same {d e : Nat → It} {n : Nat} (h : Same n d e) (id : Int) : (ix d id n 0).2 = (ix e id n 0).2 := by
  rw [Bool.eq_iff_iff, ix_pos, ix_pos, h (hasId id)]
theorem ix_cases (d : Nat → It) (id : Int) (n : Nat) : (∃ r, ix d id n 0 = (r, true) ∧ r < n ∧ (d r).2 = id) ∨ ix d id n 0 = (0, false) := by
  have hF := ix_fst d id n 0
  rw [Nat.zero_add] at hF
  rcases hF with ⟨h0, _, h2, h3, _⟩ | ⟨h0, h1, _⟩
  · exact .inl ⟨(ix d id n 0).1, Prod.ext rfl h0, h2, h3⟩
  · exact .inr (Prod.ext h1 h0)
theorem up_add (s : Nat) : ∀ (t j : Nat), up (s + t) j = up s (up t j)
  | 0, _ => rfl
  | t + 1, j => by rw [show s + (t + 1) = (s + t) + 1 from rfl, up_succ, up_add s t, ← up_succ]

/-- a lowered priority changes only the places from r up -/
theorem lower_road {n r : Nat} {d : Nat → It} {p : Int} (h : HeapFrom n 0 d) (hr : r < n) (hp : p < (d r).1) (k : Nat) (hk : ∀ t, up t r ≠ k) : (fx n (upd d r (p, (d r).2)) r).1 k = d k := by
  have hx : lt (p, (d r).2) (d r) = true := lt_true.2 (.inl hp)
  have hkr : k ≠ r := fun e => hk 0 e.symm
  rcases su_or (upd d r (p, (d r).2)) r with h1 | h1
  · rw [(fx_up h1.1 hr h1.2).1]
    obtain ⟨T, _, hT⟩ := su_road n (upd d r (p, (d r).2)) r
    rw [hT k (fun t _ e => hk t e.symm), upd_other d _ hkr]
  · rw [fx_down h1, sd_stop]
    · exact upd_other d _ hkr
    · by_cases hn : n / 2 ≤ r
      · exact .inl hn
      · right
        have hg := chd_gt n (upd d r (p, (d r).2)) r
        rw [upd_other d _ (by omega), upd_same]
        have hc := h (chd n (upd d r (p, (d r).2)) r) (by omega) (chd_lt _ (by omega)) (Nat.zero_le _)
        rw [chd_par] at hc
        exact le_trans (lt_asymm hx) hc
/-- a raised priority changes only the places from r downwards -/
theorem raise_road {n r : Nat} {d : Nat → It} {p : Int} (h : HeapFrom n 0 d) (hr : r < n) (hp : (d r).1 < p) (k : Nat) (hk : ∀ t, up t k ≠ r) : (fx n (upd d r (p, (d r).2)) r).1 k = d k := by
  have hx : lt (d r) (p, (d r).2) = true := lt_true.2 (.inl hp)
  have hkr : k ≠ r := fun e => hk 0 e
  have h1 : r = 0 ∨ lt (upd d r (p, (d r).2) r) (upd d r (p, (d r).2) ((r - 1) / 2)) = false := by
    by_cases h0 : r = 0
    · exact .inl h0
    · right
      rw [upd_same, upd_other d _ (by omega)]
      exact lt_asymm (le_lt (h r (by omega) hr (Nat.zero_le _)) hx)
  rw [fx_down h1]
  obtain ⟨T, hR, hT⟩ := sd_road n n (upd d r (p, (d r).2)) r
  rw [hT k, upd_other d _ hkr]
  intro t ht e
  refine hk (T - t) ?_
  rw [e, ← up_add, (by omega : T - t + t = T)]
  exact hR.1
/-- an equal priority changes nothing -/
theorem equal_road {n r : Nat} {d : Nat → It} (h : HeapFrom n 0 d) (hr : r < n) : (fx n (upd d r ((d r).1, (d r).2)) r).1 = d := by
  have e : upd d r ((d r).1, (d r).2) = d := upd_self d r
  rw [e]
  have h1 : r = 0 ∨ lt (d r) (d ((r - 1) / 2)) = false := by
    by_cases h0 : r = 0
    · exact .inl h0
    · exact .inr (h r (by omega) hr (Nat.zero_le _))
  rw [fx_down h1, sd_stop]
  by_cases hn : n / 2 ≤ r
  · exact .inl hn
  · right
    have hg := chd_gt n d r
    have hc := h (chd n d r) (by omega) (chd_lt _ (by omega)) (Nat.zero_le _)
    rwa [chd_par] at hc
end Go.Proofs.Ymbrcz
