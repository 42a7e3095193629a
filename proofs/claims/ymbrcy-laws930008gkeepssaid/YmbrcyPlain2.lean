/- Plain mathematics, second part (seat Ymbrcy): removing from a heap. No Go here. -/
import Derived.Test.YmbrcyPlain
namespace Go.Proofs.Ymbrcy

/-- what is held when the item at i of n has been removed -/
def rmv (n : Nat) (d : Nat → It) (i : Nat) : Nat → It := if i < n - 1 then (fx (n - 1) (upd d i (d (n - 1))) i).1 else upd d i (d (n - 1))
theorem rmv_heap {n : Nat} {d : Nat → It} {i : Nat} (hi : i < n) (h : HeapFrom n 0 d) : HeapFrom (n - 1) 0 (rmv n d i) := by
  have h' : HeapFrom (n - 1) 0 d := fun c a b e => h c a (by omega) e
  unfold rmv
  split
  · rename_i hlt
    exact fx_heap _ hlt h'
  · intro c a b e
    rw [upd_other d _ (by omega), upd_other d _ (by omega)]
    exact h' c a b e
theorem rmv_cn (f : It → Bool) {n : Nat} (d : Nat → It) {i : Nat} (hi : i < n) : cn f (rmv n d i) (n - 1) + (if f (d i) then 1 else 0) = cn f d n := by
  obtain ⟨l, rfl⟩ : ∃ l, n = l + 1 := ⟨n - 1, by omega⟩
  have e : cn f d (l + 1) = cn f d l + (if f (d l) then 1 else 0) := rfl
  unfold rmv
  rw [Nat.add_sub_cancel]
  split
  · rename_i hlt
    rw [fx_cn f l _ i hlt, e]
    exact cn_upd f d i (d l) l hlt
  · have : i = l := by omega
    subst this
    rw [cn_upd_out f d i _ i (Nat.le_refl _), e]
theorem cn_full {f : It → Bool} {d : Nat → It} : ∀ {n : Nat}, cn f d n = n → ∀ k, k < n → f (d k) = true
  | 0, _, k, hk => by omega
  | n + 1, h, k, hk => by
    have h' : cn f d n + (if f (d n) then 1 else 0) = n + 1 := h
    have h1 := cn_le f d n
    by_cases hf : f (d n) = true
    · rw [if_pos hf] at h'
      by_cases e : k = n
      · subst e; exact hf
      · exact cn_full (n := n) (by omega) k (by omega)
    · rw [if_neg hf] at h'
      omega
/-- whatever test all items meet, all items meet when one has gone -/
theorem rmv_all {f : It → Bool} {n : Nat} {d : Nat → It} {i : Nat} (hi : i < n) (h : ∀ k, k < n → f (d k) = true) (k : Nat) (hk : k < n - 1) : f (rmv n d i k) = true := by
  have h1 := rmv_cn f d hi
  rw [cn_all h, if_pos (h i hi)] at h1
  exact cn_full (f := f) (d := rmv n d i) (n := n - 1) (by omega) k hk

/-! ### sorting by popping -/
/-- k items have been popped into o; e holds the n - k others -/
structure Pops (n : Nat) (d : Nat → It) (k : Nat) (e o : Nat → It) : Prop where
  heap : HeapFrom (n - k) 0 e
  cnt : ∀ f, cn f o k + cn f e (n - k) = cn f d n
  srt : ∀ j, 1 ≤ j → j < k → lt (o j) (o (j - 1)) = false
  rest : 1 ≤ k → ∀ j, j < n - k → lt (e j) (o (k - 1)) = false
theorem pops_start (n : Nat) (d o : Nat → It) : Pops n d 0 (mk n d) o :=
  ⟨mk_heap n d, fun f => by rw [show cn f o 0 = 0 from rfl, Nat.zero_add]; exact mk_same n d f, fun j h1 h2 => by omega, fun h => by omega⟩
theorem Pops.step {n : Nat} {d : Nat → It} {k : Nat} {e o : Nat → It} (h : Pops n d k e o) (hk : k < n) : Pops n d (k + 1) (rmv (n - k) e 0) (upd o k (e 0)) := by
  have e1 : n - (k + 1) = n - k - 1 := by omega
  refine ⟨by rw [e1]; exact rmv_heap (by omega) h.heap, fun f => ?_, fun j h1 h2 => ?_, fun _ j hj => ?_⟩
  · have h2 : cn f (upd o k (e 0)) (k + 1) = cn f o k + (if f (e 0) then 1 else 0) := by
      show cn f (upd o k (e 0)) k + (if f (upd o k (e 0) k) then 1 else 0) = _
      rw [cn_upd_out f o k _ k (Nat.le_refl _), upd_same]
    have h3 := rmv_cn f e (n := n - k) (i := 0) (by omega)
    have h4 := h.cnt f
    rw [h2, e1]
    omega
  · by_cases ej : j = k
    · subst ej
      rw [upd_same, upd_other o _ (by omega)]
      exact h.rest h1 0 (by omega)
    · rw [upd_other o _ ej, upd_other o _ (by omega)]
      exact h.srt j h1 (by omega)
  · rw [Nat.add_sub_cancel, upd_same]
    have h5 := rmv_all (f := fun y => !lt y (e 0)) (n := n - k) (d := e) (i := 0) (by omega) (fun t ht => by
      show (!lt (e t) (e 0)) = true
      rw [heap_root h.heap t t (Nat.le_refl _) ht]; rfl) j (by omega)
    simpa using h5

/-! ### ranks: two sorted arrays of the same items are one -/
theorem cn_lo {f : It → Bool} {d : Nat → It} {m : Nat} : ∀ {n : Nat}, m ≤ n → (∀ k, m ≤ k → k < n → f (d k) = false) → cn f d n ≤ m
  | 0, _, _ => by simp [cn]
  | n + 1, h, hf => by
    by_cases e : m = n + 1
    · rw [e]; exact cn_le f d (n + 1)
    · show cn f d n + _ ≤ m
      rw [if_neg (by rw [hf n (by omega) (by omega)]; exact Bool.false_ne_true)]
      exact cn_lo (n := n) (by omega) (fun k a b => hf k a (by omega))
theorem cn_hi {f : It → Bool} {d : Nat → It} {m : Nat} : ∀ {n : Nat}, m ≤ n → (∀ k, k < m → f (d k) = true) → m ≤ cn f d n
  | 0, h, _ => by omega
  | n + 1, h, hf => by
    by_cases e : m = n + 1
    · rw [cn_all (n := n + 1) (fun k hk => hf k (by omega))]; omega
    · have := cn_hi (f := f) (d := d) (n := n) (by omega : m ≤ n) hf
      show m ≤ cn f d n + _
      omega

end Go.Proofs.Ymbrcy
