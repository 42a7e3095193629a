/- Plain mathematics for seat Ymbrcy: the order of items, sifting in an array that is a function, counts, heaps. No Go here. -/
namespace Go.Proofs.Ymbrcy

abbrev It := Int × Int

/-- the order: by priority, then by id -/
def lt (a b : It) : Bool := if (a.1 != b.1) = true then decide (a.1 < b.1) else decide (a.2 < b.2)

theorem lt_true {a b : It} : lt a b = true ↔ a.1 < b.1 ∨ (a.1 = b.1 ∧ a.2 < b.2) := by
  unfold lt
  by_cases h : a.1 = b.1 <;> simp [h]
theorem lt_false {a b : It} : lt a b = false ↔ b.1 < a.1 ∨ (a.1 = b.1 ∧ b.2 ≤ a.2) := by
  unfold lt
  by_cases h : a.1 = b.1
  · simp [h]
  · simp [h]; omega
theorem lt_self (a : It) : lt a a = false := by rw [lt_false]; omega
theorem lt_asymm {a b : It} (h : lt a b = true) : lt b a = false := by rw [lt_true] at h; rw [lt_false]; omega
theorem le_trans {a b c : It} (h : lt b a = false) (k : lt c b = false) : lt c a = false := by rw [lt_false] at *; omega
theorem lt_le {a b c : It} (h : lt a b = true) (k : lt c b = false) : lt a c = true := by rw [lt_true] at *; rw [lt_false] at k; omega
theorem le_lt {a b c : It} (h : lt b a = false) (k : lt b c = true) : lt a c = true := by rw [lt_true] at *; rw [lt_false] at h; omega
theorem lt_trans {a b c : It} (h : lt a b = true) (k : lt b c = true) : lt a c = true := le_lt (lt_asymm h) k
theorem le_anti {a b : It} (h : lt a b = false) (k : lt b a = false) : a = b := by
  rw [lt_false] at *
  apply Prod.ext <;> omega
theorem before_eq (a b : It) : (decide (a.1 < b.1) || (a.1 == b.1 && decide (a.2 < b.2))) = lt a b := by
  rw [Bool.eq_iff_iff, lt_true]; simp

/-- one place written -/
def upd (d : Nat → It) (i : Nat) (x : It) : Nat → It := fun k => if k = i then x else d k
/-- two places exchanged -/
def swp (d : Nat → It) (i j : Nat) : Nat → It := upd (upd d i (d j)) j (d i)

theorem upd_same (d : Nat → It) (i : Nat) (x : It) : upd d i x i = x := by simp [upd]
theorem upd_other (d : Nat → It) {i k : Nat} (x : It) (h : k ≠ i) : upd d i x k = d k := by simp [upd, h]
theorem swp_left (d : Nat → It) (i j : Nat) : swp d i j i = d j := by
  unfold swp upd
  by_cases h : i = j <;> simp [h]
theorem swp_right (d : Nat → It) (i j : Nat) : swp d i j j = d i := by simp [swp, upd]
theorem swp_other (d : Nat → It) {i j k : Nat} (h1 : k ≠ i) (h2 : k ≠ j) : swp d i j k = d k := by simp [swp, upd, h1, h2]
theorem upd_upd (d : Nat → It) (i : Nat) (x y : It) : upd (upd d i x) i y = upd d i y := by
  funext k; unfold upd; by_cases h : k = i <;> simp [h]
theorem upd_self (d : Nat → It) (i : Nat) : upd d i (d i) = d := by
  funext k; unfold upd; by_cases h : k = i <;> simp [h]

/-! ### how often a test holds among the first n -/
def cn (f : It → Bool) (d : Nat → It) : Nat → Nat
  | 0 => 0
  | n + 1 => cn f d n + (if f (d n) then 1 else 0)

theorem cn_congr {f : It → Bool} {d e : Nat → It} : ∀ {n : Nat}, (∀ k, k < n → d k = e k) → cn f d n = cn f e n
  | 0, _ => rfl
  | n + 1, h => by
    show cn f d n + _ = cn f e n + _
    rw [cn_congr (fun k hk => h k (by omega)), h n (by omega)]
theorem cn_upd (f : It → Bool) (d : Nat → It) (i : Nat) (x : It) : ∀ n, i < n → cn f (upd d i x) n + (if f (d i) then 1 else 0) = cn f d n + (if f x then 1 else 0)
  | 0, h => by omega
  | n + 1, h => by
    show cn f (upd d i x) n + _ + _ = cn f d n + _ + _
    by_cases e : i = n
    · subst e
      rw [upd_same, cn_congr (d := upd d i x) (e := d) (fun k hk => upd_other d x (by omega))]
      omega
    · rw [upd_other d x (by omega : n ≠ i)]
      have := cn_upd f d i x n (by omega)
      omega
theorem cn_upd_out (f : It → Bool) (d : Nat → It) (i : Nat) (x : It) (n : Nat) (h : n ≤ i) : cn f (upd d i x) n = cn f d n :=
  cn_congr fun k hk => upd_other d x (by omega)
theorem cn_swp (f : It → Bool) (d : Nat → It) (i j n : Nat) (hi : i < n) (hj : j < n) : cn f (swp d i j) n = cn f d n := by
  by_cases e : i = j
  · subst e
    unfold swp
    rw [upd_self, upd_self]
  · have h1 := cn_upd f d i (d j) n hi
    have h2 := cn_upd f (upd d i (d j)) j (d i) n hj
    rw [upd_other d (d j) (fun h => e h.symm : j ≠ i)] at h2
    unfold swp
    omega
theorem cn_le (f : It → Bool) (d : Nat → It) : ∀ n, cn f d n ≤ n
  | 0 => Nat.le_refl _
  | n + 1 => by
    show cn f d n + _ ≤ _
    have := cn_le f d n
    split <;> omega
theorem cn_mono {f g : It → Bool} {d : Nat → It} : ∀ {n : Nat}, (∀ k, k < n → f (d k) = true → g (d k) = true) → cn f d n ≤ cn g d n
  | 0, _ => Nat.le_refl _
  | n + 1, h => by
    show cn f d n + _ ≤ cn g d n + _
    have h1 := cn_mono (n := n) (fun k hk => h k (by omega))
    have h2 := h n (by omega)
    by_cases hf : f (d n) = true
    · simp [hf, h2 hf]; exact h1
    · simp [hf]; omega
theorem cn_split (f g : It → Bool) (d : Nat → It) : ∀ n, cn (fun x => f x && g x) d n + cn (fun x => f x && !g x) d n = cn f d n
  | 0 => rfl
  | n + 1 => by
    show cn _ d n + _ + (cn _ d n + _) = cn f d n + _
    have := cn_split f g d n
    by_cases hf : f (d n) = true <;> by_cases hg : g (d n) = true <;> simp [hf, hg] <;> omega
theorem cn_all {f : It → Bool} {d : Nat → It} : ∀ {n : Nat}, (∀ k, k < n → f (d k) = true) → cn f d n = n
  | 0, _ => rfl
  | n + 1, h => by
    show cn f d n + _ = _
    rw [cn_all (fun k hk => h k (by omega)), if_pos (h n (by omega))]
theorem cn_none {f : It → Bool} {d : Nat → It} : ∀ {n : Nat}, (∀ k, k < n → f (d k) = false) → cn f d n = 0
  | 0, _ => rfl
  | n + 1, h => by
    show cn f d n + _ = _
    rw [cn_none (fun k hk => h k (by omega)), h n (by omega)]; rfl
theorem cn_pos {f : It → Bool} {d : Nat → It} {k : Nat} : ∀ {n : Nat}, k < n → f (d k) = true → 1 ≤ cn f d n
  | 0, h, _ => by omega
  | n + 1, h, hf => by
    show 1 ≤ cn f d n + _
    by_cases e : k = n
    · subst e; rw [if_pos hf]; omega
    · have := cn_pos (n := n) (by omega) hf
      omega
theorem cn_ex {f : It → Bool} {d : Nat → It} : ∀ {n : Nat}, 1 ≤ cn f d n → ∃ k, k < n ∧ f (d k) = true
  | 0, h => by simp [cn] at h
  | n + 1, h => by
    by_cases hf : f (d n) = true
    · exact ⟨n, by omega, hf⟩
    · have h' : 1 ≤ cn f d n + (if f (d n) then 1 else 0) := h
      rw [if_neg hf] at h'
      obtain ⟨k, hk, hk'⟩ := cn_ex (n := n) (by omega)
      exact ⟨k, by omega, hk'⟩
/-- the same items, counted with repetition -/
def Same (n : Nat) (d e : Nat → It) : Prop := ∀ f, cn f d n = cn f e n
theorem Same.refl (n : Nat) (d : Nat → It) : Same n d d := fun _ => rfl
theorem Same.trans {n : Nat} {d e g : Nat → It} (h : Same n d e) (k : Same n e g) : Same n d g := fun f => (h f).trans (k f)
theorem Same.symm {n : Nat} {d e : Nat → It} (h : Same n d e) : Same n e d := fun f => (h f).symm

/-! ### sifting up -/
def su : Nat → (Nat → It) → Nat → (Nat → It) × Nat
  | 0, d, i => (d, i)
  | f + 1, d, i => if 0 < i ∧ lt (d i) (d ((i - 1) / 2)) = true then su f (swp d i ((i - 1) / 2)) ((i - 1) / 2) else (d, i)

theorem su_go {f : Nat} {d : Nat → It} {i : Nat} (h : 0 < i) (hl : lt (d i) (d ((i - 1) / 2)) = true) : su (f + 1) d i = su f (swp d i ((i - 1) / 2)) ((i - 1) / 2) := by
  show (if _ then _ else _) = _
  rw [if_pos ⟨h, hl⟩]
theorem su_stop {f : Nat} {d : Nat → It} {i : Nat} (h : i = 0 ∨ lt (d i) (d ((i - 1) / 2)) = false) : su f d i = (d, i) := by
  cases f with
  | zero => rfl
  | succ f =>
    show (if _ then _ else _) = _
    rw [if_neg]
    rintro ⟨h1, h2⟩
    rcases h with h | h
    · omega
    · rw [h] at h2; cases h2
theorem su_le : ∀ (f : Nat) (d : Nat → It) (i : Nat), (su f d i).2 ≤ i
  | 0, _, _ => Nat.le_refl _
  | f + 1, d, i => by
    by_cases h : 0 < i ∧ lt (d i) (d ((i - 1) / 2)) = true
    · rw [su_go h.1 h.2]
      have := su_le f (swp d i ((i - 1) / 2)) ((i - 1) / 2)
      omega
    · rw [su_stop (by rcases Nat.eq_zero_or_pos i with h0 | h0; exact .inl h0; right; cases hl : lt (d i) (d ((i - 1) / 2)); rfl; exact absurd ⟨h0, hl⟩ h)]
      exact Nat.le_refl _
theorem su_cn (f : It → Bool) (n : Nat) : ∀ (g : Nat) (d : Nat → It) (i : Nat), i < n → cn f (su g d i).1 n = cn f d n
  | 0, _, _, _ => rfl
  | g + 1, d, i, hi => by
    by_cases h : 0 < i ∧ lt (d i) (d ((i - 1) / 2)) = true
    · rw [su_go h.1 h.2, su_cn f n g _ _ (by omega), cn_swp f d i _ n hi (by omega)]
    · rw [su_stop (by rcases Nat.eq_zero_or_pos i with h0 | h0; exact .inl h0; right; cases hl : lt (d i) (d ((i - 1) / 2)); rfl; exact absurd ⟨h0, hl⟩ h)]
/-- the item of place i lies at the answered place -/
theorem su_at : ∀ (g : Nat) (d : Nat → It) (i : Nat), (su g d i).1 (su g d i).2 = d i
  | 0, _, _ => rfl
  | g + 1, d, i => by
    by_cases h : 0 < i ∧ lt (d i) (d ((i - 1) / 2)) = true
    · rw [su_go h.1 h.2, su_at g, swp_right]
    · rw [su_stop (by rcases Nat.eq_zero_or_pos i with h0 | h0; exact .inl h0; right; cases hl : lt (d i) (d ((i - 1) / 2)); rfl; exact absurd ⟨h0, hl⟩ h)]
/-- it does not stop short -/
theorem su_rest : ∀ (g : Nat) (d : Nat → It) (i : Nat), i ≤ g → (su g d i).2 = 0 ∨ lt ((su g d i).1 (su g d i).2) ((su g d i).1 (((su g d i).2 - 1) / 2)) = false
  | 0, _, i, h => .inl (by have : i = 0 := by omega
                           subst this; rfl)
  | g + 1, d, i, hg => by
    by_cases h : 0 < i ∧ lt (d i) (d ((i - 1) / 2)) = true
    · rw [su_go h.1 h.2]
      exact su_rest g _ _ (by omega)
    · have hs : i = 0 ∨ lt (d i) (d ((i - 1) / 2)) = false := by
        rcases Nat.eq_zero_or_pos i with h0 | h0
        · exact .inl h0
        · right
          cases hl : lt (d i) (d ((i - 1) / 2))
          · rfl
          · exact absurd ⟨h0, hl⟩ h
      rw [su_stop hs]
      exact hs
/-- places above i are left alone -/
theorem su_above : ∀ (g : Nat) (d : Nat → It) (i k : Nat), i < k → (su g d i).1 k = d k
  | 0, _, _, _, _ => rfl
  | g + 1, d, i, k, hk => by
    by_cases h : 0 < i ∧ lt (d i) (d ((i - 1) / 2)) = true
    · rw [su_go h.1 h.2, su_above g _ _ _ (by omega), swp_other d (by omega) (by omega)]
    · rw [su_stop (by rcases Nat.eq_zero_or_pos i with h0 | h0; exact .inl h0; right; cases hl : lt (d i) (d ((i - 1) / 2)); rfl; exact absurd ⟨h0, hl⟩ h)]

/-! ### sifting down, n items -/
/-- the smaller child, the left one when they are equal -/
def chd (n : Nat) (d : Nat → It) (i : Nat) : Nat := if 2 * i + 2 < n ∧ lt (d (2 * i + 2)) (d (2 * i + 1)) = true then 2 * i + 2 else 2 * i + 1
theorem chd_cases (n : Nat) (d : Nat → It) (i : Nat) : chd n d i = 2 * i + 1 ∨ (chd n d i = 2 * i + 2 ∧ 2 * i + 2 < n) := by
  unfold chd; split
  · rename_i h; exact .inr ⟨rfl, h.1⟩
  · exact .inl rfl
theorem chd_par (n : Nat) (d : Nat → It) (i : Nat) : (chd n d i - 1) / 2 = i := by rcases chd_cases n d i with h | ⟨h, _⟩ <;> omega
theorem chd_gt (n : Nat) (d : Nat → It) (i : Nat) : i < chd n d i := by rcases chd_cases n d i with h | ⟨h, _⟩ <;> omega
theorem chd_lt {n : Nat} (d : Nat → It) {i : Nat} (h : i < n / 2) : chd n d i < n := by rcases chd_cases n d i with h | ⟨h, _⟩ <;> omega
/-- no child comes before the chosen one -/
theorem chd_least {n : Nat} (d : Nat → It) {i c : Nat} (h0 : 1 ≤ c) (hc : c < n) (hp : (c - 1) / 2 = i) : lt (d c) (d (chd n d i)) = false := by
  have h2 : c = 2 * i + 1 ∨ c = 2 * i + 2 := by omega
  unfold chd
  split
  · rename_i h
    rcases h2 with h2 | h2
    · rw [h2]; exact lt_asymm h.2
    · rw [h2]; exact lt_self _
  · rename_i h
    rcases h2 with h2 | h2
    · rw [h2]; exact lt_self _
    · rw [h2]
      cases hl : lt (d (2 * i + 2)) (d (2 * i + 1))
      · rfl
      · exact absurd ⟨by omega, hl⟩ h

def sd (n : Nat) : Nat → (Nat → It) → Nat → (Nat → It) × Nat
  | 0, d, i => (d, i)
  | f + 1, d, i => if i < n / 2 ∧ lt (d (chd n d i)) (d i) = true then sd n f (swp d i (chd n d i)) (chd n d i) else (d, i)

theorem sd_go {n f : Nat} {d : Nat → It} {i : Nat} (h : i < n / 2) (hl : lt (d (chd n d i)) (d i) = true) : sd n (f + 1) d i = sd n f (swp d i (chd n d i)) (chd n d i) := by
  show (if _ then _ else _) = _
  rw [if_pos ⟨h, hl⟩]
theorem sd_stop {n f : Nat} {d : Nat → It} {i : Nat} (h : n / 2 ≤ i ∨ lt (d (chd n d i)) (d i) = false) : sd n f d i = (d, i) := by
  cases f with
  | zero => rfl
  | succ f =>
    show (if _ then _ else _) = _
    rw [if_neg]
    rintro ⟨h1, h2⟩
    rcases h with h | h
    · omega
    · rw [h] at h2; cases h2
theorem sd_or (n : Nat) (d : Nat → It) (i : Nat) : (i < n / 2 ∧ lt (d (chd n d i)) (d i) = true) ∨ (n / 2 ≤ i ∨ lt (d (chd n d i)) (d i) = false) := by
  by_cases h : i < n / 2
  · cases hl : lt (d (chd n d i)) (d i)
    · exact .inr (.inr rfl)
    · exact .inl ⟨h, rfl⟩
  · exact .inr (.inl (by omega))
theorem su_or (d : Nat → It) (i : Nat) : (0 < i ∧ lt (d i) (d ((i - 1) / 2)) = true) ∨ (i = 0 ∨ lt (d i) (d ((i - 1) / 2)) = false) := by
  by_cases h : i = 0
  · exact .inr (.inl h)
  · cases hl : lt (d i) (d ((i - 1) / 2))
    · exact .inr (.inr rfl)
    · exact .inl ⟨by omega, rfl⟩
theorem sd_ge (n : Nat) : ∀ (f : Nat) (d : Nat → It) (i : Nat), i ≤ (sd n f d i).2
  | 0, _, _ => Nat.le_refl _
  | f + 1, d, i => by
    rcases sd_or n d i with h | h
    · rw [sd_go h.1 h.2]
      have := sd_ge n f (swp d i (chd n d i)) (chd n d i)
      have := chd_gt n d i
      omega
    · rw [sd_stop h]; exact Nat.le_refl _
theorem sd_lt (n : Nat) : ∀ (f : Nat) (d : Nat → It) (i : Nat), i < n → (sd n f d i).2 < n
  | 0, _, _, h => h
  | f + 1, d, i, hi => by
    rcases sd_or n d i with h | h
    · rw [sd_go h.1 h.2]
      exact sd_lt n f _ _ (chd_lt d h.1)
    · rw [sd_stop h]; exact hi
theorem sd_cn (f : It → Bool) (n : Nat) : ∀ (g : Nat) (d : Nat → It) (i : Nat), cn f (sd n g d i).1 n = cn f d n
  | 0, _, _ => rfl
  | g + 1, d, i => by
    rcases sd_or n d i with h | h
    · rw [sd_go h.1 h.2, sd_cn f n g, cn_swp f d i _ n (by omega) (chd_lt d h.1)]
    · rw [sd_stop h]
theorem sd_at (n : Nat) : ∀ (g : Nat) (d : Nat → It) (i : Nat), (sd n g d i).1 (sd n g d i).2 = d i
  | 0, _, _ => rfl
  | g + 1, d, i => by
    rcases sd_or n d i with h | h
    · rw [sd_go h.1 h.2, sd_at n g, swp_right]
    · rw [sd_stop h]
/-- places below i are left alone -/
theorem sd_below (n : Nat) : ∀ (g : Nat) (d : Nat → It) (i k : Nat), k < i → (sd n g d i).1 k = d k
  | 0, _, _, _, _ => rfl
  | g + 1, d, i, k, hk => by
    rcases sd_or n d i with h | h
    · have := chd_gt n d i
      rw [sd_go h.1 h.2, sd_below n g _ _ _ (by omega), swp_other d (by omega) (by omega)]
    · rw [sd_stop h]
/-- places from n on are left alone -/
theorem sd_out (n : Nat) : ∀ (g : Nat) (d : Nat → It) (i k : Nat), n ≤ k → (sd n g d i).1 k = d k
  | 0, _, _, _, _ => rfl
  | g + 1, d, i, k, hk => by
    rcases sd_or n d i with h | h
    · have := chd_lt d h.1
      rw [sd_go h.1 h.2, sd_out n g _ _ _ hk, swp_other d (by omega) (by omega)]
    · rw [sd_stop h]

/-! ### heaps -/
/-- no item comes before its parent, for the parents from s on -/
def HeapFrom (n s : Nat) (d : Nat → It) : Prop := ∀ c, 1 ≤ c → c < n → s ≤ (c - 1) / 2 → lt (d c) (d ((c - 1) / 2)) = false
/-- the same, the children of i left out; and the children of i do not come before i's parent -/
def HeapBut (n s i : Nat) (d : Nat → It) : Prop :=
  (∀ c, 1 ≤ c → c < n → s ≤ (c - 1) / 2 → (c - 1) / 2 ≠ i → lt (d c) (d ((c - 1) / 2)) = false) ∧
  (∀ c, 1 ≤ i → s ≤ (i - 1) / 2 → 1 ≤ c → c < n → (c - 1) / 2 = i → lt (d c) (d ((i - 1) / 2)) = false)
theorem sd_heap (n s : Nat) : ∀ (g : Nat) (d : Nat → It) (i : Nat), n ≤ i + g → s ≤ i → i < n ∨ n = 0 → HeapBut n s i d → HeapFrom n s (sd n g d i).1
  | 0, d, i, hg, _, hi, _ => fun c h1 h2 _ => by omega
  | g + 1, d, i, hg, hs, hi, ⟨hA, hB⟩ => by
    rcases sd_or n d i with h | h
    · rw [sd_go h.1 h.2]
      have hc1 := chd_gt n d i
      have hc2 := chd_lt d h.1
      have hcp := chd_par n d i
      have hcl : ∀ c, 1 ≤ c → c < n → (c - 1) / 2 = i → lt (d c) (d (chd n d i)) = false := fun c a b e => chd_least d a b e
      generalize chd n d i = m at *
      refine sd_heap n s g _ m (by omega) (by omega) (.inl hc2) ⟨fun c a b e ne => ?_, fun c _ e a b ep => ?_⟩
      · by_cases hci : c = i
        · subst hci
          rw [swp_left, swp_other d (by omega) (by omega)]
          exact hB m (by omega) e (by omega) hc2 hcp
        · by_cases hcm : c = m
          · subst hcm
            rw [swp_right, hcp, swp_left]
            exact lt_asymm h.2
          · rw [swp_other d hci hcm]
            by_cases hpi : (c - 1) / 2 = i
            · rw [hpi, swp_left]
              exact hcl c a b hpi
            · rw [swp_other d hpi ne]
              exact hA c a b e hpi
      · rw [hcp, swp_left, swp_other d (by omega) (by omega)]
        have := hA c a b (by omega) (by omega)
        rwa [ep] at this
    · rw [sd_stop h]
      intro c a b e
      by_cases hpi : (c - 1) / 2 = i
      · rcases h with h | h
        · omega
        · rw [hpi]
          exact le_trans h (chd_least d a b hpi)
      · exact hA c a b e hpi
/-- no item comes before its parent but perhaps that at i; and the children of i do not come before i's parent -/
def HeapUp (n i : Nat) (d : Nat → It) : Prop :=
  (∀ c, 1 ≤ c → c < n → c ≠ i → lt (d c) (d ((c - 1) / 2)) = false) ∧
  (∀ c, 1 ≤ i → 1 ≤ c → c < n → (c - 1) / 2 = i → lt (d c) (d ((i - 1) / 2)) = false)
theorem su_heap (n : Nat) : ∀ (g : Nat) (d : Nat → It) (i : Nat), i ≤ g → i < n → HeapUp n i d → HeapFrom n 0 (su g d i).1
  | 0, d, i, hg, _, hH => fun c a b _ => hH.1 c a b (by omega)
  | g + 1, d, i, hg, hi, ⟨hA, hB⟩ => by
    rcases su_or d i with h | h
    · rw [su_go h.1 h.2]
      obtain ⟨h0, hl⟩ := h
      have hpi : (i - 1) / 2 < i := by omega
      obtain ⟨p, hp⟩ : ∃ p, p = (i - 1) / 2 := ⟨_, rfl⟩
      rw [← hp] at hl hpi ⊢
      simp only [← hp] at hB
      refine su_heap n g _ p (by omega) (by omega) ⟨fun c a b ne => ?_, fun c e a b ep => ?_⟩
      · by_cases hci : c = i
        · subst hci
          rw [swp_left, ← hp, swp_right]
          exact lt_asymm hl
        · rw [swp_other d hci ne]
          by_cases hc2 : (c - 1) / 2 = i
          · rw [hc2, swp_left]
            exact hB c h0 a b hc2
          · by_cases hc3 : (c - 1) / 2 = p
            · rw [hc3, swp_right]
              have := hA c a b hci
              rw [hc3] at this
              exact le_trans (lt_asymm hl) this
            · rw [swp_other d hc2 hc3]
              exact hA c a b hci
      · rw [swp_other d (by omega : (p - 1) / 2 ≠ i) (by omega)]
        have hpp := hA p e (by omega) (by omega)
        by_cases hci : c = i
        · subst hci
          rw [swp_left]
          exact hpp
        · rw [swp_other d hci (by omega)]
          have := hA c a b hci
          rw [ep] at this
          exact le_trans hpp this
    · rw [su_stop h]
      intro c a b _
      by_cases hci : c = i
      · subst hci
        rcases h with h | h
        · omega
        · exact h
      · exact hA c a b hci
/-- the root of a heap is least -/
theorem heap_root {n : Nat} {d : Nat → It} (h : HeapFrom n 0 d) : ∀ (g k : Nat), k ≤ g → k < n → lt (d k) (d 0) = false
  | 0, k, hg, _ => by
    have : k = 0 := by omega
    subst this; exact lt_self _
  | g + 1, k, hg, hk => by
    by_cases h0 : k = 0
    · subst h0; exact lt_self _
    · exact le_trans (heap_root h g ((k - 1) / 2) (by omega) (by omega)) (h k (by omega) hk (by omega))

/-! ### building a heap: places k - 1 down to 0 are sifted -/
def hb (n : Nat) : Nat → (Nat → It) → (Nat → It)
  | 0, d => d
  | k + 1, d => hb n k (sd n n d k).1
theorem hb_heap (n : Nat) : ∀ (k : Nat) (d : Nat → It), k ≤ n → HeapFrom n k d → HeapFrom n 0 (hb n k d)
  | 0, _, _, h => h
  | k + 1, d, hk, h => by
    refine hb_heap n k _ (by omega) (sd_heap n k n d k (by omega) (Nat.le_refl _) (by omega) ⟨fun c a b e ne => h c a b (by omega), fun c e1 e2 _ _ _ => by omega⟩)
theorem hb_cn (f : It → Bool) (n : Nat) : ∀ (k : Nat) (d : Nat → It), cn f (hb n k d) n = cn f d n
  | 0, _ => rfl
  | k + 1, d => by
    show cn f (hb n k _) n = _
    rw [hb_cn f n k, sd_cn f n]
/-- what FromItems builds -/
def mk (n : Nat) (d : Nat → It) : Nat → It := hb n (n / 2) d
theorem mk_heap (n : Nat) (d : Nat → It) : HeapFrom n 0 (mk n d) := hb_heap n (n / 2) d (by omega) (fun c a b e => by omega)
theorem mk_same (n : Nat) (d : Nat → It) : Same n (mk n d) d := fun f => hb_cn f n (n / 2) d

/-! ### Fix -/
def fx (n : Nat) (d : Nat → It) (i : Nat) : (Nat → It) × Nat := if (su n d i).2 < i then su n d i else sd n n (su n d i).1 i
theorem su_eq_of_rest {f : Nat} {d : Nat → It} {i : Nat} (h : ¬ (su f d i).2 < i) : su f d i = (d, i) := by
  cases f with
  | zero => rfl
  | succ f =>
    rcases su_or d i with h1 | h1
    · rw [su_go h1.1 h1.2] at h
      have := su_le f (swp d i ((i - 1) / 2)) ((i - 1) / 2)
      omega
    · exact su_stop h1
theorem fx_up {n : Nat} {d : Nat → It} {i : Nat} (h0 : 0 < i) (hi : i < n) (hl : lt (d i) (d ((i - 1) / 2)) = true) : fx n d i = su n d i ∧ (su n d i).2 < i := by
  have h : (su n d i).2 < i := by
    obtain ⟨m, rfl⟩ : ∃ m, n = m + 1 := ⟨n - 1, by omega⟩
    rw [su_go h0 hl]
    have := su_le m (swp d i ((i - 1) / 2)) ((i - 1) / 2)
    omega
  unfold fx
  rw [if_pos h]
  exact ⟨rfl, h⟩
theorem fx_down {n : Nat} {d : Nat → It} {i : Nat} (h : i = 0 ∨ lt (d i) (d ((i - 1) / 2)) = false) : fx n d i = sd n n d i := by
  unfold fx
  rw [su_stop h, if_neg (by simp)]
theorem fx_cn (f : It → Bool) (n : Nat) (d : Nat → It) (i : Nat) (hi : i < n) : cn f (fx n d i).1 n = cn f d n := by
  unfold fx
  split
  · exact su_cn f n n d i hi
  · rw [sd_cn, su_cn f n n d i hi]
theorem fx_at (n : Nat) (d : Nat → It) (i : Nat) : (fx n d i).1 (fx n d i).2 = d i := by
  rcases su_or d i with h | h
  · unfold fx
    split
    · exact su_at n d i
    · rename_i hr
      rw [su_eq_of_rest hr]
      exact sd_at n n d i
  · rw [fx_down h]
    exact sd_at n n d i
theorem fx_lt (n : Nat) (d : Nat → It) (i : Nat) (hi : i < n) : (fx n d i).2 < n := by
  unfold fx
  split
  · omega
  · exact sd_lt n n _ i hi
/-- a valid heap, the item at i replaced: Fix makes it valid again -/
theorem fx_heap {n : Nat} {d : Nat → It} {i : Nat} (x : It) (hi : i < n) (h : HeapFrom n 0 d) : HeapFrom n 0 (fx n (upd d i x) i).1 := by
  rcases su_or (upd d i x) i with h1 | h1
  · rw [(fx_up h1.1 hi h1.2).1]
    obtain ⟨h0, hl⟩ := h1
    rw [upd_same, upd_other d x (by omega : (i - 1) / 2 ≠ i)] at hl
    refine su_heap n n _ i (by omega) hi ⟨fun c a b ne => ?_, fun c _ a b e => ?_⟩
    · rw [upd_other d x ne]
      by_cases hp : (c - 1) / 2 = i
      · rw [hp, upd_same]
        have h2 := h c a b (by omega)
        rw [hp] at h2
        exact le_trans (lt_asymm hl) (le_trans (h i (by omega) hi (by omega)) h2)
      · rw [upd_other d x hp]
        exact h c a b (by omega)
    · rw [upd_other d x (by omega), upd_other d x (by omega)]
      have h2 := h c a b (by omega)
      rw [e] at h2
      exact le_trans (h i (by omega) hi (by omega)) h2
  · rw [fx_down h1]
    refine sd_heap n 0 n _ i (by omega) (Nat.zero_le _) (.inl hi) ⟨fun c a b _ ne => ?_, fun c e _ a b ep => ?_⟩
    · by_cases hci : c = i
      · subst hci
        rcases h1 with h1 | h1
        · omega
        · exact h1
      · rw [upd_other d x hci, upd_other d x ne]
        exact h c a b (by omega)
    · rw [upd_other d x (by omega), upd_other d x (by omega)]
      have h2 := h c a b (by omega)
      rw [ep] at h2
      exact le_trans (h i (by omega) hi (by omega)) h2

end Go.Proofs.Ymbrcy
