/- Ranks in a sorted array (seat Ymbrcx). No Go here but the word 'Srt'. -/
import Derived.Test.YmbrcxPlain2
import Derived.Test.YmbrcxSrt
namespace Go.Proofs.Ymbrcx

def before (x y : It) : Bool := lt y x
def alike (x y : It) : Bool := !lt y x && !lt x y
def notAfter (x y : It) : Bool := !lt x y
theorem cn_alike (x : It) (d : Nat → It) : ∀ n, cn (before x) d n + cn (alike x) d n = cn (notAfter x) d n
  | 0 => rfl
  | n + 1 => by
    show cn (before x) d n + _ + (cn (alike x) d n + _) = cn (notAfter x) d n + _
    have := cn_alike x d n
    unfold before alike notAfter at *
    cases h1 : lt (d n) x <;> cases h2 : lt x (d n)
    · simp; omega
    · simp; omega
    · simp; omega
    · rw [lt_asymm h1] at h2; cases h2
theorem rank_lo {n : Nat} {o : Nat → It} (h : Srt n o) {k : Nat} (hk : k < n) : cn (before (o k)) o n ≤ k :=
  cn_lo (by omega) fun j h1 h2 => by
    show lt (o j) (o k) = false
    by_cases e : j = k
    · subst e; exact lt_self _
    · exact h.pairs k j (by omega) h2
theorem rank_hi {n : Nat} {o : Nat → It} (h : Srt n o) {k : Nat} (hk : k < n) : k + 1 ≤ cn (notAfter (o k)) o n :=
  cn_hi (by omega) fun j h1 => by
    show (!lt (o k) (o j)) = true
    by_cases e : j = k
    · subst e; rw [lt_self]; rfl
    · rw [h.pairs j k (by omega) hk]; rfl
theorem srt_one {n : Nat} {o p : Nat → It} (ho : Srt n o) (hp : Srt n p) (hs : Same n o p) (k : Nat) (hk : k < n) : o k = p k := by
  have key : ∀ {o p : Nat → It}, Srt n o → Srt n p → Same n o p → lt (o k) (p k) = false := by
    intro o p ho hp hs
    cases hl : lt (o k) (p k)
    · rfl
    · exfalso
      have h1 := rank_hi ho hk
      have h2 := rank_lo hp hk
      have h3 : cn (notAfter (o k)) o n ≤ cn (before (p k)) o n := cn_mono fun j _ hf => by
        have hf' : lt (o k) (o j) = false := by simpa [notAfter] using hf
        exact le_lt hf' hl
      have h4 := hs (before (p k))
      omega
  exact le_anti (key ho hp hs) (key hp ho hs.symm)
end Go.Proofs.Ymbrcx
