/- The proof of Rows.LawS930008ATotalSaid (seat Ymbrcx): the row over the walk. -/
import Derived.Test.YmbrcxRows
import Derived.Test.YmbrcxOpen
import Derived.Test.YmbrcxLawS930008ATotalWalk
namespace Go.Proofs.Ymbrcx.lawS930008ATotal
open Go.RowKit Go.Sort Go.ChangeShapes Go.WideShapes Go.ChangeAt
set_option linter.unusedVariables false

set_option maxRecDepth 100000 in
theorem lifted (os : Os) (started : os.Started) (H : Type) (enc : TypeId × Value → H) :
    ReturnsInHanded {} Ycxm.checked os 4 .any (Rows.lawS930008ATotalSpec.pre6 enc Ycxm.prog Ycxm.f4 Rows.lawS930008ATotalRow.domain false) (Rows.lawS930008ATotalSpec.post enc Ycxm.prog Ycxm.f4 false true false false) := by
  refine returnsInHanded_of_change (C := Ycxm.checked) own started (by kernel_rfl) Ycxm.func4
    (ChangeSpec.witness6 (enc := enc) (C := Ycxm.checked) false ⟨#[], #[.int .i64 0, .int .u32 0, .int .i64 0, .int .u32 0, .bool false], []⟩ 8 (by kernel_rfl) (by kernel_rfl) (by kernel_rfl) (by kernel_rfl)) ?_
  intro W base args ds gs before hval0 hW hcnd _
  have hval : ∀ (j : Nat) t v, Ycxm.f4.params[j]? = some t → args[j]? = some v → Value.okWide Ycxm.prog W .any base t v := hval0
  have hW' := hW
  obtain ⟨p, q, hA0, hV, rfl, hfz, hnd⟩ := hW
  have hA : DataW.TrodAll enc Ycxm.prog W 0 (fun _ => true) true Ycxm.f4.params.toList args.toList ds p := hA0
  rw [Ycxm.params4] at hA hval
  obtain ⟨v0, vs0, d0, ds0, p0, q0, hargs, rfl, rfl, h0, r0⟩ := trodAll_cons hA
  obtain ⟨v1, vs1, d1, ds1, p1, q1, rfl, rfl, rfl, h1, r1⟩ := trodAll_cons r0
  obtain ⟨v2, vs2, d2, ds2, p2, q2, rfl, rfl, rfl, h2, r2⟩ := trodAll_cons r1
  obtain ⟨v3, vs3, d3, ds3, p3, q3, rfl, rfl, rfl, h3, r3⟩ := trodAll_cons r2
  obtain ⟨v4, vs4, d4, ds4, p4, q4, rfl, rfl, rfl, h4, r4⟩ := trodAll_cons r3
  obtain ⟨rfl, rfl, rfl⟩ := trodAll_nil r4
  obtain rfl : args = #[v0, v1, v2, v3, v4] := by cases args; simp_all
  obtain ⟨rfl, rfl⟩ := trodVars_none hV
  obtain ⟨a0, rfl, rfl, rfl, w0⟩ := open_int Ycxm.underlying2 (hval 0 2 v0 rfl rfl) h0
  obtain ⟨a1, rfl, rfl, rfl, w1⟩ := open_int Ycxm.underlying22 (hval 1 22 v1 rfl rfl) h1
  obtain ⟨a2, rfl, rfl, rfl, w2⟩ := open_int Ycxm.underlying2 (hval 2 2 v2 rfl rfl) h2
  obtain ⟨a3, rfl, rfl, rfl, w3⟩ := open_int Ycxm.underlying22 (hval 3 22 v3 rfl rfl) h3
  obtain ⟨a4, rfl, rfl, rfl⟩ := open_bool Ycxm.underlying4 (hval 4 4 v4 rfl rfl) h4
  clear hA0 hval0
  refine (walk a0 a1 a2 a3 a4 W w0 w1 w2 w3).mono fun e W' ⟨he, bel⟩ => ?_
  subst he
  exact ⟨_, rfl, _, _, _, [], _, [], hW', trodAll_mk1 (shut_bool Ycxm.underlying4 _), (trodAll_cons_mk (shut_int Ycxm.underlying2 w0) (trodAll_cons_mk (shut_int Ycxm.underlying22 w1) (trodAll_cons_mk (shut_int Ycxm.underlying2 w2) (trodAll_cons_mk (shut_int Ycxm.underlying22 w3) (trodAll_cons_mk (shut_bool Ycxm.underlying4 a4) trodAll_mk0))))), rfl, bel.frame _, fun h => by cases h⟩

theorem proved : Rows.LawS930008ATotalSaid :=
  OpenClaim.holds_of_wide 4 Ycxm.f4 rfl rfl rfl rfl rfl rfl rfl ⟨rfl, rfl, rfl, rfl, rfl⟩ rfl rfl rfl rfl rfl (by kernel_rfl) Ycxm.func4 (by kernel_rfl)
    (of_decide_eq_true (by kernel_rfl)) (by unfold Func.isWrapper; first | (rw [if_pos (by decide +kernel)]; kernel_rfl) | (rw [if_neg (by decide +kernel)]; exact ⟨rfl, rfl⟩))
    (fun os started H enc _ => lifted os started H enc)
#print axioms proved
end Go.Proofs.Ymbrcx.lawS930008ATotal
