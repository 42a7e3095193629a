/- The proof of Rows.LawS930008CDipSaid (seat Ymbrcx): the row over the walk. -/
import Derived.Test.YmbrcxRows
import Derived.Test.YmbrcxOpen
import Derived.Test.YmbrcxOpenB
import Derived.Test.YmbrcxLawS930008CDipWalk
namespace Go.Proofs.Ymbrcx.lawS930008CDip
open Go.RowKit Go.Sort Go.ChangeShapes Go.WideShapes Go.ChangeAt
set_option linter.unusedVariables false

set_option maxRecDepth 100000 in
theorem lifted (os : Os) (started : os.Started) (H : Type) (enc : TypeId × Value → H) :
    ReturnsInHanded {} Ycxm.checked os 10 .any (Rows.lawS930008CDipSpec.pre6 enc Ycxm.prog Ycxm.f10 Rows.lawS930008CDipRow.domain false) (Rows.lawS930008CDipSpec.post enc Ycxm.prog Ycxm.f10 false true false false) := by
  refine returnsInHanded_of_change (C := Ycxm.checked) own started (by kernel_rfl) Ycxm.func10
    (ChangeSpec.witness6 (enc := enc) (C := Ycxm.checked) false ⟨#[], #[.int .i32 0, .slice none 0 0, .int .u16 0], []⟩ 8 (by kernel_rfl) (by kernel_rfl) (by kernel_rfl) (by kernel_rfl)) ?_
  intro W base args ds gs before hval0 hW hcnd _
  have hval : ∀ (j : Nat) t v, Ycxm.f10.params[j]? = some t → args[j]? = some v → Value.okWide Ycxm.prog W .any base t v := hval0
  have hW' := hW
  obtain ⟨p, q, hA0, hV, rfl, hfz, hnd⟩ := hW
  have hA : DataW.TrodAll enc Ycxm.prog W 0 (fun _ => true) true Ycxm.f10.params.toList args.toList ds p := hA0
  rw [Ycxm.params10] at hA hval
  obtain ⟨v0, vs0, d0, ds0, p0, q0, hargs, rfl, rfl, h0, r0⟩ := trodAll_cons hA
  obtain ⟨v1, vs1, d1, ds1, p1, q1, rfl, rfl, rfl, h1, r1⟩ := trodAll_cons r0
  obtain ⟨v2, vs2, d2, ds2, p2, q2, rfl, rfl, rfl, h2, r2⟩ := trodAll_cons r1
  obtain ⟨rfl, rfl, rfl⟩ := trodAll_nil r2
  obtain rfl : args = #[v0, v1, v2] := by cases args; simp_all
  obtain ⟨rfl, rfl⟩ := trodVars_none hV
  obtain ⟨a0, rfl, rfl, rfl, w0⟩ := open_int Ycxm.underlying21 (hval 0 21 v0 rfl rfl) h0
  obtain ⟨a1, len1, cap1, rfl⟩ := okWide_slice Ycxm.underlying33 (hval 1 33 v1 rfl rfl)
  have k1 := h1
  have lt1 : ∀ x ∈ p1, x.block < W.heap.size := by obtain ⟨m, hm⟩ := k1; exact DataW.trod_lt m _ _ _ hm
  obtain ⟨e1, s1⟩ : ∃ z, SlB W a1 len1 z := by
    obtain ⟨fuel, hf⟩ := h1
    exact open_bytes (by simpa [Value.cells] using hf)
  obtain ⟨a2, rfl, rfl, rfl, w2⟩ := open_int Ycxm.underlying34 (hval 2 34 v2 rfl rfl) h2
  clear hA0 hval0
  refine (walk a0 a1 len1 cap1 e1 a2 W w0 s1 w2).mono fun e W' ⟨he, bel⟩ => ?_
  subst he
  exact ⟨_, rfl, _, _, _, [], _, [], hW', trodAll_mk1 (shut_bool Ycxm.underlying4 _), (trodAll_cons_mk (shut_int Ycxm.underlying21 w0) (trodAll_cons_mk (Below.trod laidOut (by kernel_rfl) (of_decide_eq_true (by kernel_rfl)) k1 bel lt1) (trodAll_cons_mk (shut_int Ycxm.underlying34 w2) trodAll_mk0))), rfl, bel.frame _, fun h => by cases h⟩

theorem proved : Rows.LawS930008CDipSaid :=
  OpenClaim.holds_of_wide 10 Ycxm.f10 rfl rfl rfl rfl rfl rfl rfl ⟨rfl, rfl, rfl, rfl, rfl⟩ rfl rfl rfl rfl rfl (by kernel_rfl) Ycxm.func10 (by kernel_rfl)
    (of_decide_eq_true (by kernel_rfl)) (by unfold Func.isWrapper; first | (rw [if_pos (by decide +kernel)]; kernel_rfl) | (rw [if_neg (by decide +kernel)]; exact ⟨rfl, rfl⟩))
    (fun os started H enc _ => lifted os started H enc)
#print axioms proved
end Go.Proofs.Ymbrcx.lawS930008CDip
