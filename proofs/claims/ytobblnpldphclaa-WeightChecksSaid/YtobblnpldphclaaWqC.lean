/- The law of chapter 7 on which elements may be, their levels and how they compare: for any two elements the call returns true and leaves them as they were. No condition. -/
import Derived.Test.YtobblnpldphclaaWo
import Derived.Test.YtobblnpldphclaaRow
import Derived.SizedLaws
import Derived.Lib.SmallJoins

namespace Go.Proofs.Ytobblnpldphclaa.weightChecks
open Go.ChangeShapes Go.WideShapes Go.ChangeAt Go.RowKit Go.Joins
theorem own : ownKnob Try.prog.godebug = none := by kernel_rfl
theorem laid : laidOutB Try.prog = true := by kernel_rfl
set_option maxRecDepth 100000 in
theorem lifted (os : Os) (started : os.Started) (H : Type) (enc : TypeId × Value → H) :
    ReturnsInHanded {} Try.checked os 5 .any (Rows.weightChecksSpec.pre6 enc Try.prog Try.f5 Rows.weightChecksRow.domain false) (Rows.weightChecksSpec.post enc Try.prog Try.f5 false true false false) := by
  refine returnsInHanded_of_change_sized (C := Try.checked) own started (by kernel_rfl) Try.func5
    (ChangeSpec.witness6 (enc := enc) (C := Try.checked) false ⟨#[], #[.agg #[.int .i64 0, .int .i64 0, .int .i64 0, .bool false], .agg #[.int .i64 0, .int .i64 0, .int .i64 0, .bool false]], []⟩ 8 (by kernel_rfl) (by kernel_rfl) (by kernel_rfl) (by kernel_rfl)) ?_
  intro W base args ds gs before hval0 hW hcnd hsz0 _
  have hval : ∀ (j : Nat) t v, Try.f5.params[j]? = some t → args[j]? = some v → Value.okWide Try.prog W .any base t v := hval0
  have hsz : (DataW.weightsEach Try.prog (Try.f5.params.toList ++ Rows.weightChecksSpec.plain.varTypes Try.prog) (ds ++ gs)).all (· ≤ reachBytes) = true := hsz0
  have hW' := hW
  obtain ⟨pp, qq, hA0, hV, rfl, hfz, hnd⟩ := hW
  have hA : DataW.TrodAll enc Try.prog W 0 (fun _ => true) true Try.f5.params.toList args.toList ds pp := hA0
  rw [Try.params5] at hA hval hsz
  obtain ⟨rfl, rfl⟩ := trodVars_none hV
  obtain ⟨v0, vs0, d0, ds0, p0, q0, hargs, rfl, rfl, h0, r0⟩ := trodAll_cons hA
  obtain ⟨v1, vs1, d1, ds1, p1, q1, rfl, rfl, rfl, h1, r1⟩ := trodAll_cons r0
  obtain ⟨rfl, rfl, rfl⟩ := trodAll_nil r1
  obtain rfl : args = #[v0, v1] := by cases args; simp_all
  have hC0 : Try.prog.cellsOf 23 = 4 := by kernel_rfl
  obtain ⟨c00, c10, c20, c30, y00, y10, y20, y30, m0, rfl, rfl, rfl, hy00, hy10, hy20, hy30⟩ := open_agg4 Try.underlying23 (by kernel_rfl) hC0 (hval 0 23 v0 rfl rfl) h0
  obtain ⟨p, e00, rfl, _⟩ := DataW.trod_int Try.underlying3 hy00
  obtain ⟨s, e10, rfl, _⟩ := DataW.trod_int Try.underlying3 hy10
  obtain ⟨t, e20, rfl, _⟩ := DataW.trod_int Try.underlying3 hy20
  obtain ⟨v, e30, rfl⟩ := DataW.trod_bool Try.underlying4 hy30
  simp at e00 e10 e20 e30
  subst e00 e10 e20 e30
  have hC1 : Try.prog.cellsOf 23 = 4 := by kernel_rfl
  obtain ⟨c01, c11, c21, c31, y01, y11, y21, y31, m1, rfl, rfl, rfl, hy01, hy11, hy21, hy31⟩ := open_agg4 Try.underlying23 (by kernel_rfl) hC1 (hval 1 23 v1 rfl rfl) h1
  obtain ⟨q', e01, rfl, _⟩ := DataW.trod_int Try.underlying3 hy01
  obtain ⟨r, e11, rfl, _⟩ := DataW.trod_int Try.underlying3 hy11
  obtain ⟨u, e21, rfl, _⟩ := DataW.trod_int Try.underlying3 hy21
  obtain ⟨x, e31, rfl⟩ := DataW.trod_bool Try.underlying4 hy31
  simp at e01 e11 e21 e31
  subst e01 e11 e21 e31

  clear hA0 hval0 hsz0 hsz
  simp only [List.append_nil] at hW'
  refine (law_checks p s t q' r u v x W).mono fun e W' ⟨he, hg⟩ => ?_
  subst he
  exact ⟨_, rfl, law_post 4 rfl Try.underlying4 laid (by
    rw [Try.params5]; intro t ht; simp only [List.mem_cons, List.not_mem_nil, or_false] at ht
    rcases ht with rfl | rfl <;> exact ⟨by kernel_rfl, of_decide_eq_true (by kernel_rfl)⟩) rfl hW' rfl hg⟩
theorem over : Rows.weightChecksRow.holds Try.pinned (OpenSpec.ofChange Rows.weightChecksSpec) :=
  OpenClaim.holds_of_wide 5 Try.f5 rfl rfl rfl rfl rfl rfl rfl ⟨rfl, rfl, rfl, rfl, rfl⟩ rfl rfl rfl rfl rfl (by kernel_rfl) Try.func5 (by kernel_rfl)
    (of_decide_eq_true (by kernel_rfl)) (by unfold Func.isWrapper; first | (rw [if_pos (by decide +kernel)]; kernel_rfl) | (rw [if_neg (by decide +kernel)]; exact ⟨rfl, rfl⟩))
    (fun os started H enc _ => lifted os started H enc)
/-- the statement -/
theorem proved : Rows.WeightChecksSaid := over
end Go.Proofs.Ytobblnpldphclaa.weightChecks
