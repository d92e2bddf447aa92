/- The law of chapter 7 on texts: for any element and any text the call returns true and leaves them as they were. No condition. -/
import Derived.Test.YtobblnpldphclaaWs
import Derived.Test.YtobblnpldphclaaRow
import Derived.SizedLaws
import Derived.Lib.SmallJoins

namespace Go.Proofs.Ytobblnpldphclaa.weightTexts
open Go.ChangeShapes Go.WideShapes Go.ChangeAt Go.RowKit Go.Joins
theorem own : ownKnob Try.prog.godebug = none := by kernel_rfl
theorem laid : laidOutB Try.prog = true := by kernel_rfl
set_option maxRecDepth 100000 in
theorem lifted (os : Os) (started : os.Started) (H : Type) (enc : TypeId × Value → H) :
    ReturnsInHanded {} Try.checked os 3 .any (Rows.weightTextsSpec.pre6 enc Try.prog Try.f3 Rows.weightTextsRow.domain false) (Rows.weightTextsSpec.post enc Try.prog Try.f3 false true false false) := by
  refine returnsInHanded_of_change_sized (C := Try.checked) own started (by kernel_rfl) Try.func3
    (ChangeSpec.witness6 (enc := enc) (C := Try.checked) false ⟨#[], #[.agg #[.int .i64 0, .int .i64 0, .int .i64 0, .bool false], .string ⟨#[]⟩], []⟩ 8 (by kernel_rfl) (by kernel_rfl) (by kernel_rfl) (by kernel_rfl)) ?_
  intro W base args ds gs before hval0 hW hcnd hsz0 _
  have hval : ∀ (j : Nat) t v, Try.f3.params[j]? = some t → args[j]? = some v → Value.okWide Try.prog W .any base t v := hval0
  have hsz : (DataW.weightsEach Try.prog (Try.f3.params.toList ++ Rows.weightTextsSpec.plain.varTypes Try.prog) (ds ++ gs)).all (· ≤ reachBytes) = true := hsz0
  have hW' := hW
  obtain ⟨pp, qq, hA0, hV, rfl, hfz, hnd⟩ := hW
  have hA : DataW.TrodAll enc Try.prog W 0 (fun _ => true) true Try.f3.params.toList args.toList ds pp := hA0
  rw [Try.params3] at hA hval hsz
  obtain ⟨rfl, rfl⟩ := trodVars_none hV
  obtain ⟨v0, vs0, d0, ds0, p0, q0, hargs, rfl, rfl, h0, r0⟩ := trodAll_cons hA
  obtain ⟨v1, vs1, d1, ds1, p1, q1, rfl, rfl, rfl, h1, r1⟩ := trodAll_cons r0
  obtain ⟨rfl, rfl, rfl⟩ := trodAll_nil r1
  obtain rfl : args = #[v0, v1] := by cases args; simp_all
  have hC0 : Try.prog.cellsOf 23 = 4 := by kernel_rfl
  obtain ⟨c00, c10, c20, c30, y00, y10, y20, y30, m0, rfl, rfl, rfl, hy00, hy10, hy20, hy30⟩ := open_agg4 Try.underlying23 (by kernel_rfl) hC0 (hval 0 23 v0 rfl rfl) h0
  obtain ⟨p, e00, rfl, _⟩ := DataW.trod_int Try.underlying3 hy00
  obtain ⟨s, e10, rfl, _⟩ := DataW.trod_int Try.underlying3 hy10
  obtain ⟨t, e20, rfl, _⟩ := DataW.trod_int Try.underlying3 hy20
  obtain ⟨v, e30, rfl⟩ := DataW.trod_bool Try.underlying4 hy30
  simp at e00 e10 e20 e30
  subst e00 e10 e20 e30
  obtain ⟨r, rfl, rfl, rfl, wr⟩ := Go.ChangeMaps.open_string Try.underlying9 (hval 1 9 v1 rfl rfl) h1
  have hreach := sized_string hsz (j := 1) (t := 9) (bytes := r.data.toList) rfl rfl
  have hreach2 : r.size ≤ 140737488351232 := by have e : r.data.toList.length = r.size := Array.length_toList
                                                rw [e] at hreach; exact hreach

  clear hA0 hval0 hsz0 hsz
  simp only [List.append_nil] at hW'
  refine (law_texts p s t v r W hreach2).mono fun e W' ⟨he, hg⟩ => ?_
  subst he
  exact ⟨_, rfl, law_post 4 rfl Try.underlying4 laid (by
    rw [Try.params3]; intro t ht; simp only [List.mem_cons, List.not_mem_nil, or_false] at ht
    rcases ht with rfl | rfl <;> exact ⟨by kernel_rfl, of_decide_eq_true (by kernel_rfl)⟩) rfl hW' rfl hg⟩
theorem over : Rows.weightTextsRow.holds Try.pinned (OpenSpec.ofChange Rows.weightTextsSpec) :=
  OpenClaim.holds_of_wide 3 Try.f3 rfl rfl rfl rfl rfl rfl rfl ⟨rfl, rfl, rfl, rfl, rfl⟩ rfl rfl rfl rfl rfl (by kernel_rfl) Try.func3 (by kernel_rfl)
    (of_decide_eq_true (by kernel_rfl)) (by unfold Func.isWrapper; first | (rw [if_pos (by decide +kernel)]; kernel_rfl) | (rw [if_neg (by decide +kernel)]; exact ⟨rfl, rfl⟩))
    (fun os started H enc _ => lifted os started H enc)
/-- the statement -/
theorem proved : Rows.WeightTextsSaid := over
end Go.Proofs.Ytobblnpldphclaa.weightTexts
