/- The law of chapter 4 on what numbers are written as: for any list of numbers the call returns true and leaves it as it was. No condition. -/
import Derived.Test.YtafocgnhmdhemaaUF
import Derived.Test.YtafocgnhmdhemaaOpen
import Derived.Test.YtafocgnhmdhemaaRow
import Derived.SizedLaws
import Derived.Lib.SmallJoins

namespace Go.Proofs.Ytafocgnhmdhemaa.utfWrites
open Go.ChangeShapes Go.WideShapes Go.ChangeAt Go.RowKit Go.Joins
theorem own : ownKnob Try.prog.godebug = none := by kernel_rfl
theorem laid : laidOutB Try.prog = true := by kernel_rfl
set_option maxRecDepth 100000 in
theorem lifted (os : Os) (started : os.Started) (H : Type) (enc : TypeId × Value → H) :
    ReturnsInHanded {} Try.checked os 6 .any (Rows.utfWritesSpec.pre6 enc Try.prog Try.f6 Rows.utfWritesRow.domain false) (Rows.utfWritesSpec.post enc Try.prog Try.f6 false true false false) := by
  refine returnsInHanded_of_change_sized (C := Try.checked) own started (by kernel_rfl) Try.func6
    (ChangeSpec.witness6 (enc := enc) (C := Try.checked) false ⟨#[], #[.slice none 0 0], []⟩ 8 (by kernel_rfl) (by kernel_rfl) (by kernel_rfl) (by kernel_rfl)) ?_
  intro W base args ds gs before hval0 hW hcnd hsz0 _
  have hval : ∀ (j : Nat) t v, Try.f6.params[j]? = some t → args[j]? = some v → Value.okWide Try.prog W .any base t v := hval0
  have hsz : (DataW.weightsEach Try.prog (Try.f6.params.toList ++ Rows.utfWritesSpec.plain.varTypes Try.prog) (ds ++ gs)).all (· ≤ reachBytes) = true := hsz0
  have hW' := hW
  obtain ⟨pp, qq, hA0, hV, rfl, hfz, hnd⟩ := hW
  have hA : DataW.TrodAll enc Try.prog W 0 (fun _ => true) true Try.f6.params.toList args.toList ds pp := hA0
  rw [Try.params6] at hA hval hsz
  obtain ⟨rfl, rfl⟩ := trodVars_none hV
  obtain ⟨v0, vs0, d0, ds0, p0, q0, hargs, rfl, rfl, h0, r0⟩ := trodAll_cons hA
  obtain ⟨rfl, rfl, rfl⟩ := trodAll_nil r0
  obtain rfl : args = #[v0] := by cases args; simp_all
  obtain ⟨l, ha_l, hw_l, hd_l⟩ := ints_in Try.underlying38 Try.underlying21 (by kernel_rfl) (hval 0 38 v0 rfl rfl) h0
  have hr_l : l.length * 4 ≤ 140737488351232 := by
    rcases hd_l with ⟨_, e⟩ | ⟨es, sp, e, hl⟩
    · rw [e]; simp
    · have := sized_slice hsz (j := 0) (t := 38) (elems := es) (spare := sp) rfl (by rw [e]; rfl) Try.underlying38
      rw [show Try.prog.bytesOf 21 = 4 from by kernel_rfl] at this
      unfold reachBytes at this; omega
  clear hA0 hval0 hsz0 hsz
  simp only [List.append_nil] at hW'
  refine (law_writes l v0 W ha_l (by omega)).mono fun e W' ⟨he, hg⟩ => ?_
  subst he
  exact ⟨_, rfl, law_post 4 rfl Try.underlying4 laid (by
    rw [Try.params6]; intro t ht; simp only [List.mem_cons, List.not_mem_nil, or_false] at ht
    subst ht; exact ⟨by kernel_rfl, of_decide_eq_true (by kernel_rfl)⟩) rfl hW' rfl hg⟩
theorem over : Rows.utfWritesRow.holds Try.pinned (OpenSpec.ofChange Rows.utfWritesSpec) :=
  OpenClaim.holds_of_wide 6 Try.f6 rfl rfl rfl rfl rfl rfl rfl ⟨rfl, rfl, rfl, rfl, rfl⟩ rfl rfl rfl rfl rfl (by kernel_rfl) Try.func6 (by kernel_rfl)
    (of_decide_eq_true (by kernel_rfl)) (by unfold Func.isWrapper; first | (rw [if_pos (by decide +kernel)]; kernel_rfl) | (rw [if_neg (by decide +kernel)]; exact ⟨rfl, rfl⟩))
    (fun os started H enc _ => lifted os started H enc)
/-- the statement -/
theorem proved : Rows.UtfWritesSaid := over
end Go.Proofs.Ytafocgnhmdhemaa.utfWrites
