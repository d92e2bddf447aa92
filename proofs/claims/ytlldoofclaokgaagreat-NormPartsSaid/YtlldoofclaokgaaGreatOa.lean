/- Putting in order, plain: each goes ahead of those of its run that have a greater class. -/
import Derived.Test.YtlldoofclaokgaaGreatSa
namespace Go.Proofs.YtlldoofclaokgaaGreat
open Go.RowKit

theorem snoc_ind {p : List Int → Prop} (h0 : p []) (h1 : ∀ S x, p S → p (S ++ [x])) : ∀ S, p S := by
  have : ∀ R : List Int, p R.reverse := by
    intro R
    induction R with
    | nil => exact h0
    | cons x xs ih => rw [List.reverse_cons]; exact h1 _ _ ih
  intro S
  rw [← List.reverse_reverse S]; exact this _
/-- how many at the end are of a greater class -/
def aheadOf (f : Int → Int) (out : List Int) (x : Int) : Nat := (out.reverse.takeWhile (fun y => decide (f x < f y))).length
/-- one comes in -/
def insC (f : Int → Int) (out : List Int) (x : Int) : List Int :=
  if f x = 0 then out ++ [x] else out.take (out.length - aheadOf f out x) ++ x :: out.drop (out.length - aheadOf f out x)
/-- in order, run by run -/
def ordL (f : Int → Int) (L : List Int) : List Int := L.foldl (insC f) []
theorem takeWhile_split {p : Int → Bool} : ∀ (l : List Int), ∃ A B, l = A ++ B ∧ (∀ x ∈ A, p x = true) ∧ (∀ x, B.head? = some x → p x = false) ∧ l.takeWhile p = A
  | [] => ⟨[], [], rfl, fun x h => by simp at h, fun x h => by simp at h, rfl⟩
  | z :: zs => by
    by_cases hz : p z = true
    · obtain ⟨A, B, h1, h2, h3, h4⟩ := takeWhile_split (p := p) zs
      refine ⟨z :: A, B, by rw [h1]; rfl, fun x hx => ?_, h3, by rw [List.takeWhile_cons_of_pos hz, h4]⟩
      rcases List.mem_cons.1 hx with rfl | hx
      · exact hz
      · exact h2 x hx
    · exact ⟨[], z :: zs, rfl, fun x h => by simp at h, fun x h => by simp at h; subst h; simpa using hz, List.takeWhile_cons_of_neg hz⟩
/-- where it comes in -/
theorem ahead_split (f : Int → Int) (out : List Int) (x : Int) : ∃ U V, out = U ++ V ∧ (∀ v ∈ V, f x < f v) ∧ (∀ u, U.getLast? = some u → f u ≤ f x) ∧ out.length - aheadOf f out x = U.length := by
  obtain ⟨A, B, h1, h2, h3, h4⟩ := takeWhile_split (p := fun y => decide (f x < f y)) out.reverse
  have e : out = B.reverse ++ A.reverse := by rw [← List.reverse_append, ← h1, List.reverse_reverse]
  refine ⟨B.reverse, A.reverse, e, fun v hv => by simpa using h2 v (by simpa using hv), fun u hu => ?_, ?_⟩
  · rw [List.getLast?_reverse] at hu
    have := h3 u hu
    simp at this; omega
  · unfold aheadOf; rw [h4, e]; simp
theorem insC_zero {f : Int → Int} {out : List Int} {x : Int} (h : f x = 0) : insC f out x = out ++ [x] := by unfold insC; rw [if_pos h]
/-- a run without a starter, behind what ends in one -/
theorem ord_run (f : Int → Int) (hf : ∀ r, 0 ≤ f r) (D : List Int) (hD : ∀ u, D.getLast? = some u → f u = 0) (S : List Int) (hS : ∀ x ∈ S, f x ≠ 0) : ∃ M, Stab f S M ∧ S.foldl (insC f) D = D ++ M := by
  revert hS
  refine snoc_ind (p := fun S => (∀ x ∈ S, f x ≠ 0) → ∃ M, Stab f S M ∧ S.foldl (insC f) D = D ++ M) (fun _ => ⟨[], Stab.nil, by simp⟩) (fun S x ih hS => ?_) S
  · obtain ⟨M, hM, hfo⟩ := ih (fun z hz => hS z (by simp [hz]))
    have hx : f x ≠ 0 := hS x (by simp)
    rw [List.foldl_append, hfo]
    simp only [List.foldl_cons, List.foldl_nil]
    obtain ⟨U, V, e, hV, hU, hk⟩ := ahead_split f (D ++ M) x
    -- what is greater lies in M
    have hDU : ∃ U', U = D ++ U' ∧ M = U' ++ V := by
      rcases List.append_eq_append_iff.1 e with ⟨a, h1, h2⟩ | ⟨c, h1, h2⟩
      · exact ⟨a, h1, h2⟩
      · -- U is a beginning of D
        cases c with
        | nil => exact ⟨[], by simpa using h1.symm, by simpa using h2.symm⟩
        | cons z zs =>
          exfalso
          obtain ⟨l, hl⟩ : ∃ l, (z :: zs).getLast? = some l := ⟨_, List.getLast?_eq_some_getLast (by simp)⟩
          have h3 := hD l (by rw [h1, List.getLast?_append, hl]; rfl)
          have h4 := hV l (by rw [h2]; exact List.mem_append_left _ (List.mem_of_getLast? hl))
          have := hf x
          omega
    obtain ⟨U', rfl, rfl⟩ := hDU
    refine ⟨U' ++ x :: V, hM.insert (fun u hu => ?_) hV, ?_⟩
    · -- all of U' are no greater, as its last is
      obtain ⟨l, hl⟩ : ∃ l, U'.getLast? = some l := by
        cases hc : U'.getLast? with
        | none => rw [List.getLast?_eq_none_iff] at hc; subst hc; cases hu
        | some l => exact ⟨l, rfl⟩
      have h1 := hU l (by rw [List.getLast?_append, hl]; rfl)
      obtain ⟨U0, rfl⟩ := List.getLast?_eq_some_iff.1 hl
      rcases List.mem_append.1 hu with hu | hu
      · have := hM.1.left.across hu (by simp : l ∈ [l]); omega
      · simp at hu; subst hu; exact h1
    · unfold insC
      rw [if_neg hx, hk, ← List.append_assoc, List.take_left, List.drop_left, List.append_assoc]
theorem ord_run_eq {f : Int → Int} (hf : ∀ r, 0 ≤ f r) {D S M : List Int} (hD : ∀ u, D.getLast? = some u → f u = 0) (hS : ∀ x ∈ S, f x ≠ 0) (hM : Stab f S M) : S.foldl (insC f) D = D ++ M := by
  obtain ⟨M', h1, h2⟩ := ord_run f hf D hD S hS
  rw [h2, hM.unique h1]
/-- a run and its starter -/
theorem ord_next {f : Int → Int} (hf : ∀ r, 0 ≤ f r) {D S M : List Int} {x : Int} (hD : ∀ u, D.getLast? = some u → f u = 0) (hS : ∀ x ∈ S, f x ≠ 0) (hM : Stab f S M) (hx : f x = 0) : (S ++ [x]).foldl (insC f) D = D ++ (M ++ [x]) := by
  rw [List.foldl_append, ord_run_eq hf hD hS hM]
  simp [insC_zero hx]
theorem insC_len (f : Int → Int) (out : List Int) (x : Int) : (insC f out x).length = out.length + 1 := by
  unfold insC
  split
  · simp
  · simp; omega
theorem ordL_len (f : Int → Int) (L : List Int) : (ordL f L).length = L.length := by
  unfold ordL
  have : ∀ (L D : List Int), (L.foldl (insC f) D).length = D.length + L.length := by
    intro L
    induction L with
    | nil => intro D; simp
    | cons x xs ih => intro D; rw [List.foldl_cons, ih, insC_len]; simp; omega
  simpa using this L []
end Go.Proofs.YtlldoofclaokgaaGreat
