/- Plain: what a stream tells, push by push, is the list put in order. -/
import Derived.Test.YtlldoofclaokgaaGreatOe
import Derived.Test.YtlldoofclaokgaaGreatOr
namespace Go.Proofs.YtlldoofclaokgaaGreat
open Go.RowKit

/-- the state of a stream after a list has been pushed: what it has told, what it holds -/
def strm (f : Int → Int) (dc : Int → List Int) (T : List Int) : List Int × List Int := T.foldl (fun s r => (s.1 ++ (pushL f s.2 (dc r)).1, (pushL f s.2 (dc r)).2)) ([], [])
theorem strm_step {f : Int → Int} {dc : Int → List Int} {T : List Int} {r : Int} : strm f dc (T ++ [r]) = ((strm f dc T).1 ++ (pushL f (strm f dc T).2 (dc r)).1, (pushL f (strm f dc T).2 (dc r)).2) := by
  unfold strm; rw [List.foldl_append]; rfl
theorem fold_push (f : Int → Int) : ∀ (D A H : List Int), D.foldl (pushStep f) (A, H) = (A ++ (pushL f H D).1, (pushL f H D).2)
  | [], A, H => by simp [pushL]
  | x :: xs, A, H => by
    have e : pushL f H (x :: xs) = xs.foldl (pushStep f) (pushStep f ([], H) x) := rfl
    rw [List.foldl_cons, e]
    by_cases hx : f x = 0
    · have e1 : pushStep f (A, H) x = (A ++ ordL f H, [] ++ [x]) := by unfold pushStep; rw [if_pos hx]
      have e2 : pushStep f ([], H) x = ([] ++ ordL f H, [] ++ [x]) := by unfold pushStep; rw [if_pos hx]
      rw [e1, e2, fold_push f xs, fold_push f xs]
      simp
    · have e1 : pushStep f (A, H) x = (A, H ++ [x]) := by unfold pushStep; rw [if_neg hx]
      have e2 : pushStep f ([], H) x = ([], H ++ [x]) := by unfold pushStep; rw [if_neg hx]
      rw [e1, e2, fold_push f xs, fold_push f xs]
      simp
theorem strm_fold (f : Int → Int) (dc : Int → List Int) (T : List Int) : strm f dc T = (T.flatMap dc).foldl (pushStep f) ([], []) := by
  have : ∀ (T A H : List Int), T.foldl (fun s r => (s.1 ++ (pushL f s.2 (dc r)).1, (pushL f s.2 (dc r)).2)) (A, H) = (T.flatMap dc).foldl (pushStep f) (A, H) := by
    intro T
    induction T with
    | nil => intro A H; rfl
    | cons r rs ih =>
      intro A H
      rw [List.foldl_cons, List.flatMap_cons, List.foldl_append, fold_push f (dc r)]
      exact ih _ _
  exact this T [] []
theorem takeWhile_short {p : Int → Bool} : ∀ (A B : List Int), (∃ y ∈ A, p y = false) → (A ++ B).takeWhile p = A.takeWhile p
  | [], B, h => by obtain ⟨y, hy, _⟩ := h; cases hy
  | a :: A, B, h => by
    by_cases ha : p a = true
    · rw [List.cons_append, List.takeWhile_cons_of_pos ha, List.takeWhile_cons_of_pos ha]
      refine congrArg _ (takeWhile_short A B ?_)
      obtain ⟨y, hy, h0⟩ := h
      rcases List.mem_cons.1 hy with rfl | hy
      · rw [ha] at h0; cases h0
      · exact ⟨y, hy, h0⟩
    · rw [List.cons_append, List.takeWhile_cons_of_neg ha, List.takeWhile_cons_of_neg ha]
theorem insC_behind {f : Int → Int} (hf : ∀ r, 0 ≤ f r) {A W : List Int} {x : Int} (hW : A = [] ∨ ∃ y ∈ W, f y = 0) : insC f (A ++ W) x = A ++ insC f W x := by
  by_cases hx : f x = 0
  · rw [insC_zero hx, insC_zero hx, List.append_assoc]
  · rcases hW with rfl | ⟨y, hy, h0⟩
    · simp
    · have ha : aheadOf f (A ++ W) x = aheadOf f W x := by
        unfold aheadOf
        rw [List.reverse_append, takeWhile_short W.reverse A.reverse ⟨y, by simpa using hy, by have := hf x; simp; omega⟩]
      have hle : aheadOf f W x ≤ W.length := by
        unfold aheadOf
        have := (List.takeWhile_sublist (fun y => decide (f x < f y)) (l := W.reverse)).length_le
        rw [List.length_reverse] at this
        exact this
      unfold insC
      rw [if_neg hx, if_neg hx, ha, List.length_append, show A.length + W.length - aheadOf f W x = A.length + (W.length - aheadOf f W x) from by omega]
      rw [List.take_length_add_append, List.drop_length_add_append, List.append_assoc]
theorem push_ord {f : Int → Int} (hf : ∀ r, 0 ≤ f r) : ∀ (M A H P : List Int), A ++ ordL f H = ordL f P → (A = [] ∨ ∃ y t, H = y :: t ∧ f y = 0) →
    (M.foldl (pushStep f) (A, H)).1 ++ ordL f (M.foldl (pushStep f) (A, H)).2 = ordL f (P ++ M)
  | [], A, H, P, h, _ => by simpa using h
  | x :: xs, A, H, P, h, hi => by
    have e : P ++ x :: xs = (P ++ [x]) ++ xs := by simp
    have hP : ordL f (P ++ [x]) = insC f (A ++ ordL f H) x := by rw [h]; unfold ordL; rw [List.foldl_append]; rfl
    rw [e, List.foldl_cons]
    by_cases hx : f x = 0
    · rw [show pushStep f (A, H) x = (A ++ ordL f H, [] ++ [x]) from by unfold pushStep; rw [if_pos hx]]
      refine push_ord hf xs (A ++ ordL f H) ([] ++ [x]) (P ++ [x]) ?_ (.inr ⟨x, [], rfl, hx⟩)
      rw [hP, insC_zero hx]
      have : ordL f ([] ++ [x]) = [x] := by unfold ordL; simp [insC_zero hx]
      rw [this]
    · rw [show pushStep f (A, H) x = (A, H ++ [x]) from by unfold pushStep; rw [if_neg hx]]
      refine push_ord hf xs A (H ++ [x]) (P ++ [x]) ?_ ?_
      · have e2 : ordL f (H ++ [x]) = insC f (ordL f H) x := by unfold ordL; rw [List.foldl_append]; rfl
        rw [hP, e2]
        refine (insC_behind hf ?_).symm
        rcases hi with h | ⟨y, t, hH, h0⟩
        · exact .inl h
        · right
          have : (ordL f H)[0]? = some y := ord_starters hf (by rw [hH]; rfl) h0
          exact ⟨y, List.mem_of_getElem? this, h0⟩
      · rcases hi with h | ⟨y, t, hH, h0⟩
        · exact .inl h
        · exact .inr ⟨y, t ++ [x], by rw [hH]; rfl, h0⟩
theorem strm_ord {f : Int → Int} (hf : ∀ r, 0 ≤ f r) (dc : Int → List Int) (T : List Int) : (strm f dc T).1 ++ ordL f (strm f dc T).2 = ordL f (T.flatMap dc) := by
  rw [strm_fold]
  have := push_ord hf (T.flatMap dc) [] [] [] (by simp [ordL]) (.inl rfl)
  simpa using this
theorem strm_len {f : Int → Int} {dc : Int → List Int} (hd : ∀ r, 0 < (dc r).length ∧ (dc r).length ≤ 7) (T : List Int) : (strm f dc T).1.length + (strm f dc T).2.length ≤ 7 * T.length := by
  rw [strm_fold]
  have h1 : ∀ (D : List Int) (s : List Int × List Int), (D.foldl (pushStep f) s).1.length + (D.foldl (pushStep f) s).2.length = s.1.length + s.2.length + D.length := by
    intro D
    induction D with
    | nil => intro s; simp
    | cons x xs ih => intro s; rw [List.foldl_cons, ih, pushStep_len]; simp; omega
  rw [h1]
  have := (flat_len hd T).2
  simp only [List.length_nil]
  omega
end Go.Proofs.YtlldoofclaokgaaGreat
