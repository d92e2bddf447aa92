/- Stable sorting of ranges, plain; ranges in memory that are put in order in place. Ranges in memory that are put in order in place: the memory word; only some cells of a block have turned. The stable sort at ranges: swapRange. The stable sort at ranges: rotate. The stable sort at ranges: the comparator; insertionSort; the contract of symMerge. slices.SortStableFunc at ranges: symMerge where the first part is one element. slices.SortStableFunc at ranges: symMerge where the second part is one element. -/
import Derived.Test.YtjbcbejedaeedaaGreatDoorOpenQ
import Derived.OwnWalk
import Derived.Deep.MidRow
import Derived.BigRegion
import Derived.CellFam
/-! Stable sorting of ranges, plain; ranges in memory that are put in order in place. -/
namespace Go.Proofs.YtjbcbejedaeedaaGreatDoor
/-- a range whose bounds are code points of 32 bits -/
abbrev RG := {x : Rng // -2147483648 ≤ x.1 ∧ x.1 ≤ 2147483647}
end Go.Proofs.YtjbcbejedaeedaaGreatDoor
/-! Stable sorting, plain: lists that are in order, and keep those of one key as they follow one another. -/
namespace Go.Proofs.YtjbcbejedaeedaaGreatDoor
open Go.RowKit

/-- in order of a key -/
def Srt (f : RG → Int) (l : List RG) : Prop := l.Pairwise (fun x y => f x ≤ f y)
/-- M is S, put in order, those of one key as they followed one another -/
def Stab (f : RG → Int) (S M : List RG) : Prop := Srt f M ∧ ∀ k, M.filter (fun x => f x == k) = S.filter (fun x => f x == k)

theorem Stab.perm {f : RG → Int} {S M : List RG} (h : Stab f S M) : M.Perm S := by
  refine List.perm_iff_count.2 fun x => ?_
  have h1 := congrArg (List.count x) (h.2 (f x))
  rwa [List.count_filter (by simp), List.count_filter (by simp)] at h1
theorem Stab.length {f : RG → Int} {S M : List RG} (h : Stab f S M) : M.length = S.length := h.perm.length_eq
theorem Stab.mem {f : RG → Int} {S M : List RG} (h : Stab f S M) {x : RG} : x ∈ M ↔ x ∈ S := h.perm.mem_iff
theorem Stab.self {f : RG → Int} {S : List RG} (h : Srt f S) : Stab f S S := ⟨h, fun _ => rfl⟩
theorem Stab.nil {f : RG → Int} : Stab f [] [] := .self List.Pairwise.nil
theorem Stab.one {f : RG → Int} (x : RG) : Stab f [x] [x] := .self (List.pairwise_singleton _ _)
theorem Stab.unique {f : RG → Int} {S : List RG} : ∀ {M M' : List RG}, Stab f S M → Stab f S M' → M = M' := by
  have key : ∀ M M' : List RG, Srt f M → Srt f M' → (∀ k, M.filter (fun x => f x == k) = M'.filter (fun x => f x == k)) → M = M' := by
    intro M
    induction M with
    | nil =>
      intro M' _ h2 h3
      cases M' with
      | nil => rfl
      | cons y ys => have := h3 (f y); simp at this
    | cons x xs ih =>
      intro M' h1 h2 h3
      cases M' with
      | nil => have := h3 (f x); simp at this
      | cons y ys =>
        have h1' := List.pairwise_cons.1 h1
        have h2' := List.pairwise_cons.1 h2
        have hm : ∀ z, z ∈ x :: xs ↔ z ∈ y :: ys := by
          intro z
          have := congrArg (fun l => z ∈ l) (h3 (f z))
          simpa [List.mem_filter] using this
        have hxy : f x = f y := by
          have e1 : f y ≤ f x := by
            rcases List.mem_cons.1 ((hm x).1 (List.mem_cons_self ..)) with e | e
            · rw [e]; exact Int.le_refl _
            · exact h2'.1 _ e
          have e2 : f x ≤ f y := by
            rcases List.mem_cons.1 ((hm y).2 (List.mem_cons_self ..)) with e | e
            · rw [e]; exact Int.le_refl _
            · exact h1'.1 _ e
          omega
        have h4 := h3 (f x)
        rw [List.filter_cons_of_pos (by simp), List.filter_cons_of_pos (by simp [hxy])] at h4
        injection h4 with h5 h6
        subst h5
        congr 1
        refine ih ys h1'.2 h2'.2 fun k => ?_
        have h7 := h3 k
        by_cases hk : f x = k
        · rw [List.filter_cons_of_pos (by simp [hk]), List.filter_cons_of_pos (by simp [hk])] at h7
          injection h7
        · rwa [List.filter_cons_of_neg (by simp [hk]), List.filter_cons_of_neg (by simp [hk])] at h7
  intro M M' h h'
  exact key M M' h.1 h'.1 (fun k => (h.2 k).trans (h'.2 k).symm)
theorem Stab.trans {f : RG → Int} {S A M : List RG} (h : Stab f S A) (k : Stab f A M) : Stab f S M := ⟨k.1, fun i => (k.2 i).trans (h.2 i)⟩
theorem Stab.merge {f : RG → Int} {S T A B M : List RG} (h : Stab f S A) (k : Stab f T B) (m : Stab f (A ++ B) M) : Stab f (S ++ T) M :=
  ⟨m.1, fun i => by rw [m.2 i, List.filter_append, List.filter_append, h.2 i, k.2 i]⟩
theorem filter_none {f : RG → Int} {l : List RG} {k : Int} (h : ∀ x ∈ l, f x ≠ k) : l.filter (fun x => f x == k) = [] := by
  rw [List.filter_eq_nil_iff]; intro x hx; simpa using h x hx
/-- one more comes in, behind all that are no greater -/
theorem Stab.insert {f : RG → Int} {S U V : List RG} {x : RG} (h : Stab f S (U ++ V)) (hu : ∀ u ∈ U, f u ≤ f x) (hv : ∀ v ∈ V, f x < f v) : Stab f (S ++ [x]) (U ++ x :: V) := by
  refine ⟨?_, fun k => ?_⟩
  · have h1 := List.pairwise_append.1 h.1
    refine List.pairwise_append.2 ⟨h1.1, List.pairwise_cons.2 ⟨fun v hv' => by have := hv v hv'; omega, h1.2.1⟩, fun u hu' y hy => ?_⟩
    rcases List.mem_cons.1 hy with rfl | hy
    · exact hu u hu'
    · exact h1.2.2 u hu' y hy
  · have e := h.2 k
    rw [List.filter_append] at e
    rw [List.filter_append (l₁ := S), ← e, List.filter_append]
    by_cases hk : f x = k
    · rw [List.filter_cons_of_pos (by simp [hk]), List.filter_cons_of_pos (by simp [hk]), filter_none (l := V) (fun v hv' => by have := hv v hv'; omega)]
      simp
    · rw [List.filter_cons_of_neg (by simp [hk]), List.filter_cons_of_neg (by simp [hk])]; simp
/-- two parts in order, parted where the one is ahead of the other -/
theorem Stab.parts {f : RG → Int} {A1 A2 B1 B2 M1 M2 : List RG} (h1 : Stab f (A1 ++ B1) M1) (h2 : Stab f (A2 ++ B2) M2) (hlt : ∀ x ∈ A2, ∀ y ∈ B1, f y < f x) (hle : ∀ x ∈ A1 ++ B1, ∀ y ∈ A2 ++ B2, f x ≤ f y) :
    Stab f ((A1 ++ A2) ++ (B1 ++ B2)) (M1 ++ M2) := by
  refine ⟨List.pairwise_append.2 ⟨h1.1, h2.1, fun x hx y hy => hle x (h1.mem.1 hx) y (h2.mem.1 hy)⟩, fun k => ?_⟩
  rw [List.filter_append, h1.2 k, h2.2 k]
  simp only [List.filter_append]
  by_cases hk : ∃ x ∈ A2, f x = k
  · obtain ⟨x, hx, rfl⟩ := hk
    rw [filter_none (l := B1) (fun y hy => by have := hlt x hx y hy; omega)]
    simp
  · rw [filter_none (l := A2) (fun y hy e => hk ⟨y, hy, e⟩)]
    simp
theorem Srt.left {f : RG → Int} {A B : List RG} (h : Srt f (A ++ B)) : Srt f A := (List.pairwise_append.1 h).1
theorem Srt.right {f : RG → Int} {A B : List RG} (h : Srt f (A ++ B)) : Srt f B := (List.pairwise_append.1 h).2.1
theorem Srt.across {f : RG → Int} {A B : List RG} (h : Srt f (A ++ B)) {x y : RG} (hx : x ∈ A) (hy : y ∈ B) : f x ≤ f y := (List.pairwise_append.1 h).2.2 x hx y hy
theorem Srt.at {f : RG → Int} {l : List RG} (h : Srt f l) {i j : Nat} (hij : i ≤ j) {x y : RG} (hx : l[i]? = some x) (hy : l[j]? = some y) : f x ≤ f y := by
  rcases Nat.lt_or_eq_of_le hij with hlt | rfl
  · obtain ⟨hi, rfl⟩ := List.getElem?_eq_some_iff.1 hx
    obtain ⟨hj, rfl⟩ := List.getElem?_eq_some_iff.1 hy
    exact List.pairwise_iff_getElem.1 h i j hi hj hlt
  · rw [hx] at hy; cases hy; exact Int.le_refl _
/-- the step of a merge by symmetry: two parts turned round, each of which is put in order -/
theorem sym_parts {f : RG → Int} {A1 A2 B1 B2 M1 M2 : List RG} (hA : Srt f (A1 ++ A2)) (hB : Srt f (B1 ++ B2)) (h1 : Stab f (A1 ++ B1) M1) (h2 : Stab f (A2 ++ B2) M2)
    (c1 : ∀ x y, A2.head? = some x → B1.getLast? = some y → f y < f x) (c2 : ∀ x y, A1.getLast? = some x → B2.head? = some y → f x ≤ f y) :
    Stab f ((A1 ++ A2) ++ (B1 ++ B2)) (M1 ++ M2) := by
  have hd : ∀ (l : List RG) (z : RG), Srt f l → l.head? = some z → ∀ x ∈ l, f z ≤ f x := by
    intro l z hs he x hx
    cases l with
    | nil => cases he
    | cons a al =>
      simp at he; subst he
      rcases List.mem_cons.1 hx with rfl | hx
      · exact Int.le_refl _
      · exact (List.pairwise_cons.1 hs).1 x hx
  have lt : ∀ (l : List RG) (z : RG), Srt f l → l.getLast? = some z → ∀ x ∈ l, f x ≤ f z := by
    intro l z hs he x hx
    obtain ⟨l', rfl⟩ := List.getLast?_eq_some_iff.1 he
    rcases List.mem_append.1 hx with hx | hx
    · exact hs.across hx (by simp)
    · simp at hx; subst hx; exact Int.le_refl _
  have hlt : ∀ x ∈ A2, ∀ y ∈ B1, f y < f x := by
    intro x hx y hy
    obtain ⟨x0, hx0⟩ : ∃ x0, A2.head? = some x0 := by cases A2 with | nil => cases hx | cons a al => exact ⟨a, rfl⟩
    obtain ⟨y0, hy0⟩ : ∃ y0, B1.getLast? = some y0 := by
      cases h : B1.getLast? with
      | none => rw [List.getLast?_eq_none_iff] at h; subst h; cases hy
      | some y0 => exact ⟨y0, rfl⟩
    have e1 := hd A2 x0 hA.right hx0 x hx
    have e2 := lt B1 y0 hB.left hy0 y hy
    have e3 := c1 x0 y0 hx0 hy0
    omega
  refine Stab.parts h1 h2 hlt fun x hx y hy => ?_
  rcases List.mem_append.1 hx with hx | hx <;> rcases List.mem_append.1 hy with hy | hy
  · exact hA.across hx hy
  · obtain ⟨y0, hy0⟩ : ∃ y0, B2.head? = some y0 := by cases B2 with | nil => cases hy | cons a al => exact ⟨a, rfl⟩
    obtain ⟨x0, hx0⟩ : ∃ x0, A1.getLast? = some x0 := by
      cases h : A1.getLast? with
      | none => rw [List.getLast?_eq_none_iff] at h; subst h; cases hx
      | some x0 => exact ⟨x0, rfl⟩
    have e1 := hd B2 y0 hB.right hy0 y hy
    have e2 := lt A1 x0 hA.left hx0 x hx
    have e3 := c2 x0 y0 hx0 hy0
    omega
  · have := hlt y hy x hx; omega
  · exact hB.across hx hy
/-- two of a list, swapped -/
theorem swap_at (P Z Q : List RG) (x y : RG) : ((P ++ x :: (Z ++ y :: Q)).set P.length y).set (P.length + (Z.length + 1)) x = P ++ y :: (Z ++ x :: Q) := by
  rw [List.set_append_right _ _ (Nat.le_refl _), Nat.sub_self, List.set_cons_zero, List.set_append_right _ _ (by omega), Nat.add_sub_cancel_left, List.set_cons_succ, List.set_append_right _ _ (Nat.le_refl _), Nat.sub_self, List.set_cons_zero]
theorem get_at (P Q : List RG) (x : RG) : (P ++ x :: Q)[P.length]? = some x := by rw [List.getElem?_append_right (Nat.le_refl _), Nat.sub_self]; rfl

/-- the row in its blocks, each put in order -/
def Blk (f : RG → Int) (bs : Nat) (S L : List RG) : Prop := ∀ c, Stab f ((S.drop (c * bs)).take bs) ((L.drop (c * bs)).take bs)
end Go.Proofs.YtjbcbejedaeedaaGreatDoor
/-! Stable sorting, plain: one that comes in from the left, blocks, and what the merge by symmetry needs. -/
namespace Go.Proofs.YtjbcbejedaeedaaGreatDoor
open Go.RowKit

/-- one at the left goes behind all that are less -/
theorem Stab.left {f : RG → Int} {x : RG} {U V : List RG} (h : Srt f (U ++ V)) (hu : ∀ u ∈ U, f u < f x) (hv : ∀ v ∈ V, f x ≤ f v) : Stab f ([x] ++ (U ++ V)) (U ++ x :: V) := by
  refine ⟨?_, fun k => ?_⟩
  · have h1 := List.pairwise_append.1 h
    refine List.pairwise_append.2 ⟨h1.1, List.pairwise_cons.2 ⟨hv, h1.2.1⟩, fun u hu' y hy => ?_⟩
    rcases List.mem_cons.1 hy with rfl | hy
    · have := hu u hu'; omega
    · exact h1.2.2 u hu' y hy
  · rw [List.filter_append, List.filter_append, List.filter_append]
    by_cases hk : f x = k
    · rw [filter_none (l := U) (fun u hu' => by have := hu u hu'; omega), List.filter_cons_of_pos (by simp [hk]), List.filter_cons_of_pos (by simp [hk])]
      simp
    · rw [List.filter_cons_of_neg (by simp [hk]), List.filter_cons_of_neg (by simp [hk])]; simp
/-- block c of a list -/
def blkq (bs c : Nat) (L : List RG) : List RG := (L.drop (c * bs)).take bs
theorem blkq_ahead {bs c : Nat} {P X : List RG} (h : c * bs + bs ≤ P.length) : blkq bs c (P ++ X) = blkq bs c P := by
  unfold blkq
  rw [List.drop_append_of_le_length (by omega), List.take_append_of_le_length (by rw [List.length_drop]; omega)]
theorem blkq_behind {bs c : Nat} {P X M Q : List RG} (hm : M.length = X.length) (h : P.length + X.length ≤ c * bs) : blkq bs c (P ++ (M ++ Q)) = blkq bs c (P ++ (X ++ Q)) := by
  unfold blkq
  have e : ∀ Y : List RG, Y.length = X.length → (P ++ (Y ++ Q)).drop (c * bs) = Q.drop (c * bs - (P.length + X.length)) := fun Y hY => by
    rw [← List.append_assoc, List.drop_append, List.drop_of_length_le (by rw [List.length_append]; omega), List.nil_append, List.length_append, hY]
  rw [e M hm, e X rfl]
theorem blkq_none {bs c : Nat} {L : List RG} (h : L.length ≤ c * bs) : blkq bs c L = [] := by
  unfold blkq; rw [List.drop_of_length_le h, List.take_nil]
theorem blkq_at {bs c : Nat} {P M Q : List RG} (h : P.length = c * bs) (hm : M.length = bs) : blkq bs c (P ++ (M ++ Q)) = M := by
  unfold blkq
  rw [← h, List.drop_left, ← hm, List.take_left]
theorem blkq_end {bs c : Nat} {P M : List RG} (h : P.length = c * bs) (hm : M.length ≤ bs) : blkq bs c (P ++ M) = M := by
  unfold blkq
  rw [← h, List.drop_left, List.take_of_length_le hm]
/-- two blocks are one of twice the length -/
theorem blkq_two (bs c : Nat) (L : List RG) : blkq (2 * bs) c L = blkq bs (2 * c) L ++ blkq bs (2 * c + 1) L := by
  unfold blkq
  rw [show 2 * bs = bs + bs from by omega, List.take_add, List.drop_drop, show c * (bs + bs) = 2 * c * bs from by rw [Nat.mul_add, Nat.mul_comm 2 c, Nat.mul_assoc, Nat.two_mul, Nat.mul_add], show (2 * c + 1) * bs = 2 * c * bs + bs from by rw [Nat.add_mul, Nat.one_mul]]
/-- where a list's block c begins -/
theorem blkq_split {bs c : Nat} (L : List RG) : L = L.take (c * bs) ++ (blkq bs c L ++ L.drop (c * bs + bs)) := by
  unfold blkq
  rw [← List.drop_drop, List.take_append_drop, List.take_append_drop]
theorem blkq_len {bs c : Nat} {L : List RG} (h : c * bs + bs ≤ L.length) : (blkq bs c L).length = bs := by
  unfold blkq; rw [List.length_take, List.length_drop]; omega
theorem blkq_all {bs : Nat} {L : List RG} (h : L.length ≤ bs) : blkq bs 0 L = L := by
  unfold blkq; rw [Nat.zero_mul, List.drop_zero, List.take_of_length_le h]
theorem mem_take_le {f : RG → Int} {L : List RG} (hs : Srt f L) {n : Nat} {k : Int} (h : ∀ t x, t < n → L[t]? = some x → f x ≤ k) : ∀ x ∈ L.take n, f x ≤ k := by
  intro x hx
  obtain ⟨t, ht, rfl⟩ := List.getElem_of_mem hx
  rw [List.length_take] at ht
  rw [List.getElem_take]
  exact h t _ (by omega) (List.getElem?_eq_getElem (by omega))
theorem mem_take_p {p : RG → Prop} {L : List RG} {n : Nat} (h : ∀ t x, t < n → L[t]? = some x → p x) : ∀ x ∈ L.take n, p x := by
  intro x hx
  obtain ⟨t, ht, rfl⟩ := List.getElem_of_mem hx
  rw [List.length_take] at ht
  rw [List.getElem_take]
  exact h t _ (by omega) (List.getElem?_eq_getElem (by omega))
theorem mem_drop_p {p : RG → Prop} {L : List RG} {n : Nat} (h : ∀ t x, n ≤ t → L[t]? = some x → p x) : ∀ x ∈ L.drop n, p x := by
  intro x hx
  obtain ⟨t, ht, rfl⟩ := List.getElem_of_mem hx
  rw [List.length_drop] at ht
  rw [List.getElem_drop]
  exact h (n + t) _ (by omega) (List.getElem?_eq_getElem (by omega))
theorem head_drop {L : List RG} {n : Nat} {x : RG} (h : (L.drop n).head? = some x) : L[n]? = some x := by
  rw [List.head?_eq_getElem?, List.getElem?_drop] at h; exact h
theorem last_take {L : List RG} {n : Nat} {x : RG} (h : (L.take n).getLast? = some x) (hn : n ≤ L.length) : 0 < n ∧ L[n - 1]? = some x := by
  rw [List.getLast?_eq_getElem?, List.length_take, Nat.min_eq_left hn] at h
  have hn0 : 0 < n := by
    rcases Nat.eq_zero_or_pos n with rfl | h'
    · simp at h
    · exact h'
  rw [List.getElem?_take, if_pos (by omega)] at h
  exact ⟨hn0, h⟩
end Go.Proofs.YtjbcbejedaeedaaGreatDoor
/-! Blocks of twice the size, plain: how stableCmpFunc's second loop goes on. -/
namespace Go.Proofs.YtjbcbejedaeedaaGreatDoor
open Go.RowKit

theorem blkq_drop {bs c : Nat} {L L' : List RG} (h : L.drop (c * bs) = L'.drop (c * bs)) : blkq bs c L = blkq bs c L' := by unfold blkq; rw [h]
theorem drop_more {L L' : List RG} {a b : Nat} (h : L.drop a = L'.drop a) (hab : a ≤ b) : L.drop b = L'.drop b := by
  have := congrArg (List.drop (b - a)) h
  rwa [List.drop_drop, List.drop_drop, show a + (b - a) = b from by omega] at this
theorem two_mul_c (c bs : Nat) : 2 * c * bs = c * (2 * bs) := by rw [Nat.mul_comm 2 c, Nat.mul_assoc]
theorem two_mul_c1 (c bs : Nat) : (2 * c + 1) * bs = c * (2 * bs) + bs := by rw [Nat.add_mul, two_mul_c, Nat.one_mul]
/-- a list cut in three -/
theorem cut3 (cur : List RG) (a b m : Nat) (ham : a ≤ m) (hmb : m ≤ b) : cur = cur.take a ++ ((cur.drop a).take (m - a) ++ ((cur.drop m).take (b - m) ++ cur.drop b)) := by
  have h1 : (cur.drop m).take (b - m) ++ cur.drop b = cur.drop m := by
    conv => rhs; rw [← List.take_append_drop (b - m) (cur.drop m)]
    rw [List.drop_drop, show m + (b - m) = b from by omega]
  have h2 : (cur.drop a).take (m - a) ++ cur.drop m = cur.drop a := by
    conv => rhs; rw [← List.take_append_drop (m - a) (cur.drop a)]
    rw [List.drop_drop, show a + (m - a) = m from by omega]
  rw [h1, h2, List.take_append_drop]
theorem blkq_two_stab {f : RG → Int} {bs c a : Nat} {S L cur M : List RG} (hac : a = c * (2 * bs)) (hdr : cur.drop a = L.drop a) (hSL : ∀ c, Stab f (blkq bs c S) (blkq bs c L)) (hM : Stab f (blkq bs (2 * c) cur ++ blkq bs (2 * c + 1) cur) M) : Stab f (blkq (2 * bs) c S) M := by
  rw [blkq_two]
  refine Stab.merge (hSL (2 * c)) (hSL (2 * c + 1)) ?_
  rwa [← blkq_drop (L := cur) (L' := L) (by rw [two_mul_c, ← hac]; exact hdr), ← blkq_drop (L := cur) (L' := L) (drop_more hdr (by rw [two_mul_c1, ← hac]; omega))]
theorem two_step {f : RG → Int} {bs c n a b : Nat} {S L cur : List RG} (hac : a = c * (2 * bs)) (hb : b = a + 2 * bs) (hn : cur.length = n) (hbn : b ≤ n) (hdr : cur.drop a = L.drop a) (hSL : ∀ c, Stab f (blkq bs c S) (blkq bs c L))
    (hBL : ∀ c', c' < c → Stab f (blkq (2 * bs) c' S) (blkq (2 * bs) c' cur)) :
    ∃ A B, cur = cur.take a ++ (A ++ (B ++ cur.drop b)) ∧ A.length = bs ∧ B.length = bs ∧ Srt f A ∧ Srt f B ∧ ∀ M, Stab f (A ++ B) M →
      (∀ c', c' < c + 1 → Stab f (blkq (2 * bs) c' S) (blkq (2 * bs) c' (cur.take a ++ (M ++ cur.drop b)))) ∧ (cur.take a ++ (M ++ cur.drop b)).length = n ∧ (cur.take a ++ (M ++ cur.drop b)).drop b = L.drop b := by
  have hA : blkq bs (2 * c) cur = (cur.drop a).take bs := by unfold blkq; rw [two_mul_c, ← hac]
  have hB : blkq bs (2 * c + 1) cur = (cur.drop (a + bs)).take bs := by unfold blkq; rw [two_mul_c1, ← hac]
  have hAl : (blkq bs (2 * c) cur).length = bs := blkq_len (by rw [two_mul_c, ← hac]; omega)
  have hBl : (blkq bs (2 * c + 1) cur).length = bs := blkq_len (by rw [two_mul_c1, ← hac]; omega)
  have hcut := cut3 cur a b (a + bs) (by omega) (by omega)
  rw [show a + bs - a = bs from by omega, show b - (a + bs) = bs from by omega, ← hA, ← hB] at hcut
  refine ⟨blkq bs (2 * c) cur, blkq bs (2 * c + 1) cur, hcut, hAl, hBl, ?_, ?_, fun M hM => ⟨fun c' hc' => ?_, ?_, ?_⟩⟩
  · rw [blkq_drop (L := cur) (L' := L) (by rw [two_mul_c, ← hac]; exact hdr)]; exact (hSL _).1
  · rw [blkq_drop (L := cur) (L' := L) (drop_more hdr (by rw [two_mul_c1, ← hac]; omega))]; exact (hSL _).1
  · have hml : M.length = 2 * bs := by rw [hM.length, List.length_append]; omega
    have htl : (cur.take a).length = a := by rw [List.length_take]; omega
    rcases Nat.lt_or_ge c' c with h | h
    · have h1 := hBL c' h
      have hle : c' * (2 * bs) + 2 * bs ≤ (cur.take a).length := by
        rw [htl, hac]
        have : (c' + 1) * (2 * bs) ≤ c * (2 * bs) := Nat.mul_le_mul_right _ h
        rwa [Nat.add_mul, Nat.one_mul] at this
      rw [blkq_ahead hle]
      rw [← List.take_append_drop a cur, blkq_ahead hle] at h1
      exact h1
    · obtain rfl : c' = c := by omega
      rw [blkq_at (by omega) hml]
      exact blkq_two_stab hac hdr hSL hM
  · have hml : M.length = 2 * bs := by rw [hM.length, List.length_append]; omega
    rw [List.length_append, List.length_append, List.length_take, List.length_drop]; omega
  · have hml : M.length = 2 * bs := by rw [hM.length, List.length_append]; omega
    rw [← List.append_assoc, List.drop_append_of_le_length (by rw [List.length_append, List.length_take]; omega), List.drop_of_length_le (by rw [List.length_append, List.length_take]; omega), List.nil_append]
    exact drop_more hdr (by omega)
theorem two_rest {f : RG → Int} {bs c n a b m : Nat} {S L cur : List RG} (hac : a = c * (2 * bs)) (hb : b = a + 2 * bs) (hn : cur.length = n) (hSn : S.length = n) (hbn : n < b) (hm : m = a + bs) (hmn : m < n) (hdr : cur.drop a = L.drop a) (hSL : ∀ c, Stab f (blkq bs c S) (blkq bs c L))
    (hBL : ∀ c', c' < c → Stab f (blkq (2 * bs) c' S) (blkq (2 * bs) c' cur)) :
    ∃ A B, cur = cur.take a ++ (A ++ (B ++ [])) ∧ A.length = bs ∧ m + B.length = n ∧ Srt f A ∧ Srt f B ∧ ∀ M, Stab f (A ++ B) M →
      (∀ c', Stab f (blkq (2 * bs) c' S) (blkq (2 * bs) c' (cur.take a ++ (M ++ [])))) ∧ (cur.take a ++ (M ++ [])).length = n := by
  have hA : blkq bs (2 * c) cur = (cur.drop a).take bs := by unfold blkq; rw [two_mul_c, ← hac]
  have hB : blkq bs (2 * c + 1) cur = (cur.drop m).take bs := by unfold blkq; rw [two_mul_c1, ← hac, hm]
  have hAl : (blkq bs (2 * c) cur).length = bs := blkq_len (by rw [two_mul_c, ← hac]; omega)
  have hBl : m + (blkq bs (2 * c + 1) cur).length = n := by rw [hB, List.length_take, List.length_drop]; omega
  have hcut := cut3 cur a b m (by omega) (by omega)
  rw [show m - a = bs from by omega, show b - m = bs from by omega, ← hA, ← hB, List.drop_of_length_le (by omega : cur.length ≤ b)] at hcut
  refine ⟨blkq bs (2 * c) cur, blkq bs (2 * c + 1) cur, hcut, hAl, hBl, ?_, ?_, fun M hM => ⟨fun c' => ?_, ?_⟩⟩
  · rw [blkq_drop (L := cur) (L' := L) (by rw [two_mul_c, ← hac]; exact hdr)]; exact (hSL _).1
  · rw [blkq_drop (L := cur) (L' := L) (drop_more hdr (by rw [two_mul_c1, ← hac]; omega))]; exact (hSL _).1
  · have hml : M.length = n - a := by rw [hM.length, List.length_append]; omega
    have htl : (cur.take a).length = a := by rw [List.length_take]; omega
    rw [List.append_nil]
    rcases Nat.lt_trichotomy c' c with h | h | h
    · have h1 := hBL c' h
      have hle : c' * (2 * bs) + 2 * bs ≤ (cur.take a).length := by
        rw [htl, hac]
        have : (c' + 1) * (2 * bs) ≤ c * (2 * bs) := Nat.mul_le_mul_right _ h
        rwa [Nat.add_mul, Nat.one_mul] at this
      rw [blkq_ahead hle]
      rw [← List.take_append_drop a cur, blkq_ahead hle] at h1
      exact h1
    · subst h
      rw [blkq_end (by omega) (by omega)]
      exact blkq_two_stab hac hdr hSL hM
    · have hle : n ≤ c' * (2 * bs) := by
        have : (c + 1) * (2 * bs) ≤ c' * (2 * bs) := Nat.mul_le_mul_right _ h
        rw [Nat.add_mul, Nat.one_mul] at this; omega
      rw [blkq_none (by omega), blkq_none (by rw [List.length_append]; omega)]
      exact Stab.nil
  · have hml : M.length = n - a := by rw [hM.length, List.length_append]; omega
    rw [List.append_nil, List.length_append, List.length_take]; omega
theorem two_end {f : RG → Int} {bs c n a b m : Nat} {S L cur : List RG} (hac : a = c * (2 * bs)) (hb : b = a + 2 * bs) (hn : cur.length = n) (hSn : S.length = n) (hbn : n < b) (hm : m = a + bs) (hmn : n ≤ m) (hdr : cur.drop a = L.drop a) (hSL : ∀ c, Stab f (blkq bs c S) (blkq bs c L))
    (hBL : ∀ c', c' < c → Stab f (blkq (2 * bs) c' S) (blkq (2 * bs) c' cur)) : ∀ c', Stab f (blkq (2 * bs) c' S) (blkq (2 * bs) c' cur) := by
  intro c'
  rcases Nat.lt_trichotomy c' c with h | h | h
  · exact hBL c' h
  · subst h
    rw [blkq_two, blkq_two, blkq_none (c := 2 * c' + 1) (by rw [two_mul_c1, ← hac]; omega), blkq_none (c := 2 * c' + 1) (by rw [two_mul_c1, ← hac]; omega), List.append_nil, List.append_nil,
      blkq_drop (L := cur) (L' := L) (by rw [two_mul_c, ← hac]; exact hdr)]
    exact hSL _
  · have hle : n ≤ c' * (2 * bs) := by
      have : (c + 1) * (2 * bs) ≤ c' * (2 * bs) := Nat.mul_le_mul_right _ h
      rw [Nat.add_mul, Nat.one_mul] at this; omega
    rw [blkq_none (by omega), blkq_none (by omega)]
    exact Stab.nil
end Go.Proofs.YtjbcbejedaeedaaGreatDoor
/-! Ranges in memory that are put in order in place: the memory word; only some cells of a block have turned. -/
namespace Go.Proofs.YtjbcbejedaeedaaGreatDoor
open Go.RowKit

/-- the ranges L lie in block g from off on, four cells each, and may be turned -/
def SeqAt (W : World) (g off : Nat) (L : List RG) : Prop :=
  g < W.heap.size ∧ ∀ i x, L[i]? = some x → W.rangeAt g (off + i * 4) (rgCells x.val) ∧ W.there g (off + i * 4) 4
theorem SeqAt.below {W W' : World} {g off n : Nat} {L : List RG} (h : SeqAt W g off L) (hb : Below n W W') (hn : g < n) : SeqAt W' g off L :=
  ⟨Nat.lt_of_lt_of_le h.1 hb.size, fun i x hx => by
    obtain ⟨h1, h2⟩ := h.2 i x hx
    refine ⟨fun j v hv => ?_, fun j hj => ?_⟩
    · rw [hb.cell (p := ⟨g, _, none⟩) hn]; exact h1 j v hv
    · rw [hb.cell (p := ⟨g, _, none⟩) hn, hb.frozen (p := ⟨g, _, none⟩) hn]; exact h2 j hj⟩
theorem SeqAt.kept {W W' : World} {g off : Nat} {L : List RG} (h : SeqAt W g off L) (hb : Below W.heap.size W W') : SeqAt W' g off L := h.below hb h.1
theorem size_setCells (g : Nat) : ∀ (vs : List Value) (o : Nat) (W : World), (W.setCells g o vs).heap.size = W.heap.size
  | [], _, _ => rfl
  | v :: r, o, W => by rw [World.setCells, size_setCells g r]; simp
theorem SeqAt.set {W : World} {g off : Nat} {L : List RG} (h : SeqAt W g off L) (i : Nat) (hi : i < L.length) (v : RG) : SeqAt (W.setCells g (off + i * 4) (rgCells v.val)) g off (L.set i v) := by
  refine ⟨by rw [size_setCells]; exact h.1, fun j x hx => ?_⟩
  by_cases hj : i = j
  · subst hj
    rw [List.getElem?_set_self hi] at hx
    cases hx
    obtain ⟨h1, h2⟩ := h.2 i L[i] (List.getElem?_eq_getElem hi)
    exact ⟨World.rangeAt_setCells_same W g _ (rgCells v.val) h2, World.there_setCells h2 _ _ _⟩
  · rw [List.getElem?_set_ne hj] at hx
    obtain ⟨h1, h2⟩ := h.2 j x hx
    exact ⟨World.rangeAt_setCells_apart h1 _ _ _ (by simp only [rgCells, List.length_cons, List.length_nil]; omega), World.there_setCells h2 _ _ _⟩
theorem SeqAt.drew {W : World} {g off : Nat} {L : List RG} (h : SeqAt W g off L) : SeqAt W.drew g off L := h
theorem SeqAt.get {W : World} {g off : Nat} {P Q : List RG} {x : RG} (h : SeqAt W g off (P ++ x :: Q)) : W.rangeAt g (off + P.length * 4) (rgCells x.val) ∧ W.there g (off + P.length * 4) 4 := h.2 _ _ (get_at P Q x)
/-- two ranges exchanged -/
theorem SeqAt.swap {W : World} {g off a b : Nat} {P Z Q : List RG} {x y : RG} (h : SeqAt W g off (P ++ x :: (Z ++ y :: Q))) (ha : a = P.length) (hb : b = P.length + (Z.length + 1)) :
    SeqAt ((W.setCells g (off + a * 4) (rgCells y.val)).setCells g (off + b * 4) (rgCells x.val)) g off (P ++ y :: (Z ++ x :: Q)) := by
  subst ha hb
  rw [← swap_at P Z Q x y]
  exact (h.set _ (by simp) y).set _ (by simp) x
/-- the second first -/
theorem SeqAt.swap' {W : World} {g off a b : Nat} {P Z Q : List RG} {x y : RG} (h : SeqAt W g off (P ++ x :: (Z ++ y :: Q))) (ha : a = P.length) (hb : b = P.length + (Z.length + 1)) :
    SeqAt ((W.setCells g (off + b * 4) (rgCells x.val)).setCells g (off + a * 4) (rgCells y.val)) g off (P ++ y :: (Z ++ x :: Q)) := by
  subst ha hb
  rw [← swap_at P Z Q x y, List.set_comm _ _ (by omega)]
  exact (h.set _ (by simp) x).set _ (by simp) y
theorem SeqAt.part {W : World} {g off : Nat} {P L Q : List RG} (h : SeqAt W g off (P ++ (L ++ Q))) : SeqAt W g (off + P.length * 4) L :=
  ⟨h.1, fun i x hx => by
    have := h.2 (P.length + i) x (by
      rw [List.getElem?_append_right (by omega), Nat.add_sub_cancel_left, List.getElem?_append_left (List.getElem?_eq_some_iff.1 hx).1]; exact hx)
    rwa [Nat.add_mul, ← Nat.add_assoc] at this⟩
/-- a block's cells may turn, nothing else of it -/
def KindK (g : Nat) (a b : World) : Prop := ∀ cs T, a.heap[g]? = some (.cells cs T (0, 0)) → ∃ cs', b.heap[g]? = some (.cells cs' T (0, 0)) ∧ cs'.size = cs.size
theorem KindK.refl (g : Nat) (a : World) : KindK g a a := fun cs _ h => ⟨cs, h, rfl⟩
theorem KindK.trans {g : Nat} {a b c : World} (h : KindK g a b) (k : KindK g b c) : KindK g a c := fun cs T e => by
  obtain ⟨c1, e1, s1⟩ := h cs T e
  obtain ⟨c2, e2, s2⟩ := k c1 T e1
  exact ⟨c2, e2, s2.trans s1⟩
theorem KindK.set {g : Nat} {a w : World} (h : KindK g a w) (o : Nat) (v : Value) : KindK g a (w.setCell ⟨g, o, none⟩ v) := fun cs T e => by
  obtain ⟨c1, e1, s1⟩ := h cs T e
  exact ⟨_, heap_setCell_same w g o c1 T v e1, by simpa using s1⟩
/-- only cells of block g from off on, len ranges of them, have turned, and what is new was made -/
structure Frm (g off len : Nat) (a b : World) : Prop where
  only : Only (fun k => k = g) a b
  out : g < a.heap.size → ∀ k, (k < off ∨ off + len * 4 ≤ k) → b.cell? ⟨g, k, none⟩ = a.cell? ⟨g, k, none⟩ ∧ b.frozen? ⟨g, k, none⟩ = a.frozen? ⟨g, k, none⟩
  kind : KindK g a b
theorem Frm.refl (g off len : Nat) (a : World) : Frm g off len a a := ⟨Only.refl _ _, fun _ _ _ => ⟨rfl, rfl⟩, .refl _ _⟩
theorem Frm.trans {g off len : Nat} {a b c : World} (h : Frm g off len a b) (k : Frm g off len b c) : Frm g off len a c :=
  ⟨h.only.trans k.only, fun hg i hi => by
    have h1 := h.out hg i hi
    have h2 := k.out (Nat.lt_of_lt_of_le hg h.only.size) i hi
    exact ⟨h2.1.trans h1.1, h2.2.trans h1.2⟩, h.kind.trans k.kind⟩
theorem Frm.of_below {g off len : Nat} {b c : World} (k : Below b.heap.size b c) : Frm g off len b c :=
  ⟨(Only.refl _ b).below k, fun hg i _ => ⟨k.cell (p := ⟨g, i, none⟩) hg, k.frozen (p := ⟨g, i, none⟩) hg⟩, fun cs _ h => ⟨cs, (k.block g (Array.getElem?_eq_some_iff.1 h).1).trans h, rfl⟩⟩
theorem Frm.below {g off len : Nat} {a b c : World} (h : Frm g off len a b) (k : Below b.heap.size b c) : Frm g off len a c := h.trans (.of_below k)
theorem Frm.drew {g off len : Nat} {a w : World} (h : Frm g off len a w) : Frm g off len a w.drew := ⟨h.only.drew, h.out, h.kind⟩
theorem only_setCells {S : Nat → Prop} {a : World} (g : Nat) (hg : S g) : ∀ (vs : List Value) (o : Nat) (w : World), Only S a w → Only S a (w.setCells g o vs)
  | [], _, _, h => h
  | v :: r, o, w, h => by rw [World.setCells]; exact only_setCells g hg r _ _ (h.setCell (p := ⟨g, o, none⟩) hg v)
theorem setCells4 (W : World) (g o : Nat) (x : RG) : W.setCells g o (rgCells x.val) = (((W.setCell ⟨g, o, none⟩ (.int .i32 x.val.1)).setCell ⟨g, o + 1, none⟩ (.int .i32 x.val.2.1)).setCell ⟨g, o + 2, none⟩ (.int .i64 x.val.2.2.1)).setCell ⟨g, o + 3, none⟩ (.bool x.val.2.2.2) := rfl
theorem Frm.set {g off len : Nat} {a w : World} (h : Frm g off len a w) (i : Nat) (hi : i < len) (x : RG) : Frm g off len a (w.setCells g (off + i * 4) (rgCells x.val)) :=
  ⟨only_setCells (S := fun k => k = g) g rfl _ _ _ h.only, fun hg k hk => by
    have e := h.out hg k hk
    rw [World.frozen?_setCells, World.cell?_setCells_out _ _ _ _ _ (fun _ _ => by simp only [rgCells, List.length_cons, List.length_nil]; omega)]
    exact e, by rw [setCells4]; exact (((h.kind.set _ _).set _ _).set _ _).set _ _⟩
theorem Frm.widen {g off len off' len' : Nat} {a b : World} (h : Frm g off' len' a b) (h1 : off ≤ off') (h2 : off' + len' * 4 ≤ off + len * 4) : Frm g off len a b :=
  ⟨h.only, fun hg k hk => h.out hg k (by omega), h.kind⟩
/-- a part that was turned, and the rest -/
theorem SeqAt.whole {w w' : World} {g off : Nat} {P L M Q : List RG} (h : SeqAt w g off (P ++ (L ++ Q))) (h' : SeqAt w' g (off + P.length * 4) M) (hl : M.length = L.length) (hf : Frm g (off + P.length * 4) L.length w w') : SeqAt w' g off (P ++ (M ++ Q)) := by
  refine ⟨h'.1, fun i x hx => ?_⟩
  have out : ∀ i, (i < P.length ∨ P.length + L.length ≤ i) → w.rangeAt g (off + i * 4) (rgCells x.val) ∧ w.there g (off + i * 4) 4 → w'.rangeAt g (off + i * 4) (rgCells x.val) ∧ w'.there g (off + i * 4) 4 := by
    rintro i hi ⟨h1, h2⟩
    refine ⟨fun j v hv => ?_, fun j hj => ?_⟩
    · have hj : j < 4 := (List.getElem?_eq_some_iff.1 hv).1
      rw [(hf.out h.1 (off + i * 4 + j) (by omega)).1]; exact h1 j v hv
    · have e1 := hf.out h.1 (off + i * 4 + j) (by omega)
      rw [e1.1, e1.2]; exact h2 j hj
  rcases Nat.lt_or_ge i P.length with hi | hi
  · exact out i (.inl hi) (h.2 i x (by rw [List.getElem?_append_left hi] at hx ⊢; exact hx))
  · rw [List.getElem?_append_right hi] at hx
    rcases Nat.lt_or_ge (i - P.length) M.length with hj | hj
    · rw [List.getElem?_append_left hj] at hx
      have := h'.2 (i - P.length) x hx
      rwa [show off + P.length * 4 + (i - P.length) * 4 = off + i * 4 from by omega] at this
    · refine out i (.inr (by omega)) (h.2 i x (by
        rw [List.getElem?_append_right hj] at hx
        rw [List.getElem?_append_right hi, List.getElem?_append_right (by omega), ← hl]; exact hx))
theorem drop_cons' {α : Type} {l : List α} {i : Nat} (h : i < l.length) : ∃ x, l[i]? = some x ∧ l.drop i = x :: l.drop (i + 1) := ⟨l[i], List.getElem?_eq_getElem h, List.drop_eq_getElem_cons h⟩
theorem take_snoc {α : Type} {l : List α} {i : Nat} {x : α} (h : l[i]? = some x) : l.take (i + 1) = l.take i ++ [x] := by
  rw [List.take_add_one, h]; rfl
end Go.Proofs.YtjbcbejedaeedaaGreatDoor
/-! The stable sort at ranges: swapRange. -/
namespace Go.Proofs.YtjbcbejedaeedaaGreatDoor
open Go.RowKit
set_option maxHeartbeats 4000000 in
set_option maxRecDepth 1000000 in
theorem swapRange_any (cv : Value) (g off cap a b n : Nat) (P X Z Y Q : List RG) (w : World) (hs : SeqAt w g off (P ++ (X ++ (Z ++ (Y ++ Q))))) (ha : P.length = a) (hx : X.length = n) (hy : Y.length = n) (hb : a + n + Z.length = b) (len : Nat) (hlen : (P ++ (X ++ (Z ++ (Y ++ Q)))).length = len) (hl : len ≤ 1000000000) :
    Calls Tryz.prog 156 #[.slice (some ⟨g, off, none⟩) len cap, .int .i64 a, .int .i64 b, .int .i64 n, cv] w fun e w' => e = .returned (.tuple #[]) ∧ SeqAt w' g off (P ++ (Y ++ (Z ++ (X ++ Q)))) ∧ Frm g off len w w' := by
  have HS := Lib.hid hs
  have hall : a + n + Z.length + n ≤ len := by rw [← hlen]; simp; omega
  clear hs hlen
  go_enter Tryz.func156, Tryz.ntmps156
  go_wp2
  go_loopw [10] (fun iv wr => ∃ i : Nat, iv = .int .i64 i ∧ i ≤ n ∧ SeqAt wr g off (P ++ ((Y.take i ++ X.drop i) ++ (Z ++ ((X.take i ++ Y.drop i) ++ Q)))) ∧ Frm g off len w wr) (fun iv _ => n - (intOf iv).toNat)
  case atStart => exact ⟨0, rfl, Nat.zero_le _, by simpa using HS.out, Frm.refl _ _ _ _⟩
  case round =>
    obtain ⟨i, rfl, hin, hsq, ho⟩ := hrel
    have HQ := Lib.hid hsq
    have HO := Lib.hid ho
    clear hsq ho
    by_cases hlt : i < n
    · obtain ⟨x, hx1, hx2⟩ := drop_cons' (l := X) (i := i) (by omega)
      obtain ⟨y, hy1, hy2⟩ := drop_cons' (l := Y) (i := i) (by omega)
      obtain ⟨ia, hia⟩ : ∃ ia, ia = a + i := ⟨_, rfl⟩
      obtain ⟨ib, hib⟩ : ∃ ib, ib = b + i := ⟨_, rfl⟩
      have h1 : (a : Int) + (i : Int) = (ia : Int) := by omega
      have h2 : (b : Int) + (i : Int) = (ib : Int) := by omega
      have HQ' : Hid (SeqAt wr g off ((P ++ Y.take i) ++ x :: ((X.drop (i + 1) ++ (Z ++ X.take i)) ++ y :: (Y.drop (i + 1) ++ Q)))) := by
        have := HQ.out
        rw [hx2, hy2] at this
        show SeqAt _ _ _ _
        simpa [List.append_assoc] using this
      have l1 : ia = (P ++ Y.take i).length := by simp; omega
      have l2 : ib = (P ++ Y.take i).length + ((X.drop (i + 1) ++ (Z ++ X.take i)).length + 1) := by simp; omega
      have c1 := HQ'.out.get
      rw [← l1] at c1
      have c2 : wr.rangeAt g (off + ib * 4) (rgCells y.val) ∧ wr.there g (off + ib * 4) 4 := HQ'.out.2 ib y (by
        rw [l2, List.getElem?_append_right (by omega), Nat.add_sub_cancel_left, List.getElem?_cons_succ, List.getElem?_append_right (Nat.le_refl _), Nat.sub_self]; rfl)
      obtain ⟨r1, t1⟩ := c1
      obtain ⟨r2, t2⟩ := c2
      obtain ⟨x0, x1, x2, x3⟩ : wr.cell? ⟨g, off + ia * 4, none⟩ = some (.int .i32 x.val.1) ∧ wr.cell? ⟨g, off + ia * 4 + 1, none⟩ = some (.int .i32 x.val.2.1) ∧ wr.cell? ⟨g, off + ia * 4 + 2, none⟩ = some (.int .i64 x.val.2.2.1) ∧ wr.cell? ⟨g, off + ia * 4 + 3, none⟩ = some (.bool x.val.2.2.2) := ⟨r1 0 _ rfl, r1 1 _ rfl, r1 2 _ rfl, r1 3 _ rfl⟩
      obtain ⟨y0, y1, y2, y3⟩ : wr.cell? ⟨g, off + ib * 4, none⟩ = some (.int .i32 y.val.1) ∧ wr.cell? ⟨g, off + ib * 4 + 1, none⟩ = some (.int .i32 y.val.2.1) ∧ wr.cell? ⟨g, off + ib * 4 + 2, none⟩ = some (.int .i64 y.val.2.2.1) ∧ wr.cell? ⟨g, off + ib * 4 + 3, none⟩ = some (.bool y.val.2.2.2) := ⟨r2 0 _ rfl, r2 1 _ rfl, r2 2 _ rfl, r2 3 _ rfl⟩
      obtain ⟨v0, v1, v2, v3⟩ : wr.frozen? ⟨g, off + ia * 4, none⟩ = false ∧ wr.frozen? ⟨g, off + ia * 4 + 1, none⟩ = false ∧ wr.frozen? ⟨g, off + ia * 4 + 2, none⟩ = false ∧ wr.frozen? ⟨g, off + ia * 4 + 3, none⟩ = false := ⟨(t1 0 (by omega)).2, (t1 1 (by omega)).2, (t1 2 (by omega)).2, (t1 3 (by omega)).2⟩
      obtain ⟨w0, w1, w2, w3⟩ : wr.frozen? ⟨g, off + ib * 4, none⟩ = false ∧ wr.frozen? ⟨g, off + ib * 4 + 1, none⟩ = false ∧ wr.frozen? ⟨g, off + ib * 4 + 2, none⟩ = false ∧ wr.frozen? ⟨g, off + ib * 4 + 3, none⟩ = false := ⟨(t2 0 (by omega)).2, (t2 1 (by omega)).2, (t2 2 (by omega)).2, (t2 3 (by omega)).2⟩
      clear r1 r2 t1 t2
      have hne : ia ≠ ib := by omega
      have L1 := Lib.hid l1
      have L2 := Lib.hid l2
      have hal : ia < len := by omega
      have hbl : ib < len := by omega
      have HX := Lib.hid hx1
      have HY := Lib.hid hy1
      have HX2 := Lib.hid (And.intro hx hy)
      clear l1 l2 hx1 hy1 hx2 hy2 hx hy hb ha hia hib hall
      go_wp2
      go_region
      all_goals (go_wp2; go_roundw)
      case rel => 
        refine ⟨i + 1, by go_num, by omega, ?_, ?_⟩
        · have h := HQ'.out.swap L1.out L2.out
          have := h.drew
          rw [setCells4, setCells4] at this
          rw [take_snoc HX.out, take_snoc HY.out]
          simpa [List.append_assoc] using this
        · have := ((HO.out.set ia hal y).set ib hbl x).drew
          rwa [setCells4, setCells4] at this
      case measure => (have : i < n := hlt; show n - ((i : Int) + 1).toNat < n - ((i : Int)).toNat; omega)
    · obtain rfl : i = n := by omega
      go_wp2
      go_end0
      refine ⟨rfl, ?_, HO.out⟩
      have := HQ.out
      rwa [List.take_of_length_le (by omega), List.take_of_length_le (by omega), List.drop_of_length_le (by omega), List.drop_of_length_le (by omega), List.append_nil, List.append_nil] at this
end Go.Proofs.YtjbcbejedaeedaaGreatDoor
/-! The stable sort at ranges: rotate. -/
/-! slices.SortStableFunc at ranges: rotate. -/
namespace Go.Proofs.YtjbcbejedaeedaaGreatDoor
open Go.RowKit

set_option maxHeartbeats 4000000 in
set_option maxRecDepth 1000000 in
theorem rotate_any (cv : Value) (g off cap a m b : Nat) (P A B Q : List RG) (w : World) (hs : SeqAt w g off (P ++ (A ++ (B ++ Q)))) (ha : P.length = a) (hm : a + A.length = m) (hb : m + B.length = b) (hA : 0 < A.length) (hB : 0 < B.length) (len : Nat) (hlen : (P ++ (A ++ (B ++ Q))).length = len) (hl : len ≤ 1000000000) :
    Calls Tryz.prog 130 #[.slice (some ⟨g, off, none⟩) len cap, .int .i64 a, .int .i64 m, .int .i64 b, cv] w fun e w' => e = .returned (.tuple #[]) ∧ SeqAt w' g off (P ++ (B ++ (A ++ Q))) ∧ Frm g off len w w' := by
  have HS := Lib.hid hs
  have HL := Lib.hid hlen
  have hbl : b ≤ len := by rw [← hlen]; simp; omega
  have k1 : (m : Int) - (a : Int) = (A.length : Int) := by omega
  have k2 : (b : Int) - (m : Int) = (B.length : Int) := by omega
  clear hs hlen
  go_enter Tryz.func130, Tryz.ntmps130
  go_wp2
  go_loopw [10, 11] (fun iv jv wr => ∃ P' X Y Q' : List RG, iv = .int .i64 X.length ∧ jv = .int .i64 Y.length ∧ 0 < X.length ∧ 0 < Y.length ∧ P'.length + X.length = m ∧ m + Y.length ≤ b ∧ (P' ++ (X ++ (Y ++ Q'))).length = len ∧ P' ++ (Y ++ (X ++ Q')) = P ++ (B ++ (A ++ Q)) ∧ SeqAt wr g off (P' ++ (X ++ (Y ++ Q'))) ∧ Frm g off len w wr) (fun iv jv _ => (intOf iv + intOf jv).toNat)
  case atStart => exact ⟨P, A, B, Q, rfl, rfl, hA, hB, by omega, by omega, HL.out, rfl, HS.out, Frm.refl _ _ _ _⟩
  case round =>
    obtain ⟨P', X, Y, Q', rfl, rfl, hX, hY, hp, hmy, hln, ht, hsq, ho⟩ := hrel
    have HQ := Lib.hid hsq
    have HO := Lib.hid ho
    have HT := Lib.hid ht
    have HLN := Lib.hid hln
    have hln0 : len = P'.length + (X.length + (Y.length + Q'.length)) := by rw [← hln]; simp
    have hlb : P'.length + (X.length + (Y.length + Q'.length)) = len := by rw [← hln]; simp
    clear hsq ho ht hln HS HL
    obtain ⟨i, hi⟩ : ∃ i, i = X.length := ⟨_, rfl⟩
    obtain ⟨j, hj⟩ : ∃ j, j = Y.length := ⟨_, rfl⟩
    obtain ⟨q, hq⟩ : ∃ q, q = P'.length := ⟨_, rfl⟩
    have hmq : (m : Int) - (i : Int) = (q : Int) := by omega
    have hb1 : q ≤ 1000000000 := by omega
    have hb3 : m + j ≤ 1000000000 := by omega
    have hb4 : m + i ≤ 2000000000 := by omega
    rw [← hi, ← hj]
    rcases Nat.lt_trichotomy i j with hij | hij | hij
    · -- the second is longer: its end is turned with the first
      obtain ⟨n, hn⟩ : ∃ n, n = j - i := ⟨_, rfl⟩
      obtain ⟨b2, hb2⟩ : ∃ b2, b2 = m + n := ⟨_, rfl⟩
      have h1 : (j : Int) - (i : Int) = (n : Int) := by omega
      have h2 : (m : Int) + (j : Int) - (i : Int) = (b2 : Int) := by omega
      have g1 : ¬ ((i : Int) = (j : Int)) := by omega
      have g2 : ¬ ((j : Int) < (i : Int)) := by omega
      have g3 : ¬ (i = j) := by omega
      have g4 : ¬ (j < i) := by omega
      have hY2 : (Y.drop n).length = i := by rw [List.length_drop]; omega
      have hY1 : (Y.take n).length = n := by rw [List.length_take]; omega
      have hsq : SeqAt wr g off (P' ++ (X ++ (Y.take n ++ (Y.drop n ++ Q')))) := by
        have := HQ.out; rw [← List.take_append_drop n Y] at this; simpa only [List.append_assoc] using this
      have hc := swapRange_any cv g off cap q b2 i P' X (Y.take n) (Y.drop n) Q' wr hsq hq.symm hi.symm hY2 (by rw [hY1]; omega) len (by rw [hln0]; simp; omega) hl
      have HY1 := Lib.hid hY1
      have HY2 := Lib.hid hY2
      have HAR := Lib.hid (And.intro hX (And.intro hY (And.intro hmy (And.intro hn (And.intro hp (And.intro hi (And.intro hj hij)))))))
      clear hsq hY1 hY2 hln0 hlb hX hY hmy hn hp hi hj hij hq hb2 k1 k2 hbl hm hb hA hB ha
      go_wp2_with fail
      with_reducible refine hc.mono ?_
      rintro e w1 ⟨rfl, hs1, ho1⟩
      have HS1 := Lib.hid hs1
      have HO1 := Lib.hid (HO.out.trans ho1)
      clear hc hs1 ho1
      go_wp2_with fail
      go_roundw
      case rel =>
        obtain ⟨hX, hY, hmy, hn, hp, hi, hj, hij⟩ := HAR.out
        refine ⟨P', Y.drop n, Y.take n, X ++ Q', by rw [HY2.out, hi], by rw [HY1.out], by rw [HY2.out]; omega, by rw [HY1.out]; omega, by rw [HY2.out]; omega, by rw [HY1.out]; omega, ?_, ?_, ?_, HO1.out⟩
        · have := HLN.out
          have e1 := HY1.out
          have e2 := HY2.out
          simp only [List.length_append] at *
          omega
        · rw [← HT.out]
          conv => rhs; rw [← List.take_append_drop n Y]
          simp only [List.append_assoc]
        · exact HS1.out
      case measure => (obtain ⟨hX, hY, hmy, hn, hp, hi, hj, hij⟩ := HAR.out; show ((i : Int) + (n : Int)).toNat < ((i : Int) + (j : Int)).toNat; omega)
    · -- alike: turned, and done
      have g1 : (i : Int) = (j : Int) := by omega
      have hsq : SeqAt wr g off (P' ++ (X ++ ([] ++ (Y ++ Q')))) := by simpa using HQ.out
      have hc := swapRange_any cv g off cap q m i P' X [] Y Q' wr hsq hq.symm hi.symm (by omega) (by simp; omega) len (by rw [hln0]; simp) hl
      clear hsq hln0 hlb hX hY hmy hp hi hj hq k1 k2 hbl hm hb hA hB ha
      subst hij
      go_wp2_with fail
      with_reducible refine hc.mono ?_
      rintro e w1 ⟨rfl, hs1, ho1⟩
      have HS1 := Lib.hid hs1
      have HO1 := Lib.hid (HO.out.trans ho1)
      clear hc hs1 ho1
      go_wp2_with fail
      go_end0
      refine ⟨rfl, ?_, HO1.out⟩
      rw [← HT.out]
      simpa using HS1.out
    · -- the first is longer: its beginning is turned with the second
      obtain ⟨n, hn⟩ : ∃ n, n = i - j := ⟨_, rfl⟩
      have h1 : (i : Int) - (j : Int) = (n : Int) := by omega
      have g1 : ¬ ((i : Int) = (j : Int)) := by omega
      have g2 : (j : Int) < (i : Int) := by omega
      have g3 : ¬ (i = j) := by omega
      have g4 : j < i := by omega
      have hX2 : (X.drop j).length = n := by rw [List.length_drop]; omega
      have hX1 : (X.take j).length = j := by rw [List.length_take]; omega
      have hsq : SeqAt wr g off (P' ++ (X.take j ++ (X.drop j ++ (Y ++ Q')))) := by
        have := HQ.out; rw [← List.take_append_drop j X] at this; simpa only [List.append_assoc] using this
      have hc := swapRange_any cv g off cap q m j P' (X.take j) (X.drop j) Y Q' wr hsq hq.symm hX1 hj.symm (by rw [hX2]; omega) len (by rw [hln0]; simp; omega) hl
      have HX1 := Lib.hid hX1
      have HX2 := Lib.hid hX2
      have HAR := Lib.hid (And.intro hX (And.intro hY (And.intro hmy (And.intro hn (And.intro hp (And.intro hi (And.intro hj hij)))))))
      clear hsq hX1 hX2 hln0 hlb hX hY hmy hn hp hi hj hij hq k1 k2 hbl hm hb hA hB ha
      go_wp2_with fail
      with_reducible refine hc.mono ?_
      rintro e w1 ⟨rfl, hs1, ho1⟩
      have HS1 := Lib.hid hs1
      have HO1 := Lib.hid (HO.out.trans ho1)
      clear hc hs1 ho1
      go_wp2_with fail
      go_roundw
      case rel =>
        obtain ⟨hX, hY, hmy, hn, hp, hi, hj, hij⟩ := HAR.out
        refine ⟨P' ++ Y, X.drop j, X.take j, Q', by rw [HX2.out], by rw [HX1.out], by rw [HX2.out]; omega, by rw [HX1.out]; omega, by rw [HX2.out]; simp; omega, by rw [HX1.out]; omega, ?_, ?_, ?_, HO1.out⟩
        · have := HLN.out
          have e1 := HX1.out
          have e2 := HX2.out
          simp only [List.length_append] at *
          omega
        · rw [← HT.out]
          conv => rhs; rw [← List.take_append_drop j X]
          simp only [List.append_assoc]
        · simpa only [List.append_assoc] using HS1.out
      case measure => (obtain ⟨hX, hY, hmy, hn, hp, hi, hj, hij⟩ := HAR.out; show ((n : Int) + (j : Int)).toNat < ((i : Int) + (j : Int)).toNat; omega)
end Go.Proofs.YtjbcbejedaeedaaGreatDoor
/-! The stable sort at ranges: the comparator; insertionSort; the contract of symMerge. -/
namespace Go.Proofs.YtjbcbejedaeedaaGreatDoor
open Go.RowKit

theorem rg_cells {W : World} {g o : Nat} {x : RG} (h : W.rangeAt g o (rgCells x.val)) : W.cell? ⟨g, o, none⟩ = some (.int .i32 x.val.1) ∧ W.cell? ⟨g, o + 1, none⟩ = some (.int .i32 x.val.2.1) ∧ W.cell? ⟨g, o + 2, none⟩ = some (.int .i64 x.val.2.2.1) ∧ W.cell? ⟨g, o + 3, none⟩ = some (.bool x.val.2.2.2) := ⟨h 0 _ rfl, h 1 _ rfl, h 2 _ rfl, h 3 _ rfl⟩
theorem rg_there {W : World} {g o : Nat} (h : W.there g o 4) : W.frozen? ⟨g, o, none⟩ = false ∧ W.frozen? ⟨g, o + 1, none⟩ = false ∧ W.frozen? ⟨g, o + 2, none⟩ = false ∧ W.frozen? ⟨g, o + 3, none⟩ = false := ⟨(h 0 (by omega)).2, (h 1 (by omega)).2, (h 2 (by omega)).2, (h 3 (by omega)).2⟩
/-- a comparator by a number of each code point, in worlds of J, which lasts where only block g is turned -/
structure CmpBy (f : RG → Int) (g : Nat) (J : World → Prop) : Prop where
  call : ∀ x y W, J W → Calls Tryz.prog 22 #[rgAgg x.val, rgAgg y.val] W fun e w' => e = .returned (.int .i64 (f x - f y)) ∧ Below W.heap.size W w'
  keep : ∀ W W', J W → Only (fun k => k = g) W W' → J W'
theorem CmpBy.below {f : RG → Int} {g : Nat} {J : World → Prop} (h : CmpBy f g J) {W W' : World} (hj : J W) (hb : Below W.heap.size W W') : J W' := h.keep W W' hj ((Only.refl _ W).below hb)
theorem snoc_cases (U : List RG) : U = [] ∨ ∃ U' u, U = U' ++ [u] := by
  rcases List.eq_nil_or_concat U with h | ⟨L, b, h⟩
  · exact .inl h
  · exact .inr ⟨L, b, by simpa using h⟩
set_option maxHeartbeats 8000000 in
set_option maxRecDepth 1000000 in
theorem insertion_any (f : RG → Int) (J : World → Prop) (g off cap a b : Nat) (P S Q : List RG) (w : World) (hC : CmpBy f g J) (hs : SeqAt w g off (P ++ (S ++ Q))) (hj : J w) (ha : P.length = a) (hb : a + S.length = b) (len : Nat) (hlen : P.length + (S.length + Q.length) = len) (hl : len ≤ 1000000000) :
    Calls Tryz.prog 95 #[.slice (some ⟨g, off, none⟩) len cap, .int .i64 a, .int .i64 b, .func (.func 22) #[] #[]] w fun e w' =>
      e = .returned (.tuple #[]) ∧ (∃ M, Stab f S M ∧ SeqAt w' g off (P ++ (M ++ Q))) ∧ Frm g off len w w' := by
  have HS := Lib.hid hs
  have HJ := Lib.hid hj
  have HC := Lib.hid hC
  have hbl : b ≤ len := by omega
  have hab : a ≤ b := by omega
  have HLN := Lib.hid (And.intro ha (And.intro hb hlen))
  clear hs hj hC ha hb hlen
  go_enter Tryz.func95, Tryz.ntmps95
  go_wp2
  go_loopw [8] (fun iv wr => ∃ (i k : Nat) (M : List RG), iv = .int .i64 i ∧ i = a + k ∧ 1 ≤ k ∧ (k ≤ S.length ∨ (S = [] ∧ k = 1)) ∧ Stab f (S.take k) M ∧ SeqAt wr g off (P ++ (M ++ (S.drop k ++ Q))) ∧ Frm g off len w wr) (fun iv _ => b + 1 - (intOf iv).toNat)
  case atStart =>
    refine ⟨a + 1, 1, S.take 1, by go_num, rfl, Nat.le_refl _, ?_, ?_, ?_, Frm.refl _ _ _ _⟩
    · cases S with
      | nil => exact .inr ⟨rfl, rfl⟩
      | cons x xs => exact .inl (by simp)
    · cases S with
      | nil => exact Stab.nil
      | cons x xs => simpa using Stab.one x
    · rw [← List.append_assoc (S.take 1), List.take_append_drop]; exact HS.out
  case round =>
    obtain ⟨i, k, M, rfl, hik, hk1, hkS, hM, hsq, ho⟩ := hrel
    have HM := Lib.hid hM
    have HQ := Lib.hid hsq
    have HO := Lib.hid ho
    have HK := Lib.hid (And.intro hik (And.intro hk1 hkS))
    clear hM hsq ho hik hk1 hkS
    by_cases hlt : i < b
    · have hkl : k < S.length := by have := HLN.out; have := HK.out.1; omega
      obtain ⟨x, hx1, hx2⟩ := drop_cons' hkl
      have HX := Lib.hid hx1
      have HX2 := Lib.hid hx2
      have HKL := Lib.hid hkl
      clear hx1 hx2 hkl
      have e1 : (i : Int) < (b : Int) := by omega
      go_wp2_with fail
      go_loopw [9] (fun jv wr2 => ∃ (j : Nat) (U V : List RG), jv = .int .i64 j ∧ j = a + U.length ∧ Stab f (S.take k) (U ++ V) ∧ (∀ v ∈ V, f x < f v) ∧ SeqAt wr2 g off (P ++ (U ++ (x :: (V ++ (S.drop (k + 1) ++ Q))))) ∧ Frm g off len w wr2) (fun jv _ => (intOf jv).toNat)
      case atStart =>
        refine ⟨i, M, [], rfl, ?_, by simpa using HM.out, fun v hv => by simp at hv, ?_, HO.out⟩
        · rw [HM.out.length, List.length_take, Nat.min_eq_left (Nat.le_of_lt HKL.out)]; exact HK.out.1
        · have := HQ.out; rw [HX2.out] at this; simpa using this
      case round =>
        obtain ⟨j, U, V, rfl, hju, hst, hv, hsq2, ho2⟩ := hrel
        have HST := Lib.hid hst
        have HV := Lib.hid hv
        have HQ2 := Lib.hid hsq2
        have HO2 := Lib.hid ho2
        have HU := Lib.hid hju
        have HJ2 : Hid (J wr) := HC.out.keep _ _ HJ.out ho2.only
        have hjl : U.length < S.length := by
          have e1 := hst.length
          have e2 := HKL.out
          rw [List.length_take, List.length_append] at e1
          omega
        have hjb : j < len := by have := HLN.out; omega
        clear hst hv hsq2 ho2 hjl
        -- what comes of a round that ends the inner loop
        have OUT : Hid (∀ w2, Below wr.heap.size wr w2 → (∀ u ∈ U, f u ≤ f x) → ∃ (i' k' : Nat) (M : List RG), Value.int .i64 ((i : Int) + 1) = .int .i64 i' ∧ i' = a + k' ∧ 1 ≤ k' ∧ (k' ≤ S.length ∨ (S = [] ∧ k' = 1)) ∧ Stab f (S.take k') M ∧ SeqAt w2 g off (P ++ (M ++ (S.drop k' ++ Q))) ∧ Frm g off len w w2) := by
          intro w2 hw2 hu
          refine ⟨i + 1, k + 1, U ++ x :: V, by go_num, by have := HK.out.1; omega, by omega, .inl HKL.out, ?_, ?_, HO2.out.below hw2⟩
          · rw [take_snoc HX.out]; exact HST.out.insert hu HV.out
          · simpa [List.append_assoc] using HQ2.out.kept hw2
        rcases snoc_cases U with hU | ⟨U', u, hU⟩
        · -- at the beginning
          have hja : j = a := by rw [hju, hU]; rfl
          have g1 : ¬ ((a : Int) < (j : Int)) := by omega
          clear hju
          go_wp2_with fail
          refine wp_region_over (by kernel_rfl) (by kernel_rfl) ?_; (repeat (go_big_quiet_step ((fail)))); refine wpQuiet_nil ?_; intro w1 hb1
          have HB1 := Lib.hid hb1
          clear hb1
          go_wp2_with fail
          go_roundw
          case rel => exact OUT.out _ HB1.out (fun u hu => by rw [hU] at hu; cases hu)
          case measure => (have := HK.out.1; have := HKL.out; have := HLN.out; show b + 1 - ((i : Int) + 1).toNat < b + 1 - (i : Int).toNat; omega)
        · have haj : a < j := by rw [hju, hU]; simp
          have g1 : (a : Int) < (j : Int) := by omega
          obtain ⟨j', hj'⟩ : ∃ j', j' = a + U'.length := ⟨_, rfl⟩
          have hjj : (j : Int) - 1 = (j' : Int) := by rw [hju, hU, hj']; simp; omega
          subst hU
          clear hju
          have hq : SeqAt wr g off ((P ++ U') ++ u :: ([] ++ x :: (V ++ (S.drop (k + 1) ++ Q)))) := by simpa [List.append_assoc] using HQ2.out
          have l1 : j' = (P ++ U').length := by have := HLN.out.1; simp; omega
          have l2 : j = (P ++ U').length + (([] : List RG).length + 1) := by have := HLN.out.1; simp; omega
          obtain ⟨c1, c2⟩ := hq.get
          rw [← l1] at c1 c2
          obtain ⟨c3, c4⟩ := hq.2 j x (by rw [l2, List.getElem?_append_right (by omega), Nat.add_sub_cancel_left]; rfl)
          obtain ⟨c1, c10, c11, c12⟩ := rg_cells c1
          obtain ⟨c2, c20, c21, c22⟩ := rg_there c2
          obtain ⟨c3, c30, c31, c32⟩ := rg_cells c3
          obtain ⟨c4, c40, c41, c42⟩ := rg_there c4
          have HQ3 := Lib.hid hq
          have L1 := Lib.hid (And.intro l1 l2)
          have hca : ∀ u', Calls Tryz.prog 22 #[rgAgg x.val, rgAgg u.val] (over wr u') fun e w' => e = .returned (.int .i64 (f x - f u)) ∧ Below (over wr u').heap.size (over wr u') w' :=
            fun u' => HC.out.call x u _ (HC.out.keep _ _ HJ2.out ((Only.refl _ _).below (below_over wr u')))
          have hjl' : j' < len := by omega
          obtain ⟨q, hqe⟩ : ∃ q, q = f x - f u := ⟨_, rfl⟩
          rw [← hqe] at hca
          have HQE := Lib.hid hqe
          have HCA := Lib.hid hca
          have hgl := hq.1
          clear hq l1 l2 hqe hj' hca
          by_cases hq0 : q < 0
          · have g2 : decide (q < 0) = true := decide_eq_true hq0
            go_wp2_with fail
            refine wp_region_over (by kernel_rfl) (by kernel_rfl) ?_; (repeat (go_big_quiet_step (((go_at_call 22; exact over_of (HCA.out _)))))); refine wpQuiet_nil ?_; intro w1 hb1
            have HB1 := Lib.hid hb1
            have hk1 := HQ3.out.kept hb1
            obtain ⟨d1, d2⟩ := hk1.get
            rw [← L1.out.1] at d1 d2
            obtain ⟨d3, d4⟩ := hk1.2 j x (by rw [L1.out.2, List.getElem?_append_right (by omega), Nat.add_sub_cancel_left]; rfl)
            obtain ⟨d1, d10, d11, d12⟩ := rg_cells d1
            obtain ⟨d2, d20, d21, d22⟩ := rg_there d2
            obtain ⟨d3, d30, d31, d32⟩ := rg_cells d3
            obtain ⟨d4, d40, d41, d42⟩ := rg_there d4
            clear hb1 hk1 c1 c10 c11 c12 c2 c20 c21 c22 c3 c30 c31 c32 c4 c40 c41 c42
            have hne : j' ≠ j := by omega
            go_wp2_with fail
            go_region
            all_goals (go_wp2; go_roundw)
            case rel =>
              have h := ((HQ3.out.kept HB1.out).swap' L1.out.1 L1.out.2).drew
              have h2 := (((HO2.out.below HB1.out).set j hjb u).set j' hjl' x).drew
              rw [setCells4, setCells4] at h h2
              have hu' : f x < f u := by have := HQE.out; omega
              refine ⟨j', U', u :: V, rfl, by have := L1.out.1; have := HLN.out.1; simp at *; omega, by simpa [List.append_assoc] using HST.out, fun v hv => ?_, by simpa [List.append_assoc] using h, h2⟩
              rcases List.mem_cons.1 hv with rfl | hv
              · exact hu'
              · exact HV.out v hv
            case measure => (show (j' : Int).toNat < (j : Int).toNat; omega)
          · have g2 : decide (q < 0) = false := decide_eq_false hq0
            go_wp2_with fail
            refine wp_region_over (by kernel_rfl) (by kernel_rfl) ?_; (repeat (go_big_quiet_step (((go_at_call 22; exact over_of (HCA.out _)))))); refine wpQuiet_nil ?_; intro w1 hb1
            have HB1 := Lib.hid hb1
            clear hb1
            go_wp2_with fail
            go_roundw
            case rel =>
              refine OUT.out _ HB1.out (fun z hz => ?_)
              rcases List.mem_append.1 hz with hz | hz
              · have h1 := HST.out.1.left.across hz (by simp : u ∈ [u])
                have := HQE.out; omega
              · simp at hz; subst hz; have := HQE.out; omega
            case measure => (have := HK.out.1; have := HKL.out; have := HLN.out; show b + 1 - ((i : Int) + 1).toNat < b + 1 - (i : Int).toNat; omega)
    · have e1 : ¬ ((i : Int) < (b : Int)) := by omega
      go_wp2_with fail
      go_end0
      have hd : S.drop k = [] := List.drop_of_length_le (by have := HK.out; have := HLN.out; rcases HK.out.2.2 with h | ⟨h, _⟩; (· omega); (· rw [h]; simp))
      have ht : S.take k = S := List.take_of_length_le (by have := HK.out; have := HLN.out; rcases HK.out.2.2 with h | ⟨h, _⟩; (· omega); (· rw [h]; simp))
      refine ⟨rfl, ⟨M, ?_, ?_⟩, HO.out⟩
      · rw [← ht]; exact HM.out
      · have := HQ.out; rwa [hd, List.nil_append] at this
/-- the contract of symMerge, of parts of fewer than N elements -/
def SymBelow (f : RG → Int) (J : World → Prop) (g off cap len N : Nat) : Prop :=
  ∀ (a m b : Nat) (P A B Q : List RG) (w : World), A.length + B.length < N → 0 < A.length → 0 < B.length → Srt f A → Srt f B → SeqAt w g off (P ++ (A ++ (B ++ Q))) → J w → P.length = a → a + A.length = m → m + B.length = b → P.length + (A.length + (B.length + Q.length)) = len →
    Calls Tryz.prog 96 #[.slice (some ⟨g, off, none⟩) len cap, .int .i64 a, .int .i64 m, .int .i64 b, .func (.func 22) #[] #[]] w fun e w' =>
      e = .returned (.tuple #[]) ∧ (∃ M, Stab f (A ++ B) M ∧ SeqAt w' g off (P ++ (M ++ Q))) ∧ Frm g off len w w'
end Go.Proofs.YtjbcbejedaeedaaGreatDoor
/-! slices.SortStableFunc at ranges: symMerge where the first part is one element. slices.SortStableFunc at ranges: symMerge where the second part is one element. -/
/-! slices.SortStableFunc at ranges: symMerge where the first part is one element. -/
namespace Go.Proofs.YtjbcbejedaeedaaGreatDoor
open Go.RowKit

set_option maxHeartbeats 8000000 in
set_option maxRecDepth 1000000 in
theorem symLeft_any (f : RG → Int) (J : World → Prop) (g off cap a m b : Nat) (P B Q : List RG) (x : RG) (w : World) (hC : CmpBy f g J) (hs : SeqAt w g off (P ++ ([x] ++ (B ++ Q)))) (hj : J w) (ha : P.length = a) (hm : a + 1 = m) (hb : m + B.length = b) (hB : Srt f B) (len : Nat) (hlen : P.length + (1 + (B.length + Q.length)) = len) (hl : len ≤ 1000000000) :
    Calls Tryz.prog 96 #[.slice (some ⟨g, off, none⟩) len cap, .int .i64 a, .int .i64 m, .int .i64 b, .func (.func 22) #[] #[]] w fun e w' =>
      e = .returned (.tuple #[]) ∧ (∃ M, Stab f ([x] ++ B) M ∧ SeqAt w' g off (P ++ (M ++ Q))) ∧ Frm g off len w w' := by
  have HS := Lib.hid hs
  have HJ := Lib.hid hj
  have HC := Lib.hid hC
  have HLN := Lib.hid (And.intro ha (And.intro hm (And.intro hb hlen)))
  have HSB := Lib.hid hB
  have hma : (m : Int) - (a : Int) = 1 := by omega
  have hbl : b ≤ len := by omega
  have hmb : m ≤ b := by omega
  have hal : a < len := by omega
  clear hs hj hC ha hb hlen hB hm
  go_enter Tryz.func96, Tryz.ntmps96
  go_wp2
  go_loopw [10, 11, 12] (fun iv jv _ wr => ∃ (i j : Nat), iv = .int .i64 i ∧ jv = .int .i64 j ∧ m ≤ i ∧ i ≤ j ∧ j ≤ b ∧ (∀ t y, m + t < i → B[t]? = some y → f y < f x) ∧ (∀ t y, j ≤ m + t → B[t]? = some y → f x ≤ f y) ∧ Below w.heap.size w wr) (fun iv jv _ _ => (intOf jv - intOf iv).toNat)
  case atStart => exact ⟨m, b, rfl, rfl, Nat.le_refl _, hmb, Nat.le_refl _, fun t y h => by omega, fun t y h hy => by have := (List.getElem?_eq_some_iff.1 hy).1; have := HLN.out; omega, Below.refl _ _⟩
  case round =>
    obtain ⟨i, j, rfl, rfl, hmi, hij, hjb, hlo, hhi, hbw⟩ := hrel
    have HLO := Lib.hid hlo
    have HHI := Lib.hid hhi
    have HBW := Lib.hid hbw
    have hsq : SeqAt wr g off (P ++ ([x] ++ (B ++ Q))) := HS.out.kept hbw
    have HJW : Hid (J wr) := HC.out.below HJ.out hbw
    clear hlo hhi hbw
    by_cases hlt : i < j
    · have e1 : (i : Int) < (j : Int) := by omega
      obtain ⟨h, hh⟩ : ∃ h, h = (i + j) / 2 := ⟨_, rfl⟩
      have hhm : ((i : Int) + (j : Int)) / 2 = (h : Int) := by omega
      obtain ⟨t, ht⟩ : ∃ t, t = h - m := ⟨_, rfl⟩
      have htl : t < B.length := by have := HLN.out; omega
      obtain ⟨y, hy⟩ : ∃ y, B[t]? = some y := ⟨B[t], List.getElem?_eq_getElem htl⟩
      have c1 := (hsq.2 h y (by
        have := HLN.out
        rw [List.getElem?_append_right (by omega), List.getElem?_append_right (by simp; omega), List.getElem?_append_left (by simp; omega), List.length_singleton, show h - P.length - 1 = t from by omega]; exact hy)).1
      have c2 := (hsq.2 a x (by rw [← HLN.out.1]; exact get_at P (B ++ Q) x)).1
      have hhl : h < len := by omega
      have hih : i ≤ h := by omega
      have hhj : h < j := by omega
      have hca : ∀ u', Calls Tryz.prog 22 #[rgAgg y.val, rgAgg x.val] (over wr u') fun e w' => e = .returned (.int .i64 (f y - f x)) ∧ Below (over wr u').heap.size (over wr u') w' :=
        fun u' => HC.out.call y x _ (HC.out.keep _ _ HJW.out ((Only.refl _ _).below (below_over wr u')))
      obtain ⟨q, hqe⟩ : ∃ q, q = f y - f x := ⟨_, rfl⟩
      rw [← hqe] at hca
      have HCA := Lib.hid hca
      have hgl := hsq.1
      obtain ⟨c1, c10, c11, c12⟩ := rg_cells c1
      obtain ⟨c2, c20, c21, c22⟩ := rg_cells c2
      have HY := Lib.hid (And.intro hy (And.intro htl (And.intro ht hqe)))
      clear hsq hh ht htl hy hqe
      by_cases hq0 : q < 0
      · have g2 : decide (q < 0) = true := decide_eq_true hq0
        clear hca
        go_wp2_with fail
        refine wp_region_over (by kernel_rfl) (by kernel_rfl) ?_; (repeat (go_big_quiet_step (((go_at_call 22; exact over_of (HCA.out _)))))); refine wpQuiet_nil ?_; intro w1 hb1
        have HB1 := Lib.hid hb1
        clear hb1 c1 c10 c11 c12 c2 c20 c21 c22
        go_wp2_with fail
        go_roundw
        case rel =>
          obtain ⟨hy, htl, ht, hqe⟩ := HY.out
          refine ⟨h + 1, j, by go_num, rfl, by omega, by omega, hjb, fun t' y' h1 hy' => ?_, HHI.out, HBW.out.trans (HB1.out.mono HBW.out.size)⟩
          have := HSB.out.at (i := t') (j := t) (by omega) hy' hy
          omega
        case measure => (show ((j : Int) - ((h : Int) + 1)).toNat < ((j : Int) - (i : Int)).toNat; omega)
      · have g2 : decide (q < 0) = false := decide_eq_false hq0
        clear hca
        go_wp2_with fail
        refine wp_region_over (by kernel_rfl) (by kernel_rfl) ?_; (repeat (go_big_quiet_step (((go_at_call 22; exact over_of (HCA.out _)))))); refine wpQuiet_nil ?_; intro w1 hb1
        have HB1 := Lib.hid hb1
        clear hb1 c1 c10 c11 c12 c2 c20 c21 c22
        go_wp2_with fail
        go_roundw
        case rel =>
          obtain ⟨hy, htl, ht, hqe⟩ := HY.out
          refine ⟨i, h, rfl, rfl, hmi, hih, by omega, HLO.out, fun t' y' h1 hy' => ?_, HBW.out.trans (HB1.out.mono HBW.out.size)⟩
          have := HSB.out.at (i := t) (j := t') (by omega) hy hy'
          omega
        case measure => (show ((h : Int) - (i : Int)).toNat < ((j : Int) - (i : Int)).toNat; omega)
    · have e1 : ¬ ((i : Int) < (j : Int)) := by omega
      obtain rfl : i = j := by omega
      obtain ⟨i1, hi1⟩ : ∃ i1, i = i1 + 1 := ⟨i - 1, by have := HLN.out; omega⟩
      have hi2 : (i : Int) - 1 = (i1 : Int) := by omega
      have hai : a ≤ i1 := by have := HLN.out; omega
      have HSQ := Lib.hid hsq
      have HI1 := Lib.hid hi1
      have hi1l : i1 + 1 < len + 1 := by omega
      clear hsq hij hi1
      go_wp2_with fail
      go_loopw [13] (fun kv wr2 => ∃ k : Nat, kv = .int .i64 k ∧ a ≤ k ∧ k ≤ i1 ∧ SeqAt wr2 g off (P ++ (B.take (k - a) ++ (x :: (B.drop (k - a) ++ Q)))) ∧ Frm g off len w wr2) (fun kv _ => i1 - (intOf kv).toNat)
      case atStart => exact ⟨a, rfl, Nat.le_refl _, hai, by rw [Nat.sub_self]; exact HSQ.out, Frm.of_below (HBW.out.mono (by have := HS.out.1; omega))⟩
      case round =>
        obtain ⟨k, rfl, hak, hki, hsq, ho⟩ := hrel
        have HO := Lib.hid ho
        have HQ := Lib.hid hsq
        clear hsq ho
        by_cases hlt2 : k < i1
        · have g1 : (k : Int) < (i1 : Int) := by omega
          obtain ⟨t, ht⟩ : ∃ t, t = k - a := ⟨_, rfl⟩
          have htl : t < B.length := by have := HLN.out; have := HI1.out; omega
          obtain ⟨y, hy1, hy2⟩ := drop_cons' htl
          obtain ⟨k2, hk2⟩ : ∃ k2, k2 = k + 1 := ⟨_, rfl⟩
          have hk3 : (k : Int) + 1 = (k2 : Int) := by omega
          have hq : SeqAt wr g off ((P ++ B.take t) ++ x :: ([] ++ y :: (B.drop (t + 1) ++ Q))) := by
            have := HQ.out; rw [← ht, hy2] at this; simpa [List.append_assoc] using this
          have l1 : k = (P ++ B.take t).length := by have := HLN.out; rw [List.length_append, List.length_take]; omega
          have l2 : k2 = (P ++ B.take t).length + (([] : List RG).length + 1) := by rw [← l1, hk2]; rfl
          obtain ⟨c1, c2⟩ := hq.get
          rw [← l1] at c1 c2
          obtain ⟨c3, c4⟩ := hq.2 k2 y (by rw [l2, List.getElem?_append_right (by omega), Nat.add_sub_cancel_left]; rfl)
          obtain ⟨c1, c10, c11, c12⟩ := rg_cells c1
          obtain ⟨c2, c20, c21, c22⟩ := rg_there c2
          obtain ⟨c3, c30, c31, c32⟩ := rg_cells c3
          obtain ⟨c4, c40, c41, c42⟩ := rg_there c4
          have hkl : k < len := by omega
          have hkl2 : k2 < len := by have := HI1.out; omega
          have hne : k ≠ k2 := by omega
          have HQ3 := Lib.hid (And.intro hq (And.intro l1 (And.intro l2 (And.intro hy1 (And.intro ht hk2)))))
          clear hq l1 l2 hy1 hy2 ht hk2 htl
          go_wp2
          go_region
          all_goals (go_wp2; go_roundw)
          case rel =>
            obtain ⟨hq, l1, l2, hy1, ht, hk2⟩ := HQ3.out
            refine ⟨k2, rfl, by omega, by omega, ?_, by have h2 := ((HO.out.set k hkl y).set k2 hkl2 x).drew; rwa [setCells4, setCells4] at h2⟩
            have h := (hq.swap l1 l2).drew
            rw [setCells4, setCells4] at h
            rw [show k2 - a = t + 1 from by omega, take_snoc hy1]
            simpa [List.append_assoc] using h
          case measure => (have := HQ3.out.2.2.2.2.2; show i1 - (k2 : Int).toNat < i1 - (k : Int).toNat; omega)
        · have g1 : ¬ ((k : Int) < (i1 : Int)) := by omega
          go_wp2
          refine bodyPost_ret (results_none rfl _ _ _) rfl ?_
          refine ⟨rfl, ⟨_, Stab.left (U := B.take (k - a)) (V := B.drop (k - a)) (by rw [List.take_append_drop]; exact HSB.out) (mem_take_p (fun t y h hy => HLO.out t y (by have := HLN.out; have := HI1.out; omega) hy)) (mem_drop_p (fun t y h hy => HHI.out t y (by have := HLN.out; have := HI1.out; omega) hy)) |> fun h => by rw [List.take_append_drop] at h; exact h, ?_⟩, HO.out⟩
          simpa [List.append_assoc] using HQ.out
end Go.Proofs.YtjbcbejedaeedaaGreatDoor
/-! slices.SortStableFunc at ranges: symMerge where the second part is one element. -/
namespace Go.Proofs.YtjbcbejedaeedaaGreatDoor
open Go.RowKit

set_option maxHeartbeats 8000000 in
set_option maxRecDepth 1000000 in
theorem symRight_any (f : RG → Int) (J : World → Prop) (g off cap a m b : Nat) (P A Q : List RG) (y : RG) (w : World) (hC : CmpBy f g J) (hs : SeqAt w g off (P ++ (A ++ ([y] ++ Q)))) (hj : J w) (ha : P.length = a) (hm : a + A.length = m) (hb : m + 1 = b) (hA1 : 1 < A.length) (hA : Srt f A) (len : Nat) (hlen : P.length + (A.length + (1 + Q.length)) = len) (hl : len ≤ 1000000000) :
    Calls Tryz.prog 96 #[.slice (some ⟨g, off, none⟩) len cap, .int .i64 a, .int .i64 m, .int .i64 b, .func (.func 22) #[] #[]] w fun e w' =>
      e = .returned (.tuple #[]) ∧ (∃ M, Stab f (A ++ [y]) M ∧ SeqAt w' g off (P ++ (M ++ Q))) ∧ Frm g off len w w' := by
  have HS := Lib.hid hs
  have HJ := Lib.hid hj
  have HC := Lib.hid hC
  have HLN := Lib.hid (And.intro ha (And.intro hm (And.intro hb hlen)))
  have HSA := Lib.hid hA
  have hma : ¬ ((m : Int) - (a : Int) = 1) := by omega
  have hbm : (b : Int) - (m : Int) = 1 := by omega
  have hmaB : ((m : Int) - (a : Int) == 1) = false := by simpa using hma
  have ham : a ≤ m := by omega
  have hml : m < len := by omega
  clear hs hj hC ha hb hlen hA hm hA1
  go_enter Tryz.func96, Tryz.ntmps96
  go_wp2
  go_loopw [14, 15, 16] (fun iv jv _ wr => ∃ (i j : Nat), iv = .int .i64 i ∧ jv = .int .i64 j ∧ a ≤ i ∧ i ≤ j ∧ j ≤ m ∧ (∀ t z, a + t < i → A[t]? = some z → f z ≤ f y) ∧ (∀ t z, j ≤ a + t → A[t]? = some z → f y < f z) ∧ Below w.heap.size w wr) (fun iv jv _ _ => (intOf jv - intOf iv).toNat)
  case atStart => exact ⟨a, m, rfl, rfl, Nat.le_refl _, ham, Nat.le_refl _, fun t y h => by omega, fun t y h hy => by have := (List.getElem?_eq_some_iff.1 hy).1; have := HLN.out; omega, Below.refl _ _⟩
  case round =>
    obtain ⟨i, j, rfl, rfl, hmi, hij, hjb, hlo, hhi, hbw⟩ := hrel
    have HLO := Lib.hid hlo
    have HHI := Lib.hid hhi
    have HBW := Lib.hid hbw
    have hsq : SeqAt wr g off (P ++ (A ++ ([y] ++ Q))) := HS.out.kept hbw
    have HJW : Hid (J wr) := HC.out.below HJ.out hbw
    clear hlo hhi hbw
    by_cases hlt : i < j
    · have e1 : (i : Int) < (j : Int) := by omega
      obtain ⟨h, hh⟩ : ∃ h, h = (i + j) / 2 := ⟨_, rfl⟩
      have hhm : ((i : Int) + (j : Int)) / 2 = (h : Int) := by omega
      obtain ⟨t, ht⟩ : ∃ t, t = h - a := ⟨_, rfl⟩
      have htl : t < A.length := by have := HLN.out; omega
      obtain ⟨z, hz⟩ : ∃ z, A[t]? = some z := ⟨A[t], List.getElem?_eq_getElem htl⟩
      have c1 := (hsq.2 h z (by
        have := HLN.out
        rw [List.getElem?_append_right (by omega), List.getElem?_append_left (by omega), show h - P.length = t from by omega]; exact hz)).1
      have c2 := (hsq.2 m y (by
        have := HLN.out
        rw [List.getElem?_append_right (by omega), List.getElem?_append_right (by omega), show m - P.length - A.length = 0 from by omega]; rfl)).1
      have hhl : h < len := by omega
      have hih : i ≤ h := by omega
      have hhj : h < j := by omega
      have hca : ∀ u', Calls Tryz.prog 22 #[rgAgg y.val, rgAgg z.val] (over wr u') fun e w' => e = .returned (.int .i64 (f y - f z)) ∧ Below (over wr u').heap.size (over wr u') w' :=
        fun u' => HC.out.call y z _ (HC.out.keep _ _ HJW.out ((Only.refl _ _).below (below_over wr u')))
      obtain ⟨q, hqe⟩ : ∃ q, q = f y - f z := ⟨_, rfl⟩
      rw [← hqe] at hca
      have HCA := Lib.hid hca
      have hgl := hsq.1
      obtain ⟨c1, c10, c11, c12⟩ := rg_cells c1
      obtain ⟨c2, c20, c21, c22⟩ := rg_cells c2
      have HY := Lib.hid (And.intro hz (And.intro htl (And.intro ht hqe)))
      clear hsq hh ht htl hz hqe
      by_cases hq0 : q < 0
      · have g2 : decide (q < 0) = true := decide_eq_true hq0
        clear hca
        go_wp2_with fail
        refine wp_region_over (by kernel_rfl) (by kernel_rfl) ?_; (repeat (go_big_quiet_step (((go_at_call 22; exact over_of (HCA.out _)))))); refine wpQuiet_nil ?_; intro w1 hb1
        have HB1 := Lib.hid hb1
        clear hb1 c1 c10 c11 c12 c2 c20 c21 c22
        go_wp2_with fail
        go_roundw
        case rel =>
          obtain ⟨hy, htl, ht, hqe⟩ := HY.out
          refine ⟨i, h, rfl, rfl, hmi, hih, by omega, HLO.out, fun t' z' h1 hz' => ?_, HBW.out.trans (HB1.out.mono HBW.out.size)⟩
          have := HSA.out.at (i := t) (j := t') (by omega) hy hz'
          omega
        case measure => (show ((h : Int) - (i : Int)).toNat < ((j : Int) - (i : Int)).toNat; omega)
      · have g2 : decide (q < 0) = false := decide_eq_false hq0
        have HQ0 := Lib.hid hq0
        clear hca hq0
        go_wp2_with fail
        refine wp_region_over (by kernel_rfl) (by kernel_rfl) ?_; (repeat (go_big_quiet_step (((go_at_call 22; exact over_of (HCA.out _)))))); refine wpQuiet_nil ?_; intro w1 hb1
        have HB1 := Lib.hid hb1
        clear hb1 c1 c10 c11 c12 c2 c20 c21 c22
        go_wp2_with fail
        go_roundw
        case rel =>
          obtain ⟨hy, htl, ht, hqe⟩ := HY.out
          have hq0 := HQ0.out
          refine ⟨h + 1, j, by go_num, rfl, by omega, by omega, hjb, fun t' z' h1 hz' => ?_, HHI.out, HBW.out.trans (HB1.out.mono HBW.out.size)⟩
          have := HSA.out.at (i := t') (j := t) (by omega) hz' hy
          omega
        case measure => (show ((j : Int) - ((h : Int) + 1)).toNat < ((j : Int) - (i : Int)).toNat; omega)
    · have e1 : ¬ ((i : Int) < (j : Int)) := by omega
      obtain rfl : i = j := by omega
      have HSQ := Lib.hid hsq
      clear hsq hij
      go_wp2_with fail
      go_loopw [17] (fun kv wr2 => ∃ k : Nat, kv = .int .i64 k ∧ i ≤ k ∧ k ≤ m ∧ SeqAt wr2 g off (P ++ (A.take (k - a) ++ (y :: (A.drop (k - a) ++ Q)))) ∧ Frm g off len w wr2) (fun kv _ => (intOf kv).toNat)
      case atStart =>
        refine ⟨m, rfl, hjb, Nat.le_refl _, ?_, Frm.of_below (HBW.out.mono (by have := HS.out.1; omega))⟩
        have := HLN.out
        rw [List.take_of_length_le (by omega), List.drop_of_length_le (by omega)]; exact HSQ.out
      case round =>
        obtain ⟨k, rfl, hik, hkm, hsq, ho⟩ := hrel
        have HO := Lib.hid ho
        have HQ := Lib.hid hsq
        clear hsq ho
        by_cases hlt2 : i < k
        · have g1 : (i : Int) < (k : Int) := by omega
          obtain ⟨t, ht⟩ : ∃ t, k = a + t + 1 := ⟨k - a - 1, by omega⟩
          have htl : t < A.length := by have := HLN.out; omega
          obtain ⟨z, hz⟩ : ∃ z, A[t]? = some z := ⟨A[t], List.getElem?_eq_getElem htl⟩
          obtain ⟨k1, hk1⟩ : ∃ k1, k1 = a + t := ⟨_, rfl⟩
          have hk3 : (k : Int) - 1 = (k1 : Int) := by omega
          have hq : SeqAt wr g off ((P ++ A.take t) ++ z :: ([] ++ y :: (A.drop (t + 1) ++ Q))) := by
            have := HQ.out; rw [show k - a = t + 1 from by omega, take_snoc hz] at this; simpa [List.append_assoc] using this
          have l1 : k1 = (P ++ A.take t).length := by have := HLN.out; rw [List.length_append, List.length_take]; omega
          have l2 : k = (P ++ A.take t).length + (([] : List RG).length + 1) := by rw [← l1, hk1, ht]; rfl
          obtain ⟨c1, c2⟩ := hq.get
          rw [← l1] at c1 c2
          obtain ⟨c3, c4⟩ := hq.2 k y (by rw [l2, List.getElem?_append_right (by omega), Nat.add_sub_cancel_left]; rfl)
          obtain ⟨c1, c10, c11, c12⟩ := rg_cells c1
          obtain ⟨c2, c20, c21, c22⟩ := rg_there c2
          obtain ⟨c3, c30, c31, c32⟩ := rg_cells c3
          obtain ⟨c4, c40, c41, c42⟩ := rg_there c4
          have hkl : k < len := by omega
          have hkl2 : k1 < len := by omega
          have hne : k ≠ k1 := by omega
          have hk0 : 0 < k := by omega
          have HQ3 := Lib.hid (And.intro hq (And.intro l1 (And.intro l2 (And.intro hz (And.intro ht hk1)))))
          clear hq l1 l2 hz ht hk1 htl hbm
          go_wp2
          go_region
          all_goals (go_wp2; go_roundw)
          case rel =>
            obtain ⟨hq, l1, l2, hz, ht, hk1⟩ := HQ3.out
            refine ⟨k1, rfl, by omega, by omega, ?_, by have h2 := ((HO.out.set k hkl z).set k1 hkl2 y).drew; rwa [setCells4, setCells4] at h2⟩
            have h := (hq.swap' l1 l2).drew
            rw [setCells4, setCells4] at h
            obtain ⟨_, h2⟩ : ∃ u, A.drop t = u := ⟨_, rfl⟩
            have h3 : A.drop t = z :: A.drop (t + 1) := by
              obtain ⟨z', hz1, hz2⟩ := drop_cons' (l := A) (i := t) ((List.getElem?_eq_some_iff.1 hz).1)
              rw [hz] at hz1; cases hz1; exact hz2
            rw [show k1 - a = t from by omega, h3]
            simpa [List.append_assoc] using h
          case measure => (have := HQ3.out.2.2.2.2; show (k1 : Int).toNat < (k : Int).toNat; omega)
        · have g1 : ¬ ((i : Int) < (k : Int)) := by omega
          have hki : k = i := by omega
          go_wp2
          refine bodyPost_ret (results_none rfl _ _ _) rfl ?_
          have hst := Stab.insert (f := f) (S := A) (U := A.take (k - a)) (V := A.drop (k - a)) (x := y) (by rw [List.take_append_drop]; exact Stab.self HSA.out) (mem_take_p (fun t z h hz => HLO.out t z (by omega) hz)) (mem_drop_p (fun t z h hz => HHI.out t z (by omega) hz))
          refine ⟨rfl, ⟨_, hst, ?_⟩, HO.out⟩
          simpa [List.append_assoc] using HQ.out
end Go.Proofs.YtjbcbejedaeedaaGreatDoor
