/- Stable sorting, plain: lists that are in order, and keep those of one key as they follow one another. Lists of numbers in memory that are put in order in place: the memory word. Stable sorting, plain: one that comes in from the left, blocks, and what the merge by symmetry needs. Blocks of twice the size, plain: how stableCmpFunc's second loop goes on. -/
import Derived.Test.YtnglhgogkemgbaaGreatDoorG01
import Derived.OwnWalk
/-! Stable sorting, plain: lists that are in order, and keep those of one key as they follow one another. -/
namespace Go.Proofs.YtnglhgogkemgbaaGreatDoor
open Go.RowKit

/-- in order of a key -/
def Srt (f : Int → Int) (l : List Int) : Prop := l.Pairwise (fun x y => f x ≤ f y)
/-- M is S, put in order, those of one key as they followed one another -/
def Stab (f : Int → Int) (S M : List Int) : Prop := Srt f M ∧ ∀ k, M.filter (fun x => f x == k) = S.filter (fun x => f x == k)

theorem Stab.perm {f : Int → Int} {S M : List Int} (h : Stab f S M) : M.Perm S := by
  refine List.perm_iff_count.2 fun x => ?_
  have h1 := congrArg (List.count x) (h.2 (f x))
  rwa [List.count_filter (by simp), List.count_filter (by simp)] at h1
theorem Stab.length {f : Int → Int} {S M : List Int} (h : Stab f S M) : M.length = S.length := h.perm.length_eq
theorem Stab.mem {f : Int → Int} {S M : List Int} (h : Stab f S M) {x : Int} : x ∈ M ↔ x ∈ S := h.perm.mem_iff
theorem Stab.self {f : Int → Int} {S : List Int} (h : Srt f S) : Stab f S S := ⟨h, fun _ => rfl⟩
theorem Stab.nil {f : Int → Int} : Stab f [] [] := .self List.Pairwise.nil
theorem Stab.one {f : Int → Int} (x : Int) : Stab f [x] [x] := .self (List.pairwise_singleton _ _)
theorem Stab.unique {f : Int → Int} {S : List Int} : ∀ {M M' : List Int}, Stab f S M → Stab f S M' → M = M' := by
  have key : ∀ M M' : List Int, Srt f M → Srt f M' → (∀ k, M.filter (fun x => f x == k) = M'.filter (fun x => f x == k)) → M = M' := by
    intro M
    induction M with
    | nil =>
      intro M' _ h2 h3
      cases M' with
      | nil => rfl
      | cons y ys => have := h3 (f y); simp at this
    | cons x xs ih =>
      intro M' h1 h2 h3
      cases M' with
      | nil => have := h3 (f x); simp at this
      | cons y ys =>
        have h1' := List.pairwise_cons.1 h1
        have h2' := List.pairwise_cons.1 h2
        have hm : ∀ z, z ∈ x :: xs ↔ z ∈ y :: ys := by
          intro z
          have := congrArg (fun l => z ∈ l) (h3 (f z))
          simpa [List.mem_filter] using this
        have hxy : f x = f y := by
          have e1 : f y ≤ f x := by
            rcases List.mem_cons.1 ((hm x).1 (List.mem_cons_self ..)) with e | e
            · rw [e]; exact Int.le_refl _
            · exact h2'.1 _ e
          have e2 : f x ≤ f y := by
            rcases List.mem_cons.1 ((hm y).2 (List.mem_cons_self ..)) with e | e
            · rw [e]; exact Int.le_refl _
            · exact h1'.1 _ e
          omega
        have h4 := h3 (f x)
        rw [List.filter_cons_of_pos (by simp), List.filter_cons_of_pos (by simp [hxy])] at h4
        injection h4 with h5 h6
        subst h5
        congr 1
        refine ih ys h1'.2 h2'.2 fun k => ?_
        have h7 := h3 k
        by_cases hk : f x = k
        · rw [List.filter_cons_of_pos (by simp [hk]), List.filter_cons_of_pos (by simp [hk])] at h7
          injection h7
        · rwa [List.filter_cons_of_neg (by simp [hk]), List.filter_cons_of_neg (by simp [hk])] at h7
  intro M M' h h'
  exact key M M' h.1 h'.1 (fun k => (h.2 k).trans (h'.2 k).symm)
theorem Stab.trans {f : Int → Int} {S A M : List Int} (h : Stab f S A) (k : Stab f A M) : Stab f S M := ⟨k.1, fun i => (k.2 i).trans (h.2 i)⟩
theorem Stab.merge {f : Int → Int} {S T A B M : List Int} (h : Stab f S A) (k : Stab f T B) (m : Stab f (A ++ B) M) : Stab f (S ++ T) M :=
  ⟨m.1, fun i => by rw [m.2 i, List.filter_append, List.filter_append, h.2 i, k.2 i]⟩
theorem filter_none {f : Int → Int} {l : List Int} {k : Int} (h : ∀ x ∈ l, f x ≠ k) : l.filter (fun x => f x == k) = [] := by
  rw [List.filter_eq_nil_iff]; intro x hx; simpa using h x hx
/-- one more comes in, behind all that are no greater -/
theorem Stab.insert {f : Int → Int} {S U V : List Int} {x : Int} (h : Stab f S (U ++ V)) (hu : ∀ u ∈ U, f u ≤ f x) (hv : ∀ v ∈ V, f x < f v) : Stab f (S ++ [x]) (U ++ x :: V) := by
  refine ⟨?_, fun k => ?_⟩
  · have h1 := List.pairwise_append.1 h.1
    refine List.pairwise_append.2 ⟨h1.1, List.pairwise_cons.2 ⟨fun v hv' => by have := hv v hv'; omega, h1.2.1⟩, fun u hu' y hy => ?_⟩
    rcases List.mem_cons.1 hy with rfl | hy
    · exact hu u hu'
    · exact h1.2.2 u hu' y hy
  · have e := h.2 k
    rw [List.filter_append] at e
    rw [List.filter_append (l₁ := S), ← e, List.filter_append]
    by_cases hk : f x = k
    · rw [List.filter_cons_of_pos (by simp [hk]), List.filter_cons_of_pos (by simp [hk]), filter_none (l := V) (fun v hv' => by have := hv v hv'; omega)]
      simp
    · rw [List.filter_cons_of_neg (by simp [hk]), List.filter_cons_of_neg (by simp [hk])]; simp
/-- two parts in order, parted where the one is ahead of the other -/
theorem Stab.parts {f : Int → Int} {A1 A2 B1 B2 M1 M2 : List Int} (h1 : Stab f (A1 ++ B1) M1) (h2 : Stab f (A2 ++ B2) M2) (hlt : ∀ x ∈ A2, ∀ y ∈ B1, f y < f x) (hle : ∀ x ∈ A1 ++ B1, ∀ y ∈ A2 ++ B2, f x ≤ f y) :
    Stab f ((A1 ++ A2) ++ (B1 ++ B2)) (M1 ++ M2) := by
  refine ⟨List.pairwise_append.2 ⟨h1.1, h2.1, fun x hx y hy => hle x (h1.mem.1 hx) y (h2.mem.1 hy)⟩, fun k => ?_⟩
  rw [List.filter_append, h1.2 k, h2.2 k]
  simp only [List.filter_append]
  by_cases hk : ∃ x ∈ A2, f x = k
  · obtain ⟨x, hx, rfl⟩ := hk
    rw [filter_none (l := B1) (fun y hy => by have := hlt x hx y hy; omega)]
    simp
  · rw [filter_none (l := A2) (fun y hy e => hk ⟨y, hy, e⟩)]
    simp
theorem Srt.left {f : Int → Int} {A B : List Int} (h : Srt f (A ++ B)) : Srt f A := (List.pairwise_append.1 h).1
theorem Srt.right {f : Int → Int} {A B : List Int} (h : Srt f (A ++ B)) : Srt f B := (List.pairwise_append.1 h).2.1
theorem Srt.across {f : Int → Int} {A B : List Int} (h : Srt f (A ++ B)) {x y : Int} (hx : x ∈ A) (hy : y ∈ B) : f x ≤ f y := (List.pairwise_append.1 h).2.2 x hx y hy
theorem Srt.at {f : Int → Int} {l : List Int} (h : Srt f l) {i j : Nat} (hij : i ≤ j) {x y : Int} (hx : l[i]? = some x) (hy : l[j]? = some y) : f x ≤ f y := by
  rcases Nat.lt_or_eq_of_le hij with hlt | rfl
  · obtain ⟨hi, rfl⟩ := List.getElem?_eq_some_iff.1 hx
    obtain ⟨hj, rfl⟩ := List.getElem?_eq_some_iff.1 hy
    exact List.pairwise_iff_getElem.1 h i j hi hj hlt
  · rw [hx] at hy; cases hy; exact Int.le_refl _
/-- the step of a merge by symmetry: two parts turned round, each of which is put in order -/
theorem sym_parts {f : Int → Int} {A1 A2 B1 B2 M1 M2 : List Int} (hA : Srt f (A1 ++ A2)) (hB : Srt f (B1 ++ B2)) (h1 : Stab f (A1 ++ B1) M1) (h2 : Stab f (A2 ++ B2) M2)
    (c1 : ∀ x y, A2.head? = some x → B1.getLast? = some y → f y < f x) (c2 : ∀ x y, A1.getLast? = some x → B2.head? = some y → f x ≤ f y) :
    Stab f ((A1 ++ A2) ++ (B1 ++ B2)) (M1 ++ M2) := by
  have hd : ∀ (l : List Int) (z : Int), Srt f l → l.head? = some z → ∀ x ∈ l, f z ≤ f x := by
    intro l z hs he x hx
    cases l with
    | nil => cases he
    | cons a al =>
      simp at he; subst he
      rcases List.mem_cons.1 hx with rfl | hx
      · exact Int.le_refl _
      · exact (List.pairwise_cons.1 hs).1 x hx
  have lt : ∀ (l : List Int) (z : Int), Srt f l → l.getLast? = some z → ∀ x ∈ l, f x ≤ f z := by
    intro l z hs he x hx
    obtain ⟨l', rfl⟩ := List.getLast?_eq_some_iff.1 he
    rcases List.mem_append.1 hx with hx | hx
    · exact hs.across hx (by simp)
    · simp at hx; subst hx; exact Int.le_refl _
  have hlt : ∀ x ∈ A2, ∀ y ∈ B1, f y < f x := by
    intro x hx y hy
    obtain ⟨x0, hx0⟩ : ∃ x0, A2.head? = some x0 := by cases A2 with | nil => cases hx | cons a al => exact ⟨a, rfl⟩
    obtain ⟨y0, hy0⟩ : ∃ y0, B1.getLast? = some y0 := by
      cases h : B1.getLast? with
      | none => rw [List.getLast?_eq_none_iff] at h; subst h; cases hy
      | some y0 => exact ⟨y0, rfl⟩
    have e1 := hd A2 x0 hA.right hx0 x hx
    have e2 := lt B1 y0 hB.left hy0 y hy
    have e3 := c1 x0 y0 hx0 hy0
    omega
  refine Stab.parts h1 h2 hlt fun x hx y hy => ?_
  rcases List.mem_append.1 hx with hx | hx <;> rcases List.mem_append.1 hy with hy | hy
  · exact hA.across hx hy
  · obtain ⟨y0, hy0⟩ : ∃ y0, B2.head? = some y0 := by cases B2 with | nil => cases hy | cons a al => exact ⟨a, rfl⟩
    obtain ⟨x0, hx0⟩ : ∃ x0, A1.getLast? = some x0 := by
      cases h : A1.getLast? with
      | none => rw [List.getLast?_eq_none_iff] at h; subst h; cases hx
      | some x0 => exact ⟨x0, rfl⟩
    have e1 := hd B2 y0 hB.right hy0 y hy
    have e2 := lt A1 x0 hA.left hx0 x hx
    have e3 := c2 x0 y0 hx0 hy0
    omega
  · have := hlt y hy x hx; omega
  · exact hB.across hx hy
/-- two of a list, swapped -/
theorem swap_at (P Z Q : List Int) (x y : Int) : ((P ++ x :: (Z ++ y :: Q)).set P.length y).set (P.length + (Z.length + 1)) x = P ++ y :: (Z ++ x :: Q) := by
  rw [List.set_append_right _ _ (Nat.le_refl _), Nat.sub_self, List.set_cons_zero, List.set_append_right _ _ (by omega), Nat.add_sub_cancel_left, List.set_cons_succ, List.set_append_right _ _ (Nat.le_refl _), Nat.sub_self, List.set_cons_zero]
theorem get_at (P Q : List Int) (x : Int) : (P ++ x :: Q)[P.length]? = some x := by rw [List.getElem?_append_right (Nat.le_refl _), Nat.sub_self]; rfl

end Go.Proofs.YtnglhgogkemgbaaGreatDoor
/-! Lists of numbers in memory that are put in order in place: the memory word. -/
namespace Go.Proofs.YtnglhgogkemgbaaGreatDoor
open Go.RowKit

/-- the numbers L lie in block g from off on, and may be turned -/
def SeqAt (W : World) (g off : Nat) (L : List Int) : Prop :=
  g < W.heap.size ∧ ∀ i x, L[i]? = some x → W.cell? ⟨g, off + i, none⟩ = some (.int .i32 x) ∧ W.frozen? ⟨g, off + i, none⟩ = false
theorem SeqAt.below {W W' : World} {g off n : Nat} {L : List Int} (h : SeqAt W g off L) (hb : Below n W W') (hn : g < n) : SeqAt W' g off L :=
  ⟨Nat.lt_of_lt_of_le h.1 hb.size, fun i x hx => by
    obtain ⟨h1, h2⟩ := h.2 i x hx
    exact ⟨by rw [hb.cell (p := ⟨g, off + i, none⟩) hn]; exact h1, by rw [hb.frozen (p := ⟨g, off + i, none⟩) hn]; exact h2⟩⟩
theorem SeqAt.kept {W W' : World} {g off : Nat} {L : List Int} (h : SeqAt W g off L) (hb : Below W.heap.size W W') : SeqAt W' g off L := h.below hb h.1
theorem SeqAt.set {W : World} {g off : Nat} {L : List Int} (h : SeqAt W g off L) (i : Nat) (hi : i < L.length) (v : Int) : SeqAt (W.setCell ⟨g, off + i, none⟩ (.int .i32 v)) g off (L.set i v) := by
  refine ⟨by simpa using h.1, fun j x hx => ?_⟩
  rw [World.frozen?_setCell]
  by_cases hj : i = j
  · subst hj
    rw [List.getElem?_set_self hi] at hx
    cases hx
    obtain ⟨h1, h2⟩ := h.2 i L[i] (List.getElem?_eq_getElem hi)
    exact ⟨World.cell?_setCell_same _ _ _ h1, h2⟩
  · rw [List.getElem?_set_ne hj] at hx
    obtain ⟨h1, h2⟩ := h.2 j x hx
    refine ⟨?_, h2⟩
    rw [World.cell?_setCell_other _ _ _ _ (by intro e; injection e with _ e2 _; omega)]
    exact h1
theorem SeqAt.drew {W : World} {g off : Nat} {L : List Int} (h : SeqAt W g off L) : SeqAt W.drew g off L := h
theorem SeqAt.get {W : World} {g off : Nat} {P Q : List Int} {x : Int} (h : SeqAt W g off (P ++ x :: Q)) : W.cell? ⟨g, off + P.length, none⟩ = some (.int .i32 x) ∧ W.frozen? ⟨g, off + P.length, none⟩ = false := h.2 _ _ (get_at P Q x)
/-- two cells exchanged -/
theorem SeqAt.swap {W : World} {g off a b : Nat} {P Z Q : List Int} {x y : Int} (h : SeqAt W g off (P ++ x :: (Z ++ y :: Q))) (ha : a = P.length) (hb : b = P.length + (Z.length + 1)) :
    SeqAt ((W.setCell ⟨g, off + a, none⟩ (.int .i32 y)).setCell ⟨g, off + b, none⟩ (.int .i32 x)) g off (P ++ y :: (Z ++ x :: Q)) := by
  subst ha hb
  rw [← swap_at P Z Q x y]
  exact (h.set _ (by simp) y).set _ (by simp) x
/-- the second first -/
theorem SeqAt.swap' {W : World} {g off a b : Nat} {P Z Q : List Int} {x y : Int} (h : SeqAt W g off (P ++ x :: (Z ++ y :: Q))) (ha : a = P.length) (hb : b = P.length + (Z.length + 1)) :
    SeqAt ((W.setCell ⟨g, off + b, none⟩ (.int .i32 x)).setCell ⟨g, off + a, none⟩ (.int .i32 y)) g off (P ++ y :: (Z ++ x :: Q)) := by
  subst ha hb
  rw [← swap_at P Z Q x y, List.set_comm _ _ (by omega)]
  exact (h.set _ (by simp) x).set _ (by simp) y
theorem SeqAt.part {W : World} {g off : Nat} {P L Q : List Int} (h : SeqAt W g off (P ++ (L ++ Q))) : SeqAt W g (off + P.length) L :=
  ⟨h.1, fun i x hx => by
    have := h.2 (P.length + i) x (by
      rw [List.getElem?_append_right (by omega), Nat.add_sub_cancel_left, List.getElem?_append_left (List.getElem?_eq_some_iff.1 hx).1]; exact hx)
    rwa [← Nat.add_assoc] at this⟩
end Go.Proofs.YtnglhgogkemgbaaGreatDoor
/-! Stable sorting, plain: one that comes in from the left, blocks, and what the merge by symmetry needs. -/
namespace Go.Proofs.YtnglhgogkemgbaaGreatDoor
open Go.RowKit

/-- one at the left goes behind all that are less -/
theorem Stab.left {f : Int → Int} {x : Int} {U V : List Int} (h : Srt f (U ++ V)) (hu : ∀ u ∈ U, f u < f x) (hv : ∀ v ∈ V, f x ≤ f v) : Stab f ([x] ++ (U ++ V)) (U ++ x :: V) := by
  refine ⟨?_, fun k => ?_⟩
  · have h1 := List.pairwise_append.1 h
    refine List.pairwise_append.2 ⟨h1.1, List.pairwise_cons.2 ⟨hv, h1.2.1⟩, fun u hu' y hy => ?_⟩
    rcases List.mem_cons.1 hy with rfl | hy
    · have := hu u hu'; omega
    · exact h1.2.2 u hu' y hy
  · rw [List.filter_append, List.filter_append, List.filter_append]
    by_cases hk : f x = k
    · rw [filter_none (l := U) (fun u hu' => by have := hu u hu'; omega), List.filter_cons_of_pos (by simp [hk]), List.filter_cons_of_pos (by simp [hk])]
      simp
    · rw [List.filter_cons_of_neg (by simp [hk]), List.filter_cons_of_neg (by simp [hk])]; simp
/-- block c of a list -/
def sblk (bs c : Nat) (L : List Int) : List Int := (L.drop (c * bs)).take bs
theorem blk_ahead {bs c : Nat} {P X : List Int} (h : c * bs + bs ≤ P.length) : sblk bs c (P ++ X) = sblk bs c P := by
  unfold sblk
  rw [List.drop_append_of_le_length (by omega), List.take_append_of_le_length (by rw [List.length_drop]; omega)]
theorem blk_none {bs c : Nat} {L : List Int} (h : L.length ≤ c * bs) : sblk bs c L = [] := by
  unfold sblk; rw [List.drop_of_length_le h, List.take_nil]
theorem blk_at {bs c : Nat} {P M Q : List Int} (h : P.length = c * bs) (hm : M.length = bs) : sblk bs c (P ++ (M ++ Q)) = M := by
  unfold sblk
  rw [← h, List.drop_left, ← hm, List.take_left]
theorem blk_end {bs c : Nat} {P M : List Int} (h : P.length = c * bs) (hm : M.length ≤ bs) : sblk bs c (P ++ M) = M := by
  unfold sblk
  rw [← h, List.drop_left, List.take_of_length_le hm]
/-- two blocks are one of twice the length -/
theorem blk_two (bs c : Nat) (L : List Int) : sblk (2 * bs) c L = sblk bs (2 * c) L ++ sblk bs (2 * c + 1) L := by
  unfold sblk
  rw [show 2 * bs = bs + bs from by omega, List.take_add, List.drop_drop, show c * (bs + bs) = 2 * c * bs from by rw [Nat.mul_add, Nat.mul_comm 2 c, Nat.mul_assoc, Nat.two_mul, Nat.mul_add], show (2 * c + 1) * bs = 2 * c * bs + bs from by rw [Nat.add_mul, Nat.one_mul]]
/-- where a list's block c begins -/
theorem blk_split {bs c : Nat} (L : List Int) : L = L.take (c * bs) ++ (sblk bs c L ++ L.drop (c * bs + bs)) := by
  unfold sblk
  rw [← List.drop_drop, List.take_append_drop, List.take_append_drop]
theorem blk_len {bs c : Nat} {L : List Int} (h : c * bs + bs ≤ L.length) : (sblk bs c L).length = bs := by
  unfold sblk; rw [List.length_take, List.length_drop]; omega
theorem blk_all {bs : Nat} {L : List Int} (h : L.length ≤ bs) : sblk bs 0 L = L := by
  unfold sblk; rw [Nat.zero_mul, List.drop_zero, List.take_of_length_le h]
theorem mem_take_p {p : Int → Prop} {L : List Int} {n : Nat} (h : ∀ t x, t < n → L[t]? = some x → p x) : ∀ x ∈ L.take n, p x := by
  intro x hx
  obtain ⟨t, ht, rfl⟩ := List.getElem_of_mem hx
  rw [List.length_take] at ht
  rw [List.getElem_take]
  exact h t _ (by omega) (List.getElem?_eq_getElem (by omega))
theorem mem_drop_p {p : Int → Prop} {L : List Int} {n : Nat} (h : ∀ t x, n ≤ t → L[t]? = some x → p x) : ∀ x ∈ L.drop n, p x := by
  intro x hx
  obtain ⟨t, ht, rfl⟩ := List.getElem_of_mem hx
  rw [List.length_drop] at ht
  rw [List.getElem_drop]
  exact h (n + t) _ (by omega) (List.getElem?_eq_getElem (by omega))
theorem head_drop {L : List Int} {n : Nat} {x : Int} (h : (L.drop n).head? = some x) : L[n]? = some x := by
  rw [List.head?_eq_getElem?, List.getElem?_drop] at h; exact h
theorem last_take {L : List Int} {n : Nat} {x : Int} (h : (L.take n).getLast? = some x) (hn : n ≤ L.length) : 0 < n ∧ L[n - 1]? = some x := by
  rw [List.getLast?_eq_getElem?, List.length_take, Nat.min_eq_left hn] at h
  have hn0 : 0 < n := by
    rcases Nat.eq_zero_or_pos n with rfl | h'
    · simp at h
    · exact h'
  rw [List.getElem?_take, if_pos (by omega)] at h
  exact ⟨hn0, h⟩
end Go.Proofs.YtnglhgogkemgbaaGreatDoor
/-! Blocks of twice the size, plain: how stableCmpFunc's second loop goes on. -/
namespace Go.Proofs.YtnglhgogkemgbaaGreatDoor
open Go.RowKit

theorem blk_drop {bs c : Nat} {L L' : List Int} (h : L.drop (c * bs) = L'.drop (c * bs)) : sblk bs c L = sblk bs c L' := by unfold sblk; rw [h]
theorem drop_more {L L' : List Int} {a b : Nat} (h : L.drop a = L'.drop a) (hab : a ≤ b) : L.drop b = L'.drop b := by
  have := congrArg (List.drop (b - a)) h
  rwa [List.drop_drop, List.drop_drop, show a + (b - a) = b from by omega] at this
theorem two_mul_c (c bs : Nat) : 2 * c * bs = c * (2 * bs) := by rw [Nat.mul_comm 2 c, Nat.mul_assoc]
theorem two_mul_c1 (c bs : Nat) : (2 * c + 1) * bs = c * (2 * bs) + bs := by rw [Nat.add_mul, two_mul_c, Nat.one_mul]
/-- a list cut in three -/
theorem cut3 (cur : List Int) (a b m : Nat) (ham : a ≤ m) (hmb : m ≤ b) : cur = cur.take a ++ ((cur.drop a).take (m - a) ++ ((cur.drop m).take (b - m) ++ cur.drop b)) := by
  have h1 : (cur.drop m).take (b - m) ++ cur.drop b = cur.drop m := by
    conv => rhs; rw [← List.take_append_drop (b - m) (cur.drop m)]
    rw [List.drop_drop, show m + (b - m) = b from by omega]
  have h2 : (cur.drop a).take (m - a) ++ cur.drop m = cur.drop a := by
    conv => rhs; rw [← List.take_append_drop (m - a) (cur.drop a)]
    rw [List.drop_drop, show a + (m - a) = m from by omega]
  rw [h1, h2, List.take_append_drop]
theorem blk_two_stab {f : Int → Int} {bs c a : Nat} {S L cur M : List Int} (hac : a = c * (2 * bs)) (hdr : cur.drop a = L.drop a) (hSL : ∀ c, Stab f (sblk bs c S) (sblk bs c L)) (hM : Stab f (sblk bs (2 * c) cur ++ sblk bs (2 * c + 1) cur) M) : Stab f (sblk (2 * bs) c S) M := by
  rw [blk_two]
  refine Stab.merge (hSL (2 * c)) (hSL (2 * c + 1)) ?_
  rwa [← blk_drop (L := cur) (L' := L) (by rw [two_mul_c, ← hac]; exact hdr), ← blk_drop (L := cur) (L' := L) (drop_more hdr (by rw [two_mul_c1, ← hac]; omega))]
theorem two_step {f : Int → Int} {bs c n a b : Nat} {S L cur : List Int} (hac : a = c * (2 * bs)) (hb : b = a + 2 * bs) (hn : cur.length = n) (hbn : b ≤ n) (hdr : cur.drop a = L.drop a) (hSL : ∀ c, Stab f (sblk bs c S) (sblk bs c L))
    (hBL : ∀ c', c' < c → Stab f (sblk (2 * bs) c' S) (sblk (2 * bs) c' cur)) :
    ∃ A B, cur = cur.take a ++ (A ++ (B ++ cur.drop b)) ∧ A.length = bs ∧ B.length = bs ∧ Srt f A ∧ Srt f B ∧ ∀ M, Stab f (A ++ B) M →
      (∀ c', c' < c + 1 → Stab f (sblk (2 * bs) c' S) (sblk (2 * bs) c' (cur.take a ++ (M ++ cur.drop b)))) ∧ (cur.take a ++ (M ++ cur.drop b)).length = n ∧ (cur.take a ++ (M ++ cur.drop b)).drop b = L.drop b := by
  have hA : sblk bs (2 * c) cur = (cur.drop a).take bs := by unfold sblk; rw [two_mul_c, ← hac]
  have hB : sblk bs (2 * c + 1) cur = (cur.drop (a + bs)).take bs := by unfold sblk; rw [two_mul_c1, ← hac]
  have hAl : (sblk bs (2 * c) cur).length = bs := blk_len (by rw [two_mul_c, ← hac]; omega)
  have hBl : (sblk bs (2 * c + 1) cur).length = bs := blk_len (by rw [two_mul_c1, ← hac]; omega)
  have hcut := cut3 cur a b (a + bs) (by omega) (by omega)
  rw [show a + bs - a = bs from by omega, show b - (a + bs) = bs from by omega, ← hA, ← hB] at hcut
  refine ⟨sblk bs (2 * c) cur, sblk bs (2 * c + 1) cur, hcut, hAl, hBl, ?_, ?_, fun M hM => ⟨fun c' hc' => ?_, ?_, ?_⟩⟩
  · rw [blk_drop (L := cur) (L' := L) (by rw [two_mul_c, ← hac]; exact hdr)]; exact (hSL _).1
  · rw [blk_drop (L := cur) (L' := L) (drop_more hdr (by rw [two_mul_c1, ← hac]; omega))]; exact (hSL _).1
  · have hml : M.length = 2 * bs := by rw [hM.length, List.length_append]; omega
    have htl : (cur.take a).length = a := by rw [List.length_take]; omega
    rcases Nat.lt_or_ge c' c with h | h
    · have h1 := hBL c' h
      have hle : c' * (2 * bs) + 2 * bs ≤ (cur.take a).length := by
        rw [htl, hac]
        have : (c' + 1) * (2 * bs) ≤ c * (2 * bs) := Nat.mul_le_mul_right _ h
        rwa [Nat.add_mul, Nat.one_mul] at this
      rw [blk_ahead hle]
      rw [← List.take_append_drop a cur, blk_ahead hle] at h1
      exact h1
    · obtain rfl : c' = c := by omega
      rw [blk_at (by omega) hml]
      exact blk_two_stab hac hdr hSL hM
  · have hml : M.length = 2 * bs := by rw [hM.length, List.length_append]; omega
    rw [List.length_append, List.length_append, List.length_take, List.length_drop]; omega
  · have hml : M.length = 2 * bs := by rw [hM.length, List.length_append]; omega
    rw [← List.append_assoc, List.drop_append_of_le_length (by rw [List.length_append, List.length_take]; omega), List.drop_of_length_le (by rw [List.length_append, List.length_take]; omega), List.nil_append]
    exact drop_more hdr (by omega)
theorem two_rest {f : Int → Int} {bs c n a b m : Nat} {S L cur : List Int} (hac : a = c * (2 * bs)) (hb : b = a + 2 * bs) (hn : cur.length = n) (hSn : S.length = n) (hbn : n < b) (hm : m = a + bs) (hmn : m < n) (hdr : cur.drop a = L.drop a) (hSL : ∀ c, Stab f (sblk bs c S) (sblk bs c L))
    (hBL : ∀ c', c' < c → Stab f (sblk (2 * bs) c' S) (sblk (2 * bs) c' cur)) :
    ∃ A B, cur = cur.take a ++ (A ++ (B ++ [])) ∧ A.length = bs ∧ m + B.length = n ∧ Srt f A ∧ Srt f B ∧ ∀ M, Stab f (A ++ B) M →
      (∀ c', Stab f (sblk (2 * bs) c' S) (sblk (2 * bs) c' (cur.take a ++ (M ++ [])))) ∧ (cur.take a ++ (M ++ [])).length = n := by
  have hA : sblk bs (2 * c) cur = (cur.drop a).take bs := by unfold sblk; rw [two_mul_c, ← hac]
  have hB : sblk bs (2 * c + 1) cur = (cur.drop m).take bs := by unfold sblk; rw [two_mul_c1, ← hac, hm]
  have hAl : (sblk bs (2 * c) cur).length = bs := blk_len (by rw [two_mul_c, ← hac]; omega)
  have hBl : m + (sblk bs (2 * c + 1) cur).length = n := by rw [hB, List.length_take, List.length_drop]; omega
  have hcut := cut3 cur a b m (by omega) (by omega)
  rw [show m - a = bs from by omega, show b - m = bs from by omega, ← hA, ← hB, List.drop_of_length_le (by omega : cur.length ≤ b)] at hcut
  refine ⟨sblk bs (2 * c) cur, sblk bs (2 * c + 1) cur, hcut, hAl, hBl, ?_, ?_, fun M hM => ⟨fun c' => ?_, ?_⟩⟩
  · rw [blk_drop (L := cur) (L' := L) (by rw [two_mul_c, ← hac]; exact hdr)]; exact (hSL _).1
  · rw [blk_drop (L := cur) (L' := L) (drop_more hdr (by rw [two_mul_c1, ← hac]; omega))]; exact (hSL _).1
  · have hml : M.length = n - a := by rw [hM.length, List.length_append]; omega
    have htl : (cur.take a).length = a := by rw [List.length_take]; omega
    rw [List.append_nil]
    rcases Nat.lt_trichotomy c' c with h | h | h
    · have h1 := hBL c' h
      have hle : c' * (2 * bs) + 2 * bs ≤ (cur.take a).length := by
        rw [htl, hac]
        have : (c' + 1) * (2 * bs) ≤ c * (2 * bs) := Nat.mul_le_mul_right _ h
        rwa [Nat.add_mul, Nat.one_mul] at this
      rw [blk_ahead hle]
      rw [← List.take_append_drop a cur, blk_ahead hle] at h1
      exact h1
    · subst h
      rw [blk_end (by omega) (by omega)]
      exact blk_two_stab hac hdr hSL hM
    · have hle : n ≤ c' * (2 * bs) := by
        have : (c + 1) * (2 * bs) ≤ c' * (2 * bs) := Nat.mul_le_mul_right _ h
        rw [Nat.add_mul, Nat.one_mul] at this; omega
      rw [blk_none (by omega), blk_none (by rw [List.length_append]; omega)]
      exact Stab.nil
  · have hml : M.length = n - a := by rw [hM.length, List.length_append]; omega
    rw [List.append_nil, List.length_append, List.length_take]; omega
theorem two_end {f : Int → Int} {bs c n a b m : Nat} {S L cur : List Int} (hac : a = c * (2 * bs)) (hb : b = a + 2 * bs) (hn : cur.length = n) (hSn : S.length = n) (hbn : n < b) (hm : m = a + bs) (hmn : n ≤ m) (hdr : cur.drop a = L.drop a) (hSL : ∀ c, Stab f (sblk bs c S) (sblk bs c L))
    (hBL : ∀ c', c' < c → Stab f (sblk (2 * bs) c' S) (sblk (2 * bs) c' cur)) : ∀ c', Stab f (sblk (2 * bs) c' S) (sblk (2 * bs) c' cur) := by
  intro c'
  rcases Nat.lt_trichotomy c' c with h | h | h
  · exact hBL c' h
  · subst h
    rw [blk_two, blk_two, blk_none (c := 2 * c' + 1) (by rw [two_mul_c1, ← hac]; omega), blk_none (c := 2 * c' + 1) (by rw [two_mul_c1, ← hac]; omega), List.append_nil, List.append_nil,
      blk_drop (L := cur) (L' := L) (by rw [two_mul_c, ← hac]; exact hdr)]
    exact hSL _
  · have hle : n ≤ c' * (2 * bs) := by
      have : (c + 1) * (2 * bs) ≤ c' * (2 * bs) := Nat.mul_le_mul_right _ h
      rw [Nat.add_mul, Nat.one_mul] at this; omega
    rw [blk_none (by omega), blk_none (by omega)]
    exact Stab.nil
end Go.Proofs.YtnglhgogkemgbaaGreatDoor
