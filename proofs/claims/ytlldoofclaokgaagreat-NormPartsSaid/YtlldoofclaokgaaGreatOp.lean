/- Plain: putting in order twice; what is decomposed stays as it is. -/
import Derived.Test.YtlldoofclaokgaaGreatOh
import Derived.Test.YtlldoofclaokgaaGreatVd
namespace Go.Proofs.YtlldoofclaokgaaGreat
open Go.RowKit

/-- no code point is behind one of a greater class, but for starters -/
def Ch (f : Int → Int) : List Int → Prop
  | [] => True
  | x :: xs => (∀ y, xs.head? = some y → f y ≠ 0 → f x ≤ f y) ∧ Ch f xs
theorem ch_append {f : Int → Int} : ∀ (U V : List Int), Ch f (U ++ V) ↔ Ch f U ∧ Ch f V ∧ ∀ u v, U.getLast? = some u → V.head? = some v → f v ≠ 0 → f u ≤ f v
  | [], V => by simp [Ch]
  | [x], V => by
    simp only [List.cons_append, List.nil_append, Ch, List.head?_nil, List.getLast?_singleton]
    constructor
    · rintro ⟨h1, h2⟩
      exact ⟨⟨fun y h => (by cases h), trivial⟩, h2, fun u v hu hv => by cases hu; exact h1 v hv⟩
    · rintro ⟨_, h2, h3⟩
      exact ⟨fun y hy => h3 x y rfl hy, h2⟩
  | x :: y :: U, V => by
    have ih := ch_append (f := f) (y :: U) V
    have e : (x :: y :: U).getLast? = (y :: U).getLast? := by simp [List.getLast?_cons_cons]
    rw [e]
    simp only [List.cons_append] at ih ⊢
    constructor
    · rintro ⟨h1, h2⟩
      obtain ⟨k1, k2, k3⟩ := ih.1 h2
      exact ⟨⟨fun z hz => h1 z (by simpa using hz), k1⟩, k2, k3⟩
    · rintro ⟨⟨h1, h2⟩, h3, h4⟩
      exact ⟨fun z hz => h1 z (by simpa using hz), ih.2 ⟨h2, h3, h4⟩⟩
theorem insC_chain {f : Int → Int} {D : List Int} {x : Int} (h : Ch f D) : Ch f (insC f D x) := by
  unfold insC
  split
  · rename_i hx
    exact (ch_append _ _).2 ⟨h, ⟨fun y hy => (by simp at hy), trivial⟩, fun u v _ hv hn => by simp at hv; subst hv; exact absurd hx hn⟩
  · rename_i hx
    obtain ⟨U, V, e, hV, hU, hk⟩ := ahead_split f D x
    rw [hk, e, List.take_left, List.drop_left]
    rw [e] at h
    obtain ⟨h1, h2, _⟩ := (ch_append _ _).1 h
    refine (ch_append _ _).2 ⟨h1, ⟨fun y hy _ => ?_, h2⟩, fun u v hu hv _ => ?_⟩
    · have := hV y (List.mem_of_mem_head? hy); omega
    · simp at hv; subst hv; exact hU u hu
theorem fold_chain {f : Int → Int} : ∀ (L D : List Int), Ch f D → Ch f (L.foldl (insC f) D)
  | [], _, h => h
  | x :: xs, D, h => fold_chain xs _ (insC_chain h)
theorem ord_chain (f : Int → Int) (L : List Int) : Ch f (ordL f L) := fold_chain L [] trivial
theorem insC_last {f : Int → Int} {D : List Int} {x : Int} (h : ∀ u, D.getLast? = some u → f x ≠ 0 → f u ≤ f x) : insC f D x = D ++ [x] := by
  unfold insC
  split
  · rfl
  · rename_i hx
    have h0 : aheadOf f D x = 0 := by
      unfold aheadOf
      cases hr : D.reverse with
      | nil => rfl
      | cons u us =>
        have hl : D.getLast? = some u := by rw [← List.head?_reverse, hr]; rfl
        have := h u hl hx
        rw [List.takeWhile_cons_of_neg (by simp; omega)]; rfl
    rw [h0, Nat.sub_zero, List.take_length, List.drop_length]
theorem fold_of_chain {f : Int → Int} : ∀ (L D : List Int), Ch f (D ++ L) → L.foldl (insC f) D = D ++ L
  | [], D, _ => by simp
  | x :: xs, D, h => by
    have e : D ++ x :: xs = (D ++ [x]) ++ xs := by simp
    rw [List.foldl_cons, insC_last (fun u hu hx => ((ch_append _ _).1 h).2.2 u x hu rfl hx), fold_of_chain xs _ (by rw [← e]; exact h), e]
theorem ord_twice (f : Int → Int) (L : List Int) : ordL f (ordL f L) = ordL f L := by
  have := fold_of_chain (f := f) (ordL f L) [] (by simpa using ord_chain f L)
  simpa [ordL] using this
theorem mem_insC {f : Int → Int} {D : List Int} {x y : Int} : y ∈ insC f D x ↔ y ∈ D ∨ y = x := by
  unfold insC
  split
  · simp
  · conv => rhs; rw [← List.take_append_drop (D.length - aheadOf f D x) D]
    simp only [List.mem_append, List.mem_cons]
    constructor
    · rintro (h | h | h)
      · exact .inl (.inl h)
      · exact .inr h
      · exact .inl (.inr h)
    · rintro ((h | h) | h)
      · exact .inl h
      · exact .inr (.inr h)
      · exact .inr (.inl h)
theorem mem_fold {f : Int → Int} {y : Int} : ∀ (L D : List Int), y ∈ L.foldl (insC f) D ↔ y ∈ D ∨ y ∈ L
  | [], D => by simp
  | x :: xs, D => by
    rw [List.foldl_cons, mem_fold xs, mem_insC, List.mem_cons]
    constructor
    · rintro ((h | h) | h)
      · exact .inl h
      · exact .inr (.inl h)
      · exact .inr (.inr h)
    · rintro (h | h | h)
      · exact .inl (.inl h)
      · exact .inl (.inr h)
      · exact .inr h
theorem mem_ordL {f : Int → Int} {L : List Int} {y : Int} : y ∈ ordL f L ↔ y ∈ L := by unfold ordL; rw [mem_fold]; simp
/-! ### Leaves -/
def leaf (d : List T3) (y : Int) : Prop := hang y = [] ∧ dOne d y = none
theorem sc_pt (r : Int) : sc r = pt r := by
  unfold sc pt
  rw [Bool.eq_iff_iff]
  simp
  omega
theorem hang_told {r y : Int} (h : y ∈ hang r) : told y = true ∧ (4352 ≤ y ∧ y ≤ 4546) := by
  unfold hang at h
  split at h
  · cases h
  · rename_i hr
    have h1 : 0 ≤ r - 44032 ∧ r - 44032 ≤ 11171 := by omega
    simp only [List.mem_append, List.mem_cons, List.not_mem_nil, or_false] at h
    rcases h with (h | h) | h
    · subst h; unfold told; simp; omega
    · subst h; unfold told; simp; omega
    · split at h
      · cases h
      · simp at h; subst h; unfold told; simp; omega
theorem leaf_told {c d : List T3} (ho : dataOk c d = true) {y : Int} (h : told y = true) (hb : 4352 ≤ y ∧ y ≤ 4546) : leaf d y := by
  refine ⟨by unfold hang; rw [if_pos (by omega)], ?_⟩
  cases hd : dOne d y with
  | none => rfl
  | some x =>
    exfalso
    have hx := List.mem_of_find?_eq_some hd
    have he := List.find?_some hd
    have h4 := (data_parts ho).2.2.2.1
    have h5 := dec_mem h4 hx
    unfold decOne at h5
    simp only [Bool.and_eq_true] at h5
    have : x.1 = y := by simpa using he
    rw [this] at h5
    have := h5.2
    rw [h] at this; cases this
theorem deep_leaf {c d : List T3} (ho : dataOk c d = true) : ∀ (k : Nat) (r : Int), (deep d k r).2 = true → ∀ y ∈ (deep d k r).1, leaf d y := by
  intro k
  induction k with
  | zero =>
    intro r h2 y hy
    unfold deep at h2 hy
    by_cases h : hang r ≠ []
    · rw [if_pos h] at hy; have := hang_told hy; exact leaf_told ho this.1 this.2
    · rw [if_neg h] at hy h2
      cases hd : dOne d r with
      | none => rw [hd] at hy; simp at hy; subst hy; exact ⟨by simpa using h, hd⟩
      | some x => rw [hd] at h2; simp at h2
  | succ k ih =>
    intro r h2 y hy
    unfold deep at h2 hy
    by_cases h : hang r ≠ []
    · rw [if_pos h] at hy; have := hang_told hy; exact leaf_told ho this.1 this.2
    · rw [if_neg h] at hy h2
      cases hd : dOne d r with
      | none => rw [hd] at hy; simp at hy; subst hy; exact ⟨by simpa using h, hd⟩
      | some x =>
        rw [hd] at hy h2
        simp only [List.mem_append] at hy h2
        rcases hy with hy | hy
        · exact ih _ h2 y hy
        · have h3 := (data_parts ho).2.2.2.2 x (List.mem_of_find?_eq_some hd)
          unfold decTwo at h3
          simp only [Bool.and_eq_true] at h3
          split at hy
          · cases hy
          · rename_i h0
            simp at hy; subst hy
            have h4 := h3.1.1
            simp [h0] at h4
            exact ⟨h4.2, h4.1⟩
theorem leaf_deep {d : List T3} {y : Int} (h : leaf d y) (k : Nat) : (deep d k y).1 = [y] := by
  unfold deep
  rw [if_neg (by simp [h.1]), h.2]
theorem flat_leaf {d : List T3} {L : List Int} (h : ∀ y ∈ L, leaf d y) : L.flatMap (fun r => (deep d 4 r).1) = L := by
  induction L with
  | nil => rfl
  | cons x xs ih => rw [List.flatMap_cons, leaf_deep (h x (by simp)), ih (fun y hy => h y (by simp [hy]))]; rfl
theorem deep_sc {c d : List T3} (ho : dataOk c d = true) : ∀ (k : Nat) (r : Int), sc r = true → ∀ y ∈ (deep d k r).1, sc y = true := by
  intro k
  induction k with
  | zero =>
    intro r hr y hy
    unfold deep at hy
    by_cases h : hang r ≠ []
    · rw [if_pos h] at hy; have := hang_told hy; unfold sc; simp; omega
    · rw [if_neg h] at hy
      cases hd : dOne d r with
      | none => rw [hd] at hy; simp at hy; subst hy; exact hr
      | some x => rw [hd] at hy; simp at hy
  | succ k ih =>
    intro r hr y hy
    unfold deep at hy
    by_cases h : hang r ≠ []
    · rw [if_pos h] at hy; have := hang_told hy; unfold sc; simp; omega
    · rw [if_neg h] at hy
      cases hd : dOne d r with
      | none => rw [hd] at hy; simp at hy; subst hy; exact hr
      | some x =>
        rw [hd] at hy
        have h4 := dec_mem (data_parts ho).2.2.2.1 (List.mem_of_find?_eq_some hd)
        unfold decOne at h4
        simp only [Bool.and_eq_true] at h4
        simp only [List.mem_append] at hy
        rcases hy with hy | hy
        · exact ih _ (by rw [sc_pt]; exact h4.1.1.1.1.2) y hy
        · split at hy
          · cases hy
          · simp at hy; subst hy; rw [sc_pt]; exact h4.1.1.1.2
/-! ### Texts -/
theorem nfdE_zero {L : List Int} (h : nfdE L = 0) : ∀ y ∈ L, sc y = true := by
  unfold nfdE at h
  split at h
  · rename_i ha; exact List.all_eq_true.1 ha
  · cases h
theorem textE_zero {s : ByteArray} (h : textE s = 0) : bdE s = 0 ∧ s.size ≤ 1000 ∧ nfdE (dcV s) = 0 := by
  unfold textE at h
  split at h
  · cases h
  · split at h
    · cases h
    · exact ⟨by omega, by omega, h⟩
section
variable {c d : List T3} (ho : dataOk c d = true)
include ho
theorem textL_mem (s : ByteArray) : ∀ y ∈ textL (clsOf c) (fun r => (deep d 4 r).1) s, sc y = true ∧ leaf d y := by
  intro y hy
  unfold textL at hy
  split at hy
  · rename_i h
    rw [mem_ordL, List.mem_flatMap] at hy
    obtain ⟨r, hr, hy⟩ := hy
    exact ⟨deep_sc ho 4 r (nfdE_zero (textE_zero h).2.2 r hr) y hy, deep_leaf ho 4 r (deep_ok3 ho r) y hy⟩
  · cases hy
theorem textL_fb (s : ByteArray) : fb (textL (clsOf c) (fun r => (deep d 4 r).1) s) = none := fb_nowhere (fun r hr => (textL_mem ho s r hr).1)
theorem textL_ec (s : ByteArray) : ecE (textL (clsOf c) (fun r => (deep d 4 r).1) s) = 0 := (ec_none (textL_fb ho s)).2.2
theorem text_twice {s : ByteArray} (h : textE s = 0) (hl : (textS (clsOf c) (fun r => (deep d 4 r).1) s).size ≤ 1000) :
    textE (textS (clsOf c) (fun r => (deep d 4 r).1) s) = 0 ∧ textS (clsOf c) (fun r => (deep d 4 r).1) (textS (clsOf c) (fun r => (deep d 4 r).1) s) = textS (clsOf c) (fun r => (deep d 4 r).1) s := by
  have hm := textL_mem ho s
  have hfb := textL_fb ho s
  have e0 : textS (clsOf c) (fun r => (deep d 4 r).1) s = ecS (textL (clsOf c) (fun r => (deep d 4 r).1) s) := by unfold textS; rw [if_pos h]
  have e1 : ordL (clsOf c) (textL (clsOf c) (fun r => (deep d 4 r).1) s) = textL (clsOf c) (fun r => (deep d 4 r).1) s := by
    unfold textL; rw [if_pos h]; exact ord_twice _ _
  generalize textL (clsOf c) (fun r => (deep d 4 r).1) s = L at *
  obtain ⟨b1, b2⟩ := back L hfb
  rw [e0] at hl ⊢
  have hsz : L.length ≤ 1000 := by
    rw [(ec_none hfb).1] at hl
    have : ∀ M : List Int, M.length ≤ (M.flatMap enc).length := by
      intro M
      induction M with
      | nil => simp
      | cons x xs ih => have := enc_len x; have := enc_pos x; simp only [List.flatMap_cons, List.length_append, List.length_cons]; omega
    have h2 := this L
    have h3 : (strOfNums (L.flatMap enc)).size = (L.flatMap enc).length := by simp [strOfNums, ByteArray.size]
    omega
  have hn : nfdE L = 0 := by
    unfold nfdE
    rw [if_pos (List.all_eq_true.2 (fun y hy => (hm y hy).1)), if_neg (by omega)]
  have hT : textE (ecS L) = 0 := by
    unfold textE
    rw [if_neg (by rw [(bd_none b1).2]; simp), if_neg (by omega), b2]
    exact hn
  refine ⟨hT, ?_⟩
  unfold textS
  rw [if_pos hT]
  unfold textL
  rw [if_pos hT, b2, flat_leaf (fun y hy => (hm y hy).2), e1]
end
end Go.Proofs.YtlldoofclaokgaaGreat
