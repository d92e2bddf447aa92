/- Plain: the order of code points; the entries below a beginning, in order. -/
import Derived.Test.YtcifoallahmjbaaBase
namespace Go.Proofs.Ytcifoallahmjbaa

/-- whether code points are ahead of others -/
def lessL : List Int → List Int → Bool
  | _, [] => false
  | [], _ :: _ => true
  | x :: xs, y :: ys => if x = y then lessL xs ys else decide (x < y)
theorem lessL_irrefl : ∀ (xs : List Int), lessL xs xs = false
  | [] => rfl
  | x :: xs => by rw [lessL, if_pos rfl]; exact lessL_irrefl xs
theorem lessL_trans : ∀ (a b c : List Int), lessL a b = true → lessL b c = true → lessL a c = true
  | a, b, [], _, h2 => by cases b <;> simp [lessL] at h2
  | [], b, z :: c, _, _ => rfl
  | x :: a, [], z :: c, h1, _ => by simp [lessL] at h1
  | x :: a, y :: b, z :: c, h1, h2 => by
    rw [lessL] at *
    by_cases e1 : x = y
    · rw [if_pos e1] at h1
      by_cases e2 : y = z
      · rw [if_pos e2] at h2; rw [if_pos (e1.trans e2)]; exact lessL_trans a b c h1 h2
      · rw [if_neg e2] at h2; rw [if_neg (by rw [e1]; exact e2), e1]; exact h2
    · rw [if_neg e1] at h1
      by_cases e2 : y = z
      · rw [if_pos e2] at h2; subst e2; rw [if_neg e1]; exact h1
      · rw [if_neg e2] at h2
        simp only [decide_eq_true_eq] at h1 h2
        rw [if_neg (by omega)]; simp only [decide_eq_true_eq]; omega
theorem lessL_asymm {a b : List Int} (h : lessL a b = true) : lessL b a = false := by
  cases hb : lessL b a with
  | false => rfl
  | true => have := lessL_trans a b a h hb; rw [lessL_irrefl] at this; cases this
theorem lessL_tri : ∀ (a b : List Int), lessL a b = true ∨ a = b ∨ lessL b a = true
  | [], [] => .inr (.inl rfl)
  | [], _ :: _ => .inl rfl
  | _ :: _, [] => .inr (.inr rfl)
  | x :: a, y :: b => by
    rw [lessL, lessL]
    by_cases e : x = y
    · subst e
      rw [if_pos rfl, if_pos rfl]
      rcases lessL_tri a b with h | h | h
      · exact .inl h
      · exact .inr (.inl (by rw [h]))
      · exact .inr (.inr h)
    · rw [if_neg e, if_neg (fun h => e h.symm)]
      simp only [decide_eq_true_eq]
      by_cases h : x < y
      · exact .inl h
      · exact .inr (.inr (by omega))
theorem lessL_app : ∀ (p a b : List Int), lessL (p ++ a) (p ++ b) = lessL a b
  | [], a, b => rfl
  | x :: p, a, b => by rw [List.cons_append, List.cons_append, lessL, if_pos rfl]; exact lessL_app p a b
theorem lessL_prefix {p q : List Int} {r : Int} (h : p ++ [r] <+: q) : lessL p q = true := by
  obtain ⟨t, rfl⟩ := h
  have := lessL_app p [] ([r] ++ t)
  rw [List.append_nil] at this
  rw [List.append_assoc, this]; rfl
theorem lessL_fork {p a b : List Int} {r s : Int} (ha : p ++ [r] <+: a) (hb : p ++ [s] <+: b) (h : r < s) : lessL a b = true := by
  obtain ⟨t, rfl⟩ := ha
  obtain ⟨u, rfl⟩ := hb
  rw [List.append_assoc, List.append_assoc, lessL_app]
  simp only [List.cons_append, List.nil_append]
  rw [lessL, if_neg (by omega)]
  simpa using h
/-- two lists in order with the same members are the same -/
theorem pw_ext {α : Type} {R : α → α → Prop} (hi : ∀ a, ¬ R a a) (ha : ∀ a b, R a b → ¬ R b a) : ∀ {l l' : List α}, l.Pairwise R → l'.Pairwise R → (∀ x, x ∈ l ↔ x ∈ l') → l = l'
  | [], [], _, _, _ => rfl
  | [], y :: l', _, _, h => absurd ((h y).2 (List.mem_cons_self ..)) (by simp)
  | x :: l, [], _, _, h => absurd ((h x).1 (List.mem_cons_self ..)) (by simp)
  | x :: l, y :: l', h1, h2, h => by
    rw [List.pairwise_cons] at h1 h2
    have e : x = y := by
      rcases List.mem_cons.1 ((h x).1 (List.mem_cons_self ..)) with e | hx
      · exact e
      · rcases List.mem_cons.1 ((h y).2 (List.mem_cons_self ..)) with e | hy
        · exact e.symm
        · exact absurd (h2.1 x hx) (ha _ _ (h1.1 y hy))
    subst e
    congr 1
    refine pw_ext hi ha h1.2 h2.2 fun z => ?_
    constructor
    · intro hz
      rcases List.mem_cons.1 ((h z).1 (List.mem_cons_of_mem _ hz)) with e | hz'
      · subst e; exact absurd (h1.1 z hz) (hi z)
      · exact hz'
    · intro hz
      rcases List.mem_cons.1 ((h z).2 (List.mem_cons_of_mem _ hz)) with e | hz'
      · subst e; exact absurd (h2.1 z hz) (hi z)
      · exact hz'
/-- an entry's code points -/
def cdAt (es : List Ent) (i : Nat) : List Int := match es[i]? with | some x => x.1 | none => []
theorem cdAt_some {es : List Ent} {i : Nat} {x : Ent} (h : es[i]? = some x) : cdAt es i = x.1 := by unfold cdAt; rw [h]
/-- by their numbers -/
def ltAt (es : List Ent) (i j : Nat) : Prop := lessL (cdAt es i) (cdAt es j) = true
/-- all entries' numbers, in order of their code points -/
def IsOrd (es : List Ent) (T : List Nat) : Prop := T.Pairwise (ltAt es) ∧ ∀ i, i ∈ T ↔ i < es.length
theorem ltAt_irr (es : List Ent) (i : Nat) : ¬ ltAt es i i := by unfold ltAt; rw [lessL_irrefl]; simp
theorem ltAt_asy (es : List Ent) (i j : Nat) (h : ltAt es i j) : ¬ ltAt es j i := by unfold ltAt at *; rw [lessL_asymm h]; simp
theorem IsOrd.eq {es : List Ent} {T T' : List Nat} (h : IsOrd es T) (h' : IsOrd es T') : T = T' :=
  pw_ext (ltAt_irr es) (ltAt_asy es) h.1 h'.1 fun i => (h.2 i).trans (h'.2 i).symm
/-- those whose code points begin so -/
def subT (es : List Ent) (T : List Nat) (p : List Int) : List Nat := T.filter fun i => decide (p <+: cdAt es i)
theorem subT_nil (es : List Ent) (T : List Nat) : subT es T [] = T := by
  unfold subT
  rw [List.filter_eq_self.2]
  intro i _
  simp
/-- the entry that ends at a way -/
def hereT (es : List Ent) (p : List Int) : List Nat := match idx es p with | some i => [i] | none => []
theorem subT_node {es : List Ent} {T : List Nat} (hT : IsOrd es T) (hap : Apart es) (p : List Int) (ks : List Int) (hks : ks.Pairwise (· < ·)) (hmem : ∀ r, r ∈ ks ↔ ∃ x ∈ es, p ++ [r] <+: x.1) :
    subT es T p = hereT es p ++ ks.flatMap fun r => subT es T (p ++ [r]) := by
  have mem_sub : ∀ q i, i ∈ subT es T q ↔ i < es.length ∧ q <+: cdAt es i := by
    intro q i
    unfold subT
    rw [List.mem_filter, hT.2 i]; simp
  have mem_here : ∀ i, i ∈ hereT es p ↔ idx es p = some i := by
    intro i
    unfold hereT
    cases idx es p with
    | none => simp
    | some j => simp [eq_comm]
  have cd_here : ∀ i, idx es p = some i → i < es.length ∧ cdAt es i = p := by
    intro i hi
    obtain ⟨e, h1, h2⟩ := idx_some hi
    exact ⟨(List.getElem?_eq_some_iff.1 h1).1, by rw [cdAt_some h1, h2]⟩
  refine pw_ext (ltAt_irr es) (ltAt_asy es) (hT.1.filter _) ?_ ?_
  · refine List.pairwise_append.2 ⟨?_, ?_, ?_⟩
    · unfold hereT
      cases idx es p <;> simp
    · refine List.pairwise_flatMap.2 ⟨fun r _ => hT.1.filter _, hks.imp ?_⟩
      intro r s hrs x hx y hy
      exact lessL_fork ((mem_sub _ _).1 hx).2 ((mem_sub _ _).1 hy).2 hrs
    · intro a ha b hb
      obtain ⟨r, _, hb⟩ := List.mem_flatMap.1 hb
      have h1 := (cd_here a ((mem_here a).1 ha)).2
      show lessL (cdAt es a) (cdAt es b) = true
      rw [h1]
      exact lessL_prefix ((mem_sub _ _).1 hb).2
  · intro i
    rw [List.mem_append, mem_sub, mem_here, List.mem_flatMap]
    constructor
    · rintro ⟨hi, t, ht⟩
      obtain ⟨x, hx⟩ : ∃ x, es[i]? = some x := ⟨_, List.getElem?_eq_getElem hi⟩
      cases t with
      | nil =>
        left
        rw [List.append_nil] at ht
        rw [cdAt_some hx] at ht
        rw [ht]; exact idx_self hap hx
      | cons r t =>
        right
        have hp : p ++ [r] <+: cdAt es i := ⟨t, by rw [List.append_assoc]; exact ht⟩
        exact ⟨r, (hmem r).2 ⟨x, List.mem_of_getElem? hx, by rw [← cdAt_some hx]; exact hp⟩, (mem_sub _ _).2 ⟨hi, hp⟩⟩
    · rintro (h | ⟨r, _, h⟩)
      · obtain ⟨h1, h2⟩ := cd_here i h
        exact ⟨h1, by rw [h2]; exact List.prefix_refl _⟩
      · obtain ⟨h1, h2⟩ := (mem_sub _ _).1 h
        exact ⟨h1, (List.prefix_append p [r]).trans h2⟩
theorem subT_here {es : List Ent} {T : List Nat} (hT : IsOrd es T) (hap : Apart es) {p : List Int} {i : Nat} (h : idx es p = some i) : ∃ t, subT es T p = i :: t := by
  obtain ⟨e, h1, h2⟩ := idx_some h
  have hil := (List.getElem?_eq_some_iff.1 h1).1
  have hci : cdAt es i = p := by rw [cdAt_some h1, h2]
  have hpw : (subT es T p).Pairwise (ltAt es) := hT.1.filter _
  have hi : i ∈ subT es T p := by unfold subT; rw [List.mem_filter, hT.2 i]; exact ⟨hil, by simp [hci]⟩
  cases hs : subT es T p with
  | nil => rw [hs] at hi; simp at hi
  | cons j t =>
    rw [hs] at hi hpw
    rcases List.mem_cons.1 hi with e1 | ht
    · exact ⟨t, by rw [e1]⟩
    · have hji := (List.pairwise_cons.1 hpw).1 i ht
      have hj : j ∈ subT es T p := by rw [hs]; exact List.mem_cons_self ..
      unfold subT at hj
      rw [List.mem_filter, hT.2 j] at hj
      have hpj : p <+: cdAt es j := by simpa using hj.2
      obtain ⟨u, hu⟩ := hpj
      unfold ltAt at hji
      rw [hci, ← hu] at hji
      have := lessL_app p u []
      rw [List.append_nil] at this
      rw [this] at hji
      cases u <;> simp [lessL] at hji
theorem subT_len {es : List Ent} {T : List Nat} (p : List Int) : (subT es T p).length ≤ T.length := List.length_filter_le _ _
theorem subT_mem {es : List Ent} {T : List Nat} (hT : IsOrd es T) {p : List Int} {i : Nat} (h : i ∈ subT es T p) : i < es.length := (hT.2 i).1 (List.mem_filter.1 (by unfold subT at h; exact h)).1
theorem exists_ord {es : List Ent} (hap : Apart es) : ∃ T, IsOrd es T := by
  have tr : ∀ a b c : Nat, (!lessL (cdAt es b) (cdAt es a)) = true → (!lessL (cdAt es c) (cdAt es b)) = true → (!lessL (cdAt es c) (cdAt es a)) = true := by
    intro a b c h1 h2
    simp only [Bool.not_eq_true'] at *
    cases hca : lessL (cdAt es c) (cdAt es a) with
    | false => rfl
    | true =>
      rcases lessL_tri (cdAt es b) (cdAt es a) with t | t | t
      · rw [t] at h1; cases h1
      · rw [← t] at hca; rw [hca] at h2; cases h2
      · have := lessL_trans _ _ _ hca t; rw [this] at h2; cases h2
  have to : ∀ a b : Nat, ((!lessL (cdAt es b) (cdAt es a)) || (!lessL (cdAt es a) (cdAt es b))) = true := by
    intro a b
    cases hba : lessL (cdAt es b) (cdAt es a) with
    | false => rfl
    | true => rw [lessL_asymm hba]; rfl
  have hp := List.mergeSort_perm (List.range es.length) (fun a b => !lessL (cdAt es b) (cdAt es a))
  have hs := List.pairwise_mergeSort (le := fun a b => !lessL (cdAt es b) (cdAt es a)) tr to (List.range es.length)
  have hm : ∀ i, i ∈ (List.range es.length).mergeSort (fun a b => !lessL (cdAt es b) (cdAt es a)) ↔ i < es.length := fun i => by rw [hp.mem_iff, List.mem_range]
  refine ⟨_, (hs.and (hp.nodup_iff.2 List.nodup_range)).imp_of_mem ?_, hm⟩
  rintro i j hi hj ⟨h1, h2⟩
  simp only [Bool.not_eq_true'] at h1
  rcases lessL_tri (cdAt es i) (cdAt es j) with t | t | t
  · exact t
  · obtain ⟨x, hx⟩ : ∃ x, es[i]? = some x := ⟨_, List.getElem?_eq_getElem ((hm i).1 hi)⟩
    obtain ⟨y, hy⟩ : ∃ y, es[j]? = some y := ⟨_, List.getElem?_eq_getElem ((hm j).1 hj)⟩
    rw [cdAt_some hx, cdAt_some hy] at t
    exact absurd (apart_inj hap hx hy t) h2
  · rw [t] at h1; cases h1
/-- how many there are -/
theorem IsOrd.len {es : List Ent} {T : List Nat} (hT : IsOrd es T) : T.length = es.length := by
  have hn : T.Nodup := hT.1.imp (fun {a b} h e => by subst e; exact ltAt_irr es a h)
  have hp : T.Perm (List.range es.length) := (List.perm_ext_iff_of_nodup hn List.nodup_range).2 fun i => by rw [hT.2 i, List.mem_range]
  simpa using hp.length_eq
end Go.Proofs.Ytcifoallahmjbaa
