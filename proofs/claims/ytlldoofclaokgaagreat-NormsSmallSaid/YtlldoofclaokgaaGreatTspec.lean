/- The trie in plain words: entries, prefixes, the longest match. -/
import Derived.Test.YtlldoofclaokgaaGreatRows
namespace Go.Proofs.YtlldoofclaokgaaGreat

abbrev El := Int × Int × Int × Bool
abbrev Ent := List Int × List El
/-- the number of the entry that has just these code points -/
def idx (es : List Ent) (p : List Int) : Option Nat := es.findIdx? fun e => e.1 == p
/-- p begins one of the lists, or is nothing -/
def Dom (S : List (List Int)) (p : List Int) : Prop := p = [] ∨ ∃ c ∈ S, p <+: c
theorem idx_some {es : List Ent} {p : List Int} {i : Nat} (h : idx es p = some i) : ∃ e, es[i]? = some e ∧ e.1 = p := by
  unfold idx at h
  rw [List.findIdx?_eq_some_iff_getElem] at h
  obtain ⟨h1, h2, _⟩ := h
  exact ⟨es[i], List.getElem?_eq_getElem h1, by simpa using h2⟩
theorem idx_none {es : List Ent} {p : List Int} (h : idx es p = none) : ∀ e ∈ es, e.1 ≠ p := by
  unfold idx at h
  rw [List.findIdx?_eq_none_iff] at h
  intro e he; have := h e he; simpa using this
theorem idx_isSome {es : List Ent} {e : Ent} (h : e ∈ es) : ∃ i, idx es e.1 = some i := by
  cases hi : idx es e.1 with
  | none => exact absurd rfl (idx_none hi e h)
  | some i => exact ⟨i, rfl⟩
theorem idx_snoc (es : List Ent) (e : Ent) (p : List Int) : idx (es ++ [e]) p = match idx es p with | some i => some i | none => if e.1 = p then some es.length else none := by
  unfold idx
  rw [List.findIdx?_append]
  cases h : es.findIdx? (fun e => e.1 == p) with
  | some i => rfl
  | none =>
    by_cases he : e.1 = p
    · simp [he]
    · simp [he]
theorem idx_lt {es : List Ent} {p : List Int} {i : Nat} (h : idx es p = some i) : i < es.length := by
  obtain ⟨e, h1, _⟩ := idx_some h
  exact (List.getElem?_eq_some_iff.1 h1).1
/-- no two entries have the same code points -/
def Apart (es : List Ent) : Prop := (es.map (·.1)).Pairwise (· ≠ ·)
theorem apart_inj {es : List Ent} (h : Apart es) {i j : Nat} {a b : Ent} (hi : es[i]? = some a) (hj : es[j]? = some b) (e : a.1 = b.1) : i = j := by
  unfold Apart at h
  rw [List.pairwise_iff_getElem] at h
  obtain ⟨li, rfl⟩ := List.getElem?_eq_some_iff.1 hi
  obtain ⟨lj, rfl⟩ := List.getElem?_eq_some_iff.1 hj
  rcases Nat.lt_trichotomy i j with c | c | c
  · exact absurd (by rw [List.getElem_map, List.getElem_map]; exact e) (h i j (by simpa using li) (by simpa using lj) c)
  · exact c
  · exact absurd (by rw [List.getElem_map, List.getElem_map]; exact e.symm) (h j i (by simpa using lj) (by simpa using li) c)
theorem idx_self {es : List Ent} (h : Apart es) {i : Nat} {e : Ent} (hi : es[i]? = some e) : idx es e.1 = some i := by
  obtain ⟨j, hj⟩ := idx_isSome (List.mem_of_getElem? hi)
  obtain ⟨e', h1, h2⟩ := idx_some hj
  rw [hj, apart_inj h h1 hi h2]
/-- the longest entry among the first k beginnings -/
def lgo (es : List Ent) (codes : List Int) : Nat → Option Nat
  | 0 => none
  | k + 1 => match idx es (codes.take (k + 1)) with | some i => some i | none => lgo es codes k
theorem lgo_some {es : List Ent} {codes : List Int} {i : Nat} : ∀ {k : Nat}, lgo es codes k = some i → ∃ e, es[i]? = some e ∧ e.1 <+: codes ∧ ∀ a ∈ es, a.1 <+: codes → a.1.length ≤ k → a.1.length ≤ e.1.length := by
  intro k
  induction k with
  | zero => intro h; cases h
  | succ k ih =>
    intro h
    unfold lgo at h
    cases hx : idx es (codes.take (k + 1)) with
    | some j =>
      rw [hx] at h
      cases h
      obtain ⟨e, h1, h2⟩ := idx_some hx
      refine ⟨e, h1, by rw [h2]; exact List.take_prefix _ _, fun a ha hp hl => ?_⟩
      have hpl := hp.length_le
      rw [h2, List.length_take]; omega
    | none =>
      rw [hx] at h
      obtain ⟨e, h1, h2, h3⟩ := ih h
      refine ⟨e, h1, h2, fun a ha hp hl => ?_⟩
      by_cases c : a.1.length = k + 1
      · exact absurd (by rw [← c]; exact List.prefix_iff_eq_take.1 hp) (idx_none hx a ha)
      · exact h3 a ha hp (by omega)
theorem lgo_none {es : List Ent} {codes : List Int} : ∀ {k : Nat}, lgo es codes k = none → ∀ a ∈ es, a.1 <+: codes → a.1.length ≤ k → a.1 = [] := by
  intro k
  induction k with
  | zero => intro _ a _ _ hl; exact List.eq_nil_of_length_eq_zero (by omega)
  | succ k ih =>
    intro h a ha hp hl
    unfold lgo at h
    cases hx : idx es (codes.take (k + 1)) with
    | some j => rw [hx] at h; cases h
    | none =>
      rw [hx] at h
      by_cases c : a.1.length = k + 1
      · exact absurd (by rw [← c]; exact List.prefix_iff_eq_take.1 hp) (idx_none hx a ha)
      · exact ih h a ha hp (by omega)
/-- where the way down has ended nothing longer is found -/
theorem lgo_stop {es : List Ent} {codes : List Int} {k : Nat} (h : ¬ Dom (es.map (·.1)) (codes.take (k + 1))) : ∀ j, lgo es codes (k + j) = lgo es codes k := by
  intro j
  induction j with
  | zero => rfl
  | succ j ih =>
    rw [show k + (j + 1) = (k + j) + 1 by omega, lgo]
    cases hx : idx es (codes.take (k + j + 1)) with
    | none => exact ih
    | some i =>
      obtain ⟨e, h1, h2⟩ := idx_some hx
      refine absurd (.inr ⟨e.1, List.mem_map_of_mem (List.mem_of_getElem? h1), ?_⟩) h
      rw [h2]
      exact List.take_prefix_take_left (by omega)
/-- the reference's way -/
def rlg (es : List Ent) (codes : List Int) : Nat × List El :=
  es.foldl (fun a x => if x.1 <+: codes ∧ a.1 < x.1.length then (x.1.length, x.2) else a) (0, [])
theorem rlg_is (codes : List Int) : ∀ (es : List Ent) (n : Nat) (out : List El),
    let r := es.foldl (fun a x => if x.1 <+: codes ∧ a.1 < x.1.length then (x.1.length, x.2) else a) (n, out)
    (n ≤ r.1) ∧ (∀ a ∈ es, a.1 <+: codes → a.1.length ≤ r.1) ∧ (r = (n, out) ∨ ∃ a ∈ es, a.1 <+: codes ∧ r = (a.1.length, a.2) ∧ n < a.1.length) := by
  intro es
  induction es with
  | nil => intro n out; exact ⟨Nat.le_refl _, by simp, .inl rfl⟩
  | cons x xs ih =>
    intro n out
    simp only [List.foldl_cons]
    by_cases c : x.1 <+: codes ∧ n < x.1.length
    · rw [if_pos c]
      obtain ⟨h1, h2, h3⟩ := ih x.1.length x.2
      refine ⟨by omega, ?_, ?_⟩
      · intro a ha hp
        rcases List.mem_cons.1 ha with rfl | ha
        · exact h1
        · exact h2 a ha hp
      · rcases h3 with h3 | ⟨a, ha, hp, hr, hl⟩
        · exact .inr ⟨x, List.mem_cons_self .., c.1, h3, c.2⟩
        · exact .inr ⟨a, List.mem_cons_of_mem _ ha, hp, hr, by omega⟩
    · rw [if_neg c]
      obtain ⟨h1, h2, h3⟩ := ih n out
      refine ⟨h1, ?_, ?_⟩
      · intro a ha hp
        rcases List.mem_cons.1 ha with rfl | ha
        · have : ¬ n < a.1.length := fun h => c ⟨hp, h⟩
          omega
        · exact h2 a ha hp
      · rcases h3 with h3 | ⟨a, ha, hp, hr, hl⟩
        · exact .inl h3
        · exact .inr ⟨a, List.mem_cons_of_mem _ ha, hp, hr, hl⟩
theorem rlg_lgo {es : List Ent} (codes : List Int) (hne : ∀ a ∈ es, a.1 ≠ []) (hap : Apart es) :
    rlg es codes = match lgo es codes codes.length with | none => (0, []) | some i => match es[i]? with | some e => (e.1.length, e.2) | none => (0, []) := by
  obtain ⟨_, h2, h3⟩ := rlg_is codes es 0 []
  unfold rlg
  cases hl : lgo es codes codes.length with
  | none =>
    rcases h3 with h3 | ⟨a, ha, hp, _, _⟩
    · exact h3
    · exact absurd (lgo_none hl a ha hp hp.length_le) (hne a ha)
  | some i =>
    obtain ⟨e, g1, g2, g3⟩ := lgo_some hl
    simp only [g1]
    have he := List.mem_of_getElem? g1
    have hle := h2 e he g2
    rcases h3 with h3 | ⟨a, ha, hp, hr, _⟩
    · have h0 := congrArg Prod.fst h3
      simp only at h0
      have : e.1 ≠ [] := hne e he
      have : e.1.length ≠ 0 := fun h => this (List.eq_nil_of_length_eq_zero h)
      rw [h0] at hle; omega
    · rw [hr]
      rw [hr] at hle
      have hge := g3 a ha hp hp.length_le
      have hlen : a.1.length = e.1.length := by simp at hle; omega
      have heq : a.1 = e.1 := by
        rw [List.prefix_iff_eq_take.1 hp, List.prefix_iff_eq_take.1 g2, hlen]
      obtain ⟨j, hj⟩ := List.getElem?_of_mem ha
      have := apart_inj hap hj g1 heq
      rw [this, g1] at hj
      cases hj; rfl
/-- more follows -/
theorem begins_iff {es : List Ent} {p : List Int} : (∃ r, Dom (es.map (·.1)) (p ++ [r])) ↔ ∃ x ∈ es, p.length < x.1.length ∧ p <+: x.1 := by
  constructor
  · rintro ⟨r, h | ⟨c, hc, hp⟩⟩
    · simp at h
    · obtain ⟨x, hx, rfl⟩ := List.mem_map.1 hc
      refine ⟨x, hx, ?_, (List.prefix_append p [r]).trans hp⟩
      have := hp.length_le; simp at this; omega
  · rintro ⟨x, hx, hl, t, ht⟩
    cases t with
    | nil => rw [List.append_nil] at ht; rw [← ht] at hl; omega
    | cons r t => exact ⟨r, .inr ⟨x.1, List.mem_map_of_mem hx, t, by rw [List.append_assoc]; exact ht⟩⟩
theorem dom_mono {S T : List (List Int)} (h : ∀ c ∈ S, c ∈ T) {p : List Int} (hp : Dom S p) : Dom T p := by
  rcases hp with h' | ⟨c, hc, hp⟩
  · exact .inl h'
  · exact .inr ⟨c, h c hc, hp⟩
theorem dom_pre {S : List (List Int)} {p q : List Int} (h : Dom S q) (hp : p <+: q) : Dom S p := by
  rcases h with rfl | ⟨c, hc, hq⟩
  · exact .inl (List.prefix_nil.1 hp)
  · exact .inr ⟨c, hc, hp.trans hq⟩
end Go.Proofs.YtlldoofclaokgaaGreat
