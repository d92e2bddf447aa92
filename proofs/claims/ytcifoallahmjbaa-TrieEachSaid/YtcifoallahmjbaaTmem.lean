/- A trie's nodes in memory, over any program. -/
import Derived.Test.YtcifoallahmjbaaPm
namespace Go.Proofs.Ytcifoallahmjbaa
open Go.RowKit

/-- where the nodes lie: of each way down the node's block, and its map's -/
abbrev NMap := List Int → Option (Nat × Nat)
structure TMem (P : Program) (kT nT : TypeId) (B n : Nat) (w : World) (N : NMap) (ent : List Int → Int) : Prop where
  node : ∀ p nb mb, N p = some (nb, mb) → w.heap[nb]? = some (.cells #[.map (some mb), .int .i64 (ent p)] nT (0, 0))
  map : ∀ p nb mb, N p = some (nb, mb) → PMap P kT w mb n (fun r => (N (p ++ [r])).map (·.1))
  ge : ∀ p nb mb, N p = some (nb, mb) → B ≤ nb ∧ B ≤ mb
  inj : ∀ p q nb mb nb' mb', N p = some (nb, mb) → N q = some (nb', mb') → (nb = nb' ∨ mb = mb') → p = q
  closed : ∀ p r, N (p ++ [r]) ≠ none → N p ≠ none

variable {P : Program} {kT nT : TypeId} {B n : Nat} {w w' : World} {N : NMap} {ent : List Int → Int}
theorem TMem.cell0 (h : TMem P kT nT B n w N ent) {p : List Int} {nb mb : Nat} (hp : N p = some (nb, mb)) : w.cell? ⟨nb, 0, none⟩ = some (.map (some mb)) := by simp [World.cell?, h.node p nb mb hp]
theorem TMem.cell1 (h : TMem P kT nT B n w N ent) {p : List Int} {nb mb : Nat} (hp : N p = some (nb, mb)) : w.cell? ⟨nb, 1, none⟩ = some (.int .i64 (ent p)) := by simp [World.cell?, h.node p nb mb hp]
theorem TMem.frozen (h : TMem P kT nT B n w N ent) {p : List Int} {nb mb : Nat} (hp : N p = some (nb, mb)) (o : Nat) : w.frozen? ⟨nb, o, none⟩ = false := by simp [World.frozen?, h.node p nb mb hp]
theorem TMem.ltN (h : TMem P kT nT B n w N ent) {p : List Int} {nb mb : Nat} (hp : N p = some (nb, mb)) : nb < w.heap.size := (Array.getElem?_eq_some_iff.1 (h.node p nb mb hp)).1
theorem TMem.ltM (h : TMem P kT nT B n w N ent) {p : List Int} {nb mb : Nat} (hp : N p = some (nb, mb)) : mb < w.heap.size := (h.map p nb mb hp).lt
/-- nothing of it has turned -/
theorem TMem.same (h : TMem P kT nT B n w N ent) (hs : ∀ p nb mb, N p = some (nb, mb) → w'.heap[nb]? = w.heap[nb]? ∧ w'.heap[mb]? = w.heap[mb]?) : TMem P kT nT B n w' N ent :=
  ⟨fun p nb mb hp => (hs p nb mb hp).1.trans (h.node p nb mb hp), fun p nb mb hp => (h.map p nb mb hp).same (hs p nb mb hp).2, h.ge, h.inj, h.closed⟩
theorem TMem.below (h : TMem P kT nT B n w N ent) (hb : Below w.heap.size w w') : TMem P kT nT B n w' N ent :=
  h.same fun _ _ _ hp => ⟨hb.block _ (h.ltN hp), hb.block _ (h.ltM hp)⟩
theorem TMem.only {S : Nat → Prop} (h : TMem P kT nT B n w N ent) (ho : Only S w w') (hS : ∀ p nb mb, N p = some (nb, mb) → ¬ S nb ∧ ¬ S mb) : TMem P kT nT B n w' N ent :=
  h.same fun p nb mb hp => ⟨ho.block _ (h.ltN hp) (hS p nb mb hp).1, ho.block _ (h.ltM hp) (hS p nb mb hp).2⟩
theorem TMem.mono (h : TMem P kT nT B n w N ent) {m : Nat} (hm : n ≤ m) : TMem P kT nT B m w N ent := ⟨h.node, fun p nb mb hp => (h.map p nb mb hp).mono hm, h.ge, h.inj, h.closed⟩
/-- a block of cells of another type is none of its -/
theorem TMem.apart (h : TMem P kT nT B n w N ent) {g : Nat} {c : Array Value} {t : TypeId} {fr : Nat × Nat} (hg : w.heap[g]? = some (.cells c t fr)) (ht : t ≠ nT) {p : List Int} {nb mb : Nat} (hp : N p = some (nb, mb)) : nb ≠ g ∧ mb ≠ g := by
  constructor
  · rintro rfl
    rw [h.node p nb mb hp] at hg; cases hg; exact ht rfl
  · rintro rfl
    obtain ⟨L, ⟨es, c', hb, _⟩, _⟩ := h.map p nb mb hp
    rw [hb] at hg; cases hg
theorem TMem.noRow (h : TMem P kT nT B n w N ent) {base k m : Nat} {e : TypeId} {v : Value} {xs : List Value} (hr : w.ownsRow base e k v m xs) (ht : e ≠ nT) {p : List Int} {nb mb : Nat} (hp : N p = some (nb, mb)) : some nb ≠ v.ownBlock ∧ some mb ≠ v.ownBlock := by
  rcases hr.2 with ⟨rfl, _⟩ | ⟨g, cap, cur, rfl, _, hgb, _⟩
  · simp [Value.ownBlock]
  · have := h.apart hgb ht hp
    simp [Value.ownBlock, this]
/-- the entry's number is stored -/
theorem TMem.setEnt (h : TMem P kT nT B n w N ent) {q : List Int} {nb mb : Nat} (hq : N q = some (nb, mb)) (i : Int) :
    TMem P kT nT B n (w.setCell ⟨nb, 1, none⟩ (.int .i64 i)) N (fun p => if p = q then i else ent p) := by
  have hother : ∀ k, k ≠ nb → (w.setCell ⟨nb, 1, none⟩ (.int .i64 i)).heap[k]? = w.heap[k]? := fun k hk => Below.heap_setCell _ _ _ _ hk
  refine ⟨fun p nb' mb' hp => ?_, fun p nb' mb' hp => ?_, h.ge, h.inj, h.closed⟩
  · by_cases e : p = q
    · subst e
      rw [hp] at hq; cases hq
      rw [if_pos rfl]
      have := h.node p nb mb hp
      unfold World.setCell
      simp [Array.getElem?_modify, this]
    · rw [if_neg e, hother nb' (fun e' => e (h.inj p q nb' mb' nb mb hp hq (.inl e')))]
      exact h.node p nb' mb' hp
  · refine (h.map p nb' mb' hp).same (hother mb' (fun e => ?_))
    obtain ⟨L, ⟨es, c', hb, _⟩, _⟩ := h.map p nb' mb' hp
    rw [e, h.node q nb mb hq] at hb; cases hb
/-- a node more: its map and its cells are new, and its parent's map tells of it -/
theorem TMem.add {w1 w2 : World} (h : TMem P kT nT B n w N ent) {q : List Int} {nb mb : Nat} (hq : N q = some (nb, mb)) (r : Int) (hno : N (q ++ [r]) = none) (hent : ent (q ++ [r]) = -1) {nb' mb' : Nat}
    (hB : B ≤ w.heap.size) (hnb : w.heap.size ≤ nb') (hmb : w.heap.size ≤ mb') (hb1 : Below w.heap.size w w1) (hn1 : w1.heap[nb']? = some (.cells #[.map (some mb'), .int .i64 (-1)] nT (0, 0))) (hm1 : PMap P kT w1 mb' n (fun _ => none))
    (hg : w1.grownBy w2 (some mb)) (hu : PMap P kT w2 mb (n + 1) (fun s => if s = r then some nb' else (N (q ++ [s])).map (·.1))) :
    TMem P kT nT B (n + 1) w2 (fun p => if p = q ++ [r] then some (nb', mb') else N p) ent := by
  have hlt1 : nb' < w1.heap.size := (Array.getElem?_eq_some_iff.1 hn1).1
  have keepN : ∀ p a b, N p = some (a, b) → w2.heap[a]? = w.heap[a]? := fun p a b hp => by
    have ha := h.ltN hp
    have hne : a ≠ mb := by
      rintro rfl
      obtain ⟨L, ⟨es, c', hb, _⟩, _⟩ := h.map q nb a hq
      rw [h.node p a b hp] at hb; cases hb
    rw [hg.block a (by have := hb1.size; omega) (by simp [hne]), hb1.block a ha]
  have keepM : ∀ p a b, N p = some (a, b) → b ≠ mb → w2.heap[b]? = w.heap[b]? := fun p a b hp hne => by
    have hb := h.ltM hp
    rw [hg.block b (by have := hb1.size; omega) (by simp [hne]), hb1.block b hb]
  have hmblt := h.ltM hq
  have ext : ∀ p : List Int, p ≠ q ++ [r] → ∀ s, (p ++ [s] = q ++ [r] ↔ p = q ∧ s = r) := fun p _ s => by
    constructor
    · intro e
      have := List.append_inj' e rfl
      exact ⟨this.1, by simpa using this.2⟩
    · rintro ⟨rfl, rfl⟩; rfl
  refine ⟨fun p a b hp => ?_, fun p a b hp => ?_, fun p a b hp => ?_, fun p p' a b a' b' hp hp' ho => ?_, fun p s hp => ?_⟩
  · by_cases e : p = q ++ [r]
    · simp only [if_pos e] at hp
      cases hp
      rw [hg.block nb' hlt1 (by intro e'; cases e'; omega), hn1, e, hent]
    · simp only [if_neg e] at hp
      rw [keepN p a b hp]; exact h.node p a b hp
  · by_cases e : p = q ++ [r]
    · simp only [if_pos e] at hp
      cases hp
      have hne : ∀ s, p ++ [s] ≠ q ++ [r] := fun s e' => by
        have := congrArg List.length e'; rw [e] at this; simp at this
      have hnone : ∀ s, N (p ++ [s]) = none := fun s => by
        cases hN : N (p ++ [s]) with
        | none => rfl
        | some x => exact absurd hno (by rw [← e]; exact h.closed p s (by rw [hN]; simp))
      have := (hm1.kept hg (by intro e'; cases e'; omega)).mono (Nat.le_succ n)
      refine cast ?_ this
      congr 1
      funext s
      rw [if_neg (hne s), hnone s]; rfl
    · simp only [if_neg e] at hp
      by_cases c : p = q
      · subst c
        rw [hq] at hp; cases hp
        refine cast ?_ hu
        congr 1
        funext s
        by_cases cs : s = r
        · subst cs; rw [if_pos rfl, if_pos rfl]; rfl
        · rw [if_neg cs, if_neg (fun e' => cs ((ext p e s).1 e').2)]
      · have hbm : b ≠ mb := fun e' => c (h.inj p q a b nb mb hp hq (.inr e'))
        have := ((h.map p a b hp).same (keepM p a b hp hbm)).mono (Nat.le_succ n)
        refine cast ?_ this
        congr 1
        funext s
        rw [if_neg (fun e' => c ((ext p e s).1 e').1)]
  · by_cases e : p = q ++ [r]
    · simp only [if_pos e] at hp
      cases hp
      omega
    · simp only [if_neg e] at hp
      exact h.ge p a b hp
  · by_cases e : p = q ++ [r]
    · simp only [if_pos e] at hp
      cases hp
      by_cases e' : p' = q ++ [r]
      · rw [e, e']
      · simp only [if_neg e'] at hp'
        have := h.ltN hp'; have := h.ltM hp'
        omega
    · simp only [if_neg e] at hp
      by_cases e' : p' = q ++ [r]
      · simp only [if_pos e'] at hp'
        cases hp'
        have := h.ltN hp; have := h.ltM hp
        omega
      · simp only [if_neg e'] at hp'
        exact h.inj p p' a b a' b' hp hp' ho
  · by_cases e : p = q ++ [r]
    · simp only [if_pos e]; simp
    · simp only [if_neg e]
      by_cases c : p ++ [s] = q ++ [r]
      · rw [((ext p e s).1 c).1, hq]; simp
      · simp only [if_neg c] at hp
        exact h.closed p s hp
end Go.Proofs.Ytcifoallahmjbaa
