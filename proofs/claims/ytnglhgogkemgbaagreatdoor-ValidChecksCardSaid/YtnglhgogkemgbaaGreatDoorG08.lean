/- Maps from runes to pointers that the call itself makes: a word for what they hold, over any program. A trie's nodes in memory, over any program. Small functions of package trie: point, all. slices.Clone at elements. -/
import Derived.Test.YtnglhgogkemgbaaGreatDoorG01
import Derived.Maps.OwnOps
import Derived.Maps.OwnSet
import Derived.Maps.Views
import Derived.Lib.SliceRun
import Derived.Maps.AppendAt
namespace Go.Proofs.YtnglhgogkemgbaaGreatDoor
open Go.RowKit
open Go.Maps (Keyed)

/-- how a pointer in a map reads -/
def Rp : Value → Option (DataW Unit × List MemPlace)
  | .pointer none => some (.nil, [])
  | .pointer (some ⟨b, 0, none⟩) => some (.lit (.int .i64 b), [])
  | _ => none
theorem Rp_inv {v : Value} {d : DataW Unit} {ps : List MemPlace} (h : Rp v = some (d, ps)) : (v = .pointer none ∧ d = .nil) ∨ ∃ b, v = .pointer (some ⟨b, 0, none⟩) ∧ d = .lit (.int .i64 b) := by
  unfold Rp at h
  split at h
  · simp at h; exact .inl ⟨rfl, h.1.symm⟩
  · simp at h; exact .inr ⟨_, rfl, h.1.symm⟩
  · cases h
def ptrD : Option Nat → DataW Unit
  | none => .nil
  | some b => .lit (.int .i64 b)
def ptrV : Option Nat → Value
  | none => .pointer none
  | some b => .pointer (some ⟨b, 0, none⟩)
theorem ptr_of {v : Value} {o : Option Nat} {ps : List MemPlace} (h : Rp v = some (ptrD o, ps)) : v = ptrV o := by
  rcases Rp_inv h with ⟨rfl, e⟩ | ⟨b, rfl, e⟩
  · cases o with
    | none => rfl
    | some c => cases e
  · cases o with
    | none => cases e
    | some c =>
      simp only [ptrD, DataW.lit.injEq, Lit.int.injEq, true_and] at e
      have : b = c := by omega
      rw [this]; rfl

variable {P : Program} {k : TypeId}
/-- block b is a map that tells f of each rune; at most n keys -/
def PMap (P : Program) (k : TypeId) (w : World) (b n : Nat) (f : Int → Option Nat) : Prop :=
  ∃ L : List (Lit × DataW Unit), w.ownsMap P k Rp b n (.map L) ∧ (∀ r, (DataW.map L).atKey (.int .i32 r) .nil = ptrD (f r)) ∧ (∀ p ∈ L, ∃ r, p.1 = .int .i32 r ∧ f r ≠ none)
theorem PMap.made (w : World) : PMap P k (w.alloc (.map #[] 0)) w.heap.size 0 (fun _ => none) := ⟨[], World.ownsMap_made w P k Rp, fun _ => rfl, by simp⟩
theorem PMap.kept {w w' : World} {row : Option Nat} {b n : Nat} {f : Int → Option Nat} (h : PMap P k w b n f) (hg : w.grownBy w' row) (hne : some b ≠ row) : PMap P k w' b n f := by
  obtain ⟨L, h1, h2⟩ := h; exact ⟨L, h1.kept hg hne, h2⟩
theorem PMap.lt {w : World} {b n : Nat} {f : Int → Option Nat} (h : PMap P k w b n f) : b < w.heap.size := by
  obtain ⟨L, h1, _⟩ := h; exact h1.lt
theorem PMap.mono {w : World} {b n m : Nat} {f : Int → Option Nat} (h : PMap P k w b n f) (hm : n ≤ m) : PMap P k w b m f := by
  obtain ⟨L, h1, h2⟩ := h; exact ⟨L, h1.mono hm, h2⟩
theorem PMap.same {w w' : World} {b n : Nat} {f : Int → Option Nat} (h : PMap P k w b n f) (hb : w'.heap[b]? = w.heap[b]?) : PMap P k w' b n f := by
  obtain ⟨L, ⟨es, c, h1, h2⟩, h3⟩ := h
  exact ⟨L, ⟨es, c, hb.trans h1, h2⟩, h3⟩
theorem PMap.lookup {w : World} {b n : Nat} {f : Int → Option Nat} {t e : TypeId} (h : PMap P k w b n f) (hk : P.underlying k = some (.int .i32)) (ht : P.underlying t = some (.map k e)) (hz : ∀ w, (zeroValue e).run P w = .ok (.pointer none) w)
    (r : Int) (hr : (Lit.int .i32 r).wf = true) : (Instr.lookup t (.map (some b)) (.int .i32 r) false).run P w = .ok (ptrV (f r)) w := by
  obtain ⟨L, h1, h2, _⟩ := h
  obtain ⟨v, ps, hrun, hv⟩ := h1.lookup (Maps.int_keyed hk) ht (hz w) (zd := .nil) (zp := []) rfl (key := .int .i32 r) (kl := .int .i32 r) (Maps.keyOf_int_mk hk hr)
  rw [h2 r] at hv
  rw [hrun, ptr_of hv]
theorem PMap.update {w : World} {b n : Nat} {f : Int → Option Nat} {t e : TypeId} (h : PMap P k w b n f) (hk : P.underlying k = some (.int .i32)) (ht : P.underlying t = some (.map k e)) (hn : n < maxLen) (r : Int) (hr : (Lit.int .i32 r).wf = true) (c : Nat) :
    ∃ w', (Instr.mapUpdate t (.map (some b)) (.int .i32 r) (.pointer (some ⟨c, 0, none⟩))).run P w = .ok () w' ∧ PMap P k w' b (n + 1) (fun q => if q = r then some c else f q) ∧ w.grownBy w' (some b) := by
  obtain ⟨L, h1, h2, h3⟩ := h
  obtain ⟨w', hrun, hown, hg⟩ := h1.update (Maps.int_keyed hk) ht hn (key := .int .i32 r) (kl := .int .i32 r) (d := .lit (.int .i64 c)) (ps := []) (Maps.keyOf_int_mk hk hr) (val := .pointer (some ⟨c, 0, none⟩)) rfl
  refine ⟨w', hrun, ⟨_, hown, fun q => ?_, ?_⟩, hg⟩
  · by_cases e : q = r
    · subst e
      simp only [if_true]
      exact Maps.atKey_put_same ⟨L, rfl⟩ (by simp [WideAt.IsKeyLit]) _ _
    · have h4 := Maps.atKey_put_other (D := DataW.map L) (k' := .int .i32 q) (k := .int .i32 r) (by intro h; cases h; exact e rfl) (.lit (.int .i64 c)) .nil
      simp only [if_neg e]
      exact h4.trans (h2 q)
  · intro p hp
    have hp' : p ∈ DataW.insert ((.int .i32 r : Lit), (.lit (.int .i64 c) : DataW Unit)) (L.filter fun p => !p.1.sameKey (.int .i32 r)) := hp
    have hmem : ∀ (x : Lit × DataW Unit) (l : List (Lit × DataW Unit)), p ∈ DataW.insert x l → p = x ∨ p ∈ l := by
      intro x l
      induction l with
      | nil => intro h; simp [DataW.insert] at h; exact .inl h
      | cons y l ih =>
        intro h
        unfold DataW.insert at h
        split at h
        · rcases List.mem_cons.1 h with h | h
          · exact .inl h
          · exact .inr h
        · rcases List.mem_cons.1 h with h | h
          · exact .inr (by rw [h]; exact List.mem_cons_self ..)
          · rcases ih h with h | h
            · exact .inl h
            · exact .inr (List.mem_cons_of_mem _ h)
    rcases hmem _ _ hp' with rfl | hm
    · exact ⟨r, rfl, by simp⟩
    · obtain ⟨q, e, hq⟩ := h3 p (List.mem_filter.1 hm).1
      refine ⟨q, e, ?_⟩
      by_cases c' : q = r
      · simp [c']
      · simp only [if_neg c']; exact hq
end Go.Proofs.YtnglhgogkemgbaaGreatDoor
namespace Go.Proofs.YtnglhgogkemgbaaGreatDoor
open Go.RowKit

/-- where the nodes lie: of each way down the node's block, and its map's -/
abbrev NMap := List Int → Option (Nat × Nat)
structure TMem (P : Program) (kT nT : TypeId) (B n : Nat) (w : World) (N : NMap) (ent : List Int → Int) : Prop where
  node : ∀ p nb mb, N p = some (nb, mb) → w.heap[nb]? = some (.cells #[.map (some mb), .int .i64 (ent p)] nT (0, 0))
  map : ∀ p nb mb, N p = some (nb, mb) → PMap P kT w mb n (fun r => (N (p ++ [r])).map (·.1))
  ge : ∀ p nb mb, N p = some (nb, mb) → B ≤ nb ∧ B ≤ mb
  inj : ∀ p q nb mb nb' mb', N p = some (nb, mb) → N q = some (nb', mb') → (nb = nb' ∨ mb = mb') → p = q
  closed : ∀ p r, N (p ++ [r]) ≠ none → N p ≠ none

variable {P : Program} {kT nT : TypeId} {B n : Nat} {w w' : World} {N : NMap} {ent : List Int → Int}
theorem TMem.cell0 (h : TMem P kT nT B n w N ent) {p : List Int} {nb mb : Nat} (hp : N p = some (nb, mb)) : w.cell? ⟨nb, 0, none⟩ = some (.map (some mb)) := by simp [World.cell?, h.node p nb mb hp]
theorem TMem.cell1 (h : TMem P kT nT B n w N ent) {p : List Int} {nb mb : Nat} (hp : N p = some (nb, mb)) : w.cell? ⟨nb, 1, none⟩ = some (.int .i64 (ent p)) := by simp [World.cell?, h.node p nb mb hp]
theorem TMem.frozen (h : TMem P kT nT B n w N ent) {p : List Int} {nb mb : Nat} (hp : N p = some (nb, mb)) (o : Nat) : w.frozen? ⟨nb, o, none⟩ = false := by simp [World.frozen?, h.node p nb mb hp]
theorem TMem.ltN (h : TMem P kT nT B n w N ent) {p : List Int} {nb mb : Nat} (hp : N p = some (nb, mb)) : nb < w.heap.size := (Array.getElem?_eq_some_iff.1 (h.node p nb mb hp)).1
theorem TMem.ltM (h : TMem P kT nT B n w N ent) {p : List Int} {nb mb : Nat} (hp : N p = some (nb, mb)) : mb < w.heap.size := (h.map p nb mb hp).lt
/-- nothing of it has turned -/
theorem TMem.same (h : TMem P kT nT B n w N ent) (hs : ∀ p nb mb, N p = some (nb, mb) → w'.heap[nb]? = w.heap[nb]? ∧ w'.heap[mb]? = w.heap[mb]?) : TMem P kT nT B n w' N ent :=
  ⟨fun p nb mb hp => (hs p nb mb hp).1.trans (h.node p nb mb hp), fun p nb mb hp => (h.map p nb mb hp).same (hs p nb mb hp).2, h.ge, h.inj, h.closed⟩
theorem TMem.below (h : TMem P kT nT B n w N ent) (hb : Below w.heap.size w w') : TMem P kT nT B n w' N ent :=
  h.same fun _ _ _ hp => ⟨hb.block _ (h.ltN hp), hb.block _ (h.ltM hp)⟩
theorem TMem.only {S : Nat → Prop} (h : TMem P kT nT B n w N ent) (ho : Only S w w') (hS : ∀ p nb mb, N p = some (nb, mb) → ¬ S nb ∧ ¬ S mb) : TMem P kT nT B n w' N ent :=
  h.same fun p nb mb hp => ⟨ho.block _ (h.ltN hp) (hS p nb mb hp).1, ho.block _ (h.ltM hp) (hS p nb mb hp).2⟩
theorem TMem.mono (h : TMem P kT nT B n w N ent) {m : Nat} (hm : n ≤ m) : TMem P kT nT B m w N ent := ⟨h.node, fun p nb mb hp => (h.map p nb mb hp).mono hm, h.ge, h.inj, h.closed⟩
/-- a block of cells of another type is none of its -/
theorem TMem.apart (h : TMem P kT nT B n w N ent) {g : Nat} {c : Array Value} {t : TypeId} {fr : Nat × Nat} (hg : w.heap[g]? = some (.cells c t fr)) (ht : t ≠ nT) {p : List Int} {nb mb : Nat} (hp : N p = some (nb, mb)) : nb ≠ g ∧ mb ≠ g := by
  constructor
  · rintro rfl
    rw [h.node p nb mb hp] at hg; cases hg; exact ht rfl
  · rintro rfl
    obtain ⟨L, ⟨es, c', hb, _⟩, _⟩ := h.map p nb mb hp
    rw [hb] at hg; cases hg
/-- the entry's number is stored -/
theorem TMem.setEnt (h : TMem P kT nT B n w N ent) {q : List Int} {nb mb : Nat} (hq : N q = some (nb, mb)) (i : Int) :
    TMem P kT nT B n (w.setCell ⟨nb, 1, none⟩ (.int .i64 i)) N (fun p => if p = q then i else ent p) := by
  have hother : ∀ k, k ≠ nb → (w.setCell ⟨nb, 1, none⟩ (.int .i64 i)).heap[k]? = w.heap[k]? := fun k hk => Below.heap_setCell _ _ _ _ hk
  refine ⟨fun p nb' mb' hp => ?_, fun p nb' mb' hp => ?_, h.ge, h.inj, h.closed⟩
  · by_cases e : p = q
    · subst e
      rw [hp] at hq; cases hq
      rw [if_pos rfl]
      have := h.node p nb mb hp
      unfold World.setCell
      simp [Array.getElem?_modify, this]
    · rw [if_neg e, hother nb' (fun e' => e (h.inj p q nb' mb' nb mb hp hq (.inl e')))]
      exact h.node p nb' mb' hp
  · refine (h.map p nb' mb' hp).same (hother mb' (fun e => ?_))
    obtain ⟨L, ⟨es, c', hb, _⟩, _⟩ := h.map p nb' mb' hp
    rw [e, h.node q nb mb hq] at hb; cases hb
/-- a node more: its map and its cells are new, and its parent's map tells of it -/
theorem TMem.add {w1 w2 : World} (h : TMem P kT nT B n w N ent) {q : List Int} {nb mb : Nat} (hq : N q = some (nb, mb)) (r : Int) (hno : N (q ++ [r]) = none) (hent : ent (q ++ [r]) = -1) {nb' mb' : Nat}
    (hB : B ≤ w.heap.size) (hnb : w.heap.size ≤ nb') (hmb : w.heap.size ≤ mb') (hb1 : Below w.heap.size w w1) (hn1 : w1.heap[nb']? = some (.cells #[.map (some mb'), .int .i64 (-1)] nT (0, 0))) (hm1 : PMap P kT w1 mb' n (fun _ => none))
    (hg : w1.grownBy w2 (some mb)) (hu : PMap P kT w2 mb (n + 1) (fun s => if s = r then some nb' else (N (q ++ [s])).map (·.1))) :
    TMem P kT nT B (n + 1) w2 (fun p => if p = q ++ [r] then some (nb', mb') else N p) ent := by
  have hlt1 : nb' < w1.heap.size := (Array.getElem?_eq_some_iff.1 hn1).1
  have keepN : ∀ p a b, N p = some (a, b) → w2.heap[a]? = w.heap[a]? := fun p a b hp => by
    have ha := h.ltN hp
    have hne : a ≠ mb := by
      rintro rfl
      obtain ⟨L, ⟨es, c', hb, _⟩, _⟩ := h.map q nb a hq
      rw [h.node p a b hp] at hb; cases hb
    rw [hg.block a (by have := hb1.size; omega) (by simp [hne]), hb1.block a ha]
  have keepM : ∀ p a b, N p = some (a, b) → b ≠ mb → w2.heap[b]? = w.heap[b]? := fun p a b hp hne => by
    have hb := h.ltM hp
    rw [hg.block b (by have := hb1.size; omega) (by simp [hne]), hb1.block b hb]
  have hmblt := h.ltM hq
  have ext : ∀ p : List Int, p ≠ q ++ [r] → ∀ s, (p ++ [s] = q ++ [r] ↔ p = q ∧ s = r) := fun p _ s => by
    constructor
    · intro e
      have := List.append_inj' e rfl
      exact ⟨this.1, by simpa using this.2⟩
    · rintro ⟨rfl, rfl⟩; rfl
  refine ⟨fun p a b hp => ?_, fun p a b hp => ?_, fun p a b hp => ?_, fun p p' a b a' b' hp hp' ho => ?_, fun p s hp => ?_⟩
  · by_cases e : p = q ++ [r]
    · simp only [if_pos e] at hp
      cases hp
      rw [hg.block nb' hlt1 (by intro e'; cases e'; omega), hn1, e, hent]
    · simp only [if_neg e] at hp
      rw [keepN p a b hp]; exact h.node p a b hp
  · by_cases e : p = q ++ [r]
    · simp only [if_pos e] at hp
      cases hp
      have hne : ∀ s, p ++ [s] ≠ q ++ [r] := fun s e' => by
        have := congrArg List.length e'; rw [e] at this; simp at this
      have hnone : ∀ s, N (p ++ [s]) = none := fun s => by
        cases hN : N (p ++ [s]) with
        | none => rfl
        | some x => exact absurd hno (by rw [← e]; exact h.closed p s (by rw [hN]; simp))
      have := (hm1.kept hg (by intro e'; cases e'; omega)).mono (Nat.le_succ n)
      refine cast ?_ this
      congr 1
      funext s
      rw [if_neg (hne s), hnone s]; rfl
    · simp only [if_neg e] at hp
      by_cases c : p = q
      · subst c
        rw [hq] at hp; cases hp
        refine cast ?_ hu
        congr 1
        funext s
        by_cases cs : s = r
        · subst cs; rw [if_pos rfl, if_pos rfl]; rfl
        · rw [if_neg cs, if_neg (fun e' => cs ((ext p e s).1 e').2)]
      · have hbm : b ≠ mb := fun e' => c (h.inj p q a b nb mb hp hq (.inr e'))
        have := ((h.map p a b hp).same (keepM p a b hp hbm)).mono (Nat.le_succ n)
        refine cast ?_ this
        congr 1
        funext s
        rw [if_neg (fun e' => c ((ext p e s).1 e').1)]
  · by_cases e : p = q ++ [r]
    · simp only [if_pos e] at hp
      cases hp
      omega
    · simp only [if_neg e] at hp
      exact h.ge p a b hp
  · by_cases e : p = q ++ [r]
    · simp only [if_pos e] at hp
      cases hp
      by_cases e' : p' = q ++ [r]
      · rw [e, e']
      · simp only [if_neg e'] at hp'
        have := h.ltN hp'; have := h.ltM hp'
        omega
    · simp only [if_neg e] at hp
      by_cases e' : p' = q ++ [r]
      · simp only [if_pos e'] at hp'
        cases hp'
        have := h.ltN hp; have := h.ltM hp
        omega
      · simp only [if_neg e'] at hp'
        exact h.inj p p' a b a' b' hp hp' ho
  · by_cases e : p = q ++ [r]
    · simp only [if_pos e]; simp
    · simp only [if_neg e]
      by_cases c : p ++ [s] = q ++ [r]
      · rw [((ext p e s).1 c).1, hq]; simp
      · simp only [if_neg c] at hp
        exact h.closed p s hp
end Go.Proofs.YtnglhgogkemgbaaGreatDoor
namespace Go.Proofs.YtnglhgogkemgbaaGreatDoor
open Go.RowKit

set_option maxRecDepth 100000 in
theorem tpoint_any (r : Int) (w : World) :
    Calls Tryz.prog 136 #[.int .i32 r] w fun e w' => e = .returned (.bool (pt r)) ∧ w = w' := by
  go_enter Tryz.func136, Tryz.ntmps136
  go_wp2
  all_goals go_ret
  all_goals (refine ⟨?_, rfl⟩; show Ending.returned _ = _; unfold pt; first | (simp_all; done) | (simp_all; omega))
set_option maxRecDepth 100000 in
theorem scalar5_any (r : Int) (w : World) :
    Calls Tryz.prog 60 #[.int .i32 r] w fun e w' => e = .returned (.bool (pt r)) ∧ w = w' := by
  go_enter Tryz.func60, Tryz.ntmps60
  go_wp2
  all_goals go_ret
  all_goals (refine ⟨?_, rfl⟩; show Ending.returned _ = _; unfold pt; first | (simp_all; done) | (simp_all; omega))
set_option maxRecDepth 100000 in
theorem all1_any (r : Int) (b : Nat) (w : World) (h : w.cell? ⟨b, 0, none⟩ = some (.func (.func 136) #[] #[])) :
    Calls Tryz.prog 170 #[.int .i32 r, .pointer (some ⟨b, 0, none⟩)] w fun e w' => e = .returned (.bool (!pt r)) ∧ w = w' := by
  go_enter Tryz.func170, Tryz.ntmps170
  go_wp2_with fail
  refine (tpoint_any _ _).mono ?_
  rintro e w1 ⟨rfl, rfl⟩
  go_wp2_with fail
  go_ret
  exact ⟨rfl, rfl⟩
/-- the place of the first that is no code point; -1: none -/
def ixF (xs : List Int) : Int := match xs.findIdx? (fun r => !pt r) with | none => -1 | some k => k
theorem ixF_here {xs : List Int} {k : Nat} (hk : k < xs.length) (h : ∀ r ∈ xs.take k, pt r = true) (hb : pt (xs.getD k 0) = false) : ixF xs = k := by
  have : xs.findIdx? (fun r => !pt r) = some k := by
    rw [List.findIdx?_eq_some_iff_getElem]
    refine ⟨hk, ?_, fun j hj => ?_⟩
    · rw [List.getD_eq_getElem?_getD, List.getElem?_eq_getElem hk] at hb; simp at hb; simp [hb]
    · have : xs[j] ∈ xs.take k := by rw [List.mem_take_iff_getElem]; exact ⟨j, by omega, rfl⟩
      simp [h _ this]
  unfold ixF; rw [this]
theorem ixF_nowhere {xs : List Int} (h : ∀ r ∈ xs, pt r = true) : ixF xs = -1 := by
  have : xs.findIdx? (fun r => !pt r) = none := by rw [List.findIdx?_eq_none_iff]; intro x hx; simp [h x hx]
  unfold ixF; rw [this]
theorem ixF_all (xs : List Int) : decide (0 ≤ ixF xs) = !xs.all pt := by
  unfold ixF
  cases h : xs.findIdx? (fun r => !pt r) with
  | none =>
    rw [List.findIdx?_eq_none_iff] at h
    have : xs.all pt = true := by rw [List.all_eq_true]; intro x hx; simpa using h x hx
    rw [this]; rfl
  | some k =>
    rw [List.findIdx?_eq_some_iff_getElem] at h
    obtain ⟨h1, h2, _⟩ := h
    have : xs.all pt = false := by rw [List.all_eq_false]; exact ⟨xs[k], List.getElem_mem _, by simpa using h2⟩
    rw [this]; simp
theorem all_take {xs : List Int} {k : Nat} (hk : k < xs.length) (h : ∀ r ∈ xs.take k, pt r = true) (hb : pt (xs.getD k 0) = true) : ∀ r ∈ xs.take (k + 1), pt r = true := by
  have e : xs.take (k + 1) = xs.take k ++ [xs.getD k 0] := by
    rw [List.take_add_one, List.getElem?_eq_getElem hk, List.getD_eq_getElem?_getD, List.getElem?_eq_getElem hk]; rfl
  intro r hr
  rw [e] at hr
  rcases List.mem_append.1 hr with hr | hr
  · exact h r hr
  · simp only [List.mem_singleton] at hr; rw [hr]; exact hb

set_option maxHeartbeats 1000000 in
set_option maxRecDepth 100000 in
theorem index_any (R : Nat → Prop) (xs : List Int) (v : Value) (b : Nat) (w : World) (hv : IntsIn R .i32 w v xs) (hx : xs.length ≤ maxLen) (h : w.cell? ⟨b, 0, none⟩ = some (.func (.func 136) #[] #[])) :
    Calls Tryz.prog 180 #[v, .func (.func 170) #[] #[.pointer (some ⟨b, 0, none⟩)]] w fun e w' => e = .returned (.int .i64 (ixF xs)) ∧ w = w' := by
  have HV := Lib.hid hv
  obtain ⟨p, cp, rfl, _⟩ := hv
  have HC := Lib.hid h
  unfold maxLen at hx
  clear h
  go_enter Tryz.func180, Tryz.ntmps180
  go_wp2
  go_loop [8] (fun i => ∃ k : Nat, i = .int .i64 k ∧ k ≤ xs.length ∧ ∀ r ∈ xs.take k, pt r = true) (fun i => xs.length - (intOf i).toNat)
  case atStart => exact ⟨0, rfl, Nat.zero_le _, by simp⟩
  case round =>
    obtain ⟨k, rfl, hk, hr⟩ := hrel
    have HR := Lib.hid hr
    clear hr
    by_cases hlt : k < xs.length
    · have hlt' : decide (k < xs.length) = true := decide_eq_true hlt
      obtain ⟨b', o, rfl, _, hb, hc⟩ := HV.out.at k hlt
      have HL := Lib.hid hlt
      have HX := Lib.hid (fun h => ixF_here (xs := xs) hlt HR.out h)
      have HT := Lib.hid (fun h => all_take (xs := xs) hlt HR.out h)
      generalize xs.getD k 0 = x at hc HX HT
      clear hlt
      cases hp : pt x
      · have HE := Lib.hid (HX.out hp)
        go_wp2_with fail
        refine (all1_any x b _ HC.out).mono ?_
        rw [hp]
        rintro e w1 ⟨rfl, rfl⟩
        go_wp2_with fail
        go_ret
        exact ⟨by rw [HE.out]; rfl, rfl⟩
      · have HE := Lib.hid (HT.out hp)
        go_wp2_with fail
        refine (all1_any x b _ HC.out).mono ?_
        rw [hp]
        rintro e w1 ⟨rfl, rfl⟩
        go_wp2_with fail
        go_round
        case rel => exact ⟨k + 1, by go_num, HL.out, HE.out⟩
        case measure => (have hq := HL.out; simp [intOf]; omega)
    · have hlt' : decide (k < xs.length) = false := decide_eq_false hlt
      have HE : Hid (ixF xs = -1) := ixF_nowhere (by have := HR.out; rwa [List.take_of_length_le (by omega)] at this)
      clear hlt
      go_wp2_with fail
      go_ret
      exact ⟨by rw [HE.out]; rfl, rfl⟩

set_option maxHeartbeats 1000000 in
set_option maxRecDepth 100000 in
theorem allp_any (R : Nat → Prop) (xs : List Int) (v : Value) (w : World) (hv : IntsIn R .i32 w v xs) (hx : xs.length ≤ maxLen) :
    Calls Tryz.prog 135 #[v, .func (.func 136) #[] #[]] w fun e w' => e = .returned (.bool (xs.all pt)) ∧ Below w.heap.size w w' := by
  have HV := Lib.hid (hv.kept (Kept.below ((Below.refl _ w).alloc (Nat.le_refl _) (.cells #[.func (.func 136) #[] #[]] 130))))
  obtain ⟨p, cp, rfl, _⟩ := hv
  have HX := Lib.hid hx
  have HA := Lib.hid (ixF_all xs)
  have hmf : ∀ (fn : Fn) (first cap : Array Value) (w : World), (Instr.makeFunc fn first cap).run Tryz.prog w = .ok (.func fn first cap) w := fun _ _ _ _ => rfl
  clear hx
  go_enter Tryz.func135, Tryz.ntmps135
  go_wp2_with fail
  have hcf : ∀ W : World, IntsIn R .i32 W (.slice p xs.length cp) xs → W.cell? ⟨w.heap.size, 0, none⟩ = some (.func (.func 136) #[] #[]) → Calls Tryz.prog 169 #[.slice p xs.length cp, .func (.func 170) #[] #[.pointer (some ⟨w.heap.size, 0, none⟩)]] W fun e w' => e = .returned (.bool (!xs.all pt)) ∧ W = w' := by
    intro W hW hWc
    have H1 := Lib.hid hW
    have H2 := Lib.hid hWc
    clear hW hWc
    go_enter Tryz.func169, Tryz.ntmps169
    go_wp2_with fail
    refine (index_any R xs _ _ _ H1.out HX.out H2.out).mono ?_
    rintro e w1 ⟨rfl, rfl⟩
    go_wp2_with fail
    go_ret
    exact ⟨by rw [← HA.out]; rfl, rfl⟩
  refine (hcf _ HV.out (by simp [go_sem])).mono ?_
  clear hcf
  rintro e w1 ⟨rfl, rfl⟩
  go_wp2_with fail
  go_ret
  exact ⟨by simp, (Below.refl _ _).alloc (Nat.le_refl _) _⟩
end Go.Proofs.YtnglhgogkemgbaaGreatDoor
namespace Go.Proofs.YtnglhgogkemgbaaGreatDoor
open Go.RowKit

theorem Tryz.infoE : (Tryz.prog.info? 73).map (fun i => (i.zero, i.size, i.bytes)) = some (some (.agg #[.int .i64 0, .int .i64 0, .int .i64 0, .bool false]), 4, 32) := by kernel_rfl
theorem cells_new (w : World) (l : List Value) (t : TypeId) : ∀ (j : Nat) u, l[j]? = some u → (w.alloc (.cells l.toArray t)).cell? ((⟨w.heap.size, 0, none⟩ : Addr).add j) = some u := by
  intro j u hj
  have : ((⟨w.heap.size, 0, none⟩ : Addr).add j) = ⟨w.heap.size, j, none⟩ := by
    unfold Addr.add; split
    · rename_i h; rw [h]
    · simp
  rw [this]
  unfold World.cell?
  rw [World.alloc_heap_new]
  simpa using hj
theorem addr_add (b o j : Nat) : ((⟨b, o, none⟩ : Addr).add j) = ⟨b, o + j, none⟩ := by
  unfold Addr.add; split
  · rename_i h; rw [h, Nat.add_zero]
  · rfl
theorem row_none (w : World) (t : TypeId) (size : Nat) : (w.alloc (.cells #[] t)).ownsRow w.heap.size t size (.slice (some ⟨w.heap.size, 0, none⟩) 0 0) 0 [] :=
  ⟨by simp, .inr ⟨w.heap.size, 0, #[], rfl, Nat.le_refl _, World.alloc_heap_new _ _, Nat.le_refl _, Nat.zero_le _, by simp, by simp⟩⟩
/-- blocks from B on that hold runes or elements, nothing else -/
def Lf (B : Nat) (w : World) (b : Nat) : Prop := B ≤ b ∧ ∃ c t, w.heap[b]? = some (.cells c t (0, 0)) ∧ (t = 21 ∨ t = 73)
theorem Lf.keep {A A' : Nat} {w w' : World} (hk : Kept (Lf A w) w w') (hA : A' ≤ A) {b : Nat} (h : Lf A w b) : Lf A' w' b := by
  have h' := h
  obtain ⟨h1, c, t, h2, h3⟩ := h
  exact ⟨Nat.le_trans hA h1, c, t, (hk.2 b h' (Array.getElem?_eq_some_iff.1 h2).1).trans h2, h3⟩
theorem IntsIn.lf {A A' : Nat} {k : IntKind} {w w' : World} {v : Value} {xs : List Int} (h : IntsIn (Lf A w) k w v xs) (hk : Kept (Lf A w) w w') (hA : A' ≤ A) : IntsIn (Lf A' w') k w' v xs :=
  (h.kept hk).mono fun _ hb _ => hb.keep hk hA
theorem ElsIn.lf {A A' : Nat} {w w' : World} {v : Value} {xs : List El} (h : ElsIn (Lf A w) w v xs) (hk : Kept (Lf A w) w w') (hA : A' ≤ A) : ElsIn (Lf A' w') w' v xs :=
  (h.kept hk).mono fun _ hb _ => hb.keep hk hA
theorem Kept.sub {R S : Nat → Prop} {w w' : World} (h : Kept S w w') (hs : ∀ b, R b → S b) : Kept R w w' := ⟨h.1, fun b hb hl => h.2 b (hs b hb) hl⟩
/-- what a call's own row of numbers reads as -/
theorem intsIn_row {B : Nat} {k : IntKind} {w : World} {v : Value} {xs : List Int} (h : w.ownsRow B 21 1 v xs.length (xs.map (Value.int k))) : IntsIn (Lf B w) k w v xs := by
  have h' := h
  rcases h.2 with ⟨rfl, h0⟩ | ⟨g, cap, cur, rfl, hg, hr, hx1, hx2, hx⟩
  · obtain rfl := List.eq_nil_of_length_eq_zero h0
    exact .nil _ _ _
  · refine ⟨some ⟨g, 0, none⟩, cap, rfl, ⟨hx1, hx2⟩, fun i x hi => ⟨g, 0, rfl, ⟨hg, cur, _, hr, .inl rfl⟩, (Array.getElem?_eq_some_iff.1 hr).1, ?_⟩⟩
    have hil : i < xs.length := (List.getElem?_eq_some_iff.1 hi).1
    have hc := h'.cells (g := g) rfl i (.int k x) (by rw [List.getElem?_map, hi]; rfl)
    rw [addr_add] at hc; exact hc
theorem flat_at {α : Type} (f : α → List Value) (c : Nat) (hf : ∀ x, (f x).length = c) : ∀ (xs : List α) (i j : Nat) (x : α) (u : Value), xs[i]? = some x → (f x)[j]? = some u → (xs.flatMap f)[i * c + j]? = some u := by
  intro xs
  induction xs with
  | nil => intro i j x u h; simp at h
  | cons y ys ih =>
    intro i j x u h hu
    have hj : j < c := by have := (List.getElem?_eq_some_iff.1 hu).1; rw [hf] at this; exact this
    cases i with
    | zero =>
      simp at h; subst h
      rw [List.flatMap_cons, List.getElem?_append_left (by rw [hf]; omega), Nat.zero_mul, Nat.zero_add]; exact hu
    | succ i =>
      simp at h
      rw [List.flatMap_cons, List.getElem?_append_right (by rw [hf, Nat.succ_mul]; omega), hf, show (i + 1) * c + j - c = i * c + j by rw [Nat.succ_mul]; omega]
      exact ih i j x u h hu
theorem tflat_len {α : Type} (f : α → List Value) (c : Nat) (hf : ∀ x, (f x).length = c) (xs : List α) : (xs.flatMap f).length = xs.length * c := by
  induction xs with
  | nil => simp
  | cons y ys ih => rw [List.flatMap_cons, List.length_append, hf, ih, List.length_cons, Nat.succ_mul]; omega
/-- .. of elements -/
theorem elsIn_row {B : Nat} {w : World} {v : Value} {xs : List El} (h : w.ownsRow B 73 4 v xs.length (xs.flatMap elCells)) : ElsIn (Lf B w) w v xs := by
  have h' := h
  rcases h.2 with ⟨rfl, h0⟩ | ⟨g, cap, cur, rfl, hg, hr, hx⟩
  · obtain rfl := List.eq_nil_of_length_eq_zero h0
    exact .nil _ _
  · refine ⟨some ⟨g, 0, none⟩, cap, rfl, fun i x hi => ⟨g, 0, rfl, ⟨hg, cur, _, hr, .inr rfl⟩, (Array.getElem?_eq_some_iff.1 hr).1, ?_⟩⟩
    have at' : ∀ j u, (elCells x)[j]? = some u → w.cell? ⟨g, 0 + (i * 4 + j), none⟩ = some u := fun j u hu => by
      have := h'.cells (g := g) rfl (i * 4 + j) u (flat_at elCells 4 (fun _ => rfl) xs i j x u hi hu)
      rw [addr_add] at this; exact this
    exact ⟨at' 0 _ rfl, at' 1 _ rfl, at' 2 _ rfl, at' 3 _ rfl⟩

set_option maxHeartbeats 1000000 in
set_option maxRecDepth 100000 in
theorem cloneEc_any (R : Nat → Prop) (xs : List El) (v : Value) (w : World) (hv : ElsIn R w v xs) (hx : xs.length * 32 ≤ 140737488351232) :
    Calls Tryz.prog 104 #[v] w fun e w' => ∃ v', e = .returned v' ∧ ElsIn (Lf w.heap.size w') w' v' xs ∧ Below w.heap.size w w' ∧ (∀ p n c, v' = .slice p n c → n ≤ c) := by
  have HV := Lib.hid hv
  obtain ⟨p, cp, rfl, _⟩ := hv
  have HX := Lib.hid hx
  clear hx
  cases p with
  | none =>
    have hn : xs = [] := by
      cases xs with
      | nil => rfl
      | cons x xs => obtain ⟨_, _, e, _⟩ := HV.out.at 0 x rfl; cases e
    subst hn
    simp only [List.length_nil]
    have he : ∀ w, (binOp .eql 43 (.slice none 0 cp) (.slice none 0 0)).run Tryz.prog w = .ok (.bool true) w := fun w => Lib.run_eql_slice_nil w _ _ none 0 cp 0 0 Tryz.underlying43
    go_enter Tryz.func104, Tryz.ntmps104
    go_wp2
    go_ret
    exact ⟨_, rfl, .nil _ _, Below.refl _ _, fun p n c h => by cases h; exact Nat.le_refl _⟩
  | some a =>
    have he : ∀ w, (binOp .eql 43 (.slice (some a) xs.length cp) (.slice none 0 0)).run Tryz.prog w = .ok (.bool false) w := fun w => Lib.run_eql_slice_nil w _ _ (some a) _ cp 0 0 Tryz.underlying43
    obtain ⟨i0, hi, hz0, hz1, hz2⟩ := info_parts Tryz.infoE
    have NW : Hid (∀ (j : Nat) u, (xs.flatMap elCells)[j]? = some u → (w.alloc (.cells #[] 73)).cell? (a.add j) = some u) := by
      intro j u hj
      have hjl := (List.getElem?_eq_some_iff.1 hj).1
      rw [tflat_len elCells 4 (fun _ => rfl)] at hjl
      obtain ⟨x, hx⟩ : ∃ x, xs[j / 4]? = some x := ⟨xs[j / 4]'(by omega), List.getElem?_eq_getElem (by omega)⟩
      obtain ⟨b, o, e, _, hl, h0, h1, h2, h3⟩ := HV.out.at (j / 4) x hx
      cases e
      rw [addr_add, World.cell?_alloc_past _ _ _ hl]
      have key : ∀ (m : Nat) (z : Value), (elCells x)[m]? = some z → j = j / 4 * 4 + m → u = z := fun m z hz hm => by
        have := flat_at elCells 4 (fun _ => rfl) xs (j / 4) m x z hx hz
        rw [← hm, hj] at this; cases this; rfl
      have hd : j % 4 = 0 ∨ j % 4 = 1 ∨ j % 4 = 2 ∨ j % 4 = 3 := by omega
      rcases hd with hd | hd | hd | hd
      · have hj0 : j = j / 4 * 4 := by omega
        rw [key 0 _ rfl (by omega), show o + j = o + j / 4 * 4 by omega]; exact h0
      · rw [key 1 _ rfl (by omega), show o + j = o + j / 4 * 4 + 1 by omega]; exact h1
      · rw [key 2 _ rfl (by omega), show o + j = o + j / 4 * 4 + 2 by omega]; exact h2
      · rw [key 3 _ rfl (by omega), show o + j = o + j / 4 * 4 + 3 by omega]; exact h3
    have hone : ∀ u ∈ xs.flatMap elCells, u.oneCell' = true := by
      intro u hu
      obtain ⟨x, _, hu⟩ := List.mem_flatMap.1 hu
      simp [elCells] at hu
      rcases hu with rfl | rfl | rfl | rfl <;> simp [Value.oneCell']
    have HO := Lib.hid hone
    clear hone
    go_enter Tryz.func104, Tryz.ntmps104
    go_wp2_with (at_builtin; refine wpList_append_own _ rfl _ _ 43 rfl w.heap.size 73 i0 (.agg #[.int .i64 0, .int .i64 0, .int .i64 0, .bool false]) 4 32 Tryz.underlying43 hi hz0 hz1 hz2 rfl (by decide) _ _ _ rfl (row_none _ _ _) a xs.length cp (xs.flatMap elCells) rfl (tflat_len elCells 4 (fun _ => rfl) xs) NW.out HO.out (by unfold maxLen; have := HX.out; omega) (by have := HX.out; omega) (by simp) ?_; intro v' w1 hown' hgrow _)
    have HI := Lib.hid (elsIn_row (by simpa using hown'))
    have HB : Hid (Below w.heap.size w w1) := ((Below.refl _ w).alloc (Nat.le_refl _) _).grown hgrow (by simp) (fun j hj => by cases hj; exact Nat.le_refl _)
    have HCP : Hid (∀ p n c, v' = .slice p n c → n ≤ c) := by
      refine Lib.hid ?_
      intro p n c h
      rcases hown'.2 with ⟨h1, _⟩ | ⟨g, cap, cur, h1, _, _, h2, _⟩
      · rw [h1] at h; cases h; exact Nat.le_refl _
      · rw [h1] at h; cases h; exact h2
    clear hown' hgrow
    obtain ⟨pv, cv, hve, _⟩ := HI.out
    subst hve
    go_wp2
    go_ret
    exact ⟨_, rfl, HI.out, HB.out, HCP.out⟩
theorem cloneE_any (R : Nat → Prop) (xs : List El) (v : Value) (w : World) (hv : ElsIn R w v xs) (hx : xs.length * 32 ≤ 140737488351232) :
    Calls Tryz.prog 104 #[v] w fun e w' => ∃ v', e = .returned v' ∧ ElsIn (Lf w.heap.size w') w' v' xs ∧ Below w.heap.size w w' :=
  (cloneEc_any R xs v w hv hx).mono (by rintro e w' ⟨v', h1, h2, h3, _⟩; exact ⟨v', h1, h2, h3⟩)
end Go.Proofs.YtnglhgogkemgbaaGreatDoor
