/- Maps from runes to pointers that the call itself makes: a word for what they hold, over any program. -/
import Derived.Test.YtcifoallahmjbaaBase
import Derived.Maps.OwnOps
import Derived.Maps.OwnSet
import Derived.Maps.Views
namespace Go.Proofs.Ytcifoallahmjbaa
open Go.RowKit
open Go.Maps (Keyed)

/-- how a pointer in a map reads -/
def Rp : Value → Option (DataW Unit × List MemPlace)
  | .pointer none => some (.nil, [])
  | .pointer (some ⟨b, 0, none⟩) => some (.lit (.int .i64 b), [])
  | _ => none
theorem Rp_inv {v : Value} {d : DataW Unit} {ps : List MemPlace} (h : Rp v = some (d, ps)) : (v = .pointer none ∧ d = .nil) ∨ ∃ b, v = .pointer (some ⟨b, 0, none⟩) ∧ d = .lit (.int .i64 b) := by
  unfold Rp at h
  split at h
  · simp at h; exact .inl ⟨rfl, h.1.symm⟩
  · simp at h; exact .inr ⟨_, rfl, h.1.symm⟩
  · cases h
def ptrD : Option Nat → DataW Unit
  | none => .nil
  | some b => .lit (.int .i64 b)
def ptrV : Option Nat → Value
  | none => .pointer none
  | some b => .pointer (some ⟨b, 0, none⟩)
theorem Rp_ptrV (o : Option Nat) : Rp (ptrV o) = some (ptrD o, []) := by cases o <;> rfl
theorem ptr_of {v : Value} {o : Option Nat} {ps : List MemPlace} (h : Rp v = some (ptrD o, ps)) : v = ptrV o := by
  rcases Rp_inv h with ⟨rfl, e⟩ | ⟨b, rfl, e⟩
  · cases o with
    | none => rfl
    | some c => cases e
  · cases o with
    | none => cases e
    | some c =>
      simp only [ptrD, DataW.lit.injEq, Lit.int.injEq, true_and] at e
      have : b = c := by omega
      rw [this]; rfl

variable {P : Program} {k : TypeId}
/-- block b is a map that tells f of each rune; at most n keys -/
def PMap (P : Program) (k : TypeId) (w : World) (b n : Nat) (f : Int → Option Nat) : Prop :=
  ∃ L : List (Lit × DataW Unit), w.ownsMap P k Rp b n (.map L) ∧ (∀ r, (DataW.map L).atKey (.int .i32 r) .nil = ptrD (f r)) ∧ (∀ p ∈ L, ∃ r, p.1 = .int .i32 r ∧ f r ≠ none)
theorem PMap.made (w : World) : PMap P k (w.alloc (.map #[] 0)) w.heap.size 0 (fun _ => none) := ⟨[], World.ownsMap_made w P k Rp, fun _ => rfl, by simp⟩
theorem PMap.kept {w w' : World} {row : Option Nat} {b n : Nat} {f : Int → Option Nat} (h : PMap P k w b n f) (hg : w.grownBy w' row) (hne : some b ≠ row) : PMap P k w' b n f := by
  obtain ⟨L, h1, h2⟩ := h; exact ⟨L, h1.kept hg hne, h2⟩
theorem PMap.lt {w : World} {b n : Nat} {f : Int → Option Nat} (h : PMap P k w b n f) : b < w.heap.size := by
  obtain ⟨L, h1, _⟩ := h; exact h1.lt
theorem PMap.mono {w : World} {b n m : Nat} {f : Int → Option Nat} (h : PMap P k w b n f) (hm : n ≤ m) : PMap P k w b m f := by
  obtain ⟨L, h1, h2⟩ := h; exact ⟨L, h1.mono hm, h2⟩
theorem PMap.same {w w' : World} {b n : Nat} {f : Int → Option Nat} (h : PMap P k w b n f) (hb : w'.heap[b]? = w.heap[b]?) : PMap P k w' b n f := by
  obtain ⟨L, ⟨es, c, h1, h2⟩, h3⟩ := h
  exact ⟨L, ⟨es, c, hb.trans h1, h2⟩, h3⟩
theorem PMap.lookup {w : World} {b n : Nat} {f : Int → Option Nat} {t e : TypeId} (h : PMap P k w b n f) (hk : P.underlying k = some (.int .i32)) (ht : P.underlying t = some (.map k e)) (hz : ∀ w, (zeroValue e).run P w = .ok (.pointer none) w)
    (r : Int) (hr : (Lit.int .i32 r).wf = true) : (Instr.lookup t (.map (some b)) (.int .i32 r) false).run P w = .ok (ptrV (f r)) w := by
  obtain ⟨L, h1, h2, _⟩ := h
  obtain ⟨v, ps, hrun, hv⟩ := h1.lookup (Maps.int_keyed hk) ht (hz w) (zd := .nil) (zp := []) rfl (key := .int .i32 r) (kl := .int .i32 r) (Maps.keyOf_int_mk hk hr)
  rw [h2 r] at hv
  rw [hrun, ptr_of hv]
theorem PMap.update {w : World} {b n : Nat} {f : Int → Option Nat} {t e : TypeId} (h : PMap P k w b n f) (hk : P.underlying k = some (.int .i32)) (ht : P.underlying t = some (.map k e)) (hn : n < maxLen) (r : Int) (hr : (Lit.int .i32 r).wf = true) (c : Nat) :
    ∃ w', (Instr.mapUpdate t (.map (some b)) (.int .i32 r) (.pointer (some ⟨c, 0, none⟩))).run P w = .ok () w' ∧ PMap P k w' b (n + 1) (fun q => if q = r then some c else f q) ∧ w.grownBy w' (some b) := by
  obtain ⟨L, h1, h2, h3⟩ := h
  obtain ⟨w', hrun, hown, hg⟩ := h1.update (Maps.int_keyed hk) ht hn (key := .int .i32 r) (kl := .int .i32 r) (d := .lit (.int .i64 c)) (ps := []) (Maps.keyOf_int_mk hk hr) (val := .pointer (some ⟨c, 0, none⟩)) rfl
  refine ⟨w', hrun, ⟨_, hown, fun q => ?_, ?_⟩, hg⟩
  · by_cases e : q = r
    · subst e
      simp only [if_true]
      exact Maps.atKey_put_same ⟨L, rfl⟩ (by simp [WideAt.IsKeyLit]) _ _
    · have h4 := Maps.atKey_put_other (D := DataW.map L) (k' := .int .i32 q) (k := .int .i32 r) (by intro h; cases h; exact e rfl) (.lit (.int .i64 c)) .nil
      simp only [if_neg e]
      exact h4.trans (h2 q)
  · intro p hp
    have hp' : p ∈ DataW.insert ((.int .i32 r : Lit), (.lit (.int .i64 c) : DataW Unit)) (L.filter fun p => !p.1.sameKey (.int .i32 r)) := hp
    have hmem : ∀ (x : Lit × DataW Unit) (l : List (Lit × DataW Unit)), p ∈ DataW.insert x l → p = x ∨ p ∈ l := by
      intro x l
      induction l with
      | nil => intro h; simp [DataW.insert] at h; exact .inl h
      | cons y l ih =>
        intro h
        unfold DataW.insert at h
        split at h
        · rcases List.mem_cons.1 h with h | h
          · exact .inl h
          · exact .inr h
        · rcases List.mem_cons.1 h with h | h
          · exact .inr (by rw [h]; exact List.mem_cons_self ..)
          · rcases ih h with h | h
            · exact .inl h
            · exact .inr (List.mem_cons_of_mem _ h)
    rcases hmem _ _ hp' with rfl | hm
    · exact ⟨r, rfl, by simp⟩
    · obtain ⟨q, e, hq⟩ := h3 p (List.mem_filter.1 hm).1
      refine ⟨q, e, ?_⟩
      by_cases c' : q = r
      · simp [c']
      · simp only [if_neg c']; exact hq
theorem PMap.len {w : World} {b n : Nat} {f : Int → Option Nat} (h : PMap P k w b n f) : ∃ D : DataW Unit, w.ownsMap P k Rp b n D ∧ (Maps.size D = 0 ↔ ∀ r, f r = none) := by
  obtain ⟨L, h1, h2, h3⟩ := h
  refine ⟨_, h1, ?_⟩
  show L.length = 0 ↔ _
  constructor
  · intro e r
    obtain rfl := List.eq_nil_of_length_eq_zero e
    have := h2 r
    cases hf : f r with
    | none => rfl
    | some c => rw [hf] at this; cases this
  · intro e
    cases L with
    | nil => rfl
    | cons p L => obtain ⟨r, _, hr⟩ := h3 p (List.mem_cons_self ..); exact absurd (e r) hr
end Go.Proofs.Ytcifoallahmjbaa
