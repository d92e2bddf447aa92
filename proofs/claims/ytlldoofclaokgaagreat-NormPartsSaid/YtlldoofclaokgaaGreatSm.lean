/- Maps from runes to slices that the call itself makes: a word for what they hold, over any program. -/
import Derived.Test.YtlldoofclaokgaaGreatBase
import Derived.Maps.OwnOps
import Derived.Maps.OwnSet
import Derived.Maps.Views
namespace Go.Proofs.YtlldoofclaokgaaGreat
open Go.RowKit
open Go.Maps (Keyed)

/-- how a slice in a map reads -/
def Rs : Value → Option (DataW Unit × List MemPlace)
  | .slice none 0 0 => some (.nil, [])
  | .slice (some ⟨b, 0, none⟩) n c => some (.agg [.lit (.int .i64 b), .lit (.int .i64 n), .lit (.int .i64 c)], [])
  | _ => none
def slD : Option (Nat × Nat × Nat) → DataW Unit
  | none => .nil
  | some x => .agg [.lit (.int .i64 x.1), .lit (.int .i64 x.2.1), .lit (.int .i64 x.2.2)]
def slV : Option (Nat × Nat × Nat) → Value
  | none => .slice none 0 0
  | some x => .slice (some ⟨x.1, 0, none⟩) x.2.1 x.2.2
theorem Rs_slV (o : Option (Nat × Nat × Nat)) : Rs (slV o) = some (slD o, []) := by cases o <;> rfl
theorem sl_of {v : Value} {o : Option (Nat × Nat × Nat)} {ps : List MemPlace} (h : Rs v = some (slD o, ps)) : v = slV o := by
  unfold Rs at h
  split at h
  · cases o with
    | none => rfl
    | some x => simp [slD] at h
  · cases o with
    | none => simp [slD] at h
    | some x =>
      obtain ⟨x1, x2, x3⟩ := x
      simp only [slD, Option.some.injEq, Prod.mk.injEq, DataW.agg.injEq, List.cons.injEq, DataW.lit.injEq, Lit.int.injEq, true_and, and_true] at h
      obtain ⟨⟨h1, h2, h3⟩, _⟩ := h
      obtain rfl := Int.ofNat.inj h1
      obtain rfl := Int.ofNat.inj h2
      obtain rfl := Int.ofNat.inj h3
      rfl
  · cases h

variable {P : Program} {k : TypeId}
/-- block b is a map that tells f of each rune; at most n keys -/
def SMap (P : Program) (k : TypeId) (w : World) (b n : Nat) (f : Int → Option (Nat × Nat × Nat)) : Prop :=
  ∃ L : List (Lit × DataW Unit), w.ownsMap P k Rs b n (.map L) ∧ (∀ r, (DataW.map L).atKey (.int .i32 r) .nil = slD (f r)) ∧ (∀ r, Maps.has (DataW.map L) (.int .i32 r) = (f r).isSome)
theorem SMap.made (w : World) : SMap P k (w.alloc (.map #[] 0)) w.heap.size 0 (fun _ => none) := ⟨[], World.ownsMap_made w P k Rs, fun _ => rfl, fun _ => rfl⟩
theorem SMap.kept {w w' : World} {row : Option Nat} {b n : Nat} {f : Int → Option (Nat × Nat × Nat)} (h : SMap P k w b n f) (hg : w.grownBy w' row) (hne : some b ≠ row) : SMap P k w' b n f := by
  obtain ⟨L, h1, h2⟩ := h; exact ⟨L, h1.kept hg hne, h2⟩
theorem SMap.lt {w : World} {b n : Nat} {f : Int → Option (Nat × Nat × Nat)} (h : SMap P k w b n f) : b < w.heap.size := by
  obtain ⟨L, h1, _⟩ := h; exact h1.lt
theorem SMap.same {w w' : World} {b n : Nat} {f : Int → Option (Nat × Nat × Nat)} (h : SMap P k w b n f) (hb : w'.heap[b]? = w.heap[b]?) : SMap P k w' b n f := by
  obtain ⟨L, ⟨es, c, h1, h2⟩, h3⟩ := h
  exact ⟨L, ⟨es, c, hb.trans h1, h2⟩, h3⟩
theorem SMap.lookup {w : World} {b n : Nat} {f : Int → Option (Nat × Nat × Nat)} {t e : TypeId} (h : SMap P k w b n f) (hk : P.underlying k = some (.int .i32)) (ht : P.underlying t = some (.map k e)) (hz : ∀ w, (zeroValue e).run P w = .ok (.slice none 0 0) w)
    (r : Int) (hr : (Lit.int .i32 r).wf = true) : (Instr.lookup t (.map (some b)) (.int .i32 r) true).run P w = .ok (.tuple #[slV (f r), .bool (f r).isSome]) w := by
  obtain ⟨L, h1, h2, h3⟩ := h
  obtain ⟨v, ps, hrun, hv⟩ := h1.look_ok (Maps.int_keyed hk) ht (hz w) (zd := .nil) (zp := []) rfl (key := .int .i32 r) (kl := .int .i32 r) (Maps.keyOf_int_mk hk hr)
  rw [h2 r] at hv
  rw [hrun, sl_of hv, h3 r]
theorem SMap.update {w : World} {b n : Nat} {f : Int → Option (Nat × Nat × Nat)} {t e : TypeId} (h : SMap P k w b n f) (hk : P.underlying k = some (.int .i32)) (ht : P.underlying t = some (.map k e)) (hn : n < maxLen) (r : Int) (hr : (Lit.int .i32 r).wf = true) (g len cap : Nat) :
    ∃ w', (Instr.mapUpdate t (.map (some b)) (.int .i32 r) (.slice (some ⟨g, 0, none⟩) len cap)).run P w = .ok () w' ∧ SMap P k w' b (n + 1) (fun q => if q = r then some (g, len, cap) else f q) ∧ w.grownBy w' (some b) := by
  obtain ⟨L, h1, h2, h3⟩ := h
  obtain ⟨w', hrun, hown, hg⟩ := h1.update (Maps.int_keyed hk) ht hn (key := .int .i32 r) (kl := .int .i32 r) (d := slD (some (g, len, cap))) (ps := []) (Maps.keyOf_int_mk hk hr) (val := .slice (some ⟨g, 0, none⟩) len cap) rfl
  refine ⟨w', hrun, ⟨_, hown, fun q => ?_, fun q => ?_⟩, hg⟩
  · by_cases e : q = r
    · subst e
      simp only [if_true]
      exact Maps.atKey_put_same ⟨L, rfl⟩ (by simp [WideAt.IsKeyLit]) _ _
    · have h4 := Maps.atKey_put_other (D := DataW.map L) (k' := .int .i32 q) (k := .int .i32 r) (by intro h; cases h; exact e rfl) (slD (some (g, len, cap))) .nil
      simp only [if_neg e]
      exact h4.trans (h2 q)
  · by_cases e : q = r
    · subst e
      simp only [if_true]
      exact Maps.has_put_same ⟨L, rfl⟩ (by simp [WideAt.IsKeyLit]) _
    · have h4 := Maps.has_put_other (D := DataW.map L) (k' := .int .i32 q) (k := .int .i32 r) (by intro h; cases h; exact e rfl) (slD (some (g, len, cap)))
      simp only [if_neg e]
      exact h4.trans (h3 q)
end Go.Proofs.YtlldoofclaokgaaGreat
