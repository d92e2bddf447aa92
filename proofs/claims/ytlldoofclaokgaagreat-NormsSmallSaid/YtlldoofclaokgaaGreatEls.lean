/- Slices of numbers, of elements and of entries that only are read: a word for what they hold, and in which blocks, over any program. -/
import Derived.Test.YtlldoofclaokgaaGreatInts
import Derived.Test.YtlldoofclaokgaaGreatTspec
namespace Go.Proofs.YtlldoofclaokgaaGreat
open Go.RowKit

/-- the blocks of R are as they were -/
def Kept (R : Nat → Prop) (w w' : World) : Prop := w.heap.size ≤ w'.heap.size ∧ ∀ b, R b → b < w.heap.size → w'.heap[b]? = w.heap[b]?
theorem Kept.below {R : Nat → Prop} {w w' : World} (h : Below w.heap.size w w') : Kept R w w' := ⟨h.size, fun b _ hl => h.block b hl⟩
theorem Kept.only {R S : Nat → Prop} {w w' : World} (h : Only S w w') (hS : ∀ b, R b → ¬ S b) : Kept R w w' := ⟨h.size, fun b hr hl => h.block b hl (hS b hr)⟩
theorem Kept.grown {R : Nat → Prop} {w w' : World} {row : Option Nat} (h : w.grownBy w' row) (hr : ∀ b, R b → some b ≠ row) : Kept R w w' := ⟨h.size, fun b h1 h2 => h.block b h2 (hr b h1)⟩
theorem Kept.trans {R : Nat → Prop} {a b c : World} (h : Kept R a b) (k : Kept R b c) : Kept R a c := ⟨Nat.le_trans h.1 k.1, fun i hr hl => (k.2 i hr (Nat.lt_of_lt_of_le hl h.1)).trans (h.2 i hr hl)⟩

def IntsIn (R : Nat → Prop) (k : IntKind) (w : World) (v : Value) (xs : List Int) : Prop :=
  ∃ p cap, v = .slice p xs.length cap ∧ (xs.length ≤ cap ∧ cap ≤ maxLen) ∧ ∀ (i : Nat) (x : Int), xs[i]? = some x → ∃ b o, p = some ⟨b, o, none⟩ ∧ R b ∧ b < w.heap.size ∧ w.cell? ⟨b, o + i, none⟩ = some (.int k x)
theorem IntsIn.nil (R : Nat → Prop) (k : IntKind) (w : World) : IntsIn R k w (.slice none 0 0) [] := ⟨none, 0, rfl, ⟨Nat.le_refl _, Nat.zero_le _⟩, fun i x h => by simp at h⟩
theorem IntsIn.kept {R : Nat → Prop} {k : IntKind} {w w' : World} {v : Value} {xs : List Int} (h : IntsIn R k w v xs) (hb : Kept R w w') : IntsIn R k w' v xs := by
  obtain ⟨p, cap, h1, h0, h2⟩ := h
  refine ⟨p, cap, h1, h0, fun i x hx => ?_⟩
  obtain ⟨b, o, e1, e2, e3, e4⟩ := h2 i x hx
  exact ⟨b, o, e1, e2, Nat.lt_of_lt_of_le e3 hb.1, by rw [World.cell?_of_block (w := w) (a := ⟨b, o + i, none⟩) (hb.2 b e2 e3)]; exact e4⟩
theorem IntsIn.mono {R S : Nat → Prop} {k : IntKind} {w : World} {v : Value} {xs : List Int} (h : IntsIn R k w v xs) (hm : ∀ b, R b → b < w.heap.size → S b) : IntsIn S k w v xs := by
  obtain ⟨p, cap, h1, h0, h2⟩ := h
  refine ⟨p, cap, h1, h0, fun i x hx => ?_⟩
  obtain ⟨b, o, e1, e2, e3, e4⟩ := h2 i x hx
  exact ⟨b, o, e1, hm b e2 e3, e3, e4⟩
theorem IntsIn.at {R : Nat → Prop} {k : IntKind} {w : World} {p : Option Addr} {len cap : Nat} {xs : List Int} (h : IntsIn R k w (.slice p len cap) xs) (i : Nat) (hi : i < xs.length) :
    ∃ b o, p = some ⟨b, o, none⟩ ∧ R b ∧ b < w.heap.size ∧ w.cell? ⟨b, o + i, none⟩ = some (.int k (xs.getD i 0)) := by
  obtain ⟨p', cap', h1, _, h2⟩ := h
  cases h1
  exact h2 i (xs.getD i 0) (by rw [List.getD_eq_getElem?_getD, List.getElem?_eq_getElem hi]; rfl)
theorem IntsIn.cap {R : Nat → Prop} {k : IntKind} {w : World} {p : Option Addr} {len cap : Nat} {xs : List Int} (h : IntsIn R k w (.slice p len cap) xs) : xs.length ≤ cap ∧ cap ≤ maxLen := by
  obtain ⟨p', cap', h1, h0, _⟩ := h
  cases h1; exact h0

/-- the cells of an element -/
def elCells (x : El) : List Value := [.int .i64 x.1, .int .i64 x.2.1, .int .i64 x.2.2.1, .bool x.2.2.2]
def elAgg (x : El) : Value := .agg #[.int .i64 x.1, .int .i64 x.2.1, .int .i64 x.2.2.1, .bool x.2.2.2]
/-- four cells from a place on -/
def El4 (w : World) (b o : Nat) (x : El) : Prop :=
  w.cell? ⟨b, o, none⟩ = some (.int .i64 x.1) ∧ w.cell? ⟨b, o + 1, none⟩ = some (.int .i64 x.2.1) ∧ w.cell? ⟨b, o + 2, none⟩ = some (.int .i64 x.2.2.1) ∧ w.cell? ⟨b, o + 3, none⟩ = some (.bool x.2.2.2)
theorem El4.of {w w' : World} {b o : Nat} {x : El} (h : El4 w b o x) (hb : w'.heap[b]? = w.heap[b]?) : El4 w' b o x := by
  have e : ∀ o', w'.cell? ⟨b, o', none⟩ = w.cell? ⟨b, o', none⟩ := fun o' => World.cell?_of_block (w := w) (a := ⟨b, o', none⟩) hb
  exact ⟨(e _).trans h.1, (e _).trans h.2.1, (e _).trans h.2.2.1, (e _).trans h.2.2.2⟩
def ElsIn (R : Nat → Prop) (w : World) (v : Value) (xs : List El) : Prop :=
  ∃ p cap, v = .slice p xs.length cap ∧ ∀ (i : Nat) (x : El), xs[i]? = some x → ∃ b o, p = some ⟨b, o, none⟩ ∧ R b ∧ b < w.heap.size ∧ El4 w b (o + i * 4) x
theorem ElsIn.nil (R : Nat → Prop) (w : World) : ElsIn R w (.slice none 0 0) [] := ⟨none, 0, rfl, fun i x h => by simp at h⟩
theorem ElsIn.kept {R : Nat → Prop} {w w' : World} {v : Value} {xs : List El} (h : ElsIn R w v xs) (hb : Kept R w w') : ElsIn R w' v xs := by
  obtain ⟨p, cap, h1, h2⟩ := h
  refine ⟨p, cap, h1, fun i x hx => ?_⟩
  obtain ⟨b, o, e1, e2, e3, e4⟩ := h2 i x hx
  exact ⟨b, o, e1, e2, Nat.lt_of_lt_of_le e3 hb.1, e4.of (hb.2 b e2 e3)⟩
theorem ElsIn.mono {R S : Nat → Prop} {w : World} {v : Value} {xs : List El} (h : ElsIn R w v xs) (hm : ∀ b, R b → b < w.heap.size → S b) : ElsIn S w v xs := by
  obtain ⟨p, cap, h1, h2⟩ := h
  refine ⟨p, cap, h1, fun i x hx => ?_⟩
  obtain ⟨b, o, e1, e2, e3, e4⟩ := h2 i x hx
  exact ⟨b, o, e1, hm b e2 e3, e3, e4⟩
theorem ElsIn.at {R : Nat → Prop} {w : World} {p : Option Addr} {len cap : Nat} {xs : List El} (h : ElsIn R w (.slice p len cap) xs) (i : Nat) (x : El) (hi : xs[i]? = some x) :
    ∃ b o, p = some ⟨b, o, none⟩ ∧ R b ∧ b < w.heap.size ∧ El4 w b (o + i * 4) x := by
  obtain ⟨p', cap', h1, h2⟩ := h
  cases h1
  exact h2 i x hi
/-- a slice of entries -/
def EntsIn (R : Nat → Prop) (w : World) (v : Value) (es : List Ent) : Prop :=
  ∃ p cap, v = .slice p es.length cap ∧ ∀ (i : Nat) (e : Ent), es[i]? = some e → ∃ b o c u, p = some ⟨b, o, none⟩ ∧ R b ∧ b < w.heap.size ∧ w.cell? ⟨b, o + i * 2, none⟩ = some c ∧ w.cell? ⟨b, o + i * 2 + 1, none⟩ = some u ∧
    IntsIn R .i32 w c e.1 ∧ ElsIn R w u e.2
theorem EntsIn.kept {R : Nat → Prop} {w w' : World} {v : Value} {es : List Ent} (h : EntsIn R w v es) (hb : Kept R w w') : EntsIn R w' v es := by
  obtain ⟨p, cap, h1, h2⟩ := h
  refine ⟨p, cap, h1, fun i x hx => ?_⟩
  obtain ⟨b, o, c, u, e1, e2, e3, e4, e5, e6, e7⟩ := h2 i x hx
  have hbb := hb.2 b e2 e3
  exact ⟨b, o, c, u, e1, e2, Nat.lt_of_lt_of_le e3 hb.1, by rw [World.cell?_of_block (w := w) (a := ⟨b, o + i * 2, none⟩) hbb]; exact e4, by rw [World.cell?_of_block (w := w) (a := ⟨b, o + i * 2 + 1, none⟩) hbb]; exact e5,
    e6.kept hb, e7.kept hb⟩
theorem EntsIn.at {R : Nat → Prop} {w : World} {p : Option Addr} {len cap : Nat} {es : List Ent} (h : EntsIn R w (.slice p len cap) es) (i : Nat) (e : Ent) (hi : es[i]? = some e) :
    ∃ b o c u, p = some ⟨b, o, none⟩ ∧ R b ∧ b < w.heap.size ∧ w.cell? ⟨b, o + i * 2, none⟩ = some c ∧ w.cell? ⟨b, o + i * 2 + 1, none⟩ = some u ∧ IntsIn R .i32 w c e.1 ∧ ElsIn R w u e.2 := by
  obtain ⟨p', cap', h1, h2⟩ := h
  cases h1
  exact h2 i e hi
end Go.Proofs.YtlldoofclaokgaaGreat
