/- NormStream: what lies in memory between two rounds. -/
import Derived.Test.YtlldoofclaokgaaGreatPa
import Derived.Test.YtlldoofclaokgaaGreatPb
namespace Go.Proofs.YtlldoofclaokgaaGreat
open Go.RowKit

/-- blocks that no step of the law turns -/
def Rf (pb sb : Nat) (hv av tv : Value) : Nat → Prop := fun b => b ≠ pb ∧ b ≠ sb ∧ hv.ownBlock ≠ some b ∧ av.ownBlock ≠ some b ∧ tv.ownBlock ≠ some b
/-- what is only read -/
structure RefsAt (P : Nat → Prop) (W : World) (c d : List T3) (u v : Value) (xb : Nat) (lv : Value) (L : List Int) (hr : Value) (Hr : List Int) (ev : Value) (E : List Int) : Prop where
  h : IntsIn P .i32 W hr Hr
  l : IntsIn P .i32 W lv L
  c : TrisIn P .i64 W u c
  d : TrisIn P .i32 W v d
  x : W.heap[xb]? = some (.cells #[u, v] 57 (0, 0))
  xr : P xb
  e : IntsIn P .i32 W ev E
theorem RefsAt.move {P P' : Nat → Prop} {W W1 : World} {c d : List T3} {u v : Value} {xb : Nat} {lv : Value} {L : List Int} {hr : Value} {Hr : List Int} {ev : Value} {E : List Int} (h : RefsAt P W c d u v xb lv L hr Hr ev E) (hk : Kept P W W1) (hm : ∀ b, P b → b < W.heap.size → P' b) : RefsAt P' W1 c d u v xb lv L hr Hr ev E := by
  have hk2 : Kept (fun b => P b ∧ b < W.heap.size) W W1 := ⟨hk.1, fun b hb hl => hk.2 b hb.1 hl⟩
  have hi : ∀ {vv : Value} {xs : List Int}, IntsIn P .i32 W vv xs → IntsIn P' .i32 W1 vv xs := fun h => ((h.mono (S := fun b => P b ∧ b < W.heap.size) (fun b hb hl => ⟨hb, hl⟩)).kept hk2).mono (fun b hb _ => hm b hb.1 hb.2)
  have ht : ∀ {kc : IntKind} {vv : Value} {xs : List T3}, TrisIn P kc W vv xs → TrisIn P' kc W1 vv xs := fun h => ((h.mono (S := fun b => P b ∧ b < W.heap.size) (fun b hb hl => ⟨hb, hl⟩)).kept hk2).mono (fun b hb _ => hm b hb.1 hb.2)
  have hxl := (Array.getElem?_eq_some_iff.1 h.x).1
  exact ⟨hi h.h, hi h.l, ht h.c, ht h.d, (hk.2 xb h.xr hxl).trans h.x, hm xb h.xr hxl, hi h.e⟩
def Rz (w : World) (av tv : Value) : Nat → Prop := fun b => w.heap.size ≤ b ∧ av.ownBlock ≠ some b ∧ tv.ownBlock ≠ some b
structure StrAt (J : (Nat → Prop) → World → Prop) (rv : Value) (pb sb : Nat) (w : World) (c d : List T3) (u v : Value) (xb : Nat) (lv : Value) (L : List Int) (A : List Int) (av : Value) (T : List Int) (tv : Value) (H : List Int) (hv : Value) (Hr : List Int) (hr : Value) (E : List Int) (ev : Value) (W : World) : Prop where
  arow : W.ownsRow w.heap.size 21 1 av A.length (A.map (Value.int .i32))
  trow : W.ownsRow w.heap.size 21 1 tv T.length (T.map (Value.int .i32))
  stm : StmOk J (Rz w av tv) rv sb w.heap.size H hv W
  refs : RefsAt (Rf pb sb hv av tv) W c d u v xb lv L hr Hr ev E
  aa : ∀ j, av.ownBlock = some j → j ≠ pb ∧ j ≠ sb ∧ hv.ownBlock ≠ some j ∧ tv.ownBlock ≠ some j
  tt : ∀ j, tv.ownBlock = some j → j ≠ pb ∧ j ≠ sb ∧ hv.ownBlock ≠ some j
  pw : w.heap.size ≤ pb
  sw : w.heap.size ≤ sb
  pl : pb < W.heap.size
  below : Below w.heap.size w W
section
variable {f : Int → Int} {dc : Int → List Int} {J : (Nat → Prop) → World → Prop} {rv : Value} {pb sb : Nat} {w : World} {c d : List T3} {u v : Value} {xb : Nat} {lv : Value} {L : List Int} {A : List Int} {av : Value} {T : List Int} {tv : Value} {H : List Int} {hv : Value} {Hr : List Int} {hr : Value} {E : List Int} {ev : Value} {W : World}
theorem StmOk.under {S : Nat → Prop} {R : Nat → Prop} {B : Nat} (hN : Norm f dc rv S J) (h : StmOk J R rv sb B H hv W) {W1 : World} (hb : Below W.heap.size W W1) : StmOk J R rv sb B H hv W1 :=
  ⟨ownsRow_block h.row (fun j _ hl => hb.block j hl), h.nil, h.stm.block (hb.block _ h.stm.lt), h.hsb, hN.kept _ _ _ h.data (Kept.below hb)⟩
theorem StrAt.under {S : Nat → Prop} (hN : Norm f dc rv S J) (h : StrAt J rv pb sb w c d u v xb lv L A av T tv H hv Hr hr E ev W) {W1 : World} (hb : Below W.heap.size W W1) : StrAt J rv pb sb w c d u v xb lv L A av T tv H hv Hr hr E ev W1 :=
  ⟨ownsRow_block h.arow (fun j _ hl => hb.block j hl), ownsRow_block h.trow (fun j _ hl => hb.block j hl), h.stm.under hN hb, h.refs.move (Kept.below hb) (fun _ hb _ => hb), h.aa, h.tt, h.pw, h.sw, Nat.lt_of_lt_of_le h.pl hb.size, h.below.trans (hb.mono h.below.size)⟩
/-- all blocks that are turned were there -/
theorem StrAt.new (h : StrAt J rv pb sb w c d u v xb lv L A av T tv H hv Hr hr E ev W) {b : Nat} (hb : W.heap.size ≤ b) : Rf pb sb hv av tv b :=
  ⟨by have := h.pl; omega, by have := h.stm.stm.lt; omega, fun e => by have := (ownsRow_own h.stm.row e).2; omega, fun e => by have := (ownsRow_own h.arow e).2; omega, fun e => by have := (ownsRow_own h.trow e).2; omega⟩
/-- Push has told -/
theorem StrAt.pushed (hN : Norm f dc rv (fun k => k = pb) J) (h : StrAt J rv pb sb w c d u v xb lv L A av T tv H hv Hr hr E ev W) {W1 : World} {H2 : List Int} {hv2 ov : Value} {O : List Int} (hs : StmOk J (Rz w av tv) rv sb w.heap.size H2 hv2 W1)
    (ho : Only (fun b => b = pb ∨ b = sb ∨ hv.ownBlock = some b) W W1) (hown : ∀ j, hv2.ownBlock = some j → hv.ownBlock = some j ∨ W.heap.size ≤ j) (hi : IntsIn (fun b => W.heap.size ≤ b ∧ hv2.ownBlock ≠ some b) .i32 W1 ov O) :
    StrAt J rv pb sb w c d u v xb lv L A av T tv H2 hv2 Hr hr O ov W1 := by
  have hlow : ∀ j, hv.ownBlock = some j → w.heap.size ≤ j := fun j hj => (ownsRow_own h.stm.row hj).1
  have hr1 : RefsAt (Rf pb sb hv2 av tv) W1 c d u v xb lv L hr Hr ev E := h.refs.move (Kept.only ho (fun b hb hs => by
    rcases hs with e | e | e
    · exact hb.1 e
    · exact hb.2.1 e
    · exact hb.2.2.1 e)) (fun b hb hl => ⟨hb.1, hb.2.1, fun e => by
      rcases hown b e with e | e
      · exact hb.2.2.1 e
      · omega, hb.2.2.2⟩)
  refine ⟨ownsRow_block h.arow (fun j hj hl => ho.block j hl (fun hs => ?_)), ownsRow_block h.trow (fun j hj hl => ho.block j hl (fun hs => ?_)), hs, ⟨hr1.h, hr1.l, hr1.c, hr1.d, hr1.x, hr1.xr, ?_⟩, fun j hj => ?_, fun j hj => ?_, h.pw, h.sw, Nat.lt_of_lt_of_le h.pl ho.size, ?_⟩
  · obtain ⟨h1, h2, h3, _⟩ := h.aa j hj
    rcases hs with e | e | e
    · exact h1 e
    · exact h2 e
    · exact h3 e
  · obtain ⟨h1, h2, h3⟩ := h.tt j hj
    rcases hs with e | e | e
    · exact h1 e
    · exact h2 e
    · exact h3 e
  · refine hi.mono (fun b hb _ => ?_)
    obtain ⟨k1, k2, _, k4⟩ := h.new hb.1
    exact ⟨k1, k2, hb.2, k4⟩
  · obtain ⟨h1, h2, h3, h4⟩ := h.aa j hj
    refine ⟨h1, h2, fun e => ?_, h4⟩
    rcases hown j e with e | e
    · exact h3 e
    · have := (ownsRow_own h.arow hj).2; omega
  · obtain ⟨h1, h2, h3⟩ := h.tt j hj
    refine ⟨h1, h2, fun e => ?_⟩
    rcases hown j e with e | e
    · exact h3 e
    · have := (ownsRow_own h.trow hj).2; omega
  · refine below_of_only h.below ho (fun b hb => ?_)
    rcases hb with e | e | e
    · rw [e]; exact h.pw
    · rw [e]; exact h.sw
    · exact hlow b e
/-- the reference's Push has told -/
theorem StrAt.rheld {S : Nat → Prop} (hN : Norm f dc rv S J) (h : StrAt J rv pb sb w c d u v xb lv L A av T tv H hv Hr hr E ev W) {W1 : World} (hb : Below W.heap.size W W1) {H2 : List Int} {hr2 : Value} (hi : IntsIn (fun b => W.heap.size ≤ b ∨ Rf pb sb hv av tv b) .i32 W1 hr2 H2) :
    StrAt J rv pb sb w c d u v xb lv L A av T tv H hv H2 hr2 E ev W1 := by
  have h1 := h.under hN hb
  refine ⟨h1.arow, h1.trow, h1.stm, ⟨hi.mono (fun b hb _ => ?_), h1.refs.l, h1.refs.c, h1.refs.d, h1.refs.x, h1.refs.xr, h1.refs.e⟩, h1.aa, h1.tt, h1.pw, h1.sw, h1.pl, h1.below⟩
  rcases hb with h' | h'
  · exact h.new h'
  · exact h'
theorem StmOk.grown {S : Nat → Prop} {R R2 : Nat → Prop} {B : Nat} (hN : Norm f dc rv S J) (h : StmOk J R rv sb B H hv W) {W2 : World} {row : Option Nat} (hg : W.grownBy W2 row) (h1 : ∀ j, row = some j → j ≠ sb ∧ hv.ownBlock ≠ some j ∧ ¬ R j) (h2 : ∀ b, R b → b < W.heap.size → R2 b) : StmOk J R2 rv sb B H hv W2 := by
  refine ⟨ownsRow_block h.row (fun j hj hl => hg.block j hl (fun e => (h1 j e.symm).2.1 hj)), h.nil, h.stm.block (hg.block _ h.stm.lt (fun e => (h1 _ e.symm).1 rfl)), h.hsb, ?_⟩
  have k1 := hN.kept _ _ _ (hN.bound _ _ h.data) (Kept.grown (R := fun b => (R b ∧ b ≠ sb ∧ hv.ownBlock ≠ some b) ∧ b < W.heap.size) hg (fun b hb e => (h1 b e.symm).2.2 hb.1.1))
  exact hN.mono _ _ _ k1 (fun b hb => ⟨h2 b hb.1.1 hb.2, hb.1.2⟩)
theorem StrAt.growA {S : Nat → Prop} (hN : Norm f dc rv S J) (h : StrAt J rv pb sb w c d u v xb lv L A av T tv H hv Hr hr E ev W) {W2 : World} {A2 : List Int} {av2 : Value} (hrow : W2.ownsRow w.heap.size 21 1 av2 A2.length (A2.map (Value.int .i32))) (hg : W.grownBy W2 av.ownBlock)
    (hown : ∀ j, av2.ownBlock = some j → av.ownBlock = some j ∨ W.heap.size ≤ j) : StrAt J rv pb sb w c d u v xb lv L A2 av2 T tv H hv Hr hr E ev W2 := by
  have hne : ∀ b, b < W.heap.size → av.ownBlock ≠ some b → av2.ownBlock ≠ some b := fun b hl h1 e => by
    rcases hown b e with e | e
    · exact h1 e
    · omega
  refine ⟨hrow, ownsRow_block h.trow (fun j hj hl => hg.block j hl (fun e => (h.aa j e.symm).2.2.2 hj)), h.stm.grown hN hg (fun j hj => ⟨(h.aa j hj).2.1, (h.aa j hj).2.2.1, fun hr => hr.2.1 hj⟩) (fun b hb hl => ⟨hb.1, hne b hl hb.2.1, hb.2.2⟩),
    h.refs.move (Kept.grown hg (fun b hb e => hb.2.2.2.1 e.symm)) (fun b hb hl => ⟨hb.1, hb.2.1, hb.2.2.1, hne b hl hb.2.2.2.1, hb.2.2.2.2⟩), fun j hj => ?_, h.tt, h.pw, h.sw, Nat.lt_of_lt_of_le h.pl hg.size, h.below.grown hg h.below.size (fun j hj => (ownsRow_own h.arow hj).1)⟩
  rcases hown j hj with e | e
  · exact h.aa j e
  · obtain ⟨k1, k2, k3, _, k5⟩ := h.new e
    exact ⟨k1, k2, k3, k5⟩
theorem StrAt.growT {S : Nat → Prop} (hN : Norm f dc rv S J) (h : StrAt J rv pb sb w c d u v xb lv L A av T tv H hv Hr hr E ev W) {W2 : World} {T2 : List Int} {tv2 : Value} (hrow : W2.ownsRow w.heap.size 21 1 tv2 T2.length (T2.map (Value.int .i32))) (hg : W.grownBy W2 tv.ownBlock)
    (hown : ∀ j, tv2.ownBlock = some j → tv.ownBlock = some j ∨ W.heap.size ≤ j) : StrAt J rv pb sb w c d u v xb lv L A av T2 tv2 H hv Hr hr E ev W2 := by
  have hne : ∀ b, b < W.heap.size → tv.ownBlock ≠ some b → tv2.ownBlock ≠ some b := fun b hl h1 e => by
    rcases hown b e with e | e
    · exact h1 e
    · omega
  refine ⟨ownsRow_block h.arow (fun j hj hl => hg.block j hl (fun e => (h.aa j hj).2.2.2 e.symm)), hrow, h.stm.grown hN hg (fun j hj => ⟨(h.tt j hj).2.1, (h.tt j hj).2.2, fun hr => hr.2.2 hj⟩) (fun b hb hl => ⟨hb.1, hb.2.1, hne b hl hb.2.2⟩),
    h.refs.move (Kept.grown hg (fun b hb e => hb.2.2.2.2 e.symm)) (fun b hb hl => ⟨hb.1, hb.2.1, hb.2.2.1, hb.2.2.2.1, hne b hl hb.2.2.2.2⟩), fun j hj => ?_, fun j hj => ?_, h.pw, h.sw, Nat.lt_of_lt_of_le h.pl hg.size, h.below.grown hg h.below.size (fun j hj => (ownsRow_own h.trow hj).1)⟩
  · obtain ⟨k1, k2, k3, k4⟩ := h.aa j hj
    refine ⟨k1, k2, k3, hne j (ownsRow_own h.arow hj).2 k4⟩
  · rcases hown j hj with e | e
    · exact h.tt j e
    · obtain ⟨k1, k2, k3, _, _⟩ := h.new e
      exact ⟨k1, k2, k3⟩
end
end Go.Proofs.YtlldoofclaokgaaGreat
