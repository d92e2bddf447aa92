/- A range over a function whose body may break or return, over any program: one goal for what stands behind it. -/
import Derived.Test.YtlldoofclaokgaaGreatRange
import Derived.RangeFuncBox
namespace Go.Proofs.YtlldoofclaokgaaGreat
open Go.RowKit

/-- abides new blocks, and what turns in blocks of book-keeping from B on -/
def StayFrom (B : Nat) (I : World → Prop) : Prop :=
  ∀ W W' row, I W → W.grownBy W' row → (∀ r, row = some r → B ≤ r ∧ ∃ o : Obj, W.heap[r]? = some o ∧ o.isCells = false) → I W'
theorem StayFrom.and {B : Nat} {I J : World → Prop} (h : StayFrom B I) (k : StayFrom B J) : StayFrom B (fun W => I W ∧ J W) :=
  fun W W' row hs hg hr => ⟨h W W' row hs.1 hg hr, k W W' row hs.2 hg hr⟩
theorem StayFrom.const {B : Nat} (p : Prop) : StayFrom B (fun _ => p) := fun _ _ _ h _ _ => h
theorem StayFrom.only {S : Nat → Prop} {W0 : World} {B : Nat} (hB : W0.heap.size ≤ B) : StayFrom B (Only S W0) := by
  intro W W' row h hg hr
  refine ⟨hg.os.trans h.os, hg.tape.trans h.tape, hg.output.trans h.output, Nat.le_trans h.size hg.size, fun k hk hs => ?_⟩
  rw [hg.block k (Nat.lt_of_lt_of_le hk h.size) (fun e => by have := (hr k e.symm).1; omega)]
  exact h.block k hk hs
theorem StayFrom.boxed {B b : Nat} {t : TypeId} {v : Value} : StayFrom B (fun W => Boxed W b t v) := by
  intro W W' row h hg hr
  refine h.kept hg (fun e => ?_)
  obtain ⟨_, o, ho, hc⟩ := hr b e.symm
  rw [show W.heap[b]? = _ from h] at ho; cases ho; cases hc
theorem StayFrom.cell {B : Nat} {a : Addr} {v : Value} : StayFrom B (fun W => W.cell? a = some v) :=
  fun _ _ _ h hg hr => cell_kept h hg (fun r e => (hr r e).2)
theorem StayFrom.imp {B : Nat} {I : World → Prop} {p : Prop} (h : p → StayFrom B I) : StayFrom B (fun W => p → I W) := fun W W' row hs hg hr hp => h hp W W' row (hs hp) hg hr
theorem StayFrom.ex {B : Nat} {α : Type} {I : α → World → Prop} (h : ∀ x, StayFrom B (I x)) : StayFrom B (fun W => ∃ x, I x W) := fun W W' row ⟨x, hs⟩ hg hr => ⟨x, h x W W' row hs hg hr⟩

variable {P : Program}
/-- the frame behind a range: one mark more -/
def marked (a : Act) (D : Nat) : Act := { a with defers := { target := .collected D, args := #[] } :: a.defers }

/-- the frame in which a round begins: the loop's variables, then what else has been assigned -/
def roundFrame (a : Act) (ps : Array Tmp) (vs : Array Value) (qs : List (Nat × Value)) : Act :=
  { tmps := qs.foldl (fun t (p, v) => t.setIfInBounds p v) ((ps.zip vs).foldl (fun t (p, v) => t.setIfInBounds p v) a.tmps), defers := [] }

theorem wp_range2 {σ : Type} {g : Operand} {ps : Array Tmp} {assign body : Code} {Q : Exit → Act → World → Prop} {a : Act} {w : World} {gf : Nat} {lb : Array Value} (id : Nat)
    (hg : a.eval g = .func (.func gf) #[] lb) (eg : ∀ args w, (callFunc gf args).run P w = .ok (.enter gf args) w)
    {enc : σ → Array Value} {nxt : σ → σ} {can last : σ → Prop} {bad : σ → List PanicEntry → Prop} {s0 : σ} {Pre : World → Prop} (hit : IterC P gf lb enc nxt can last bad s0 Pre)
    (hps : ∀ s, (enc s).size = ps.size) (I : σ → World → Prop) (Ib Ir : World → Prop) (hI : ∀ s, StayFrom w.heap.size (I s)) (hIb : StayFrom w.heap.size Ib) (hIr : StayFrom w.heap.size Ir) (hPre : ∀ s A, I s A → Pre A) (h0 : I s0 w) (qs : σ → List (Nat × Value))
    (hassign : ∀ (l : Nat) (s : σ) (W : World), assign.wpIn (Fence.wide.inRound l) 0 P (Exit.then (fun a' W' => roundFrame a ps (enc s) (qs s) = a' ∧ W = W') (fun _ _ _ => False)) { tmps := (ps.zip (enc s)).foldl (fun t (p, v) => t.setIfInBounds p v) a.tmps, defers := [] } W)
    (hbody : ∀ (l : Nat) (s : σ) (W : World), can s → I s W → body.wpIn (Fence.wide.inRound l) 0 P (roundEnd W (I (nxt s)) (fun c W' => (c = .exit id ∧ Ib W') ∨ (c = .ret ∧ Ir W'))) (roundFrame a ps (enc s) (qs s)) W)
    (hafter : ∀ (D : Nat) (W : World), w.heap.size ≤ D → ((∃ s, last s ∧ I s W) ∨ Ib W) → W.heap[D]? = some (.deferred (some [])) → Q .normal (marked a D) W)
    (hexit : ∀ a' W', Q .normal a' W' → Q (.exit id) a' W')
    (hret : ∀ (D : Nat) (W : World), w.heap.size ≤ D → Ir W → W.heap[D]? = some (.deferred (some [])) → Q .ret (marked a D) W)
    (hbad : ∀ (D : Nat) (chain : List PanicEntry) (s : σ) (W : World), w.heap.size ≤ D → bad s chain → I s W → W.heap[D]? = some (.deferred (some [])) → Q (.panic chain) (marked a D) W) :
    (Code.rangeFunc g ps assign body).wpIn Fence.wide 0 P Q a w := by
  refine wp_range hg eg hit hps I (fun c W' => (c = .exit id ∧ Ib W') ∨ (c = .ret ∧ Ir W')) (fun s W W' row hs hgr hr => hI s W W' row hs hgr hr) ?_ hPre h0 (fun s => roundFrame a ps (enc s) (qs s)) ?_ hbody
    (fun D s W h1 h2 h3 h4 => hafter D W h1 (.inl ⟨s, h2, h3⟩) h4) ?_ hbad
  · rintro c W W' row (⟨e, hs⟩ | ⟨e, hs⟩) hgr hr
    · exact .inl ⟨e, hIb W W' row hs hgr hr⟩
    · exact .inr ⟨e, hIr W W' row hs hgr hr⟩
  · intro l s W K hK
    refine wpIn_mono (hassign l s W) ?_
    intro e a' W' h
    cases e with
    | normal => obtain ⟨rfl, rfl⟩ := h; exact hK
    | ret => exact h.elim
    | exit id => exact h.elim
    | goto t => exact h.elim
    | panic ch => exact h.elim
    | outgrown => exact h.elim
  · rintro D c W h1 (⟨rfl, hs⟩ | ⟨rfl, hs⟩) h3
    · exact wpIn_exit (hexit _ _ (hafter D W h1 (.inr hs) h3))
    · exact wpIn_ret (hret D W h1 hs h3)

theorem boxed_putObj {W : World} {b D : Nat} {t : TypeId} {v : Value} (h : Boxed W b t v) (hne : b ≠ D) (o : Obj) : Boxed (W.putObj D o) b t v := (World.putObj_heap_other hne).trans h
theorem leave_mark {fn : Func} {R : Ending → World → Prop} {tmps : Array Value} {D : Nat} {w : World} {v : Value} (h : w.heap[D]? = some (.deferred (some [])))
    (hr : (results fn tmps).run P (w.putObj D (.deferred none)) = .ok v (w.putObj D (.deferred none))) (hR : R (.returned v) (w.putObj D (.deferred none))) :
    bodyPostM Fence.wide 0 P fn R .ret { tmps := tmps, defers := [{ target := .collected D, args := #[] }] } w :=
  ⟨by simp, .inl ⟨_, _, rfl, run_takeDeferred h, _, hr, hR⟩⟩
theorem leave_mark2 {fn : Func} {R : Ending → World → Prop} {tmps : Array Value} {D D2 : Nat} {w : World} {v : Value} (h2 : w.heap[D2]? = some (.deferred (some []))) (h : w.heap[D]? = some (.deferred (some []))) (hne : D ≠ D2)
    (hr : (results fn tmps).run P ((w.putObj D2 (.deferred none)).putObj D (.deferred none)) = .ok v ((w.putObj D2 (.deferred none)).putObj D (.deferred none))) (hR : R (.returned v) ((w.putObj D2 (.deferred none)).putObj D (.deferred none))) :
    bodyPostM Fence.wide 0 P fn R .ret { tmps := tmps, defers := [{ target := .collected D2, args := #[] }, { target := .collected D, args := #[] }] } w :=
  ⟨by simp, .inl ⟨_, _, rfl, run_takeDeferred h2, by simp, .inl ⟨_, _, rfl, run_takeDeferred ((World.putObj_heap_other hne).trans h), _, hr, hR⟩⟩⟩
theorem below_putObj {n : Nat} {a w : World} (h : Below n a w) {D : Nat} (hD : n ≤ D) (o : Obj) : Below n a (w.putObj D o) :=
  ⟨h.os, h.tape, h.output, by have := h.size; simpa using this, fun k hk => (World.putObj_heap_other (by omega)).trans (h.block k hk)⟩
theorem keeps_below {A B : World} (h : Below A.heap.size A B) : KeepsOthers A B := KeepsOthers.of_grownBy (Grows.grownBy h) (by intro j o e; cases e)
end Go.Proofs.YtlldoofclaokgaaGreat
