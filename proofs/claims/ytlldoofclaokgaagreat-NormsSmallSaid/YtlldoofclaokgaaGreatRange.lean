/- A range over a function, over any program: a law of my own: the function that is ranged over hands out its rounds by a state; it returns, is stopped by the loop's body, or panics. At the wide fence. -/
import Derived.Test.YtlldoofclaokgaaGreatBase
import Derived.RangeFuncNested
import Derived.RangeFuncBound
import Derived.RangeFuncCalls
import Derived.RangeFuncLeaves
import Derived.RangeFuncFrom
namespace Go.Proofs.YtlldoofclaokgaaGreat
open Go.RowKit

/-- of what was there at most the blocks of S have turned -/
structure Only (S : Nat → Prop) (w w' : World) : Prop where
  os : w'.os = w.os
  tape : w'.tape = w.tape
  output : w'.output = w.output
  size : w.heap.size ≤ w'.heap.size
  block : ∀ k, k < w.heap.size → ¬ S k → w'.heap[k]? = w.heap[k]?
theorem Only.refl (S : Nat → Prop) (w : World) : Only S w w := ⟨rfl, rfl, rfl, Nat.le_refl _, fun _ _ _ => rfl⟩
theorem Only.trans {S : Nat → Prop} {a b c : World} (h : Only S a b) (k : Only S b c) : Only S a c :=
  ⟨k.os.trans h.os, k.tape.trans h.tape, k.output.trans h.output, Nat.le_trans h.size k.size, fun i hi hs => (k.block i (Nat.lt_of_lt_of_le hi h.size) hs).trans (h.block i hi hs)⟩
theorem Only.alloc {S : Nat → Prop} {a w : World} (h : Only S a w) (o : Obj) : Only S a (w.alloc o) :=
  h.trans ⟨rfl, rfl, rfl, by simp, fun k hk _ => Below.heap_alloc _ _ _ hk⟩
theorem Only.drew {S : Nat → Prop} {a w : World} (h : Only S a w) : Only S a w.drew := ⟨h.os, h.tape, h.output, h.size, h.block⟩
theorem Only.setCell {S : Nat → Prop} {a w : World} (h : Only S a w) {p : Addr} (hp : S p.block) (v : Value) : Only S a (w.setCell p v) :=
  h.trans ⟨rfl, rfl, rfl, by simp [World.setCell], fun k _ hk => Below.heap_setCell _ _ _ _ (fun e => hk (e ▸ hp))⟩
theorem Only.below {S : Nat → Prop} {a b c : World} (h : Only S a b) (k : Below b.heap.size b c) : Only S a c :=
  h.trans ⟨k.os, k.tape, k.output, k.size, fun i hi _ => k.block i hi⟩
/-- nothing that was there has turned -/
def Grows (A B : World) : Prop := Below A.heap.size A B
theorem Grows.grownBy {A B : World} (h : Grows A B) : A.grownBy B none := ⟨h.os, h.tape, h.output, h.size, fun k hk _ => h.block k hk⟩
/-- A property that abides new blocks. -/
def Stays (J : World → Prop) : Prop := ∀ A B, J A → Grows A B → J B

/-- WHAT A FUNCTION THAT IS RANGED OVER DOES: from state s0 on it asks for a round in each state that it can, with that state's values, and goes to the next; at the end it returns in a last state, or panics; where the body says no more it returns. -/
def IterC {σ : Type} (P : Program) (g : Nat) (lb : Array Value) (enc : σ → Array Value) (nxt : σ → σ) (can : σ → Prop) (last : σ → Prop) (bad : σ → List PanicEntry → Prop) (s0 : σ) (Pre : World → Prop) : Prop :=
  ∀ (l : Nat) (J : σ → World → Prop) (Jx : World → Prop) (W : World), (∀ s, Stays (J s)) → Stays Jx → (∀ s A, J s A → Pre A) →
    (∀ s A, J s A → can s → YieldAt Fence.wide 0 P l (enc s) A fun e B => (e = .returned (.bool true) ∧ J (nxt s) B) ∨ (e = .returned (.bool false) ∧ Jx B)) →
    J s0 W →
    Calls P g (#[.func (.yield l) #[] #[]] ++ lb) W fun e B =>
      ((∃ v, e = .returned v) ∧ ∃ s, last s ∧ J s B) ∨ ((∃ v, e = .returned v) ∧ Jx B) ∨ (∃ chain s, e = .panicked chain ∧ bad s chain ∧ J s B)

/-- how a round's body may be left -/
def roundEnd (W : World) (Go' : World → Prop) (Out : Code → World → Prop) : Exit → Act → World → Prop
  | .normal, _, B => KeepsOthers W B ∧ Go' B
  | .ret, _, B => KeepsOthers W B ∧ Out .ret B
  | .exit id, _, B => KeepsOthers W B ∧ Out (.exit id) B
  | .goto t, _, B => KeepsOthers W B ∧ Out (.goto t) B
  | .panic _, _, _ => False
  | .outgrown, _, _ => False

variable {P : Program}
/-- the loop's two blocks of book-keeping -/
structure Books (D : Nat) (r : Loop) (W : World) : Prop where
  loop : W.heap[D + 1]? = some (.loop r)
  defs : W.heap[D]? = some (.deferred (some []))
theorem Books.grow {D : Nat} {r : Loop} {A B : World} (h : Books D r A) (hg : Grows A B) : Books D r B :=
  ⟨by rw [hg.block _ (Array.getElem?_eq_some_iff.1 h.loop).1]; exact h.loop, by rw [hg.block _ (Array.getElem?_eq_some_iff.1 h.defs).1]; exact h.defs⟩
theorem Books.others {D : Nat} {r : Loop} {A B : World} (h : Books D r A) (hg : KeepsOthers A B) : Books D r B := ⟨hg.same _ _ h.loop rfl, hg.same _ _ h.defs rfl⟩
theorem Books.put {D : Nat} {r : Loop} {A : World} (h : Books D r A) (r' : Loop) : Books D r' (A.putObj (D + 1) (.loop r')) :=
  ⟨World.putObj_heap_same (Array.getElem?_eq_some_iff.1 h.loop).1, (World.putObj_heap_other (by omega)).trans h.defs⟩
theorem OwnFrom.stays {σ : Type} {B : Nat} {I : σ → World → Prop} (h : OwnFrom B I) (s : σ) : Stays (I s) := fun X Y hx hg => h s X Y none hx hg.grownBy (fun r e => by cases e)

theorem wp_range {σ : Type} {g : Operand} {ps : Array Tmp} {assign body : Code} {Q : Exit → Act → World → Prop} {a : Act} {w : World} {gf : Nat} {lb : Array Value}
    (hg : a.eval g = .func (.func gf) #[] lb) (eg : ∀ args w, (callFunc gf args).run P w = .ok (.enter gf args) w)
    {enc : σ → Array Value} {nxt : σ → σ} {can last : σ → Prop} {bad : σ → List PanicEntry → Prop} {s0 : σ} {Pre : World → Prop} (hit : IterC P gf lb enc nxt can last bad s0 Pre)
    (hps : ∀ s, (enc s).size = ps.size) (I : σ → World → Prop) (Ix : Code → World → Prop) (hI : OwnFrom w.heap.size I) (hIx : OwnFrom w.heap.size Ix) (hPre : ∀ s A, I s A → Pre A) (h0 : I s0 w) (a₁ : σ → Act)
    (hassign : ∀ (l : Nat) (s : σ) (W : World) (K : Act → World → Prop), K (a₁ s) W →
      assign.wpIn (Fence.wide.inRound l) 0 P (Exit.then K (fun _ _ _ => False)) { tmps := (ps.zip (enc s)).foldl (fun t (p, v) => t.setIfInBounds p v) a.tmps, defers := [] } W)
    (hbody : ∀ (l : Nat) (s : σ) (W : World), can s → I s W → body.wpIn (Fence.wide.inRound l) 0 P (roundEnd W (I (nxt s)) Ix) (a₁ s) W)
    (hdone : ∀ (D : Nat) (s : σ) (W : World), w.heap.size ≤ D → last s → I s W → W.heap[D]? = some (.deferred (some [])) → Q .normal { a with defers := { target := .collected D, args := #[] } :: a.defers } W)
    (hstop : ∀ (D : Nat) (c : Code) (W : World), w.heap.size ≤ D → Ix c W → W.heap[D]? = some (.deferred (some [])) → c.wpIn Fence.wide 0 P Q { a with defers := { target := .collected D, args := #[] } :: a.defers } W)
    (hbad : ∀ (D : Nat) (chain : List PanicEntry) (s : σ) (W : World), w.heap.size ≤ D → bad s chain → I s W → W.heap[D]? = some (.deferred (some [])) → Q (.panic chain) { a with defers := { target := .collected D, args := #[] } :: a.defers } W) :
    (Code.rangeFunc g ps assign body).wpIn Fence.wide 0 P Q a w := by
  refine wpIn_rangeFunc ?_
  intro fn _
  let D := w.heap.size
  let bk : LoopState → Option Code → Loop := fun st pe => { state := st, pending := pe, fn, tmps := a.tmps, params := ps, assign, body, defers := w.heap.size }
  have start : Books w.heap.size (bk .ready none) ((w.alloc (.deferred (some []))).alloc (.loop (bk .ready none))) := by
    refine ⟨?_, ?_⟩
    · have := World.alloc_heap_new (w.alloc (.deferred (some []))) (.loop (bk .ready none)); rwa [World.size_alloc] at this
    · exact (Below.heap_alloc _ _ _ (by simp)).trans (World.alloc_heap_new w _)
  generalize hW1 : (w.alloc (.deferred (some []))).alloc (.loop (bk .ready none)) = W1 at start
  have hI1 : I s0 W1 := by rw [← hW1]; exact hI.alloc _ (hI.alloc _ h0)
  refine ⟨w.heap.size + 1, [{ target := .collected w.heap.size, args := #[] }], W1, { target := .fn (.func gf) lb, args := #[.func (.yield (w.heap.size + 1)) #[] #[]] }, W1, gf,
    #[.func (.yield (w.heap.size + 1)) #[] #[]] ++ lb, W1, ?_, ?_, ?_, ?_, fun h => (by cases h), ?_⟩
  · rw [← hW1]; exact run_enterLoop_outer _ _ _ _ _
  · simp only [resolve, hg]
    simp [go_sem]
  · intro f' _; trivial
  · simp [invoke, go_sem, eg]
  refine callsIn_wide.2 ((hit (w.heap.size + 1) (fun s W => I s W ∧ Books w.heap.size (bk .ready none) W) (fun W => ∃ c, Ix c W ∧ Books w.heap.size (bk .done (some c)) W) W1
    (fun s A B hA hAB => ⟨OwnFrom.stays hI s A B hA.1 hAB, hA.2.grow hAB⟩)
    (fun A B ⟨c, hc, hb⟩ hAB => ⟨c, OwnFrom.stays hIx c A B hc hAB, hb.grow hAB⟩)
    (fun s A hA => hPre s A hA.1) ?_ ⟨hI1, start⟩).mono ?_)
  · -- one round
    rintro s A ⟨hi, hbk⟩ hcan
    have hy := run_yield (P := P) (args := enc s) hbk.loop (hps s)
    refine ⟨fn, _, assign, body, hy, roundIn_of_wpIn trivial (hassign _ s A _ ⟨_, run_beginRound hbk.loop rfl, ?_⟩)⟩
    have hb2 := hbk.put { bk .ready none with state := .busy }
    have hi2 : I s (A.putObj (w.heap.size + 1) (.loop { bk .ready none with state := .busy })) := hI.putObj _ hi (by omega) hbk.loop rfl
    refine wpIn_mono (hbody _ s _ hcan hi2) ?_
    intro e a3 W3 hp
    have out : ∀ (c : Code), KeepsOthers (A.putObj (w.heap.size + 1) (.loop { bk .ready none with state := .busy })) W3 → Ix c W3 →
        ∃ v w', (Instr.endRound (w.heap.size + 1) (some c)).run P W3 = .ok v w' ∧ ((Ending.returned v = .returned (.bool true) ∧ (I (nxt s) w' ∧ Books w.heap.size (bk .ready none) w')) ∨ (Ending.returned v = .returned (.bool false) ∧ ∃ c, Ix c w' ∧ Books w.heap.size (bk .done (some c)) w')) := by
      intro c hk hx
      have hb3 := hb2.others hk
      exact ⟨_, _, run_endRound (some c) hb3.loop, .inr ⟨rfl, c, hIx.putObj _ hx (by omega) hb3.loop rfl, hb3.put _⟩⟩
    cases e with
    | normal =>
      obtain ⟨hk, hgo⟩ := hp
      have hb3 := hb2.others hk
      exact ⟨_, _, run_endRound none hb3.loop, .inl ⟨rfl, hI.putObj _ hgo (by omega) hb3.loop rfl, hb3.put _⟩⟩
    | ret => exact out _ hp.1 hp.2
    | exit id => exact out _ hp.1 hp.2
    | goto t => exact out _ hp.1 hp.2
    | panic ch => exact hp.elim
    | outgrown => exact hp.elim
  · -- behind it
    rintro e W2 (⟨⟨v, rfl⟩, s, hl, hi, hb⟩ | ⟨⟨v, rfl⟩, c, hx, hb⟩ | ⟨chain, s, rfl, hbd, hi, hb⟩)
    · exact ⟨none, _, run_endLoop hb.loop (by intro h; cases h), hdone _ s _ (Nat.le_refl _) hl (hI.putObj _ hi (by omega) hb.loop rfl) ((World.putObj_heap_other (by omega)).trans hb.defs)⟩
    · exact ⟨some c, _, run_endLoop hb.loop (by intro h; cases h), hstop _ c _ (Nat.le_refl _) (hIx.putObj _ hx (by omega) hb.loop rfl) ((World.putObj_heap_other (by omega)).trans hb.defs)⟩
    · exact hbad _ chain s _ (Nat.le_refl _) hbd hi hb.defs
end Go.Proofs.YtlldoofclaokgaaGreat
