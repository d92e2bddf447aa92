/- A range over a function whose loop variable lies in memory of its own, over any program. -/
import Derived.Test.YtlldoofclaokgaaGreatBase
namespace Go.Proofs.YtlldoofclaokgaaGreat
open Go.RowKit
variable {P : Program}
/-- every loop's and every mark's book-keeping is as it was -/
def KeepsBooks (W W' : World) : Prop := W.heap.size ≤ W'.heap.size ∧ ∀ (k : Nat) (o : Obj), W.heap[k]? = some o → ((∃ r, o = .loop r) ∨ ∃ ds, o = .deferred ds) → W'.heap[k]? = some o
theorem KeepsBooks.of {W W' : World} (h : KeepsOthers W W') : KeepsBooks W W' := ⟨h.size, fun k o hk ho => h.same k o hk (by rcases ho with ⟨r, rfl⟩ | ⟨ds, rfl⟩ <;> rfl)⟩
theorem KeepsBooks.trans {A B C : World} (h : KeepsBooks A B) (k : KeepsBooks B C) : KeepsBooks A C := ⟨Nat.le_trans h.1 k.1, fun i o hi ho => k.2 i o (h.2 i o hi ho) ho⟩
theorem KeepsBooks.below {A B : World} (h : Below A.heap.size A B) : KeepsBooks A B := .of (keeps_below h)
theorem KeepsBooks.grown {A B : World} {row : Option Nat} (h : A.grownBy B row) (hr : ∀ k o, row = some k → A.heap[k]? = some o → (∀ r, o ≠ .loop r) ∧ ∀ ds, o ≠ .deferred ds) : KeepsBooks A B :=
  ⟨h.size, fun k o hk ho => (h.block k (Array.getElem?_eq_some_iff.1 hk).1 (fun e => by
    have := hr k o e.symm hk
    rcases ho with ⟨r, rfl⟩ | ⟨ds, rfl⟩
    · exact this.1 r rfl
    · exact this.2 ds rfl)).trans hk⟩
/-- how a round's body may be left -/
def roundEndB (W : World) (Go' : World → Prop) (Out : Code → World → Prop) : Exit → Act → World → Prop
  | .normal, _, B => KeepsBooks W B ∧ Go' B
  | .ret, _, B => KeepsBooks W B ∧ Out .ret B
  | .exit id, _, B => KeepsBooks W B ∧ Out (.exit id) B
  | .goto t, _, B => KeepsBooks W B ∧ Out (.goto t) B
  | .panic _, _, _ => False
  | .outgrown, _, _ => False
theorem Books.kept {D : Nat} {r : Loop} {A B : World} (h : Books D r A) (hg : KeepsBooks A B) : Books D r B := ⟨hg.2 _ _ h.loop (.inl ⟨_, rfl⟩), hg.2 _ _ h.defs (.inr ⟨_, rfl⟩)⟩
theorem wp_rangeA {σ : Type} {g : Operand} {ps : Array Tmp} {assign body : Code} {Q : Exit → Act → World → Prop} {a : Act} {w : World} {gf : Nat} {lb : Array Value}
    (hg : a.eval g = .func (.func gf) #[] lb) (eg : ∀ args w, (callFunc gf args).run P w = .ok (.enter gf args) w)
    {enc : σ → Array Value} {nxt : σ → σ} {can last : σ → Prop} {bad : σ → List PanicEntry → Prop} {s0 : σ} {Pre : World → Prop} (hit : IterC P gf lb enc nxt can last bad s0 Pre)
    (hps : ∀ s, (enc s).size = ps.size) (I : σ → World → Prop) (Ix : Code → World → Prop) (hI : OwnFrom w.heap.size I) (hIx : OwnFrom w.heap.size Ix) (hPre : ∀ s A, I s A → Pre A) (h0 : I s0 w) (a₁ : σ → Nat → Act) (oo : σ → Obj)
    (hassign : ∀ (l : Nat) (s : σ) (W : World) (K : Act → World → Prop), K (a₁ s W.heap.size) (W.alloc (oo s)) →
      assign.wpIn (Fence.wide.inRound l) 0 P (Exit.then K (fun _ _ _ => False)) { tmps := (ps.zip (enc s)).foldl (fun t (p, v) => t.setIfInBounds p v) a.tmps, defers := [] } W)
    (hbody : ∀ (l : Nat) (s : σ) (W : World) (b : Nat), can s → I s W → w.heap.size ≤ b → W.heap[b]? = some (oo s) → body.wpIn (Fence.wide.inRound l) 0 P (roundEndB W (I (nxt s)) Ix) (a₁ s b) W)
    (hdone : ∀ (D : Nat) (s : σ) (W : World), w.heap.size ≤ D → last s → I s W → W.heap[D]? = some (.deferred (some [])) → Q .normal { a with defers := { target := .collected D, args := #[] } :: a.defers } W)
    (hstop : ∀ (D : Nat) (c : Code) (W : World), w.heap.size ≤ D → Ix c W → W.heap[D]? = some (.deferred (some [])) → c.wpIn Fence.wide 0 P Q { a with defers := { target := .collected D, args := #[] } :: a.defers } W)
    (hbad : ∀ (D : Nat) (chain : List PanicEntry) (s : σ) (W : World), w.heap.size ≤ D → bad s chain → I s W → W.heap[D]? = some (.deferred (some [])) → Q (.panic chain) { a with defers := { target := .collected D, args := #[] } :: a.defers } W) :
    (Code.rangeFunc g ps assign body).wpIn Fence.wide 0 P Q a w := by
  refine wpIn_rangeFunc ?_
  intro fn _
  let D := w.heap.size
  let bk : LoopState → Option Code → Loop := fun st pe => { state := st, pending := pe, fn, tmps := a.tmps, params := ps, assign, body, defers := w.heap.size }
  have start : Books w.heap.size (bk .ready none) ((w.alloc (.deferred (some []))).alloc (.loop (bk .ready none))) := by
    refine ⟨?_, ?_⟩
    · have := World.alloc_heap_new (w.alloc (.deferred (some []))) (.loop (bk .ready none)); rwa [World.size_alloc] at this
    · exact (Below.heap_alloc _ _ _ (by simp)).trans (World.alloc_heap_new w _)
  generalize hW1 : (w.alloc (.deferred (some []))).alloc (.loop (bk .ready none)) = W1 at start
  have hI1 : I s0 W1 := by rw [← hW1]; exact hI.alloc _ (hI.alloc _ h0)
  refine ⟨w.heap.size + 1, [{ target := .collected w.heap.size, args := #[] }], W1, { target := .fn (.func gf) lb, args := #[.func (.yield (w.heap.size + 1)) #[] #[]] }, W1, gf,
    #[.func (.yield (w.heap.size + 1)) #[] #[]] ++ lb, W1, ?_, ?_, ?_, ?_, fun h => (by cases h), ?_⟩
  · rw [← hW1]; exact run_enterLoop_outer _ _ _ _ _
  · simp only [resolve, hg]
    simp [go_sem]
  · intro f' _; trivial
  · simp [invoke, go_sem, eg]
  refine callsIn_wide.2 ((hit (w.heap.size + 1) (fun s W => I s W ∧ Books w.heap.size (bk .ready none) W) (fun W => ∃ c, Ix c W ∧ Books w.heap.size (bk .done (some c)) W) W1
    (fun s A B hA hAB => ⟨OwnFrom.stays hI s A B hA.1 hAB, hA.2.grow hAB⟩)
    (fun A B ⟨c, hc, hb⟩ hAB => ⟨c, OwnFrom.stays hIx c A B hc hAB, hb.grow hAB⟩)
    (fun s A hA => hPre s A hA.1) ?_ ⟨hI1, start⟩).mono ?_)
  · -- one round
    rintro s A ⟨hi, hbk⟩ hcan
    have hy := run_yield (P := P) (args := enc s) hbk.loop (hps s)
    have hbkA : Books w.heap.size (bk .ready none) (A.alloc (oo s)) := hbk.grow ⟨rfl, rfl, rfl, by simp, fun k hk => Below.heap_alloc _ _ _ hk⟩
    have hiA : I s (A.alloc (oo s)) := hI.alloc _ hi
    have hAl : w.heap.size + 1 < A.heap.size := (Array.getElem?_eq_some_iff.1 hbk.loop).1
    refine ⟨fn, _, assign, body, hy, roundIn_of_wpIn trivial (hassign _ s A _ ⟨_, run_beginRound hbkA.loop rfl, ?_⟩)⟩
    have hb2 := hbkA.put { bk .ready none with state := .busy }
    have hi2 : I s ((A.alloc (oo s)).putObj (w.heap.size + 1) (.loop { bk .ready none with state := .busy })) := hI.putObj _ hiA (by omega) hbkA.loop rfl
    have hob : ((A.alloc (oo s)).putObj (w.heap.size + 1) (.loop { bk .ready none with state := .busy })).heap[A.heap.size]? = some (oo s) := (World.putObj_heap_other (by omega)).trans (World.alloc_heap_new _ _)
    refine wpIn_mono (hbody _ s _ A.heap.size hcan hi2 (by omega) hob) ?_
    intro e a3 W3 hp
    have out : ∀ (c : Code), KeepsBooks ((A.alloc (oo s)).putObj (w.heap.size + 1) (.loop { bk .ready none with state := .busy })) W3 → Ix c W3 →
        ∃ v w', (Instr.endRound (w.heap.size + 1) (some c)).run P W3 = .ok v w' ∧ ((Ending.returned v = .returned (.bool true) ∧ (I (nxt s) w' ∧ Books w.heap.size (bk .ready none) w')) ∨ (Ending.returned v = .returned (.bool false) ∧ ∃ c, Ix c w' ∧ Books w.heap.size (bk .done (some c)) w')) := by
      intro c hk hx
      have hb3 := hb2.kept hk
      exact ⟨_, _, run_endRound (some c) hb3.loop, .inr ⟨rfl, c, hIx.putObj _ hx (by omega) hb3.loop rfl, hb3.put _⟩⟩
    cases e with
    | normal =>
      obtain ⟨hk, hgo⟩ := hp
      have hb3 := hb2.kept hk
      exact ⟨_, _, run_endRound none hb3.loop, .inl ⟨rfl, hI.putObj _ hgo (by omega) hb3.loop rfl, hb3.put _⟩⟩
    | ret => exact out _ hp.1 hp.2
    | exit id => exact out _ hp.1 hp.2
    | goto t => exact out _ hp.1 hp.2
    | panic ch => exact hp.elim
    | outgrown => exact hp.elim
  · -- behind it
    rintro e W2 (⟨⟨v, rfl⟩, s, hl, hi, hb⟩ | ⟨⟨v, rfl⟩, c, hx, hb⟩ | ⟨chain, s, rfl, hbd, hi, hb⟩)
    · exact ⟨none, _, run_endLoop hb.loop (by intro h; cases h), hdone _ s _ (Nat.le_refl _) hl (hI.putObj _ hi (by omega) hb.loop rfl) ((World.putObj_heap_other (by omega)).trans hb.defs)⟩
    · exact ⟨some c, _, run_endLoop hb.loop (by intro h; cases h), hstop _ c _ (Nat.le_refl _) (hIx.putObj _ hx (by omega) hb.loop rfl) ((World.putObj_heap_other (by omega)).trans hb.defs)⟩
    · exact hbad _ chain s _ (Nat.le_refl _) hbd hi hb.defs

theorem wp_rangeA2 {σ : Type} {g : Operand} {ps : Array Tmp} {assign body : Code} {Q : Exit → Act → World → Prop} {a : Act} {w : World} {gf : Nat} {lb : Array Value} (id : Nat)
    (hg : a.eval g = .func (.func gf) #[] lb) (eg : ∀ args w, (callFunc gf args).run P w = .ok (.enter gf args) w)
    {enc : σ → Array Value} {nxt : σ → σ} {can last : σ → Prop} {bad : σ → List PanicEntry → Prop} {s0 : σ} {Pre : World → Prop} (hit : IterC P gf lb enc nxt can last bad s0 Pre)
    (hps : ∀ s, (enc s).size = ps.size) (I : σ → World → Prop) (Ib Ir : World → Prop) (hI : ∀ s, StayFrom w.heap.size (I s)) (hIb : StayFrom w.heap.size Ib) (hIr : StayFrom w.heap.size Ir) (hPre : ∀ s A, I s A → Pre A) (h0 : I s0 w) (qs : σ → Nat → List (Nat × Value)) (oo : σ → Obj)
    (hassign : ∀ (l : Nat) (s : σ) (W : World), assign.wpIn (Fence.wide.inRound l) 0 P (Exit.then (fun a' W' => roundFrame a ps (enc s) (qs s W.heap.size) = a' ∧ W.alloc (oo s) = W') (fun _ _ _ => False)) { tmps := (ps.zip (enc s)).foldl (fun t (p, v) => t.setIfInBounds p v) a.tmps, defers := [] } W)
    (hbody : ∀ (l : Nat) (s : σ) (W : World) (b : Nat), can s → I s W → w.heap.size ≤ b → W.heap[b]? = some (oo s) → body.wpIn (Fence.wide.inRound l) 0 P (roundEndB W (I (nxt s)) (fun c W' => (c = .exit id ∧ Ib W') ∨ (c = .ret ∧ Ir W'))) (roundFrame a ps (enc s) (qs s b)) W)
    (hafter : ∀ (D : Nat) (W : World), w.heap.size ≤ D → ((∃ s, last s ∧ I s W) ∨ Ib W) → W.heap[D]? = some (.deferred (some [])) → Q .normal (marked a D) W)
    (hexit : ∀ a' W', Q .normal a' W' → Q (.exit id) a' W')
    (hret : ∀ (D : Nat) (W : World), w.heap.size ≤ D → Ir W → W.heap[D]? = some (.deferred (some [])) → Q .ret (marked a D) W)
    (hbad : ∀ (D : Nat) (chain : List PanicEntry) (s : σ) (W : World), w.heap.size ≤ D → bad s chain → I s W → W.heap[D]? = some (.deferred (some [])) → Q (.panic chain) (marked a D) W) :
    (Code.rangeFunc g ps assign body).wpIn Fence.wide 0 P Q a w := by
  refine wp_rangeA hg eg hit hps I (fun c W' => (c = .exit id ∧ Ib W') ∨ (c = .ret ∧ Ir W')) (fun s W W' row hs hgr hr => hI s W W' row hs hgr hr) ?_ hPre h0 (fun s b => roundFrame a ps (enc s) (qs s b)) oo ?_ hbody
    (fun D s W h1 h2 h3 h4 => hafter D W h1 (.inl ⟨s, h2, h3⟩) h4) ?_ hbad
  · rintro c W W' row (⟨e, hs⟩ | ⟨e, hs⟩) hgr hr
    · exact .inl ⟨e, hIb W W' row hs hgr hr⟩
    · exact .inr ⟨e, hIr W W' row hs hgr hr⟩
  · intro l s W K hK
    refine wpIn_mono (hassign l s W) ?_
    intro e a' W' h
    cases e with
    | normal => obtain ⟨rfl, rfl⟩ := h; exact hK
    | ret => exact h.elim
    | exit id => exact h.elim
    | goto t => exact h.elim
    | panic ch => exact h.elim
    | outgrown => exact h.elim
  · rintro D c W h1 (⟨rfl, hs⟩ | ⟨rfl, hs⟩) h3
    · exact wpIn_exit (hexit _ _ (hafter D W h1 (.inr hs) h3))
    · exact wpIn_ret (hret D W h1 hs h3)
end Go.Proofs.YtlldoofclaokgaaGreat
