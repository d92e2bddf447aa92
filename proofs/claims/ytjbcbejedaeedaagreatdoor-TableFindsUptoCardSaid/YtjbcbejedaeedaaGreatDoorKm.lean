/- A range over a function, its end whichever way it is left, over any program. -/
import Derived.Test.YtjbcbejedaeedaaGreatDoorKc
import Derived.Test.YtjbcbejedaeedaaGreatDoorHeldIn
namespace Go.Proofs.YtjbcbejedaeedaaGreatDoor
open Go.RowKit
variable {P : Program}

theorem wp_rangeR2 {σ : Type} {g : Operand} {ps : Array Tmp} {assign body : Code} {Q : Exit → Act → World → Prop} {a : Act} {w : World} {gf : Nat} {lb : Array Value} (id : Nat)
    (hg : a.eval g = .func (.func gf) #[] lb) (eg : ∀ args w, (callFunc gf args).run P w = .ok (.enter gf args) w)
    {Keep Turn : World → World → Prop} {step : σ → World → Array Value → σ → Prop} {last : σ → Prop} {s0 : σ} {Pre : World → Prop} (hit : IterR P gf lb (w.heap.size + 2) Keep Turn step last s0 Pre)
    (hKt : ∀ A B C, Keep A B → Keep B C → Keep A C) (hKp : ∀ A o, Keep A (A.putObj (w.heap.size + 1) o))
    (hps : ∀ s A vs s', step s A vs s' → ps.size = vs.size) (I : σ → World → Prop) (Ib : World → Prop) (hI : BookR w.heap.size I) (hIb : BookR w.heap.size (fun (_ : Unit) => Ib)) (hIT : ∀ s A B, I s A → Turn A B → I s B) (hIbT : ∀ A B, Ib A → Turn A B → Ib B)
    (hT : ∀ A B, Turn A B → ∀ k, w.heap.size ≤ k → k < w.heap.size + 2 → k < A.heap.size → B.heap[k]? = A.heap[k]?) (hPre : ∀ s A, I s A → Pre A) (hPreX : ∀ A, Ib A → Pre A) (h0 : I s0 w)
    (hround : ∀ (l : Nat) (s : σ) (W : World) (vs : Array Value) (s' : σ), I s W → step s W vs s' → w.heap.size + 2 ≤ W.heap.size →
      assign.wpIn (Fence.wide.inRound l) 0 P (Exit.then (fun a' W' => (∀ k, w.heap.size ≤ k → k < w.heap.size + 2 → W'.heap[k]? = W.heap[k]?) ∧ Keep W W' ∧
        ∀ o, body.wpIn (Fence.wide.inRound l) 0 P (roundEndR w.heap.size Keep (W'.putObj (w.heap.size + 1) o) (I s') (fun c W => c = .exit id ∧ Ib W)) a' (W'.putObj (w.heap.size + 1) o)) (fun _ _ _ => False))
        { tmps := (ps.zip vs).foldl (fun t (p, v) => t.setIfInBounds p v) a.tmps, defers := [] } W)
    (hafter : ∀ (D : Nat) (W : World), w.heap.size ≤ D → ((∃ s, last s ∧ I s W) ∨ Ib W) → W.heap[D]? = some (.deferred (some [])) → Q .normal (marked a D) W)
    (hexit : ∀ a' W', Q .normal a' W' → Q (.exit id) a' W') :
    (Code.rangeFunc g ps assign body).wpIn Fence.wide 0 P Q a w := by
  refine wp_rangeR hg eg hit hKt hKp hps I (fun c W => c = .exit id ∧ Ib W) hI ⟨fun c A o h hs => ⟨h.1, hIb.1 () A o h.2 hs⟩, fun c A o h => ⟨h.1, hIb.2 () A o h.2⟩⟩ hIT (fun c A B h ht => ⟨h.1, hIbT A B h.2 ht⟩) hT hPre (fun c A h => hPreX A h.2) h0 hround
    (fun D s W h1 h2 h3 h4 => hafter D W h1 (.inl ⟨s, h2, h3⟩) h4) ?_
  rintro D c W h1 ⟨rfl, hs⟩ h3
  exact wpIn_exit (hexit _ _ (hafter D W h1 (.inr hs) h3))
/-- a function is left that bears four marks -/
theorem leave_mark4 {fn : Func} {R : Ending → World → Prop} {tmps : Array Value} {D1 D2 D3 D4 : Nat} {w : World} {v : Value} (h4 : w.heap[D4]? = some (.deferred (some []))) (h3 : w.heap[D3]? = some (.deferred (some []))) (h2 : w.heap[D2]? = some (.deferred (some []))) (h1 : w.heap[D1]? = some (.deferred (some [])))
    (n1 : D1 < D2) (n2 : D2 < D3) (n3 : D3 < D4)
    (hr : (results fn tmps).run P ((((w.putObj D4 (.deferred none)).putObj D3 (.deferred none)).putObj D2 (.deferred none)).putObj D1 (.deferred none)) = .ok v ((((w.putObj D4 (.deferred none)).putObj D3 (.deferred none)).putObj D2 (.deferred none)).putObj D1 (.deferred none)))
    (hR : R (.returned v) ((((w.putObj D4 (.deferred none)).putObj D3 (.deferred none)).putObj D2 (.deferred none)).putObj D1 (.deferred none))) :
    bodyPostM Fence.wide 0 P fn R .ret { tmps := tmps, defers := [{ target := .collected D4, args := #[] }, { target := .collected D3, args := #[] }, { target := .collected D2, args := #[] }, { target := .collected D1, args := #[] }] } w :=
  ⟨by simp, .inl ⟨_, _, rfl, run_takeDeferred h4, by simp, .inl ⟨_, _, rfl, run_takeDeferred ((World.putObj_heap_other (by omega)).trans h3), by simp, .inl ⟨_, _, rfl, run_takeDeferred ((World.putObj_heap_other (by omega)).trans ((World.putObj_heap_other (by omega)).trans h2)), by simp, .inl ⟨_, _, rfl, run_takeDeferred ((World.putObj_heap_other (by omega)).trans ((World.putObj_heap_other (by omega)).trans ((World.putObj_heap_other (by omega)).trans h1))), _, hr, hR⟩⟩⟩⟩⟩
/-- an operation taken first, looked up in the list -/
theorem wpAnyH_takeL {md : Region.Mode} {Q : Exit → Act → World → Prop} {S : World → Prop} {os : List Oper} {i : Nat} {oi : Oper} {v : Value} {fuel : Nat} {listed : Array Bool} {a : Act} {w : World} (hi : os[i]? = some oi)
    (hs : Region.noSelect os.toArray = true) (hf : Region.free md os.toArray listed i = true) (hr : (Region.ready md os.toArray listed).contains i = true)
    (hQ : ∀ c a w, Q (.panic c) (a.put oi.dst v) w → Q (.panic c) a w) (hy : YieldsIf P os.toArray S oi v a) (hS : S w)
    (h : wpAnyH P md os.toArray Q S fuel (listed.setIfInBounds i true) (a.put oi.dst v) w) : wpAnyH P md os.toArray Q S (fuel + 1) listed a w :=
  wpAnyH_take (by simpa using hi) hs hf hr hQ hy hS h
/-- just one may come up -/
theorem wpAnyH_oneL {md : Region.Mode} {Q : Exit → Act → World → Prop} {S : World → Prop} {os : List Oper} {i : Nat} {o : Oper} {fuel : Nat} {listed : Array Bool} {a : Act} {w : World} (hr : Region.ready md os.toArray listed = [i]) (ho : os[i]? = some o) (hw : Region.wanted o (yielded os.toArray a.tmps) = true)
    (h : ∀ K' : Act → World → Prop, (∀ a w, S w → wpAnyH P md os.toArray Q S fuel (listed.setIfInBounds i true) a w → K' a w) → Oper.wp P o a w K' Q) : wpAnyH P md os.toArray Q S (fuel + 1) listed a w := by
  refine wpAnyH_ready hr (by simp) (AllReadyH.cons (by simpa using ho) (fun K hK => ?_) AllReadyH.nil)
  rw [if_pos hw]
  exact h K (fun a w h1 h2 => hK.out a w h1 (fun _ => h2))
end Go.Proofs.YtjbcbejedaeedaaGreatDoor
