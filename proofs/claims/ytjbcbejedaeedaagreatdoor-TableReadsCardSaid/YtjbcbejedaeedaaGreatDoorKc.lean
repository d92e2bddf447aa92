/- A region that draws its order and holds loads beside calls, one of them of yield, in the wide fence; a range over a function that hands each round values of a relation's choice, over any program. -/
import Derived.Test.YtjbcbejedaeedaaGreatDoorBase
import Derived.Deep.RegionHeld
import Derived.OrdersHeld
import Derived.OrdersIn
namespace Go.Proofs.YtjbcbejedaeedaaGreatDoor
open Go.RowKit
variable {P : Program}

/-! A region with loads that are taken first, in the wide fence. -/
section
variable {ops : Array Oper} {Q : Exit → Act → World → Prop} {md : Region.Mode} {S : World → Prop}
theorem yieldsIf_wide {i : Nat} {o : Oper} {v : Value} {a : Act} (hi : ops[i]? = some o) (hy : YieldsIf P ops S o v a)
    {K : Act → World → Prop} {w : World} (hS : S w) (h : K (a.put o.dst v) w) : wpOpIn Fence.wide 0 P ops Q i K a w := by
  unfold Go.wpOpIn
  simp only [hi]
  have hab : ∀ f, o.about P w a.eval = some f → Fence.wide.fn f := fun f _ => trivial
  rcases hy with ⟨hw, hv⟩ | ⟨hw, rfl⟩
  · simp only [hw, if_true, Oper.wpIn, show Fence.wide.round = none from rfl, Oper.semAt_none, hv w hS, Oper.uponIn]; exact ⟨hab, h⟩
  · simp only [hw, Bool.false_eq_true, if_false]; exact ⟨hab, h⟩
theorem wide_putIf {j : Nat} {oi oj : Oper} {v : Value} (hj : ops[j]? = some oj) (hap : oi.apart ops oj = true)
    (hsi : ∀ cs b, oi.op ≠ .select cs b) (hsj : ∀ cs b, oj.op ≠ .select cs b)
    (hQ : ∀ c a w, Q (.panic c) (a.put oi.dst v) w → Q (.panic c) a w) {K : Act → World → Prop} {a : Act} {w : World}
    (hy : YieldsIf P ops S oi v a) (h : wpOpIn Fence.wide 0 P ops Q j K (a.put oi.dst v) w) :
    wpOpIn Fence.wide 0 P ops Q j (fun a' w' => YieldsIf P ops S oi v a' ∧ K (a'.put oi.dst v) w') a w := by
  obtain ⟨h1, h2, h3⟩ := Oper.apart_spec hap
  have keep : ∀ (a : Act), YieldsIf P ops S oi v a → ∀ u, YieldsIf P ops S oi v (a.put oj.dst u) := fun a hy u =>
    hy.of_same (execOp_put oi hsi a oj.dst u h3) (wanted_put oi a oj.dst u h3)
  have keepD : ∀ d, YieldsIf P ops S oi v { a with defers := d :: a.defers } := fun d => hy.of_same rfl rfl
  unfold wpOpIn at *
  simp only [hj] at *
  rw [wanted_put oj a oi.dst v h1] at h
  split
  · rename_i hw
    simp only [hw, if_true] at h
    unfold Oper.wpIn at *
    refine ⟨fun f _ => trivial, ?_⟩
    have h := h.2
    rw [show Fence.wide.round = none from rfl, Oper.semAt_none, execOp_put oj hsj a oi.dst v h1] at h
    rw [show Fence.wide.round = none from rfl, Oper.semAt_none]
    generalize (execOp a.eval oj).run P w = r at *
    cases r with
    | ok x w' =>
      cases x <;> simp only [Oper.uponIn] at h ⊢
      case value u => exact ⟨keep a hy u, by rw [← Act.put_comm a v u h2]; exact h⟩
      case skip => exact ⟨keep a hy _, by rw [← Act.put_comm a v undef h2]; exact h⟩
      case defer d =>
        refine ⟨keep _ (keepD d) _, ?_⟩
        rw [← Act.put_comm _ v undef h2, ← Act.put_defers]
        exact h
      case enter f args =>
        refine ⟨h.1, CallsIn.mono h.2 fun e w'' he => ?_⟩
        cases e with
        | returned u => exact ⟨keep a hy u, by rw [← Act.put_comm a v u h2]; exact he⟩
        | panicked c => exact hQ _ _ _ he
        | outgrown => exact he
      case row row args => exact ⟨h.1, RowsIn.mono h.2 fun u w'' he => ⟨keep a hy u, by rw [← Act.put_comm a v u h2]; exact he⟩⟩
      case round l f tmps assign body =>
        refine ⟨h.1, RoundIn.mono h.2 fun e w'' he => ?_⟩
        cases e with
        | returned u => exact ⟨keep a hy u, by rw [← Act.put_comm a v u h2]; exact he⟩
        | panicked c => exact hQ _ _ _ he
        | outgrown => exact he
    | halt x w' =>
      cases x <;> simp only [Oper.uponIn] at h ⊢
      case panic u => exact hQ _ _ _ h
  · rename_i hw
    simp only [hw] at h
    exact ⟨fun f _ => trivial, keep a hy _, by rw [← Act.put_comm a v undef h2]; exact h.2⟩
/-- whatever order is picked; S holds behind each operation -/
def wpHeld (P : Program) (md : Region.Mode) (ops : Array Oper) (Q : Exit → Act → World → Prop) (S : World → Prop) : Nat → Array Bool → Act → World → Prop
  | 0, listed, a, w => Region.ready md ops listed = [] ∧ Q .normal a w
  | fuel + 1, listed, a, w =>
    (Region.ready md ops listed = [] → Q .normal a w) ∧
    ∀ i ∈ Region.ready md ops listed, wpOpIn Fence.wide 0 P ops Q i (fun a' w' => S w' ∧ wpHeld P md ops Q S fuel (listed.setIfInBounds i true) a' w') a w
theorem wpAny_held : ∀ (fuel : Nat) (listed : Array Bool) (a : Act) (w : World), wpHeld P md ops Q S fuel listed a w → wpAnyIn Fence.wide 0 P md ops Q fuel listed a w
  | 0, _, _, _, h => h
  | fuel + 1, _, _, _, h => ⟨h.1, fun i hi => wpOpIn_mono (fun a' w' h' => wpAny_held fuel _ a' w' h'.2) (h.2 i hi)⟩
theorem wpHeld_first {i : Nat} {oi : Oper} {v : Value} (hi : ops[i]? = some oi) (hsel : ∀ (j : Nat) (o : Oper) cs b, ops[j]? = some o → o.op ≠ .select cs b)
    (hQ : ∀ c a w, Q (.panic c) (a.put oi.dst v) w → Q (.panic c) a w) :
    ∀ (fuel : Nat) (listed : Array Bool) (a : Act) (w : World),
      (∀ j oj, ops[j]? = some oj → j ≠ i → listed.getD j true = false → (∀ e ∈ oj.after, Region.binds md e = true → e.on ≠ i) → oi.apart ops oj = true) →
      i ∈ Region.ready md ops listed → YieldsIf P ops S oi v a → S w →
      wpHeld P md ops Q S fuel (listed.setIfInBounds i true) (a.put oi.dst v) w → wpHeld P md ops Q S (fuel + 1) listed a w := by
  intro fuel
  induction fuel with
  | zero =>
    intro listed a w _ hr hy hS H
    refine ⟨fun h => (by rw [h] at hr; cases hr), fun j hj => ?_⟩
    by_cases hji : j = i
    · subst hji; exact yieldsIf_wide hi hy hS ⟨hS, H⟩
    · have := ready_mono hj hji
      rw [H.1] at this
      cases this
  | succ fuel ih =>
    intro listed a w hfree hr hy hS H
    refine ⟨fun h => (by rw [h] at hr; cases hr), fun j hj => ?_⟩
    by_cases hji : j = i
    · subst hji; exact yieldsIf_wide hi hy hS ⟨hS, H⟩
    · have h1 := H.2 j (ready_mono hj hji)
      obtain ⟨hjun, oj, hoj, hall⟩ := mem_ready.1 hj
      have hnot : ∀ e ∈ oj.after, Region.binds md e = true → e.on ≠ i := fun e he hb heq => by
        have h1 := hall e he hb
        have h0 := (mem_ready.1 hr).1
        rw [heq] at h1
        rcases Nat.lt_or_ge i listed.size with h' | h'
        · simp [h'] at h0 h1; rw [h0] at h1; cases h1
        · simp [Array.getElem?_eq_none h'] at h1
      have h2 := wide_putIf hoj (hfree j oj hoj hji hjun hnot) (fun cs b => hsel i oi cs b hi) (fun cs b => hsel j oj cs b hoj) hQ hy h1
      have hfree' : ∀ k ok, ops[k]? = some ok → k ≠ i → (listed.setIfInBounds j true).getD k true = false →
          (∀ e ∈ ok.after, Region.binds md e = true → e.on ≠ i) → oi.apart ops ok = true := fun k ok hk hki hun hno => by
        refine hfree k ok hk hki ?_ hno
        by_cases hjk : j = k
        · subst hjk; exact hjun
        · rw [getD_set_ne true hjk] at hun; exact hun
      refine wpOpIn_mono (fun a' w' h3 => ⟨h3.2.1, ih (listed.setIfInBounds j true) a' w' hfree' (ready_mono hr (Ne.symm hji)) h3.1 h3.2.1 ?_⟩) h2
      rw [Array.setIfInBounds_comm _ _ hji]
      exact h3.2.2
theorem wpHeld_take {i : Nat} {oi : Oper} {v : Value} {fuel : Nat} {listed : Array Bool} {a : Act} {w : World} (hi : ops[i]? = some oi)
    (hs : Region.noSelect ops = true) (hf : Region.free md ops listed i = true) (hr : (Region.ready md ops listed).contains i = true)
    (hQ : ∀ c a w, Q (.panic c) (a.put oi.dst v) w → Q (.panic c) a w) (hy : YieldsIf P ops S oi v a) (hS : S w)
    (h : wpHeld P md ops Q S fuel (listed.setIfInBounds i true) (a.put oi.dst v) w) : wpHeld P md ops Q S (fuel + 1) listed a w :=
  wpHeld_first hi (Region.noSelect_spec hs) hQ fuel listed a w (Region.free_spec hi hf) (by simpa using hr) hy hS h
/-- the same, the operation looked up in the list: it comes out written -/
theorem wpHeld_takeL {os : List Oper} {i : Nat} {oi : Oper} {v : Value} {fuel : Nat} {listed : Array Bool} {a : Act} {w : World} (hi : os[i]? = some oi)
    (hs : Region.noSelect os.toArray = true) (hf : Region.free md os.toArray listed i = true) (hr : (Region.ready md os.toArray listed).contains i = true)
    (hQ : ∀ c a w, Q (.panic c) (a.put oi.dst v) w → Q (.panic c) a w) (hy : YieldsIf P os.toArray S oi v a) (hS : S w)
    (h : wpHeld P md os.toArray Q S fuel (listed.setIfInBounds i true) (a.put oi.dst v) w) : wpHeld P md os.toArray Q S (fuel + 1) listed a w :=
  wpHeld_take (by simpa using hi) hs hf hr hQ hy hS h
/-- just one may come up -/
theorem wpHeld_one {i : Nat} {o : Oper} {fuel : Nat} {listed : Array Bool} {a : Act} {w : World} (hr : Region.ready md ops listed = [i]) (ho : ops[i]? = some o) (hw : Region.wanted o (yielded ops a.tmps) = true)
    (h : ∀ K' : Act → World → Prop, (∀ a w, S w → wpHeld P md ops Q S fuel (listed.setIfInBounds i true) a w → K' a w) → Oper.wpIn Fence.wide 0 P o a w K' Q) : wpHeld P md ops Q S (fuel + 1) listed a w := by
  refine ⟨fun h0 => absurd (hr ▸ h0) (by simp), fun j hj => ?_⟩
  rw [hr] at hj
  obtain rfl := List.mem_singleton.1 hj
  unfold wpOpIn
  rw [ho]
  simp only [hw, if_true]
  exact h _ (fun a w h1 h2 => ⟨h1, h2⟩)
theorem wpHeld_oneL {os : List Oper} {i : Nat} {o : Oper} {fuel : Nat} {listed : Array Bool} {a : Act} {w : World} (hr : Region.ready md os.toArray listed = [i]) (ho : os[i]? = some o) (hw : Region.wanted o (yielded os.toArray a.tmps) = true)
    (h : ∀ K' : Act → World → Prop, (∀ a w, S w → wpHeld P md os.toArray Q S fuel (listed.setIfInBounds i true) a w → K' a w) → Oper.wpIn Fence.wide 0 P o a w K' Q) : wpHeld P md os.toArray Q S (fuel + 1) listed a w :=
  wpHeld_one hr (by simpa using ho) hw h
theorem wpHeld_done {listed : Array Bool} {a : Act} {w : World} (hr : Region.ready md ops listed = []) (h : Q .normal a w) :
    ∀ fuel, wpHeld P md ops Q S fuel listed a w
  | 0 => ⟨hr, h⟩
  | _ + 1 => ⟨fun _ => h, by rw [hr]; simp⟩
theorem wp_region_yield {id : Nat} {a : Act} {w : World} {os : List Oper} (S : World → Prop) (hm : P.follows .mixedOrders = true)
    (h : wpHeld P .any os.toArray Q S os.toArray.size (Array.replicate os.toArray.size false) a w.drew) : (Code.region id os.toArray true).wpIn Fence.wide 0 P Q a w :=
  wpIn_region_any hm (wpAny_held _ _ _ _ h)
end

/-! A range over a function that hands each round values of a relation's choice. -/
/-- whatever a round is handed it makes of it what it may -/
def YieldsTo {σ : Type} (P : Program) (l : Nat) (Keep : World → World → Prop) (step : σ → World → Array Value → σ → Prop) (J : σ → World → Prop) (Jx : World → Prop) : Prop :=
  ∀ s A vs s', J s A → step s A vs s' → YieldAt Fence.wide 0 P l vs A fun e B => Keep A B ∧ ((e = .returned (.bool true) ∧ J s' B) ∨ (e = .returned (.bool false) ∧ Jx B))
/-- what such a function does. Keep: what a round leaves alone for it; Turn: what it may turn itself -/
def IterR {σ : Type} (P : Program) (g : Nat) (lb : Array Value) (N : Nat) (Keep Turn : World → World → Prop) (step : σ → World → Array Value → σ → Prop) (last : σ → Prop) (s0 : σ) (Pre : World → Prop) : Prop :=
  ∀ (l : Nat) (J : σ → World → Prop) (Jx : World → Prop) (W : World), N ≤ W.heap.size → (∀ s A B, J s A → Turn A B → J s B) → (∀ A B, Jx A → Turn A B → Jx B) → (∀ s A, J s A → Pre A) → (∀ A, Jx A → Pre A) →
    YieldsTo P l Keep step J Jx → J s0 W →
    Calls P g (#[.func (.yield l) #[] #[]] ++ lb) W fun e B => (∃ v, e = .returned v) ∧ Keep W B ∧ ((∃ s, last s ∧ J s B) ∨ Jx B)
/-- how a round's body may be left -/
def roundEndR (D : Nat) (Keep : World → World → Prop) (W : World) (Go' : World → Prop) (Out : Code → World → Prop) : Exit → Act → World → Prop
  | .normal, _, B => (∀ k, D ≤ k → k < D + 2 → B.heap[k]? = W.heap[k]?) ∧ Keep W B ∧ Go' B
  | .ret, _, B => (∀ k, D ≤ k → k < D + 2 → B.heap[k]? = W.heap[k]?) ∧ Keep W B ∧ Out .ret B
  | .exit id, _, B => (∀ k, D ≤ k → k < D + 2 → B.heap[k]? = W.heap[k]?) ∧ Keep W B ∧ Out (.exit id) B
  | .goto t, _, B => (∀ k, D ≤ k → k < D + 2 → B.heap[k]? = W.heap[k]?) ∧ Keep W B ∧ Out (.goto t) B
  | .panic _, _, _ => False
  | .outgrown, _, _ => False
/-- abides what the books of a range at block B do -/
def BookR {σ : Type} (B : Nat) (I : σ → World → Prop) : Prop := (∀ s A o, I s A → B ≤ A.heap.size → I s (A.alloc o)) ∧ ∀ s A o, I s A → I s (A.putObj (B + 1) o)
theorem Books.two {D : Nat} {r : Loop} {A B : World} (h : Books D r A) (hk : ∀ k, D ≤ k → k < D + 2 → B.heap[k]? = A.heap[k]?) : Books D r B :=
  ⟨(hk _ (by omega) (by omega)).trans h.loop, (hk _ (by omega) (by omega)).trans h.defs⟩
theorem wp_rangeR {σ : Type} {g : Operand} {ps : Array Tmp} {assign body : Code} {Q : Exit → Act → World → Prop} {a : Act} {w : World} {gf : Nat} {lb : Array Value}
    (hg : a.eval g = .func (.func gf) #[] lb) (eg : ∀ args w, (callFunc gf args).run P w = .ok (.enter gf args) w)
    {Keep Turn : World → World → Prop} {step : σ → World → Array Value → σ → Prop} {last : σ → Prop} {s0 : σ} {Pre : World → Prop} (hit : IterR P gf lb (w.heap.size + 2) Keep Turn step last s0 Pre)
    (hKt : ∀ A B C, Keep A B → Keep B C → Keep A C) (hKp : ∀ A o, Keep A (A.putObj (w.heap.size + 1) o))
    (hps : ∀ s A vs s', step s A vs s' → ps.size = vs.size) (I : σ → World → Prop) (Ix : Code → World → Prop) (hI : BookR w.heap.size I) (hIx : BookR w.heap.size Ix) (hIT : ∀ s A B, I s A → Turn A B → I s B) (hIxT : ∀ c A B, Ix c A → Turn A B → Ix c B)
    (hT : ∀ A B, Turn A B → ∀ k, w.heap.size ≤ k → k < w.heap.size + 2 → k < A.heap.size → B.heap[k]? = A.heap[k]?) (hPre : ∀ s A, I s A → Pre A) (hPreX : ∀ c A, Ix c A → Pre A) (h0 : I s0 w)
    (hround : ∀ (l : Nat) (s : σ) (W : World) (vs : Array Value) (s' : σ), I s W → step s W vs s' → w.heap.size + 2 ≤ W.heap.size →
      assign.wpIn (Fence.wide.inRound l) 0 P (Exit.then (fun a' W' => (∀ k, w.heap.size ≤ k → k < w.heap.size + 2 → W'.heap[k]? = W.heap[k]?) ∧ Keep W W' ∧
        ∀ o, body.wpIn (Fence.wide.inRound l) 0 P (roundEndR w.heap.size Keep (W'.putObj (w.heap.size + 1) o) (I s') Ix) a' (W'.putObj (w.heap.size + 1) o)) (fun _ _ _ => False))
        { tmps := (ps.zip vs).foldl (fun t (p, v) => t.setIfInBounds p v) a.tmps, defers := [] } W)
    (hdone : ∀ (D : Nat) (s : σ) (W : World), w.heap.size ≤ D → last s → I s W → W.heap[D]? = some (.deferred (some [])) → Q .normal { a with defers := { target := .collected D, args := #[] } :: a.defers } W)
    (hstop : ∀ (D : Nat) (c : Code) (W : World), w.heap.size ≤ D → Ix c W → W.heap[D]? = some (.deferred (some [])) → c.wpIn Fence.wide 0 P Q { a with defers := { target := .collected D, args := #[] } :: a.defers } W) :
    (Code.rangeFunc g ps assign body).wpIn Fence.wide 0 P Q a w := by
  refine wpIn_rangeFunc ?_
  intro fn _
  let bk : LoopState → Option Code → Loop := fun st pe => { state := st, pending := pe, fn, tmps := a.tmps, params := ps, assign, body, defers := w.heap.size }
  have start : Books w.heap.size (bk .ready none) ((w.alloc (.deferred (some []))).alloc (.loop (bk .ready none))) := by
    refine ⟨?_, ?_⟩
    · have := World.alloc_heap_new (w.alloc (.deferred (some []))) (.loop (bk .ready none)); rwa [World.size_alloc] at this
    · exact (Below.heap_alloc _ _ _ (by simp)).trans (World.alloc_heap_new w _)
  have hsz : w.heap.size + 2 ≤ ((w.alloc (.deferred (some []))).alloc (.loop (bk .ready none))).heap.size := by simp
  generalize hW1 : (w.alloc (.deferred (some []))).alloc (.loop (bk .ready none)) = W1 at start hsz
  have hI1 : I s0 W1 := by rw [← hW1]; exact hI.1 _ _ _ (hI.1 _ _ _ h0 (Nat.le_refl _)) (by simp)
  have booksT : ∀ {r : Loop} {A B : World}, Books w.heap.size r A → Turn A B → Books w.heap.size r B := by
    intro r A B hb ht
    have h1 := (Array.getElem?_eq_some_iff.1 hb.loop).1
    exact hb.two (fun k h2 h3 => hT A B ht k h2 h3 (by omega))
  refine ⟨w.heap.size + 1, [{ target := .collected w.heap.size, args := #[] }], W1, { target := .fn (.func gf) lb, args := #[.func (.yield (w.heap.size + 1)) #[] #[]] }, W1, gf,
    #[.func (.yield (w.heap.size + 1)) #[] #[]] ++ lb, W1, ?_, ?_, ?_, ?_, fun h => (by cases h), ?_⟩
  · rw [← hW1]; exact run_enterLoop_outer _ _ _ _ _
  · simp only [resolve, hg]
    simp [go_sem]
  · intro f' _; trivial
  · simp [invoke, go_sem, eg]
  refine callsIn_wide.2 ((hit (w.heap.size + 1) (fun s W => I s W ∧ Books w.heap.size (bk .ready none) W ∧ w.heap.size + 2 ≤ W.heap.size) (fun W => ∃ c, Ix c W ∧ Books w.heap.size (bk .done (some c)) W) W1 hsz
    (fun s A B hA hAB => ⟨hIT s A B hA.1 hAB, booksT hA.2.1 hAB, by have := (Array.getElem?_eq_some_iff.1 (booksT hA.2.1 hAB).loop).1; omega⟩)
    (fun A B ⟨c, hc, hb⟩ hAB => ⟨c, hIxT c A B hc hAB, booksT hb hAB⟩)
    (fun s A hA => hPre s A hA.1) (fun A ⟨c, hc, _⟩ => hPreX c A hc) ?_ ⟨hI1, start, hsz⟩).mono ?_)
  · -- one round
    rintro s A vs s' ⟨hi, hbk, hAs⟩ hst
    have hy := run_yield (P := P) (args := vs) hbk.loop (hps _ _ _ _ hst).symm
    refine ⟨fn, _, assign, body, hy, roundIn_of_wpIn trivial ?_⟩
    refine wpIn_mono (hround _ s A vs s' hi hst hAs) ?_
    intro e0 a0 A0 h0'
    cases e0 with
    | ret => exact h0'.elim
    | exit id => exact h0'.elim
    | goto t => exact h0'.elim
    | panic ch => exact h0'.elim
    | outgrown => exact h0'.elim
    | normal =>
    obtain ⟨hk0, hK0, hb0⟩ := h0'
    have hbk0 := hbk.two hk0
    have hAl : w.heap.size + 1 < A0.heap.size := (Array.getElem?_eq_some_iff.1 hbk0.loop).1
    have hbr := run_beginRound (P := P) hbk0.loop rfl
    refine ⟨_, hbr, ?_⟩
    have hb2 := hbk0.put { bk .ready none with state := .busy }
    have hkp : Keep A (A0.putObj (w.heap.size + 1) (.loop { bk .ready none with state := .busy })) := hKt _ _ _ hK0 (hKp _ _)
    refine wpIn_mono (hb0 (.loop { bk .ready none with state := .busy })) ?_
    intro e a3 W3 hp
    have out : ∀ (c : Code), (∀ k, w.heap.size ≤ k → k < w.heap.size + 2 → W3.heap[k]? = (A0.putObj (w.heap.size + 1) (.loop { bk .ready none with state := .busy })).heap[k]?) → Keep (A0.putObj (w.heap.size + 1) (.loop { bk .ready none with state := .busy })) W3 → Ix c W3 →
        ∃ v w', (Instr.endRound (w.heap.size + 1) (some c)).run P W3 = .ok v w' ∧ (Keep A w' ∧ ((Ending.returned v = .returned (.bool true) ∧ (I s' w' ∧ Books w.heap.size (bk .ready none) w' ∧ w.heap.size + 2 ≤ w'.heap.size)) ∨ (Ending.returned v = .returned (.bool false) ∧ ∃ c, Ix c w' ∧ Books w.heap.size (bk .done (some c)) w'))) := by
      intro c hk hav hx
      have hb3 := hb2.two hk
      exact ⟨_, _, run_endRound (some c) hb3.loop, hKt _ _ _ (hKt _ _ _ hkp hav) (hKp _ _), .inr ⟨rfl, c, hIx.2 _ _ _ hx, hb3.put _⟩⟩
    cases e with
    | normal =>
      obtain ⟨hk, hav, hgo⟩ := hp
      have hb3 := hb2.two hk
      have hl3 := (Array.getElem?_eq_some_iff.1 hb3.loop).1
      exact ⟨_, _, run_endRound none hb3.loop, hKt _ _ _ (hKt _ _ _ hkp hav) (hKp _ _), .inl ⟨rfl, hI.2 _ _ _ hgo, hb3.put _, by simp [World.putObj]; omega⟩⟩
    | ret => exact out _ hp.1 hp.2.1 hp.2.2
    | exit id => exact out _ hp.1 hp.2.1 hp.2.2
    | goto t => exact out _ hp.1 hp.2.1 hp.2.2
    | panic ch => exact hp.elim
    | outgrown => exact hp.elim
  · -- behind it
    rintro e W2 ⟨⟨v, rfl⟩, _, ⟨s, hl, hi, hb, _⟩ | ⟨c, hx, hb⟩⟩
    · exact ⟨none, _, run_endLoop hb.loop (by intro h; cases h), hdone _ s _ (Nat.le_refl _) hl (hI.2 _ _ _ hi) ((World.putObj_heap_other (by omega)).trans hb.defs)⟩
    · exact ⟨some c, _, run_endLoop hb.loop (by intro h; cases h), hstop _ c _ (Nat.le_refl _) (hIx.2 _ _ _ hx) ((World.putObj_heap_other (by omega)).trans hb.defs)⟩
end Go.Proofs.YtjbcbejedaeedaaGreatDoor
