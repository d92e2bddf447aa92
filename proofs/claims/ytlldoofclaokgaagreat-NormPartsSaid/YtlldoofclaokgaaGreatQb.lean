/- Plain: the pieces of a list, each beginning with a starter. A range over a function that hands each round a value in new memory, and that may turn more than it makes, over any program. -/
import Derived.Test.YtlldoofclaokgaaGreatOa
import Derived.Test.YtlldoofclaokgaaGreatRangeA
/-! Plain: the pieces of a list, each beginning with a starter. -/
namespace Go.Proofs.YtlldoofclaokgaaGreat
open Go.RowKit

/-- no starter -/
def nst (f : Int → Int) (x : Int) : Bool := f x != 0
/-- one comes behind the last piece, or begins one -/
def partStep (f : Int → Int) (s : List (List Int)) (x : Int) : List (List Int) :=
  match s.getLast? with
  | none => [[x]]
  | some p => if f x = 0 then s ++ [[x]] else s.dropLast ++ [p ++ [x]]
/-- the pieces, one by one, as the reference finds them -/
def parts (f : Int → Int) (D : List Int) : List (List Int) := D.foldl (partStep f) []
/-- how long the piece at the front is -/
def cutLen (f : Int → Int) : List Int → Nat
  | [] => 0
  | _ :: xs => 1 + (xs.takeWhile (nst f)).length
theorem cutLen_le (f : Int → Int) (D : List Int) : cutLen f D ≤ D.length := by
  cases D with
  | nil => exact Nat.le_refl _
  | cons x xs =>
    have := (List.takeWhile_sublist (nst f) (l := xs)).length_le
    simp only [cutLen, List.length_cons]; omega
theorem cutLen_pos {f : Int → Int} {D : List Int} (h : 0 < D.length) : 0 < cutLen f D := by
  cases D with
  | nil => simp at h
  | cons x xs => simp only [cutLen]; omega
theorem partStep_zero {f : Int → Int} {s : List (List Int)} {x : Int} (h : f x = 0) : partStep f s x = s ++ [[x]] := by
  unfold partStep
  cases hs : s.getLast? with
  | none => rw [List.getLast?_eq_none_iff] at hs; rw [hs]; rfl
  | some p => simp [h]
theorem partStep_on {f : Int → Int} {s : List (List Int)} {p : List Int} {x : Int} (h : f x ≠ 0) : partStep f (s ++ [p]) x = s ++ [p ++ [x]] := by
  unfold partStep
  simp [h]
theorem partStep_first {f : Int → Int} {x : Int} : partStep f [] x = [[x]] := rfl
/-- the rest of a piece that has begun -/
theorem fold_piece {f : Int → Int} : ∀ (L : List Int) (s : List (List Int)) (p : List Int), L.foldl (partStep f) (s ++ [p]) = (L.dropWhile (nst f)).foldl (partStep f) (s ++ [p ++ L.takeWhile (nst f)])
  | [], s, p => by simp
  | x :: xs, s, p => by
    by_cases hx : f x = 0
    · have h1 : nst f x = false := by unfold nst; simp [hx]
      rw [List.takeWhile_cons_of_neg (by simp [h1]), List.dropWhile_cons_of_neg (by simp [h1]), List.append_nil]
    · have h1 : nst f x = true := by unfold nst; simp [hx]
      rw [List.foldl_cons, partStep_on hx, fold_piece xs s (p ++ [x]), List.takeWhile_cons_of_pos h1, List.dropWhile_cons_of_pos h1]
      simp
/-- behind so many pieces the list begins anew at a starter, or is at its end -/
theorem fold_pre {f : Int → Int} : ∀ (L : List Int) (s : List (List Int)), (∀ x, L.head? = some x → f x = 0) → L.foldl (partStep f) s = s ++ L.foldl (partStep f) [] := by
  have key : ∀ (L : List Int) (s : List (List Int)) (p : List Int), L.foldl (partStep f) (s ++ [p]) = s ++ L.foldl (partStep f) [p] := by
    intro L
    induction L with
    | nil => intro s p; simp
    | cons x xs ih =>
      intro s p
      by_cases hx : f x = 0
      · rw [List.foldl_cons, List.foldl_cons, partStep_zero hx, partStep_zero hx, ih (s ++ [p]) [x], ih [p] [x], List.append_assoc]
      · rw [List.foldl_cons, List.foldl_cons, partStep_on hx, ih s (p ++ [x])]
        have := partStep_on (f := f) (s := []) (p := p) hx
        rw [List.nil_append] at this
        rw [this]; simp
  intro L s h
  cases L with
  | nil => simp
  | cons x xs =>
    have hx := h x rfl
    rw [List.foldl_cons, List.foldl_cons, partStep_zero hx, partStep_first, key xs s [x]]
theorem head_drop_while {p : Int → Bool} : ∀ (L : List Int) (x : Int), (L.dropWhile p).head? = some x → p x = false
  | [], x, h => by simp at h
  | y :: ys, x, h => by
    by_cases hy : p y = true
    · rw [List.dropWhile_cons_of_pos hy] at h; exact head_drop_while ys x h
    · rw [List.dropWhile_cons_of_neg hy] at h
      simp at h; subst h; simpa using hy
theorem take_tw (p : Int → Bool) : ∀ (L : List Int), L.take (L.takeWhile p).length = L.takeWhile p
  | [] => rfl
  | x :: xs => by
    by_cases h : p x = true
    · rw [List.takeWhile_cons_of_pos h, List.length_cons, List.take_succ_cons, take_tw p xs]
    · rw [List.takeWhile_cons_of_neg h]; rfl
theorem drop_tw (p : Int → Bool) : ∀ (L : List Int), L.drop (L.takeWhile p).length = L.dropWhile p
  | [] => rfl
  | x :: xs => by
    by_cases h : p x = true
    · rw [List.takeWhile_cons_of_pos h, List.length_cons, List.drop_succ_cons, drop_tw p xs, List.dropWhile_cons_of_pos h]
    · rw [List.takeWhile_cons_of_neg h, List.dropWhile_cons_of_neg h]; rfl
/-- the first piece, and those of the rest -/
theorem parts_cons {f : Int → Int} {D : List Int} (h : 0 < D.length) : parts f D = D.take (cutLen f D) :: parts f (D.drop (cutLen f D)) := by
  cases D with
  | nil => simp at h
  | cons x xs =>
    have h1 : parts f (x :: xs) = xs.foldl (partStep f) ([] ++ [[x]]) := rfl
    have h2 : (x :: xs).take (cutLen f (x :: xs)) = [x] ++ xs.takeWhile (nst f) := by
      simp only [cutLen]
      rw [Nat.add_comm, List.take_succ_cons, take_tw]; rfl
    have h3 : (x :: xs).drop (cutLen f (x :: xs)) = xs.dropWhile (nst f) := by
      simp only [cutLen]
      rw [Nat.add_comm, List.drop_succ_cons, drop_tw]
    rw [h1, fold_piece, h2, h3, List.nil_append]
    have := fold_pre (f := f) (xs.dropWhile (nst f)) [[x] ++ xs.takeWhile (nst f)] (fun y hy => by have := head_drop_while _ _ hy; unfold nst at this; simpa using this)
    rw [this]; rfl
theorem parts_nil (f : Int → Int) : parts f [] = [] := rfl
end Go.Proofs.YtlldoofclaokgaaGreat
/-! A range over a function that hands each round a value in new memory, and that may turn more than it makes, over any program. -/
namespace Go.Proofs.YtlldoofclaokgaaGreat
open Go.RowKit
variable {P : Program}

/-- blocks from N on are as they were -/
def Above (N : Nat) (A B : World) : Prop := A.heap.size ≤ B.heap.size ∧ ∀ k, N ≤ k → k < A.heap.size → B.heap[k]? = A.heap[k]?
theorem Above.trans {N : Nat} {A B C : World} (h : Above N A B) (k : Above N B C) : Above N A C := ⟨Nat.le_trans h.1 k.1, fun i h1 h2 => (k.2 i h1 (Nat.lt_of_lt_of_le h2 h.1)).trans (h.2 i h1 h2)⟩
/-- what such a function does: a round's body leaves the blocks from N on alone; Turn: what the function itself may turn -/
def IterV {σ : Type} (P : Program) (g : Nat) (lb : Array Value) (N : Nat) (Turn : World → World → Prop) (Enc : σ → World → Value → Prop) (nxt : σ → σ) (can : σ → Prop) (last : σ → Prop) (s0 : σ) (Pre : World → Prop) : Prop :=
  ∀ (l : Nat) (J : σ → World → Prop) (Jx : World → Prop) (W : World), N ≤ W.heap.size → (∀ s A B, J s A → Turn A B → J s B) → (∀ A B, Jx A → Turn A B → Jx B) → (∀ s A, J s A → Pre A) →
    (∀ s A v, J s A → can s → Enc s A v → YieldAt Fence.wide 0 P l #[v] A fun e B => Above N A B ∧ ((e = .returned (.bool true) ∧ J (nxt s) B) ∨ (e = .returned (.bool false) ∧ Jx B))) →
    J s0 W →
    Calls P g (#[.func (.yield l) #[] #[]] ++ lb) W fun e B => ((∃ v, e = .returned v) ∧ ∃ s, last s ∧ J s B) ∨ ((∃ v, e = .returned v) ∧ Jx B)
/-- how a round's body may be left -/
def roundEndV (N : Nat) (W : World) (Go' : World → Prop) (Out : Code → World → Prop) : Exit → Act → World → Prop
  | .normal, _, B => KeepsBooks W B ∧ Above N W B ∧ Go' B
  | .ret, _, B => KeepsBooks W B ∧ Above N W B ∧ Out .ret B
  | .exit id, _, B => KeepsBooks W B ∧ Above N W B ∧ Out (.exit id) B
  | .goto t, _, B => KeepsBooks W B ∧ Above N W B ∧ Out (.goto t) B
  | .panic _, _, _ => False
  | .outgrown, _, _ => False
/-- abides what the books of a range at block B do -/
def BookOk {σ : Type} (B : Nat) (I : σ → World → Prop) : Prop := (∀ s A o, I s A → B ≤ A.heap.size → I s (A.alloc o)) ∧ ∀ s A o, I s A → I s (A.putObj (B + 1) o)
theorem above_put {N D : Nat} {A : World} {o : Obj} (hD : D < N) : Above N A (A.putObj D o) := ⟨by simp [World.putObj], fun k h1 _ => World.putObj_heap_other (by omega)⟩
theorem wp_rangeV {σ : Type} {g : Operand} {ps : Array Tmp} {assign body : Code} {Q : Exit → Act → World → Prop} {a : Act} {w : World} {gf : Nat} {lb : Array Value}
    (hg : a.eval g = .func (.func gf) #[] lb) (eg : ∀ args w, (callFunc gf args).run P w = .ok (.enter gf args) w)
    {Turn : World → World → Prop} {Enc : σ → World → Value → Prop} {nxt : σ → σ} {can last : σ → Prop} {s0 : σ} {Pre : World → Prop} (hit : IterV P gf lb (w.heap.size + 2) Turn Enc nxt can last s0 Pre)
    (hps : ps.size = 1) (I : σ → World → Prop) (Ix : Code → World → Prop) (hI : BookOk w.heap.size I) (hIx : BookOk w.heap.size Ix) (hIT : ∀ s A B, I s A → Turn A B → I s B) (hIxT : ∀ c A B, Ix c A → Turn A B → Ix c B)
    (hT : ∀ A B, Turn A B → w.heap.size < A.heap.size → Above w.heap.size A B) (hPre : ∀ s A, I s A → Pre A) (h0 : I s0 w) (hE : ∀ s A v o, Enc s A v → Enc s (A.putObj (w.heap.size + 1) o) v) (a₁ : Value → Act)
    (hassign : ∀ (l : Nat) (v : Value) (W : World) (K : Act → World → Prop), K (a₁ v) W →
      assign.wpIn (Fence.wide.inRound l) 0 P (Exit.then K (fun _ _ _ => False)) { tmps := (ps.zip #[v]).foldl (fun t (p, v) => t.setIfInBounds p v) a.tmps, defers := [] } W)
    (hbody : ∀ (l : Nat) (s : σ) (W : World) (v : Value), can s → I s W → Enc s W v → w.heap.size + 2 ≤ W.heap.size → body.wpIn (Fence.wide.inRound l) 0 P (roundEndV (w.heap.size + 2) W (I (nxt s)) Ix) (a₁ v) W)
    (hdone : ∀ (D : Nat) (s : σ) (W : World), w.heap.size ≤ D → last s → I s W → W.heap[D]? = some (.deferred (some [])) → Q .normal { a with defers := { target := .collected D, args := #[] } :: a.defers } W)
    (hstop : ∀ (D : Nat) (c : Code) (W : World), w.heap.size ≤ D → Ix c W → W.heap[D]? = some (.deferred (some [])) → c.wpIn Fence.wide 0 P Q { a with defers := { target := .collected D, args := #[] } :: a.defers } W) :
    (Code.rangeFunc g ps assign body).wpIn Fence.wide 0 P Q a w := by
  refine wpIn_rangeFunc ?_
  intro fn _
  let bk : LoopState → Option Code → Loop := fun st pe => { state := st, pending := pe, fn, tmps := a.tmps, params := ps, assign, body, defers := w.heap.size }
  have start : Books w.heap.size (bk .ready none) ((w.alloc (.deferred (some []))).alloc (.loop (bk .ready none))) := by
    refine ⟨?_, ?_⟩
    · have := World.alloc_heap_new (w.alloc (.deferred (some []))) (.loop (bk .ready none)); rwa [World.size_alloc] at this
    · exact (Below.heap_alloc _ _ _ (by simp)).trans (World.alloc_heap_new w _)
  have hsz : w.heap.size + 2 ≤ ((w.alloc (.deferred (some []))).alloc (.loop (bk .ready none))).heap.size := by simp
  generalize hW1 : (w.alloc (.deferred (some []))).alloc (.loop (bk .ready none)) = W1 at start hsz
  have hI1 : I s0 W1 := by rw [← hW1]; exact hI.1 _ _ _ (hI.1 _ _ _ h0 (Nat.le_refl _)) (by simp)
  have booksT : ∀ {r : Loop} {A B : World}, Books w.heap.size r A → Turn A B → Books w.heap.size r B := by
    intro r A B hb ht
    have h1 := (Array.getElem?_eq_some_iff.1 hb.loop).1
    have h2 := (Array.getElem?_eq_some_iff.1 hb.defs).1
    have h3 := hT A B ht h2
    exact ⟨(h3.2 _ (by omega) h1).trans hb.loop, (h3.2 _ (Nat.le_refl _) h2).trans hb.defs⟩
  refine ⟨w.heap.size + 1, [{ target := .collected w.heap.size, args := #[] }], W1, { target := .fn (.func gf) lb, args := #[.func (.yield (w.heap.size + 1)) #[] #[]] }, W1, gf,
    #[.func (.yield (w.heap.size + 1)) #[] #[]] ++ lb, W1, ?_, ?_, ?_, ?_, fun h => (by cases h), ?_⟩
  · rw [← hW1]; exact run_enterLoop_outer _ _ _ _ _
  · simp only [resolve, hg]
    simp [go_sem]
  · intro f' _; trivial
  · simp [invoke, go_sem, eg]
  refine callsIn_wide.2 ((hit (w.heap.size + 1) (fun s W => I s W ∧ Books w.heap.size (bk .ready none) W) (fun W => ∃ c, Ix c W ∧ Books w.heap.size (bk .done (some c)) W) W1 hsz
    (fun s A B hA hAB => ⟨hIT s A B hA.1 hAB, booksT hA.2 hAB⟩)
    (fun A B ⟨c, hc, hb⟩ hAB => ⟨c, hIxT c A B hc hAB, booksT hb hAB⟩)
    (fun s A hA => hPre s A hA.1) ?_ ⟨hI1, start⟩).mono ?_)
  · -- one round
    rintro s A v ⟨hi, hbk⟩ hcan henc
    have hy := run_yield (P := P) (args := #[v]) hbk.loop (by simpa using hps.symm)
    have hAl : w.heap.size + 1 < A.heap.size := (Array.getElem?_eq_some_iff.1 hbk.loop).1
    refine ⟨fn, _, assign, body, hy, roundIn_of_wpIn trivial (hassign _ v A _ ⟨_, run_beginRound hbk.loop rfl, ?_⟩)⟩
    have hb2 := hbk.put { bk .ready none with state := .busy }
    have hi2 : I s (A.putObj (w.heap.size + 1) (.loop { bk .ready none with state := .busy })) := hI.2 _ _ _ hi
    have hab : Above (w.heap.size + 2) A (A.putObj (w.heap.size + 1) (.loop { bk .ready none with state := .busy })) := above_put (by omega)
    refine wpIn_mono (hbody _ s _ v hcan hi2 (hE _ _ _ _ henc) (Nat.le_trans (by omega) hab.1)) ?_
    intro e a3 W3 hp
    have out : ∀ (c : Code), KeepsBooks (A.putObj (w.heap.size + 1) (.loop { bk .ready none with state := .busy })) W3 → Above (w.heap.size + 2) (A.putObj (w.heap.size + 1) (.loop { bk .ready none with state := .busy })) W3 → Ix c W3 →
        ∃ v w', (Instr.endRound (w.heap.size + 1) (some c)).run P W3 = .ok v w' ∧ (Above (w.heap.size + 2) A w' ∧ ((Ending.returned v = .returned (.bool true) ∧ (I (nxt s) w' ∧ Books w.heap.size (bk .ready none) w')) ∨ (Ending.returned v = .returned (.bool false) ∧ ∃ c, Ix c w' ∧ Books w.heap.size (bk .done (some c)) w'))) := by
      intro c hk hav hx
      have hb3 := hb2.kept hk
      exact ⟨_, _, run_endRound (some c) hb3.loop, (hab.trans hav).trans (above_put (by omega)), .inr ⟨rfl, c, hIx.2 _ _ _ hx, hb3.put _⟩⟩
    cases e with
    | normal =>
      obtain ⟨hk, hav, hgo⟩ := hp
      have hb3 := hb2.kept hk
      exact ⟨_, _, run_endRound none hb3.loop, (hab.trans hav).trans (above_put (by omega)), .inl ⟨rfl, hI.2 _ _ _ hgo, hb3.put _⟩⟩
    | ret => exact out _ hp.1 hp.2.1 hp.2.2
    | exit id => exact out _ hp.1 hp.2.1 hp.2.2
    | goto t => exact out _ hp.1 hp.2.1 hp.2.2
    | panic ch => exact hp.elim
    | outgrown => exact hp.elim
  · -- behind it
    rintro e W2 (⟨⟨v, rfl⟩, s, hl, hi, hb⟩ | ⟨⟨v, rfl⟩, c, hx, hb⟩)
    · exact ⟨none, _, run_endLoop hb.loop (by intro h; cases h), hdone _ s _ (Nat.le_refl _) hl (hI.2 _ _ _ hi) ((World.putObj_heap_other (by omega)).trans hb.defs)⟩
    · exact ⟨some c, _, run_endLoop hb.loop (by intro h; cases h), hstop _ c _ (Nat.le_refl _) (hIx.2 _ _ _ hx) ((World.putObj_heap_other (by omega)).trans hb.defs)⟩
theorem wp_rangeV2 {σ : Type} {g : Operand} {ps : Array Tmp} {assign body : Code} {Q : Exit → Act → World → Prop} {a : Act} {w : World} {gf : Nat} {lb : Array Value} (id : Nat)
    (hg : a.eval g = .func (.func gf) #[] lb) (eg : ∀ args w, (callFunc gf args).run P w = .ok (.enter gf args) w)
    {Turn : World → World → Prop} {Enc : σ → World → Value → Prop} {nxt : σ → σ} {can last : σ → Prop} {s0 : σ} {Pre : World → Prop} (hit : IterV P gf lb (w.heap.size + 2) Turn Enc nxt can last s0 Pre)
    (hps : ps.size = 1) (I : σ → World → Prop) (Ib Ir : World → Prop) (hI : BookOk w.heap.size I) (hIb : BookOk w.heap.size (fun (_ : Unit) => Ib)) (hIr : BookOk w.heap.size (fun (_ : Unit) => Ir)) (hIT : ∀ s A B, I s A → Turn A B → I s B) (hIbT : ∀ A B, Ib A → Turn A B → Ib B) (hIrT : ∀ A B, Ir A → Turn A B → Ir B)
    (hT : ∀ A B, Turn A B → w.heap.size < A.heap.size → Above w.heap.size A B) (hPre : ∀ s A, I s A → Pre A) (h0 : I s0 w) (hE : ∀ s A v o, Enc s A v → Enc s (A.putObj (w.heap.size + 1) o) v) (qs : Value → List (Nat × Value))
    (hassign : ∀ (l : Nat) (v : Value) (W : World), assign.wpIn (Fence.wide.inRound l) 0 P (Exit.then (fun a' W' => roundFrame a ps #[v] (qs v) = a' ∧ W = W') (fun _ _ _ => False)) { tmps := (ps.zip #[v]).foldl (fun t (p, v) => t.setIfInBounds p v) a.tmps, defers := [] } W)
    (hbody : ∀ (l : Nat) (s : σ) (W : World) (v : Value), can s → I s W → Enc s W v → w.heap.size + 2 ≤ W.heap.size → body.wpIn (Fence.wide.inRound l) 0 P (roundEndV (w.heap.size + 2) W (I (nxt s)) (fun c W' => (c = .exit id ∧ Ib W') ∨ (c = .ret ∧ Ir W'))) (roundFrame a ps #[v] (qs v)) W)
    (hafter : ∀ (D : Nat) (W : World), w.heap.size ≤ D → ((∃ s, last s ∧ I s W) ∨ Ib W) → W.heap[D]? = some (.deferred (some [])) → Q .normal (marked a D) W)
    (hexit : ∀ a' W', Q .normal a' W' → Q (.exit id) a' W')
    (hret : ∀ (D : Nat) (W : World), w.heap.size ≤ D → Ir W → W.heap[D]? = some (.deferred (some [])) → Q .ret (marked a D) W) :
    (Code.rangeFunc g ps assign body).wpIn Fence.wide 0 P Q a w := by
  refine wp_rangeV hg eg hit hps I (fun c W' => (c = .exit id ∧ Ib W') ∨ (c = .ret ∧ Ir W')) hI ⟨?_, ?_⟩ hIT ?_ hT hPre h0 hE (fun v => roundFrame a ps #[v] (qs v)) ?_ hbody
    (fun D s W h1 h2 h3 h4 => hafter D W h1 (.inl ⟨s, h2, h3⟩) h4) ?_
  · rintro c A o (⟨e, hs⟩ | ⟨e, hs⟩) hB
    · exact .inl ⟨e, hIb.1 () A o hs hB⟩
    · exact .inr ⟨e, hIr.1 () A o hs hB⟩
  · rintro c A o (⟨e, hs⟩ | ⟨e, hs⟩)
    · exact .inl ⟨e, hIb.2 () A o hs⟩
    · exact .inr ⟨e, hIr.2 () A o hs⟩
  · rintro c A B (⟨e, hs⟩ | ⟨e, hs⟩) ht
    · exact .inl ⟨e, hIbT A B hs ht⟩
    · exact .inr ⟨e, hIrT A B hs ht⟩
  · intro l v W K hK
    refine wpIn_mono (hassign l v W) ?_
    intro e a' W' h
    cases e with
    | normal => obtain ⟨rfl, rfl⟩ := h; exact hK
    | ret => exact h.elim
    | exit id => exact h.elim
    | goto t => exact h.elim
    | panic ch => exact h.elim
    | outgrown => exact h.elim
  · rintro D c W h1 (⟨rfl, hs⟩ | ⟨rfl, hs⟩) h3
    · exact wpIn_exit (hexit _ _ (hafter D W h1 (.inr hs) h3))
    · exact wpIn_ret (hret D W h1 hs h3)
end Go.Proofs.YtlldoofclaokgaaGreat
