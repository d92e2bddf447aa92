/- A region that draws its order and holds loads beside calls, one of them of yield, in the wide fence; a range over a function that hands each round values of a relation's choice, over any program. A range over a function that turns memory which a round leaves alone, over any program. What the small functions of package weight and of its reference compute, in plain words. The digits' values: package weight and its reference. Walks of the small functions of package weight and of its reference. Read of the reference of package weight. The end of a law's row, over any program: the call hands back true, nothing that was there has turned, each argument reads as it read. Arguments opened: a slice of numbers, over any program. Arguments opened: a slice of entries, over any program. -/
import Derived.Test.YtnglhgogkemgbaaGreatDoorG01
import Derived.Deep.RegionHeld
import Derived.OrdersHeld
import Derived.OrdersIn
import Derived.WalkKit
import Derived.WalkSpells
import Derived.WalkLawsBesides
import Derived.Handy
import Derived.ProofKit
import Derived.OpenShut
import Derived.SizedLaws
import Derived.DataShut
import Derived.Test.YtnglhgogkemgbaaGreatDoorRows
import Derived.Deep.SlicePairs
import Derived.Lib.SmallJoins
namespace Go.Proofs.YtnglhgogkemgbaaGreatDoor
open Go.RowKit
variable {P : Program}

/-! A region with loads that are taken first, in the wide fence. -/
section
variable {ops : Array Oper} {Q : Exit → Act → World → Prop} {md : Region.Mode} {S : World → Prop}
end

/-! A range over a function that hands each round values of a relation's choice. -/
/-- whatever a round is handed it makes of it what it may -/
def YieldsTo {σ : Type} (P : Program) (l : Nat) (Keep : World → World → Prop) (step : σ → World → Array Value → σ → Prop) (J : σ → World → Prop) (Jx : World → Prop) : Prop :=
  ∀ s A vs s', J s A → step s A vs s' → YieldAt Fence.wide 0 P l vs A fun e B => Keep A B ∧ ((e = .returned (.bool true) ∧ J s' B) ∨ (e = .returned (.bool false) ∧ Jx B))
/-- how a round's body may be left -/
def roundEndR (D : Nat) (Keep : World → World → Prop) (W : World) (Go' : World → Prop) (Out : Code → World → Prop) : Exit → Act → World → Prop
  | .normal, _, B => (∀ k, D ≤ k → k < D + 2 → B.heap[k]? = W.heap[k]?) ∧ Keep W B ∧ Go' B
  | .ret, _, B => (∀ k, D ≤ k → k < D + 2 → B.heap[k]? = W.heap[k]?) ∧ Keep W B ∧ Out .ret B
  | .exit id, _, B => (∀ k, D ≤ k → k < D + 2 → B.heap[k]? = W.heap[k]?) ∧ Keep W B ∧ Out (.exit id) B
  | .goto t, _, B => (∀ k, D ≤ k → k < D + 2 → B.heap[k]? = W.heap[k]?) ∧ Keep W B ∧ Out (.goto t) B
  | .panic _, _, _ => False
  | .outgrown, _, _ => False
/-- abides what the books of a range at block B do -/
def BookR {σ : Type} (B : Nat) (I : σ → World → Prop) : Prop := (∀ s A o, I s A → B ≤ A.heap.size → I s (A.alloc o)) ∧ ∀ s A o, I s A → I s (A.putObj (B + 1) o)
theorem Books.two {D : Nat} {r : Loop} {A B : World} (h : Books D r A) (hk : ∀ k, D ≤ k → k < D + 2 → B.heap[k]? = A.heap[k]?) : Books D r B :=
  ⟨(hk _ (by omega) (by omega)).trans h.loop, (hk _ (by omega) (by omega)).trans h.defs⟩
end Go.Proofs.YtnglhgogkemgbaaGreatDoor
namespace Go.Proofs.YtnglhgogkemgbaaGreatDoor
open Go.RowKit
variable {P : Program}

/-- what such a function does. Keep: what a round leaves alone for it; Turn: what it may turn itself -/
def IterB {σ : Type} (P : Program) (g : Nat) (lb : Array Value) (N : Nat) (Keep Turn : World → World → Prop) (step : σ → World → Array Value → σ → Prop) (last : σ → Prop) (s0 : σ) (Pre Init : World → Prop) : Prop :=
  ∀ (l : Nat) (J : σ → World → Prop) (Jx : World → Prop) (W : World), N ≤ W.heap.size → (∀ s A B, J s A → Turn A B → J s B) → (∀ A B, Jx A → Turn A B → Jx B) → (∀ s A, J s A → Pre A) → (∀ A, Jx A → Pre A) →
    YieldsTo P l Keep step J Jx → J s0 W → Init W →
    Calls P g (#[.func (.yield l) #[] #[]] ++ lb) W fun e B => (∃ v, e = .returned v) ∧ ((∃ s, last s ∧ J s B) ∨ Jx B)
theorem wp_rangeB {σ : Type} {g : Operand} {ps : Array Tmp} {assign body : Code} {Q : Exit → Act → World → Prop} {a : Act} {w : World} {gf : Nat} {lb : Array Value}
    (hg : a.eval g = .func (.func gf) #[] lb) (eg : ∀ args w, (callFunc gf args).run P w = .ok (.enter gf args) w)
    {Keep Turn : World → World → Prop} {step : σ → World → Array Value → σ → Prop} {last : σ → Prop} {s0 : σ} {Pre Init : World → Prop} (hit : IterB P gf lb (w.heap.size + 2) Keep Turn step last s0 Pre Init) (hInit : ∀ W1, Below w.heap.size w W1 → Init W1)
    (hKt : ∀ A B C, Keep A B → Keep B C → Keep A C) (hKp : ∀ A o, Keep A (A.putObj (w.heap.size + 1) o))
    (hps : ∀ s A vs s', step s A vs s' → ps.size = vs.size) (I : σ → World → Prop) (Ix : Code → World → Prop) (hI : BookR w.heap.size I) (hIx : BookR w.heap.size Ix) (hIT : ∀ s A B, I s A → Turn A B → I s B) (hIxT : ∀ c A B, Ix c A → Turn A B → Ix c B)
    (hT : ∀ A B, Turn A B → ∀ k, w.heap.size ≤ k → k < w.heap.size + 2 → k < A.heap.size → B.heap[k]? = A.heap[k]?) (hPre : ∀ s A, I s A → Pre A) (hPreX : ∀ c A, Ix c A → Pre A) (h0 : I s0 w)
    (hround : ∀ (l : Nat) (s : σ) (W : World) (vs : Array Value) (s' : σ), I s W → step s W vs s' → w.heap.size + 2 ≤ W.heap.size →
      assign.wpIn (Fence.wide.inRound l) 0 P (Exit.then (fun a' W' => (∀ k, w.heap.size ≤ k → k < w.heap.size + 2 → W'.heap[k]? = W.heap[k]?) ∧ Keep W W' ∧
        ∀ o, body.wpIn (Fence.wide.inRound l) 0 P (roundEndR w.heap.size Keep (W'.putObj (w.heap.size + 1) o) (I s') Ix) a' (W'.putObj (w.heap.size + 1) o)) (fun _ _ _ => False))
        { tmps := (ps.zip vs).foldl (fun t (p, v) => t.setIfInBounds p v) a.tmps, defers := [] } W)
    (hdone : ∀ (D : Nat) (s : σ) (W : World), w.heap.size ≤ D → last s → I s W → W.heap[D]? = some (.deferred (some [])) → Q .normal { a with defers := { target := .collected D, args := #[] } :: a.defers } W)
    (hstop : ∀ (D : Nat) (c : Code) (W : World), w.heap.size ≤ D → Ix c W → W.heap[D]? = some (.deferred (some [])) → c.wpIn Fence.wide 0 P Q { a with defers := { target := .collected D, args := #[] } :: a.defers } W) :
    (Code.rangeFunc g ps assign body).wpIn Fence.wide 0 P Q a w := by
  refine wpIn_rangeFunc ?_
  intro fn _
  let bk : LoopState → Option Code → Loop := fun st pe => { state := st, pending := pe, fn, tmps := a.tmps, params := ps, assign, body, defers := w.heap.size }
  have start : Books w.heap.size (bk .ready none) ((w.alloc (.deferred (some []))).alloc (.loop (bk .ready none))) := by
    refine ⟨?_, ?_⟩
    · have := World.alloc_heap_new (w.alloc (.deferred (some []))) (.loop (bk .ready none)); rwa [World.size_alloc] at this
    · exact (Below.heap_alloc _ _ _ (by simp)).trans (World.alloc_heap_new w _)
  have hsz : w.heap.size + 2 ≤ ((w.alloc (.deferred (some []))).alloc (.loop (bk .ready none))).heap.size := by simp
  generalize hW1 : (w.alloc (.deferred (some []))).alloc (.loop (bk .ready none)) = W1 at start hsz
  have hI0 : Init W1 := hInit W1 (by rw [← hW1]; exact ((Below.refl _ w).alloc (Nat.le_refl _) _).alloc (by simp) _)
  have hI1 : I s0 W1 := by rw [← hW1]; exact hI.1 _ _ _ (hI.1 _ _ _ h0 (Nat.le_refl _)) (by simp)
  have booksT : ∀ {r : Loop} {A B : World}, Books w.heap.size r A → Turn A B → Books w.heap.size r B := by
    intro r A B hb ht
    have h1 := (Array.getElem?_eq_some_iff.1 hb.loop).1
    exact hb.two (fun k h2 h3 => hT A B ht k h2 h3 (by omega))
  refine ⟨w.heap.size + 1, [{ target := .collected w.heap.size, args := #[] }], W1, { target := .fn (.func gf) lb, args := #[.func (.yield (w.heap.size + 1)) #[] #[]] }, W1, gf,
    #[.func (.yield (w.heap.size + 1)) #[] #[]] ++ lb, W1, ?_, ?_, ?_, ?_, fun h => (by cases h), ?_⟩
  · rw [← hW1]; exact run_enterLoop_outer _ _ _ _ _
  · simp only [resolve, hg]
    simp [go_sem]
  · intro f' _; trivial
  · simp [invoke, go_sem, eg]
  refine callsIn_wide.2 ((hit (w.heap.size + 1) (fun s W => I s W ∧ Books w.heap.size (bk .ready none) W ∧ w.heap.size + 2 ≤ W.heap.size) (fun W => ∃ c, Ix c W ∧ Books w.heap.size (bk .done (some c)) W) W1 hsz
    (fun s A B hA hAB => ⟨hIT s A B hA.1 hAB, booksT hA.2.1 hAB, by have := (Array.getElem?_eq_some_iff.1 (booksT hA.2.1 hAB).loop).1; omega⟩)
    (fun A B ⟨c, hc, hb⟩ hAB => ⟨c, hIxT c A B hc hAB, booksT hb hAB⟩)
    (fun s A hA => hPre s A hA.1) (fun A ⟨c, hc, _⟩ => hPreX c A hc) ?_ ⟨hI1, start, hsz⟩ hI0).mono ?_)
  · -- one round
    rintro s A vs s' ⟨hi, hbk, hAs⟩ hst
    have hy := run_yield (P := P) (args := vs) hbk.loop (hps _ _ _ _ hst).symm
    refine ⟨fn, _, assign, body, hy, roundIn_of_wpIn trivial ?_⟩
    refine wpIn_mono (hround _ s A vs s' hi hst hAs) ?_
    intro e0 a0 A0 h0'
    cases e0 with
    | ret => exact h0'.elim
    | exit id => exact h0'.elim
    | goto t => exact h0'.elim
    | panic ch => exact h0'.elim
    | outgrown => exact h0'.elim
    | normal =>
    obtain ⟨hk0, hK0, hb0⟩ := h0'
    have hbk0 := hbk.two hk0
    have hAl : w.heap.size + 1 < A0.heap.size := (Array.getElem?_eq_some_iff.1 hbk0.loop).1
    have hbr := run_beginRound (P := P) hbk0.loop rfl
    refine ⟨_, hbr, ?_⟩
    have hb2 := hbk0.put { bk .ready none with state := .busy }
    have hkp : Keep A (A0.putObj (w.heap.size + 1) (.loop { bk .ready none with state := .busy })) := hKt _ _ _ hK0 (hKp _ _)
    refine wpIn_mono (hb0 (.loop { bk .ready none with state := .busy })) ?_
    intro e a3 W3 hp
    have out : ∀ (c : Code), (∀ k, w.heap.size ≤ k → k < w.heap.size + 2 → W3.heap[k]? = (A0.putObj (w.heap.size + 1) (.loop { bk .ready none with state := .busy })).heap[k]?) → Keep (A0.putObj (w.heap.size + 1) (.loop { bk .ready none with state := .busy })) W3 → Ix c W3 →
        ∃ v w', (Instr.endRound (w.heap.size + 1) (some c)).run P W3 = .ok v w' ∧ (Keep A w' ∧ ((Ending.returned v = .returned (.bool true) ∧ (I s' w' ∧ Books w.heap.size (bk .ready none) w' ∧ w.heap.size + 2 ≤ w'.heap.size)) ∨ (Ending.returned v = .returned (.bool false) ∧ ∃ c, Ix c w' ∧ Books w.heap.size (bk .done (some c)) w'))) := by
      intro c hk hav hx
      have hb3 := hb2.two hk
      exact ⟨_, _, run_endRound (some c) hb3.loop, hKt _ _ _ (hKt _ _ _ hkp hav) (hKp _ _), .inr ⟨rfl, c, hIx.2 _ _ _ hx, hb3.put _⟩⟩
    cases e with
    | normal =>
      obtain ⟨hk, hav, hgo⟩ := hp
      have hb3 := hb2.two hk
      have hl3 := (Array.getElem?_eq_some_iff.1 hb3.loop).1
      exact ⟨_, _, run_endRound none hb3.loop, hKt _ _ _ (hKt _ _ _ hkp hav) (hKp _ _), .inl ⟨rfl, hI.2 _ _ _ hgo, hb3.put _, by simp [World.putObj]; omega⟩⟩
    | ret => exact out _ hp.1 hp.2.1 hp.2.2
    | exit id => exact out _ hp.1 hp.2.1 hp.2.2
    | goto t => exact out _ hp.1 hp.2.1 hp.2.2
    | panic ch => exact hp.elim
    | outgrown => exact hp.elim
  · -- behind it
    rintro e W2 ⟨⟨v, rfl⟩, ⟨s, hl, hi, hb, _⟩ | ⟨c, hx, hb⟩⟩
    · exact ⟨none, _, run_endLoop hb.loop (by intro h; cases h), hdone _ s _ (Nat.le_refl _) hl (hI.2 _ _ _ hi) ((World.putObj_heap_other (by omega)).trans hb.defs)⟩
    · exact ⟨some c, _, run_endLoop hb.loop (by intro h; cases h), hstop _ c _ (Nat.le_refl _) (hIx.2 _ _ _ hx) ((World.putObj_heap_other (by omega)).trans hb.defs)⟩
end Go.Proofs.YtnglhgogkemgbaaGreatDoor
namespace Go.Proofs.YtnglhgogkemgbaaGreatDoor
def lvl (p s t : Int) : Int := if p = 0 then if s = 0 then if t = 0 then 0 else 3 else 2 else 1
def inB (n a b : Int) : Bool := decide (a ≤ n) && decide (n ≤ b)
def okB (p s t : Int) (v : Bool) : Bool :=
  inB p 0 65535 && inB s 0 511 && inB t 0 63 && !(decide (p ≠ 0) && (decide (s = 0) || decide (t = 0))) && !(decide (s ≠ 0) && decide (t = 0)) && !(v && decide (p = 0)) && decide (p < 64256)
def chk (p s t : Int) (v : Bool) : Int := if okB p s t v then 0 else 70
end Go.Proofs.YtnglhgogkemgbaaGreatDoor
namespace Go.Proofs.YtnglhgogkemgbaaGreatDoor
open Go.RowKit

def hv (c : Int) : Int := if 48 ≤ c ∧ c ≤ 57 then c - 48 else if 65 ≤ c ∧ c ≤ 70 then c - 55 else 0
def hvB (c : Int) : Bool := decide (48 ≤ c ∧ c ≤ 57) || decide (65 ≤ c ∧ c ≤ 70)

set_option maxHeartbeats 4000000 in
set_option maxRecDepth 100000 in
theorem value_any (c : Int) (w : World) (h0 : 0 ≤ c) (h1 : c ≤ 255) :
    Calls Tryz.prog 74 #[.int .u8 c] w fun e w' => e = .returned (.tuple #[.int .i64 (hv c), .bool (hvB c)]) ∧ Below w.heap.size w w' := by
  have n0 := fun ty => show (Instr.next (.pointer (some ⟨w.heap.size, 0, none⟩)) true ty).run Tryz.prog (w.iter ⟨#[48, 49, 50, 51, 52, 53, 54, 55, 56, 57, 65, 66, 67, 68, 69, 70]⟩ 0) = .ok (.tuple #[.bool true, .int .i64 0, .int .i32 48]) (w.iter ⟨#[48, 49, 50, 51, 52, 53, 54, 55, 56, 57, 65, 66, 67, 68, 69, 70]⟩ 1) from run_next_ascii w ⟨#[48, 49, 50, 51, 52, 53, 54, 55, 56, 57, 65, 66, 67, 68, 69, 70]⟩ 0 ty (by decide) (by decide)
  have n1 := fun ty => show (Instr.next (.pointer (some ⟨w.heap.size, 0, none⟩)) true ty).run Tryz.prog (w.iter ⟨#[48, 49, 50, 51, 52, 53, 54, 55, 56, 57, 65, 66, 67, 68, 69, 70]⟩ 1) = .ok (.tuple #[.bool true, .int .i64 1, .int .i32 49]) (w.iter ⟨#[48, 49, 50, 51, 52, 53, 54, 55, 56, 57, 65, 66, 67, 68, 69, 70]⟩ 2) from run_next_ascii w ⟨#[48, 49, 50, 51, 52, 53, 54, 55, 56, 57, 65, 66, 67, 68, 69, 70]⟩ 1 ty (by decide) (by decide)
  have n2 := fun ty => show (Instr.next (.pointer (some ⟨w.heap.size, 0, none⟩)) true ty).run Tryz.prog (w.iter ⟨#[48, 49, 50, 51, 52, 53, 54, 55, 56, 57, 65, 66, 67, 68, 69, 70]⟩ 2) = .ok (.tuple #[.bool true, .int .i64 2, .int .i32 50]) (w.iter ⟨#[48, 49, 50, 51, 52, 53, 54, 55, 56, 57, 65, 66, 67, 68, 69, 70]⟩ 3) from run_next_ascii w ⟨#[48, 49, 50, 51, 52, 53, 54, 55, 56, 57, 65, 66, 67, 68, 69, 70]⟩ 2 ty (by decide) (by decide)
  have n3 := fun ty => show (Instr.next (.pointer (some ⟨w.heap.size, 0, none⟩)) true ty).run Tryz.prog (w.iter ⟨#[48, 49, 50, 51, 52, 53, 54, 55, 56, 57, 65, 66, 67, 68, 69, 70]⟩ 3) = .ok (.tuple #[.bool true, .int .i64 3, .int .i32 51]) (w.iter ⟨#[48, 49, 50, 51, 52, 53, 54, 55, 56, 57, 65, 66, 67, 68, 69, 70]⟩ 4) from run_next_ascii w ⟨#[48, 49, 50, 51, 52, 53, 54, 55, 56, 57, 65, 66, 67, 68, 69, 70]⟩ 3 ty (by decide) (by decide)
  have n4 := fun ty => show (Instr.next (.pointer (some ⟨w.heap.size, 0, none⟩)) true ty).run Tryz.prog (w.iter ⟨#[48, 49, 50, 51, 52, 53, 54, 55, 56, 57, 65, 66, 67, 68, 69, 70]⟩ 4) = .ok (.tuple #[.bool true, .int .i64 4, .int .i32 52]) (w.iter ⟨#[48, 49, 50, 51, 52, 53, 54, 55, 56, 57, 65, 66, 67, 68, 69, 70]⟩ 5) from run_next_ascii w ⟨#[48, 49, 50, 51, 52, 53, 54, 55, 56, 57, 65, 66, 67, 68, 69, 70]⟩ 4 ty (by decide) (by decide)
  have n5 := fun ty => show (Instr.next (.pointer (some ⟨w.heap.size, 0, none⟩)) true ty).run Tryz.prog (w.iter ⟨#[48, 49, 50, 51, 52, 53, 54, 55, 56, 57, 65, 66, 67, 68, 69, 70]⟩ 5) = .ok (.tuple #[.bool true, .int .i64 5, .int .i32 53]) (w.iter ⟨#[48, 49, 50, 51, 52, 53, 54, 55, 56, 57, 65, 66, 67, 68, 69, 70]⟩ 6) from run_next_ascii w ⟨#[48, 49, 50, 51, 52, 53, 54, 55, 56, 57, 65, 66, 67, 68, 69, 70]⟩ 5 ty (by decide) (by decide)
  have n6 := fun ty => show (Instr.next (.pointer (some ⟨w.heap.size, 0, none⟩)) true ty).run Tryz.prog (w.iter ⟨#[48, 49, 50, 51, 52, 53, 54, 55, 56, 57, 65, 66, 67, 68, 69, 70]⟩ 6) = .ok (.tuple #[.bool true, .int .i64 6, .int .i32 54]) (w.iter ⟨#[48, 49, 50, 51, 52, 53, 54, 55, 56, 57, 65, 66, 67, 68, 69, 70]⟩ 7) from run_next_ascii w ⟨#[48, 49, 50, 51, 52, 53, 54, 55, 56, 57, 65, 66, 67, 68, 69, 70]⟩ 6 ty (by decide) (by decide)
  have n7 := fun ty => show (Instr.next (.pointer (some ⟨w.heap.size, 0, none⟩)) true ty).run Tryz.prog (w.iter ⟨#[48, 49, 50, 51, 52, 53, 54, 55, 56, 57, 65, 66, 67, 68, 69, 70]⟩ 7) = .ok (.tuple #[.bool true, .int .i64 7, .int .i32 55]) (w.iter ⟨#[48, 49, 50, 51, 52, 53, 54, 55, 56, 57, 65, 66, 67, 68, 69, 70]⟩ 8) from run_next_ascii w ⟨#[48, 49, 50, 51, 52, 53, 54, 55, 56, 57, 65, 66, 67, 68, 69, 70]⟩ 7 ty (by decide) (by decide)
  have n8 := fun ty => show (Instr.next (.pointer (some ⟨w.heap.size, 0, none⟩)) true ty).run Tryz.prog (w.iter ⟨#[48, 49, 50, 51, 52, 53, 54, 55, 56, 57, 65, 66, 67, 68, 69, 70]⟩ 8) = .ok (.tuple #[.bool true, .int .i64 8, .int .i32 56]) (w.iter ⟨#[48, 49, 50, 51, 52, 53, 54, 55, 56, 57, 65, 66, 67, 68, 69, 70]⟩ 9) from run_next_ascii w ⟨#[48, 49, 50, 51, 52, 53, 54, 55, 56, 57, 65, 66, 67, 68, 69, 70]⟩ 8 ty (by decide) (by decide)
  have n9 := fun ty => show (Instr.next (.pointer (some ⟨w.heap.size, 0, none⟩)) true ty).run Tryz.prog (w.iter ⟨#[48, 49, 50, 51, 52, 53, 54, 55, 56, 57, 65, 66, 67, 68, 69, 70]⟩ 9) = .ok (.tuple #[.bool true, .int .i64 9, .int .i32 57]) (w.iter ⟨#[48, 49, 50, 51, 52, 53, 54, 55, 56, 57, 65, 66, 67, 68, 69, 70]⟩ 10) from run_next_ascii w ⟨#[48, 49, 50, 51, 52, 53, 54, 55, 56, 57, 65, 66, 67, 68, 69, 70]⟩ 9 ty (by decide) (by decide)
  have n10 := fun ty => show (Instr.next (.pointer (some ⟨w.heap.size, 0, none⟩)) true ty).run Tryz.prog (w.iter ⟨#[48, 49, 50, 51, 52, 53, 54, 55, 56, 57, 65, 66, 67, 68, 69, 70]⟩ 10) = .ok (.tuple #[.bool true, .int .i64 10, .int .i32 65]) (w.iter ⟨#[48, 49, 50, 51, 52, 53, 54, 55, 56, 57, 65, 66, 67, 68, 69, 70]⟩ 11) from run_next_ascii w ⟨#[48, 49, 50, 51, 52, 53, 54, 55, 56, 57, 65, 66, 67, 68, 69, 70]⟩ 10 ty (by decide) (by decide)
  have n11 := fun ty => show (Instr.next (.pointer (some ⟨w.heap.size, 0, none⟩)) true ty).run Tryz.prog (w.iter ⟨#[48, 49, 50, 51, 52, 53, 54, 55, 56, 57, 65, 66, 67, 68, 69, 70]⟩ 11) = .ok (.tuple #[.bool true, .int .i64 11, .int .i32 66]) (w.iter ⟨#[48, 49, 50, 51, 52, 53, 54, 55, 56, 57, 65, 66, 67, 68, 69, 70]⟩ 12) from run_next_ascii w ⟨#[48, 49, 50, 51, 52, 53, 54, 55, 56, 57, 65, 66, 67, 68, 69, 70]⟩ 11 ty (by decide) (by decide)
  have n12 := fun ty => show (Instr.next (.pointer (some ⟨w.heap.size, 0, none⟩)) true ty).run Tryz.prog (w.iter ⟨#[48, 49, 50, 51, 52, 53, 54, 55, 56, 57, 65, 66, 67, 68, 69, 70]⟩ 12) = .ok (.tuple #[.bool true, .int .i64 12, .int .i32 67]) (w.iter ⟨#[48, 49, 50, 51, 52, 53, 54, 55, 56, 57, 65, 66, 67, 68, 69, 70]⟩ 13) from run_next_ascii w ⟨#[48, 49, 50, 51, 52, 53, 54, 55, 56, 57, 65, 66, 67, 68, 69, 70]⟩ 12 ty (by decide) (by decide)
  have n13 := fun ty => show (Instr.next (.pointer (some ⟨w.heap.size, 0, none⟩)) true ty).run Tryz.prog (w.iter ⟨#[48, 49, 50, 51, 52, 53, 54, 55, 56, 57, 65, 66, 67, 68, 69, 70]⟩ 13) = .ok (.tuple #[.bool true, .int .i64 13, .int .i32 68]) (w.iter ⟨#[48, 49, 50, 51, 52, 53, 54, 55, 56, 57, 65, 66, 67, 68, 69, 70]⟩ 14) from run_next_ascii w ⟨#[48, 49, 50, 51, 52, 53, 54, 55, 56, 57, 65, 66, 67, 68, 69, 70]⟩ 13 ty (by decide) (by decide)
  have n14 := fun ty => show (Instr.next (.pointer (some ⟨w.heap.size, 0, none⟩)) true ty).run Tryz.prog (w.iter ⟨#[48, 49, 50, 51, 52, 53, 54, 55, 56, 57, 65, 66, 67, 68, 69, 70]⟩ 14) = .ok (.tuple #[.bool true, .int .i64 14, .int .i32 69]) (w.iter ⟨#[48, 49, 50, 51, 52, 53, 54, 55, 56, 57, 65, 66, 67, 68, 69, 70]⟩ 15) from run_next_ascii w ⟨#[48, 49, 50, 51, 52, 53, 54, 55, 56, 57, 65, 66, 67, 68, 69, 70]⟩ 14 ty (by decide) (by decide)
  have n15 := fun ty => show (Instr.next (.pointer (some ⟨w.heap.size, 0, none⟩)) true ty).run Tryz.prog (w.iter ⟨#[48, 49, 50, 51, 52, 53, 54, 55, 56, 57, 65, 66, 67, 68, 69, 70]⟩ 15) = .ok (.tuple #[.bool true, .int .i64 15, .int .i32 70]) (w.iter ⟨#[48, 49, 50, 51, 52, 53, 54, 55, 56, 57, 65, 66, 67, 68, 69, 70]⟩ 16) from run_next_ascii w ⟨#[48, 49, 50, 51, 52, 53, 54, 55, 56, 57, 65, 66, 67, 68, 69, 70]⟩ 15 ty (by decide) (by decide)
  have n16 := fun ty => show (Instr.next (.pointer (some ⟨w.heap.size, 0, none⟩)) true ty).run Tryz.prog (w.iter ⟨#[48, 49, 50, 51, 52, 53, 54, 55, 56, 57, 65, 66, 67, 68, 69, 70]⟩ 16) = .ok (.tuple #[.bool false]) (w.iter ⟨#[48, 49, 50, 51, 52, 53, 54, 55, 56, 57, 65, 66, 67, 68, 69, 70]⟩ 16) from run_next_end w ⟨#[48, 49, 50, 51, 52, 53, 54, 55, 56, 57, 65, 66, 67, 68, 69, 70]⟩ 16 ty (by decide)
  have hc : ∀ a b, (c == a) = b → decide (c = a) = b := by intro a b h; rw [← h]; rfl
  go_enter Tryz.func74, Tryz.ntmps74
  go_wp2
  refine wp_loop_rounds 17 ?_
  iterate 17
    all_goals (try rw [rounds_succ])
    go_wp2
  all_goals go_ret2
  all_goals (clear hc; clear n0 n1 n2 n3 n4 n5 n6 n7 n8 n9 n10 n11 n12 n13 n14 n15 n16)
  all_goals refine ⟨?_, (Below.refl _ _).alloc (Nat.le_refl _) _⟩
  all_goals simp only [beq_iff_eq, beq_eq_false_iff_ne, ne_eq] at *
  all_goals first
    | (subst_vars; rfl)
    | (have e1 : hv c = 0 := by unfold hv; rw [if_neg (by omega), if_neg (by omega)]
       have e2 : hvB c = false := by unfold hvB; simp; omega
       rw [e1, e2]; rfl)

/-- n digits' value from a place on -/
def acc (s : ByteArray) (a : Nat) : Nat → Int
  | 0 => 0
  | n + 1 => 16 * acc s a n + hv (PlainAid.bt s (a + n))
theorem hv_bd (c : Int) : 0 ≤ hv c ∧ hv c ≤ 15 := by unfold hv; split <;> (try split) <;> omega
theorem acc_bd (s : ByteArray) (a n : Nat) : 0 ≤ acc s a n ∧ acc s a n < 16 ^ n := by
  induction n with
  | zero => simp [acc]
  | succ n ih => have := hv_bd (PlainAid.bt s (a + n)); simp only [acc, Int.pow_succ]; omega
def accB (s : ByteArray) (a n : Nat) : Bool := (List.range n).all fun i => hvB (PlainAid.bt s (a + i))
end Go.Proofs.YtnglhgogkemgbaaGreatDoor
namespace Go.Proofs.YtnglhgogkemgbaaGreatDoor
open Go.RowKit

set_option maxHeartbeats 400000 in
theorem within_any (n a b : Int) (w : World) :
    Calls Tryz.prog 94 #[.int .i64 n, .int .i64 a, .int .i64 b] w fun e w' => e = .returned (.bool (inB n a b)) ∧ w = w' := by
  go_enter Tryz.func94, Tryz.ntmps94
  go_wp2
  all_goals go_ret
  all_goals (refine ⟨?_, rfl⟩; simp_all [inB]; try omega)

set_option maxHeartbeats 400000 in
theorem level_any (p s t : Int) (v : Bool) (w : World) :
    Calls Tryz.prog 38 #[.agg #[.int .i64 p, .int .i64 s, .int .i64 t, .bool v]] w fun e w' => e = .returned (.int .i64 (lvl p s t)) ∧ Below w.heap.size w w' := by
  go_enter Tryz.func38, Tryz.ntmps38
  go_wp2
  all_goals go_ret
  all_goals refine ⟨?_, ?_⟩
  all_goals first | (go_grown; done) | simp_all [lvl]

set_option maxHeartbeats 400000 in
theorem rlevel_any (p s t : Int) (v : Bool) (w : World) :
    Calls Tryz.prog 30 #[.agg #[.int .i64 p, .int .i64 s, .int .i64 t, .bool v]] w fun e w' => e = .returned (.int .i64 (lvl p s t)) ∧ Below w.heap.size w w' := by
  go_enter Tryz.func30, Tryz.ntmps30
  go_wp2
  all_goals go_ret
  all_goals refine ⟨?_, ?_⟩
  all_goals first | (go_grown; done) | simp_all [lvl]

set_option maxHeartbeats 1000000 in
theorem check_any (p s t : Int) (v : Bool) (w : World) :
    Calls Tryz.prog 75 #[.agg #[.int .i64 p, .int .i64 s, .int .i64 t, .bool v]] w fun e w' => e = .returned (.int .i64 (chk p s t v)) ∧ Below w.heap.size w w' := by
  go_enter Tryz.func75, Tryz.ntmps75
  go_wp2_with (go_at_call 94; refine (within_any _ _ _ _).mono ?_; rintro e w' ⟨rfl, rfl⟩)

  all_goals go_ret
  all_goals refine ⟨?_, ?_⟩
  all_goals first | (go_grown; done) | (simp_all [chk, okB, inB]; done) | (simp_all [chk, okB, inB]; intros; omega)
end Go.Proofs.YtnglhgogkemgbaaGreatDoor
namespace Go.Proofs.YtnglhgogkemgbaaGreatDoor
open Go.RowKit
open PlainAid (bt)

def headB (s : ByteArray) : Bool := decide (bt s 0 = 91) && (decide (bt s 1 = 46) || decide (bt s 1 = 42)) && decide (bt s 6 = 46) && decide (bt s 11 = 46) && decide (bt s 16 = 93)
def digB (s : ByteArray) : Bool := accB s 2 4 && accB s 7 4 && accB s 12 4
def goodB (s : ByteArray) : Bool := decide (17 ≤ s.size) && headB s && digB s
def starB (s : ByteArray) : Bool := decide (bt s 1 = 42)
def chkS (s : ByteArray) : Int := chk (acc s 2 4) (acc s 7 4) (acc s 12 4) (starB s)
def zeroE : Value := .agg #[.int .i64 0, .int .i64 0, .int .i64 0, .bool false]
def elemS (s : ByteArray) : Value := .agg #[.int .i64 (acc s 2 4), .int .i64 (acc s 7 4), .int .i64 (acc s 12 4), .bool (starB s)]
def readV (s : ByteArray) : Value :=
  if goodB s then (if chkS s = 0 then .tuple #[elemS s, .int .i64 17, .int .i64 0] else .tuple #[zeroE, .int .i64 0, .int .i64 (chkS s)]) else .tuple #[zeroE, .int .i64 0, .int .i64 3]
theorem readV_bad (s : ByteArray) (h : goodB s = false) : readV s = .tuple #[.agg #[.int .i64 0, .int .i64 0, .int .i64 0, .bool false], .int .i64 0, .int .i64 3] := by
  unfold readV; rw [h]; rfl

end Go.Proofs.YtnglhgogkemgbaaGreatDoor
/-! The end of a law's row, over any program: the call hands back true, nothing that was there has turned, each argument reads as it read. -/
namespace Go.Proofs.YtnglhgogkemgbaaGreatDoor
open Go.ChangeShapes Go.WideShapes Go.ChangeAt Go.RowKit

theorem all_below {H : Type} {enc : TypeId × Value → H} {P : Program} (hl : laidOutB P = true) {W W' : World} (hb : Below W.heap.size W W') :
    ∀ (ts : List TypeId) (vs : List Value) (ds : List (DataW H)) (ps : List MemPlace), (∀ t ∈ ts, P.readableRec t = true ∧ t < P.types.size) → DataW.TrodAll enc P W 0 (fun _ => true) true ts vs ds ps →
      (∀ x ∈ ps, x.block < W.heap.size) → DataW.TrodAll enc P W' 0 (fun b => decide (b < W.heap.size)) true ts vs ds ps := by
  intro ts
  induction ts with
  | nil =>
    intro vs ds ps _ h _
    obtain ⟨rfl, rfl, rfl⟩ := trodAll_nil h
    exact trodAll_mk0
  | cons t ts ih =>
    intro vs ds ps hr h hlt
    obtain ⟨v, vs', d, ds', p, q, rfl, rfl, rfl, h1, h2⟩ := trodAll_cons h
    have ht := hr t (List.mem_cons_self ..)
    exact trodAll_cons_mk (Below.trod hl ht.1 ht.2 h1 hb (fun x hx => hlt x (List.mem_append.2 (.inl hx))))
      (ih vs' ds' q (fun u hu => hr u (List.mem_cons_of_mem _ hu)) h2 (fun x hx => hlt x (List.mem_append.2 (.inr hx))))

theorem law_post {H : Type} {enc : TypeId × Value → H} {P : Program} {f : Func} {s : ChangeSpec} (tb : TypeId) (hrt : f.resultTypes = #[tb]) (hub : P.underlying tb = some .bool) (hl : laidOutB P = true)
    (hr : ∀ t ∈ f.params.toList, P.readableRec t = true ∧ t < P.types.size) (hv : s.vars = []) {W W' : World} {args : Array Value} {ds gs : List (DataW H)} {before : List MemPlace}
    (hW : DataW.Whole enc P f.params.toList s.vars false W args.toList ds gs before) (hfn : s.fn H (ds ++ gs) = { results := [.lit (.bool true)], args := ds }) (hb : Below W.heap.size W W') :
    s.post enc P f false true false false W args (.bool true) W' := by
  have hW0 := hW
  obtain ⟨p, q, hA, hV, rfl, _, _⟩ := hW
  have hlt := hW0.lt
  refine ⟨ds, gs, _, [], p, [], hW0, ?_, ?_, ?_, Below.frame hb _, fun h => by cases h⟩
  · rw [hfn, hrt]
    exact trodAll_mk1 (shut_bool hub true)
  · rw [hfn]
    exact all_below hl hb _ _ _ _ hr hA (fun x hx => hlt x (List.mem_append.2 (.inl hx)))
  · rw [hfn, hv]
    rfl
end Go.Proofs.YtnglhgogkemgbaaGreatDoor
/-! Arguments opened: a slice of numbers, over any program. -/
namespace Go.Proofs.YtnglhgogkemgbaaGreatDoor
open Go.ChangeShapes Go.WideShapes Go.ChangeAt Go.RowKit

end Go.Proofs.YtnglhgogkemgbaaGreatDoor
namespace Go.Proofs.YtnglhgogkemgbaaGreatDoor
open Go.ChangeShapes Go.WideShapes Go.ChangeAt Go.RowKit Go.Joins Go.Deep

variable {H : Type} {enc : TypeId × Value → H} {P : Program} {W : World}
theorem add_none (b o i : Nat) : (⟨b, o, none⟩ : Addr).add i = ⟨b, o + i, none⟩ := by
  unfold Addr.add
  by_cases h : i = 0
  · rw [if_pos h, h]; rfl
  · rw [if_neg h]
theorem lt_of_cell {b o : Nat} {v : Value} (h : W.cell? ⟨b, o, none⟩ = some v) : b < W.heap.size := by
  rcases Nat.lt_or_ge b W.heap.size with h' | h'
  · exact h'
  · simp [World.cell?, Array.getElem?_eq_none h'] at h
theorem spot_none {a : Addr} {v : Value} (h : W.cell? (a.add 0) = some v) : a = ⟨a.block, a.off, none⟩ := by
  obtain ⟨b, o, sp⟩ := a
  have := World.cell?_spot h
  simp [Addr.add] at this
  rw [this]
theorem ints_trod {t e : TypeId} {k : IntKind} {n : Nat} {v : Value} {y : DataW H × List MemPlace} (ht : P.underlying t = some (.slice e)) (he : P.underlying e = some (.int k)) (hc : P.cellsOf e = 1)
    (h : DataW.trod enc P W 0 (fun _ => true) true n t [v] = some y) :
    ∃ xs, IntsIn (· < W.heap.size) k W v xs ∧ (∀ n ∈ xs, (Lit.int k n).wf = true) ∧ ((y.1 = .nil ∧ xs = []) ∨ ∃ es sp, y.1 = .slice es sp ∧ es.length = xs.length) := by
  rcases open_ints ht he hc h with ⟨h1, h2⟩ | ⟨a, len, cap, zs, h1, hb, hl, hm, hlen, h2, hcell, hw⟩
  · simp at h1
    subst h1
    exact ⟨[], .nil _ _ _, by simp, .inl ⟨by rw [h2], rfl⟩⟩
  · simp at h1
    subst h1
    simp only [if_true] at hlen
    have hll : (zs.take len).length = len := by rw [List.length_take]; omega
    refine ⟨zs.take len, ⟨some a, cap, by rw [hll], ⟨by rw [hll]; exact hl, hm⟩, fun i x hx => ?_⟩, fun n hn => hw n (List.mem_of_mem_take hn), .inr ⟨_, _, by rw [h2], by simp [lits]⟩⟩
    have hi : i < len := by have := (List.getElem?_eq_some_iff.1 hx).1; omega
    have hcl := hcell i (by omega)
    have hx' : zs.getD i 0 = x := by
      rw [List.getElem?_take_of_lt hi] at hx
      rw [List.getD, hx]; rfl
    rw [hx'] at hcl
    have ha := spot_none (hcell 0 (by omega))
    rw [ha, add_none] at hcl
    exact ⟨a.block, a.off, by rw [← ha], lt_of_cell hcl, lt_of_cell hcl, hcl⟩
theorem range_list {α : Type} (f : Nat → α) (n i : Nat) (x : α) (h : ((List.range n).map f)[i]? = some x) : i < n ∧ x = f i := by
  have hi := (List.getElem?_eq_some_iff.1 h).1
  simp at hi
  rw [List.getElem?_map, List.getElem?_range hi] at h
  exact ⟨hi, by simpa using h.symm⟩
/-- the numbers of an element are such as fit -/
def elWf (x : El) : Prop := (Lit.int .i64 x.1).wf = true ∧ (Lit.int .i64 x.2.1).wf = true ∧ (Lit.int .i64 x.2.2.1).wf = true
theorem els_trod {t e : TypeId} {f0 f1 f2 f3 : Field} {n : Nat} {v : Value} {y : DataW H × List MemPlace} (ht : P.underlying t = some (.slice e)) (he : P.underlying e = some (.struct #[f0, f1, f2, f3])) (hone : oneCellFields P #[f0, f1, f2, f3] = true)
    (ce : P.cellsOf e = 4) (k0 : P.underlying f0.type = some (.int .i64)) (k1 : P.underlying f1.type = some (.int .i64)) (k2 : P.underlying f2.type = some (.int .i64)) (k3 : P.underlying f3.type = some .bool)
    (h : DataW.trod enc P W 0 (fun _ => true) true n t [v] = some y) :
    ∃ xs, ElsIn (· < W.heap.size) W v xs ∧ (∀ x ∈ xs, elWf x) ∧ ((y.1 = .nil ∧ xs = []) ∨ ∃ es sp, y.1 = .slice es sp ∧ es.length = xs.length) := by
  rcases open_slice ht h with ⟨h1, h2⟩ | ⟨a, len, cap, m, n', D, Pl, h1, hb, hl, hm, hmm, h2, hx⟩
  · simp at h1
    subst h1
    exact ⟨[], .nil _ _, by simp, .inl ⟨by rw [h2], rfl⟩⟩
  · simp at h1
    subst h1
    simp only [if_true] at hmm
    subst hmm
    obtain ⟨o0, c0⟩ := hone_of hone 0 f0 rfl
    obtain ⟨o1, c1⟩ := hone_of hone 1 f1 rfl
    obtain ⟨o2, c2⟩ := hone_of hone 2 f2 rfl
    obtain ⟨o3, c3⟩ := hone_of hone 3 f3 rfl
    have each : ∀ i, i < m → ∃ x : El, elWf x ∧ a = ⟨a.block, a.off, none⟩ ∧ El4 W a.block (a.off + i * 4) x := by
      intro i hi
      obtain ⟨cs', g1, g2⟩ := hx i hi
      rw [ce] at g1
      obtain ⟨_, hlen, hcell⟩ := World.cells?_some g1
      obtain ⟨xs, j, hk, hxy, _, hxl, hf⟩ := DataW.trod_struct he g2
      match xs, hxl, cs', hlen with
      | [y0, y1, y2, y3], _, [v0, v1, v2, v3], _ =>
        have g0 := hf 0 f0 rfl
        have g1 := hf 1 f1 rfl
        have g2 := hf 2 f2 rfl
        have g3 := hf 3 f3 rfl
        simp [o0, o1, o2, o3, c0, c1, c2, c3] at g0 g1 g2 g3
        obtain ⟨p, e0, _, w0⟩ := DataW.trod_int k0 g0
        obtain ⟨s, e1, _, w1⟩ := DataW.trod_int k1 g1
        obtain ⟨t', e2, _, w2⟩ := DataW.trod_int k2 g2
        obtain ⟨b, e3, _⟩ := DataW.trod_bool k3 g3
        simp at e0 e1 e2 e3
        subst e0 e1 e2 e3
        have q0 := hcell 0 (by omega)
        have q1 := hcell 1 (by omega)
        have q2 := hcell 2 (by omega)
        have q3 := hcell 3 (by omega)
        have z0 : W.cell? ((a.add (i * 4)).add 0) = some (.int .i64 p) := by simpa using q0
        have hsp : a = ⟨a.block, a.off, none⟩ := by
          by_cases hi0 : i = 0
          · subst hi0
            rw [Nat.zero_mul] at z0
            have : (a.add 0) = a := by unfold Addr.add; rw [if_pos rfl]
            rw [this] at z0
            exact spot_none z0
          · obtain ⟨cs0, p1, p2⟩ := hx 0 (by omega)
            rw [ce, Nat.zero_mul] at p1
            obtain ⟨_, l0, hcell0⟩ := World.cells?_some p1
            have := hcell0 0 (by omega)
            have ha : (a.add 0) = a := by unfold Addr.add; rw [if_pos rfl]
            rw [ha] at this
            obtain ⟨u, hu⟩ : ∃ u, cs0[0]? = some u := ⟨cs0[0]'(by omega), List.getElem?_eq_getElem (by omega)⟩
            rw [hu] at this
            exact spot_none this
        refine ⟨(p, s, t', b), ⟨w0, w1, w2⟩, hsp, ?_⟩
        rw [hsp, add_none] at z0 q1 q2 q3
        rw [add_none] at z0 q1 q2 q3
        exact ⟨by simpa using z0, by simpa using q1, by simpa using q2, by simpa using q3⟩
    obtain ⟨X, hX⟩ := choose_lt (α := El) (p := fun i x => elWf x ∧ a = ⟨a.block, a.off, none⟩ ∧ El4 W a.block (a.off + i * 4) x) each
    refine ⟨(List.range len).map X, ⟨some a, m, by simp, fun i x hi => ?_⟩, fun x hxm => ?_, .inr ⟨_, _, by rw [h2], by simp⟩⟩
    · obtain ⟨hi', rfl⟩ := range_list X len i x hi
      obtain ⟨_, ha, h4⟩ := hX i (by omega)
      exact ⟨a.block, a.off, by rw [← ha], lt_of_cell h4.1, lt_of_cell h4.1, h4⟩
    · obtain ⟨i, hi⟩ := List.getElem?_of_mem hxm
      obtain ⟨hi', rfl⟩ := range_list X len i x hi
      exact (hX i (by omega)).1
end Go.Proofs.YtnglhgogkemgbaaGreatDoor
