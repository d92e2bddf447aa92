/- Small laws of my own over any program: a quiet callee, worlds with marked rows, bits. A range over a function, over any program: a law of my own: the function that is ranged over hands out its rounds by a state; it returns, is stopped by the loop's body, or panics. At the wide fence. Rows of our own: what a slice literal holds. Slices of numbers that only are read: a word for what they hold, over any program. The trie in plain words: entries, prefixes, the longest match. Slices of numbers, of elements and of entries that only are read: a word for what they hold, and in which blocks, over any program. A range over a function whose body may break or return, over any program: one goal for what stands behind it. A region that draws its order, its operations without a call, its last ones a tail: inside a fence (a round of a range over a function), over any program. UTF-8 in plain words: which scalar's form stands at a place of a text. -/
import Derived.WalkKit
import Derived.WalkSpells
import Derived.WalkLawsBesides
import Derived.Handy
import Derived.Deep.QuietTactic
import Derived.BigQuiet
import Derived.Lib.Hide
import Derived.PlainAid
import Derived.StillTailTactics
import Derived.Lib.SlBytesConst
import Derived.RangeFuncNested
import Derived.RangeFuncBound
import Derived.RangeFuncCalls
import Derived.RangeFuncLeaves
import Derived.RangeFuncFrom
import Derived.RangeFuncBox
import Derived.StillTail
import Derived.OrdersIn
import Derived.Test.YtnglhgogkemgbaaGreatDoorRows
/-! Small laws of my own over any program: a quiet callee, worlds with marked rows, bits. A range over a function, over any program: a law of my own: the function that is ranged over hands out its rounds by a state; it returns, is stopped by the loop's body, or panics. At the wide fence. Rows of our own: what a slice literal holds. Slices of numbers that only are read: a word for what they hold, over any program. The trie in plain words: entries, prefixes, the longest match. Slices of numbers, of elements and of entries that only are read: a word for what they hold, and in which blocks, over any program. A range over a function whose body may break or return, over any program: one goal for what stands behind it. A region that draws its order, its operations without a call, its last ones a tail: inside a fence (a round of a range over a function), over any program. -/
/-! Small laws of my own over any program: a quiet callee, worlds with marked rows, bits. -/
namespace Go.Proofs.YtnglhgogkemgbaaGreatDoor
open Go.RowKit

/-- a callee that leaves the world as it was, met in a region that draws its order -/
theorem quiet_same {P : Program} {f : FuncId} {args : Array Value} {w : World} {n : Nat} {v : Value}
    (h : Calls P f args (w.drewN n) fun e w' => e = .returned v ∧ w.drewN n = w') : Calls P f args (w.drewN n) fun e w'' => e = .returned v ∧ ∃ m, w'' = w.drewN m :=
  h.mono fun _ _ ⟨he, hm⟩ => ⟨he, n, hm.symm⟩

@[go_sem] theorem setCell_alloc_mark {w : World} (c : Array Value) (t : TypeId) (fr : Nat × Nat) (n i : Nat) (v : Value) (hn : n = w.heap.size) :
    (w.alloc (.cells c t fr)).setCell ⟨n, i, none⟩ v = w.alloc (.cells (c.setIfInBounds i v) t fr) := by
  subst hn
  unfold World.setCell World.alloc
  congr 1
  apply Array.ext_getElem?
  intro k
  simp only [Array.getElem?_modify, Array.getElem?_push]
  by_cases hk : k = w.heap.size
  · subst hk; simp
  · simp [hk]; intro h; exact absurd h.symm hk
@[go_sem] theorem cell?_alloc_markAt {w : World} (c : Array Value) (t : TypeId) (fr : Nat × Nat) (n i : Nat) (hn : n = w.heap.size) : (w.alloc (.cells c t fr)).cell? ⟨n, i, none⟩ = c[i]? := by
  subst hn; exact World.cell?_alloc_mark w c t fr i
@[go_sem] theorem frozen?_alloc_markAt {w : World} (c : Array Value) (t : TypeId) (lo hi n i : Nat) (hn : n = w.heap.size) : (w.alloc (.cells c t (lo, hi))).frozen? ⟨n, i, none⟩ = (decide (lo ≤ i) && decide (i < hi)) := by
  subst hn; exact World.frozen?_alloc_mark w c t lo hi i

theorem wp_tail {P : Program} {id : Nat} {Q : Exit → Act → World → Prop} {a : Act} {w : World} {l : List Oper} (n : Nat) (hm : P.follows .mixedOrders = true) (hB : Region.lexTailB .any l.toArray n = true)
    (h : wpStill P l.toArray w.drew (fun a' => wpList P l.toArray Q (l.drop n) a' w.drew) (l.take n) a) : (Code.region id l.toArray true).wp P Q a w :=
  wp_region_still_tail n hm hB h

/-! ### Strings given by their numbers. -/
@[go_sem] theorem strOfNums_app (l r : List Int) : strOfNums l ++ strOfNums r = strOfNums (l ++ r) := by
  simp [strOfNums]; rfl
@[go_sem] theorem empty_app (s : ByteArray) : (⟨#[]⟩ : ByteArray) ++ s = s := by
  have := ByteArray.empty_append (b := s); exact this
@[go_sem] theorem strOfNums_len (xs : List Int) : (strOfNums xs).size = xs.length := strOfNums_size xs
/-- '[]byte(s)': a new row that holds the bytes -/
theorem bytes_of {P : Program} (w : World) (src dst e : TypeId) (s : ByteArray) (hs : P.underlying src = some .string) (hd : P.underlying dst = some (.slice e)) (he : P.underlying e = some (.int .u8)) :
    ∃ cap w1, (convert src dst (.string s)).run P w = .ok (.slice (some ⟨w.heap.size, 0, none⟩) s.size cap) w1 ∧
      (∀ i, i < s.size → w1.cell? ⟨w.heap.size, i, none⟩ = some (.int .u8 (PlainAid.bt s i))) ∧ Below w.heap.size w w1 ∧ w.heap.size < w1.heap.size := by
  refine ⟨_, _, run_bytes_of_string w src dst e s hs hd he, ?_, ?_, ?_⟩
  · intro i hi
    have e1 := World.cell?_alloc_mark w.drew (bytesRow s (grownCap w s.size 0 e)) e ((bytesRow s (grownCap w s.size 0 e)).size, (bytesRow s (grownCap w s.size 0 e)).size + 1) i
    have e2 := bytesRow_at s (grownCap w s.size 0 e) i hi
    have e3 : PlainAid.bt s i = ((s.data[i]'hi).toNat : Int) := by unfold PlainAid.bt; rw [dif_pos hi]; rfl
    rw [e3, ← e2]
    exact e1
  · exact ((Below.refl _ _).drew).alloc (Nat.le_refl _) _
  · simp

/-! ### Worlds that are as w below block number B: the class for a region whose callees make memory. -/
/-- w below its size, u from there on. -/
def over (w : World) (u : World) : World :=
  { heap := w.heap.extract 0 w.heap.size ++ u.heap.extract w.heap.size u.heap.size, tape := w.tape, drawn := u.drawn, os := w.os, output := w.output }
theorem over_block (w u : World) (k : Nat) (hk : k < w.heap.size) : (over w u).heap[k]? = w.heap[k]? := by
  unfold over
  simp only
  rw [Array.getElem?_append_left (by simp; omega)]
  rw [Array.getElem?_extract, if_pos (by omega)]
  congr 1; omega
theorem below_over (w u : World) : Below w.heap.size w (over w u) := by
  refine ⟨rfl, rfl, rfl, ?_, fun k hk => over_block w u k hk⟩
  simp [over]
theorem below_eq_over {w w' : World} (h : Below w.heap.size w w') : w' = over w w' := by
  have hs := h.size
  obtain ⟨heap', tape', drawn', os', output'⟩ := w'
  have h1 := h.os; have h2 := h.tape; have h3 := h.output
  simp only at h1 h2 h3 hs
  subst h1; subst h2; subst h3
  unfold over
  simp only [World.mk.injEq, and_true]
  apply Array.ext_getElem?
  intro k
  rcases Nat.lt_or_ge k w.heap.size with hk | hk
  · rw [Array.getElem?_append_left (by simp; omega), Array.getElem?_extract]
    have := h.block k hk
    simp only at this
    rw [this, if_pos (by omega)]; congr 1; omega
  · rw [Array.getElem?_append_right (by simp; omega), Array.getElem?_extract]
    simp only [Array.size_extract]
    rcases Nat.lt_or_ge k heap'.size with h' | h'
    · rw [if_pos (by omega)]; congr 1; omega
    · rw [if_neg (by omega), Array.getElem?_eq_none h']
@[go_sem] theorem cell?_over (w u : World) (b o : Nat) (h : b < w.heap.size) : (over w u).cell? ⟨b, o, none⟩ = w.cell? ⟨b, o, none⟩ :=
  (below_over w u).cell (p := ⟨b, o, none⟩) h
@[go_sem] theorem frozen?_over (w u : World) (b o : Nat) (h : b < w.heap.size) : (over w u).frozen? ⟨b, o, none⟩ = w.frozen? ⟨b, o, none⟩ :=
  (below_over w u).frozen (p := ⟨b, o, none⟩) h
/-- the region law: callees may make memory, what they yield is one value -/
theorem wp_region_over {P : Program} {id : Nat} {Q : Exit → Act → World → Prop} {a : Act} {w : World} {l : List Oper} (hm : P.follows .mixedOrders = true) (hB : Region.lexB .any l.toArray = true)
    (h : wpQuiet P l.toArray (fun w' => ∃ u, w' = over w u) (fun a' => ∀ w', Below w.heap.size w w' → Q .normal a' w') l a) : (Code.region id l.toArray true).wp P Q a w := by
  refine wp_region_quiet (C := fun w' => ∃ u, w' = over w u) hm hB ⟨_, below_eq_over ?_⟩ ?_
  · exact ⟨rfl, rfl, rfl, Nat.le_refl _, fun _ _ => rfl⟩
  · have : ∀ (l' : List Oper) (a' : Act), wpQuiet P l.toArray (fun w' => ∃ u, w' = over w u) (fun a' => ∀ w', Below w.heap.size w w' → Q .normal a' w') l' a' →
        wpQuiet P l.toArray (fun w' => ∃ u, w' = over w u) (fun a' => ∀ w', (∃ u, w' = over w u) → Q .normal a' w') l' a' := by
      intro l'
      induction l' with
      | nil => intro a' h' w' ⟨u, hu⟩; exact h' w' (by rw [hu]; exact below_over w u)
      | cons o r ih =>
        intro a' h'
        unfold wpQuiet at h' ⊢
        split
        · rename_i hw; rw [if_pos hw] at h'
          exact Oper.quiet_mono ih h'
        · rename_i hw; rw [if_neg hw] at h'
          exact ih _ h'
    simpa using this l a h
/-- a callee that makes memory, met in such a region -/
theorem over_of {P : Program} {f : FuncId} {args : Array Value} {w u : World} {v : Value}
    (h : Calls P f args (over w u) fun e w' => e = .returned v ∧ Below (over w u).heap.size (over w u) w') :
    Calls P f args (over w u) fun e w'' => e = .returned v ∧ ∃ u', w'' = over w u' :=
  h.mono fun _ w' ⟨he, hb⟩ => ⟨he, _, below_eq_over ((below_over w u).trans (hb.mono (below_over w u).size))⟩
theorem over_same {P : Program} {f : FuncId} {args : Array Value} {w u : World} {v : Value}
    (h : Calls P f args (over w u) fun e w' => e = .returned v ∧ over w u = w') :
    Calls P f args (over w u) fun e w'' => e = .returned v ∧ ∃ u', w'' = over w u' :=
  h.mono fun _ _ ⟨he, hb⟩ => ⟨he, u, hb.symm⟩
/-- what a world above a world keeps of its cells, laid as rules -/
theorem bcell {W w1 : World} {B : Nat} (hb : Below B W w1) : (∀ b o, b < B → w1.cell? ⟨b, o, none⟩ = W.cell? ⟨b, o, none⟩) ∧ (∀ b o, b < B → w1.frozen? ⟨b, o, none⟩ = W.frozen? ⟨b, o, none⟩) :=
  ⟨fun b o h => hb.cell (p := ⟨b, o, none⟩) h, fun b o h => hb.frozen (p := ⟨b, o, none⟩) h⟩
end Go.Proofs.YtnglhgogkemgbaaGreatDoor
/-! A range over a function, over any program: a law of my own: the function that is ranged over hands out its rounds by a state; it returns, is stopped by the loop's body, or panics. At the wide fence. -/
namespace Go.Proofs.YtnglhgogkemgbaaGreatDoor
open Go.RowKit

/-- of what was there at most the blocks of S have turned -/
structure Only (S : Nat → Prop) (w w' : World) : Prop where
  os : w'.os = w.os
  tape : w'.tape = w.tape
  output : w'.output = w.output
  size : w.heap.size ≤ w'.heap.size
  block : ∀ k, k < w.heap.size → ¬ S k → w'.heap[k]? = w.heap[k]?
theorem Only.refl (S : Nat → Prop) (w : World) : Only S w w := ⟨rfl, rfl, rfl, Nat.le_refl _, fun _ _ _ => rfl⟩
theorem Only.trans {S : Nat → Prop} {a b c : World} (h : Only S a b) (k : Only S b c) : Only S a c :=
  ⟨k.os.trans h.os, k.tape.trans h.tape, k.output.trans h.output, Nat.le_trans h.size k.size, fun i hi hs => (k.block i (Nat.lt_of_lt_of_le hi h.size) hs).trans (h.block i hi hs)⟩
theorem Only.alloc {S : Nat → Prop} {a w : World} (h : Only S a w) (o : Obj) : Only S a (w.alloc o) :=
  h.trans ⟨rfl, rfl, rfl, by simp, fun k hk _ => Below.heap_alloc _ _ _ hk⟩
theorem Only.drew {S : Nat → Prop} {a w : World} (h : Only S a w) : Only S a w.drew := ⟨h.os, h.tape, h.output, h.size, h.block⟩
theorem Only.setCell {S : Nat → Prop} {a w : World} (h : Only S a w) {p : Addr} (hp : S p.block) (v : Value) : Only S a (w.setCell p v) :=
  h.trans ⟨rfl, rfl, rfl, by simp [World.setCell], fun k _ hk => Below.heap_setCell _ _ _ _ (fun e => hk (e ▸ hp))⟩
theorem Only.below {S : Nat → Prop} {a b c : World} (h : Only S a b) (k : Below b.heap.size b c) : Only S a c :=
  h.trans ⟨k.os, k.tape, k.output, k.size, fun i hi _ => k.block i hi⟩
/-- nothing that was there has turned -/
def Grows (A B : World) : Prop := Below A.heap.size A B
theorem Grows.grownBy {A B : World} (h : Grows A B) : A.grownBy B none := ⟨h.os, h.tape, h.output, h.size, fun k hk _ => h.block k hk⟩
/-- A property that abides new blocks. -/
def Stays (J : World → Prop) : Prop := ∀ A B, J A → Grows A B → J B

/-- WHAT A FUNCTION THAT IS RANGED OVER DOES: from state s0 on it asks for a round in each state that it can, with that state's values, and goes to the next; at the end it returns in a last state, or panics; where the body says no more it returns. -/
def IterC {σ : Type} (P : Program) (g : Nat) (lb : Array Value) (enc : σ → Array Value) (nxt : σ → σ) (can : σ → Prop) (last : σ → Prop) (bad : σ → List PanicEntry → Prop) (s0 : σ) (Pre : World → Prop) : Prop :=
  ∀ (l : Nat) (J : σ → World → Prop) (Jx : World → Prop) (W : World), (∀ s, Stays (J s)) → Stays Jx → (∀ s A, J s A → Pre A) →
    (∀ s A, J s A → can s → YieldAt Fence.wide 0 P l (enc s) A fun e B => (e = .returned (.bool true) ∧ J (nxt s) B) ∨ (e = .returned (.bool false) ∧ Jx B)) →
    J s0 W →
    Calls P g (#[.func (.yield l) #[] #[]] ++ lb) W fun e B =>
      ((∃ v, e = .returned v) ∧ ∃ s, last s ∧ J s B) ∨ ((∃ v, e = .returned v) ∧ Jx B) ∨ (∃ chain s, e = .panicked chain ∧ bad s chain ∧ J s B)

/-- how a round's body may be left -/
def roundEnd (W : World) (Go' : World → Prop) (Out : Code → World → Prop) : Exit → Act → World → Prop
  | .normal, _, B => KeepsOthers W B ∧ Go' B
  | .ret, _, B => KeepsOthers W B ∧ Out .ret B
  | .exit id, _, B => KeepsOthers W B ∧ Out (.exit id) B
  | .goto t, _, B => KeepsOthers W B ∧ Out (.goto t) B
  | .panic _, _, _ => False
  | .outgrown, _, _ => False

variable {P : Program}
/-- the loop's two blocks of book-keeping -/
structure Books (D : Nat) (r : Loop) (W : World) : Prop where
  loop : W.heap[D + 1]? = some (.loop r)
  defs : W.heap[D]? = some (.deferred (some []))
theorem Books.grow {D : Nat} {r : Loop} {A B : World} (h : Books D r A) (hg : Grows A B) : Books D r B :=
  ⟨by rw [hg.block _ (Array.getElem?_eq_some_iff.1 h.loop).1]; exact h.loop, by rw [hg.block _ (Array.getElem?_eq_some_iff.1 h.defs).1]; exact h.defs⟩
theorem Books.others {D : Nat} {r : Loop} {A B : World} (h : Books D r A) (hg : KeepsOthers A B) : Books D r B := ⟨hg.same _ _ h.loop rfl, hg.same _ _ h.defs rfl⟩
theorem Books.put {D : Nat} {r : Loop} {A : World} (h : Books D r A) (r' : Loop) : Books D r' (A.putObj (D + 1) (.loop r')) :=
  ⟨World.putObj_heap_same (Array.getElem?_eq_some_iff.1 h.loop).1, (World.putObj_heap_other (by omega)).trans h.defs⟩
theorem OwnFrom.stays {σ : Type} {B : Nat} {I : σ → World → Prop} (h : OwnFrom B I) (s : σ) : Stays (I s) := fun X Y hx hg => h s X Y none hx hg.grownBy (fun r e => by cases e)

theorem wp_range {σ : Type} {g : Operand} {ps : Array Tmp} {assign body : Code} {Q : Exit → Act → World → Prop} {a : Act} {w : World} {gf : Nat} {lb : Array Value}
    (hg : a.eval g = .func (.func gf) #[] lb) (eg : ∀ args w, (callFunc gf args).run P w = .ok (.enter gf args) w)
    {enc : σ → Array Value} {nxt : σ → σ} {can last : σ → Prop} {bad : σ → List PanicEntry → Prop} {s0 : σ} {Pre : World → Prop} (hit : IterC P gf lb enc nxt can last bad s0 Pre)
    (hps : ∀ s, (enc s).size = ps.size) (I : σ → World → Prop) (Ix : Code → World → Prop) (hI : OwnFrom w.heap.size I) (hIx : OwnFrom w.heap.size Ix) (hPre : ∀ s A, I s A → Pre A) (h0 : I s0 w) (a₁ : σ → Act)
    (hassign : ∀ (l : Nat) (s : σ) (W : World) (K : Act → World → Prop), K (a₁ s) W →
      assign.wpIn (Fence.wide.inRound l) 0 P (Exit.then K (fun _ _ _ => False)) { tmps := (ps.zip (enc s)).foldl (fun t (p, v) => t.setIfInBounds p v) a.tmps, defers := [] } W)
    (hbody : ∀ (l : Nat) (s : σ) (W : World), can s → I s W → body.wpIn (Fence.wide.inRound l) 0 P (roundEnd W (I (nxt s)) Ix) (a₁ s) W)
    (hdone : ∀ (D : Nat) (s : σ) (W : World), w.heap.size ≤ D → last s → I s W → W.heap[D]? = some (.deferred (some [])) → Q .normal { a with defers := { target := .collected D, args := #[] } :: a.defers } W)
    (hstop : ∀ (D : Nat) (c : Code) (W : World), w.heap.size ≤ D → Ix c W → W.heap[D]? = some (.deferred (some [])) → c.wpIn Fence.wide 0 P Q { a with defers := { target := .collected D, args := #[] } :: a.defers } W)
    (hbad : ∀ (D : Nat) (chain : List PanicEntry) (s : σ) (W : World), w.heap.size ≤ D → bad s chain → I s W → W.heap[D]? = some (.deferred (some [])) → Q (.panic chain) { a with defers := { target := .collected D, args := #[] } :: a.defers } W) :
    (Code.rangeFunc g ps assign body).wpIn Fence.wide 0 P Q a w := by
  refine wpIn_rangeFunc ?_
  intro fn _
  let D := w.heap.size
  let bk : LoopState → Option Code → Loop := fun st pe => { state := st, pending := pe, fn, tmps := a.tmps, params := ps, assign, body, defers := w.heap.size }
  have start : Books w.heap.size (bk .ready none) ((w.alloc (.deferred (some []))).alloc (.loop (bk .ready none))) := by
    refine ⟨?_, ?_⟩
    · have := World.alloc_heap_new (w.alloc (.deferred (some []))) (.loop (bk .ready none)); rwa [World.size_alloc] at this
    · exact (Below.heap_alloc _ _ _ (by simp)).trans (World.alloc_heap_new w _)
  generalize hW1 : (w.alloc (.deferred (some []))).alloc (.loop (bk .ready none)) = W1 at start
  have hI1 : I s0 W1 := by rw [← hW1]; exact hI.alloc _ (hI.alloc _ h0)
  refine ⟨w.heap.size + 1, [{ target := .collected w.heap.size, args := #[] }], W1, { target := .fn (.func gf) lb, args := #[.func (.yield (w.heap.size + 1)) #[] #[]] }, W1, gf,
    #[.func (.yield (w.heap.size + 1)) #[] #[]] ++ lb, W1, ?_, ?_, ?_, ?_, fun h => (by cases h), ?_⟩
  · rw [← hW1]; exact run_enterLoop_outer _ _ _ _ _
  · simp only [resolve, hg]
    simp [go_sem]
  · intro f' _; trivial
  · simp [invoke, go_sem, eg]
  refine callsIn_wide.2 ((hit (w.heap.size + 1) (fun s W => I s W ∧ Books w.heap.size (bk .ready none) W) (fun W => ∃ c, Ix c W ∧ Books w.heap.size (bk .done (some c)) W) W1
    (fun s A B hA hAB => ⟨OwnFrom.stays hI s A B hA.1 hAB, hA.2.grow hAB⟩)
    (fun A B ⟨c, hc, hb⟩ hAB => ⟨c, OwnFrom.stays hIx c A B hc hAB, hb.grow hAB⟩)
    (fun s A hA => hPre s A hA.1) ?_ ⟨hI1, start⟩).mono ?_)
  · -- one round
    rintro s A ⟨hi, hbk⟩ hcan
    have hy := run_yield (P := P) (args := enc s) hbk.loop (hps s)
    refine ⟨fn, _, assign, body, hy, roundIn_of_wpIn trivial (hassign _ s A _ ⟨_, run_beginRound hbk.loop rfl, ?_⟩)⟩
    have hb2 := hbk.put { bk .ready none with state := .busy }
    have hi2 : I s (A.putObj (w.heap.size + 1) (.loop { bk .ready none with state := .busy })) := hI.putObj _ hi (by omega) hbk.loop rfl
    refine wpIn_mono (hbody _ s _ hcan hi2) ?_
    intro e a3 W3 hp
    have out : ∀ (c : Code), KeepsOthers (A.putObj (w.heap.size + 1) (.loop { bk .ready none with state := .busy })) W3 → Ix c W3 →
        ∃ v w', (Instr.endRound (w.heap.size + 1) (some c)).run P W3 = .ok v w' ∧ ((Ending.returned v = .returned (.bool true) ∧ (I (nxt s) w' ∧ Books w.heap.size (bk .ready none) w')) ∨ (Ending.returned v = .returned (.bool false) ∧ ∃ c, Ix c w' ∧ Books w.heap.size (bk .done (some c)) w')) := by
      intro c hk hx
      have hb3 := hb2.others hk
      exact ⟨_, _, run_endRound (some c) hb3.loop, .inr ⟨rfl, c, hIx.putObj _ hx (by omega) hb3.loop rfl, hb3.put _⟩⟩
    cases e with
    | normal =>
      obtain ⟨hk, hgo⟩ := hp
      have hb3 := hb2.others hk
      exact ⟨_, _, run_endRound none hb3.loop, .inl ⟨rfl, hI.putObj _ hgo (by omega) hb3.loop rfl, hb3.put _⟩⟩
    | ret => exact out _ hp.1 hp.2
    | exit id => exact out _ hp.1 hp.2
    | goto t => exact out _ hp.1 hp.2
    | panic ch => exact hp.elim
    | outgrown => exact hp.elim
  · -- behind it
    rintro e W2 (⟨⟨v, rfl⟩, s, hl, hi, hb⟩ | ⟨⟨v, rfl⟩, c, hx, hb⟩ | ⟨chain, s, rfl, hbd, hi, hb⟩)
    · exact ⟨none, _, run_endLoop hb.loop (by intro h; cases h), hdone _ s _ (Nat.le_refl _) hl (hI.putObj _ hi (by omega) hb.loop rfl) ((World.putObj_heap_other (by omega)).trans hb.defs)⟩
    · exact ⟨some c, _, run_endLoop hb.loop (by intro h; cases h), hstop _ c _ (Nat.le_refl _) (hIx.putObj _ hx (by omega) hb.loop rfl) ((World.putObj_heap_other (by omega)).trans hb.defs)⟩
    · exact hbad _ chain s _ (Nat.le_refl _) hbd hi hb.defs
end Go.Proofs.YtnglhgogkemgbaaGreatDoor
/-! Rows of our own: what a slice literal holds. -/
namespace Go.Proofs.YtnglhgogkemgbaaGreatDoor
open Go.RowKit

theorem row_new (w : World) (l : List Value) (t : TypeId) : ∀ (j : Nat) u, l[j]? = some u → (w.alloc (.cells l.toArray t)).cell? ((⟨w.heap.size, 0, none⟩ : Addr).add j) = some u := by
  intro j u hj
  have : ((⟨w.heap.size, 0, none⟩ : Addr).add j) = ⟨w.heap.size, j, none⟩ := by
    unfold Addr.add; split
    · rename_i h; rw [h]
    · simp
  rw [this]
  unfold World.cell?
  rw [World.alloc_heap_new]
  simpa using hj
end Go.Proofs.YtnglhgogkemgbaaGreatDoor
/-! Slices of numbers that only are read: a word for what they hold, over any program. -/
namespace Go.Proofs.YtnglhgogkemgbaaGreatDoor
open Go.RowKit

/-- a slice of numbers of kind k that reads as xs, its memory (if it has any) from block n on -/
def IntsAt (n : Nat) (k : IntKind) (w : World) (v : Value) (xs : List Int) : Prop :=
  ∃ p cap, v = .slice p xs.length cap ∧ ∀ (i : Nat) (x : Int), xs[i]? = some x → ∃ b o, p = some ⟨b, o, none⟩ ∧ n ≤ b ∧ b < w.heap.size ∧ w.cell? ⟨b, o + i, none⟩ = some (.int k x)
theorem IntsAt.nil (n : Nat) (k : IntKind) (w : World) : IntsAt n k w (.slice none 0 0) [] := ⟨none, 0, rfl, fun i x h => by simp at h⟩
theorem IntsAt.below {n : Nat} {k : IntKind} {w w' : World} {v : Value} {xs : List Int} (h : IntsAt n k w v xs) (hb : Below w.heap.size w w') : IntsAt n k w' v xs := by
  obtain ⟨p, cap, h1, h2⟩ := h
  refine ⟨p, cap, h1, fun i x hx => ?_⟩
  obtain ⟨b, o, e1, e2, e3, e4⟩ := h2 i x hx
  exact ⟨b, o, e1, e2, Nat.lt_of_lt_of_le e3 hb.size, by rw [hb.cell (p := ⟨b, o + i, none⟩) e3]; exact e4⟩
theorem IntsAt.mono {n m : Nat} {k : IntKind} {w : World} {v : Value} {xs : List Int} (h : IntsAt n k w v xs) (hm : m ≤ n) : IntsAt m k w v xs := by
  obtain ⟨p, cap, h1, h2⟩ := h
  refine ⟨p, cap, h1, fun i x hx => ?_⟩
  obtain ⟨b, o, e1, e2, e3⟩ := h2 i x hx
  exact ⟨b, o, e1, Nat.le_trans hm e2, e3⟩
theorem IntsAt.only {n : Nat} {k : IntKind} {S : Nat → Prop} {w w' : World} {v : Value} {xs : List Int} (h : IntsAt n k w v xs) (ho : Only S w w') (hS : ∀ k, S k → k < n) : IntsAt n k w' v xs := by
  obtain ⟨p, cap, h1, h2⟩ := h
  refine ⟨p, cap, h1, fun i x hx => ?_⟩
  obtain ⟨b, o, e1, e2, e3, e4⟩ := h2 i x hx
  have := ho.block b e3 (fun hs => by have := hS b hs; omega)
  exact ⟨b, o, e1, e2, Nat.lt_of_lt_of_le e3 ho.size, by rw [World.cell?_of_block (w := w) (a := ⟨b, o + i, none⟩) this]; exact e4⟩
theorem IntsAt.at {n : Nat} {k : IntKind} {w : World} {p : Option Addr} {len cap : Nat} {xs : List Int} (h : IntsAt n k w (.slice p len cap) xs) (i : Nat) (hi : i < xs.length) :
    ∃ b o, p = some ⟨b, o, none⟩ ∧ n ≤ b ∧ b < w.heap.size ∧ w.cell? ⟨b, o + i, none⟩ = some (.int k (xs.getD i 0)) := by
  obtain ⟨p', cap', h1, h2⟩ := h
  cases h1
  have := h2 i (xs.getD i 0) (by rw [List.getD_eq_getElem?_getD, List.getElem?_eq_getElem hi]; rfl)
  exact this
end Go.Proofs.YtnglhgogkemgbaaGreatDoor
/-! The trie in plain words: entries, prefixes, the longest match. -/
namespace Go.Proofs.YtnglhgogkemgbaaGreatDoor

abbrev El := Int × Int × Int × Bool
abbrev Ent := List Int × List El
/-- the number of the entry that has just these code points -/
def idx (es : List Ent) (p : List Int) : Option Nat := es.findIdx? fun e => e.1 == p
/-- p begins one of the lists, or is nothing -/
def Dom (S : List (List Int)) (p : List Int) : Prop := p = [] ∨ ∃ c ∈ S, p <+: c
theorem idx_some {es : List Ent} {p : List Int} {i : Nat} (h : idx es p = some i) : ∃ e, es[i]? = some e ∧ e.1 = p := by
  unfold idx at h
  rw [List.findIdx?_eq_some_iff_getElem] at h
  obtain ⟨h1, h2, _⟩ := h
  exact ⟨es[i], List.getElem?_eq_getElem h1, by simpa using h2⟩
theorem idx_none {es : List Ent} {p : List Int} (h : idx es p = none) : ∀ e ∈ es, e.1 ≠ p := by
  unfold idx at h
  rw [List.findIdx?_eq_none_iff] at h
  intro e he; have := h e he; simpa using this
theorem idx_isSome {es : List Ent} {e : Ent} (h : e ∈ es) : ∃ i, idx es e.1 = some i := by
  cases hi : idx es e.1 with
  | none => exact absurd rfl (idx_none hi e h)
  | some i => exact ⟨i, rfl⟩
theorem idx_snoc (es : List Ent) (e : Ent) (p : List Int) : idx (es ++ [e]) p = match idx es p with | some i => some i | none => if e.1 = p then some es.length else none := by
  unfold idx
  rw [List.findIdx?_append]
  cases h : es.findIdx? (fun e => e.1 == p) with
  | some i => rfl
  | none =>
    by_cases he : e.1 = p
    · simp [he]
    · simp [he]
theorem dom_pre {S : List (List Int)} {p q : List Int} (h : Dom S q) (hp : p <+: q) : Dom S p := by
  rcases h with rfl | ⟨c, hc, hq⟩
  · exact .inl (List.prefix_nil.1 hp)
  · exact .inr ⟨c, hc, hp.trans hq⟩
end Go.Proofs.YtnglhgogkemgbaaGreatDoor
/-! Slices of numbers, of elements and of entries that only are read: a word for what they hold, and in which blocks, over any program. -/
namespace Go.Proofs.YtnglhgogkemgbaaGreatDoor
open Go.RowKit

/-- the blocks of R are as they were -/
def Kept (R : Nat → Prop) (w w' : World) : Prop := w.heap.size ≤ w'.heap.size ∧ ∀ b, R b → b < w.heap.size → w'.heap[b]? = w.heap[b]?
theorem Kept.below {R : Nat → Prop} {w w' : World} (h : Below w.heap.size w w') : Kept R w w' := ⟨h.size, fun b _ hl => h.block b hl⟩
theorem Kept.only {R S : Nat → Prop} {w w' : World} (h : Only S w w') (hS : ∀ b, R b → ¬ S b) : Kept R w w' := ⟨h.size, fun b hr hl => h.block b hl (hS b hr)⟩
theorem Kept.grown {R : Nat → Prop} {w w' : World} {row : Option Nat} (h : w.grownBy w' row) (hr : ∀ b, R b → some b ≠ row) : Kept R w w' := ⟨h.size, fun b h1 h2 => h.block b h2 (hr b h1)⟩
theorem Kept.trans {R : Nat → Prop} {a b c : World} (h : Kept R a b) (k : Kept R b c) : Kept R a c := ⟨Nat.le_trans h.1 k.1, fun i hr hl => (k.2 i hr (Nat.lt_of_lt_of_le hl h.1)).trans (h.2 i hr hl)⟩

def IntsIn (R : Nat → Prop) (k : IntKind) (w : World) (v : Value) (xs : List Int) : Prop :=
  ∃ p cap, v = .slice p xs.length cap ∧ (xs.length ≤ cap ∧ cap ≤ maxLen) ∧ ∀ (i : Nat) (x : Int), xs[i]? = some x → ∃ b o, p = some ⟨b, o, none⟩ ∧ R b ∧ b < w.heap.size ∧ w.cell? ⟨b, o + i, none⟩ = some (.int k x)
theorem IntsIn.nil (R : Nat → Prop) (k : IntKind) (w : World) : IntsIn R k w (.slice none 0 0) [] := ⟨none, 0, rfl, ⟨Nat.le_refl _, Nat.zero_le _⟩, fun i x h => by simp at h⟩
theorem IntsIn.kept {R : Nat → Prop} {k : IntKind} {w w' : World} {v : Value} {xs : List Int} (h : IntsIn R k w v xs) (hb : Kept R w w') : IntsIn R k w' v xs := by
  obtain ⟨p, cap, h1, h0, h2⟩ := h
  refine ⟨p, cap, h1, h0, fun i x hx => ?_⟩
  obtain ⟨b, o, e1, e2, e3, e4⟩ := h2 i x hx
  exact ⟨b, o, e1, e2, Nat.lt_of_lt_of_le e3 hb.1, by rw [World.cell?_of_block (w := w) (a := ⟨b, o + i, none⟩) (hb.2 b e2 e3)]; exact e4⟩
theorem IntsIn.mono {R S : Nat → Prop} {k : IntKind} {w : World} {v : Value} {xs : List Int} (h : IntsIn R k w v xs) (hm : ∀ b, R b → b < w.heap.size → S b) : IntsIn S k w v xs := by
  obtain ⟨p, cap, h1, h0, h2⟩ := h
  refine ⟨p, cap, h1, h0, fun i x hx => ?_⟩
  obtain ⟨b, o, e1, e2, e3, e4⟩ := h2 i x hx
  exact ⟨b, o, e1, hm b e2 e3, e3, e4⟩
theorem IntsIn.at {R : Nat → Prop} {k : IntKind} {w : World} {p : Option Addr} {len cap : Nat} {xs : List Int} (h : IntsIn R k w (.slice p len cap) xs) (i : Nat) (hi : i < xs.length) :
    ∃ b o, p = some ⟨b, o, none⟩ ∧ R b ∧ b < w.heap.size ∧ w.cell? ⟨b, o + i, none⟩ = some (.int k (xs.getD i 0)) := by
  obtain ⟨p', cap', h1, _, h2⟩ := h
  cases h1
  exact h2 i (xs.getD i 0) (by rw [List.getD_eq_getElem?_getD, List.getElem?_eq_getElem hi]; rfl)
theorem IntsIn.cap {R : Nat → Prop} {k : IntKind} {w : World} {p : Option Addr} {len cap : Nat} {xs : List Int} (h : IntsIn R k w (.slice p len cap) xs) : xs.length ≤ cap ∧ cap ≤ maxLen := by
  obtain ⟨p', cap', h1, h0, _⟩ := h
  cases h1; exact h0

/-- the cells of an element -/
def elCells (x : El) : List Value := [.int .i64 x.1, .int .i64 x.2.1, .int .i64 x.2.2.1, .bool x.2.2.2]
def elAgg (x : El) : Value := .agg #[.int .i64 x.1, .int .i64 x.2.1, .int .i64 x.2.2.1, .bool x.2.2.2]
/-- four cells from a place on -/
def El4 (w : World) (b o : Nat) (x : El) : Prop :=
  w.cell? ⟨b, o, none⟩ = some (.int .i64 x.1) ∧ w.cell? ⟨b, o + 1, none⟩ = some (.int .i64 x.2.1) ∧ w.cell? ⟨b, o + 2, none⟩ = some (.int .i64 x.2.2.1) ∧ w.cell? ⟨b, o + 3, none⟩ = some (.bool x.2.2.2)
theorem El4.of {w w' : World} {b o : Nat} {x : El} (h : El4 w b o x) (hb : w'.heap[b]? = w.heap[b]?) : El4 w' b o x := by
  have e : ∀ o', w'.cell? ⟨b, o', none⟩ = w.cell? ⟨b, o', none⟩ := fun o' => World.cell?_of_block (w := w) (a := ⟨b, o', none⟩) hb
  exact ⟨(e _).trans h.1, (e _).trans h.2.1, (e _).trans h.2.2.1, (e _).trans h.2.2.2⟩
def ElsIn (R : Nat → Prop) (w : World) (v : Value) (xs : List El) : Prop :=
  ∃ p cap, v = .slice p xs.length cap ∧ ∀ (i : Nat) (x : El), xs[i]? = some x → ∃ b o, p = some ⟨b, o, none⟩ ∧ R b ∧ b < w.heap.size ∧ El4 w b (o + i * 4) x
theorem ElsIn.nil (R : Nat → Prop) (w : World) : ElsIn R w (.slice none 0 0) [] := ⟨none, 0, rfl, fun i x h => by simp at h⟩
theorem ElsIn.kept {R : Nat → Prop} {w w' : World} {v : Value} {xs : List El} (h : ElsIn R w v xs) (hb : Kept R w w') : ElsIn R w' v xs := by
  obtain ⟨p, cap, h1, h2⟩ := h
  refine ⟨p, cap, h1, fun i x hx => ?_⟩
  obtain ⟨b, o, e1, e2, e3, e4⟩ := h2 i x hx
  exact ⟨b, o, e1, e2, Nat.lt_of_lt_of_le e3 hb.1, e4.of (hb.2 b e2 e3)⟩
theorem ElsIn.mono {R S : Nat → Prop} {w : World} {v : Value} {xs : List El} (h : ElsIn R w v xs) (hm : ∀ b, R b → b < w.heap.size → S b) : ElsIn S w v xs := by
  obtain ⟨p, cap, h1, h2⟩ := h
  refine ⟨p, cap, h1, fun i x hx => ?_⟩
  obtain ⟨b, o, e1, e2, e3, e4⟩ := h2 i x hx
  exact ⟨b, o, e1, hm b e2 e3, e3, e4⟩
theorem ElsIn.at {R : Nat → Prop} {w : World} {p : Option Addr} {len cap : Nat} {xs : List El} (h : ElsIn R w (.slice p len cap) xs) (i : Nat) (x : El) (hi : xs[i]? = some x) :
    ∃ b o, p = some ⟨b, o, none⟩ ∧ R b ∧ b < w.heap.size ∧ El4 w b (o + i * 4) x := by
  obtain ⟨p', cap', h1, h2⟩ := h
  cases h1
  exact h2 i x hi
/-- a slice of entries -/
def EntsIn (R : Nat → Prop) (w : World) (v : Value) (es : List Ent) : Prop :=
  ∃ p cap, v = .slice p es.length cap ∧ ∀ (i : Nat) (e : Ent), es[i]? = some e → ∃ b o c u, p = some ⟨b, o, none⟩ ∧ R b ∧ b < w.heap.size ∧ w.cell? ⟨b, o + i * 2, none⟩ = some c ∧ w.cell? ⟨b, o + i * 2 + 1, none⟩ = some u ∧
    IntsIn R .i32 w c e.1 ∧ ElsIn R w u e.2
theorem EntsIn.kept {R : Nat → Prop} {w w' : World} {v : Value} {es : List Ent} (h : EntsIn R w v es) (hb : Kept R w w') : EntsIn R w' v es := by
  obtain ⟨p, cap, h1, h2⟩ := h
  refine ⟨p, cap, h1, fun i x hx => ?_⟩
  obtain ⟨b, o, c, u, e1, e2, e3, e4, e5, e6, e7⟩ := h2 i x hx
  have hbb := hb.2 b e2 e3
  exact ⟨b, o, c, u, e1, e2, Nat.lt_of_lt_of_le e3 hb.1, by rw [World.cell?_of_block (w := w) (a := ⟨b, o + i * 2, none⟩) hbb]; exact e4, by rw [World.cell?_of_block (w := w) (a := ⟨b, o + i * 2 + 1, none⟩) hbb]; exact e5,
    e6.kept hb, e7.kept hb⟩
theorem EntsIn.at {R : Nat → Prop} {w : World} {p : Option Addr} {len cap : Nat} {es : List Ent} (h : EntsIn R w (.slice p len cap) es) (i : Nat) (e : Ent) (hi : es[i]? = some e) :
    ∃ b o c u, p = some ⟨b, o, none⟩ ∧ R b ∧ b < w.heap.size ∧ w.cell? ⟨b, o + i * 2, none⟩ = some c ∧ w.cell? ⟨b, o + i * 2 + 1, none⟩ = some u ∧ IntsIn R .i32 w c e.1 ∧ ElsIn R w u e.2 := by
  obtain ⟨p', cap', h1, h2⟩ := h
  cases h1
  exact h2 i e hi
end Go.Proofs.YtnglhgogkemgbaaGreatDoor
/-! A range over a function whose body may break or return, over any program: one goal for what stands behind it. -/
namespace Go.Proofs.YtnglhgogkemgbaaGreatDoor
open Go.RowKit

/-- abides new blocks, and what turns in blocks of book-keeping from B on -/
def StayFrom (B : Nat) (I : World → Prop) : Prop :=
  ∀ W W' row, I W → W.grownBy W' row → (∀ r, row = some r → B ≤ r ∧ ∃ o : Obj, W.heap[r]? = some o ∧ o.isCells = false) → I W'
theorem StayFrom.and {B : Nat} {I J : World → Prop} (h : StayFrom B I) (k : StayFrom B J) : StayFrom B (fun W => I W ∧ J W) :=
  fun W W' row hs hg hr => ⟨h W W' row hs.1 hg hr, k W W' row hs.2 hg hr⟩
theorem StayFrom.const {B : Nat} (p : Prop) : StayFrom B (fun _ => p) := fun _ _ _ h _ _ => h
theorem StayFrom.only {S : Nat → Prop} {W0 : World} {B : Nat} (hB : W0.heap.size ≤ B) : StayFrom B (Only S W0) := by
  intro W W' row h hg hr
  refine ⟨hg.os.trans h.os, hg.tape.trans h.tape, hg.output.trans h.output, Nat.le_trans h.size hg.size, fun k hk hs => ?_⟩
  rw [hg.block k (Nat.lt_of_lt_of_le hk h.size) (fun e => by have := (hr k e.symm).1; omega)]
  exact h.block k hk hs
theorem StayFrom.boxed {B b : Nat} {t : TypeId} {v : Value} : StayFrom B (fun W => Boxed W b t v) := by
  intro W W' row h hg hr
  refine h.kept hg (fun e => ?_)
  obtain ⟨_, o, ho, hc⟩ := hr b e.symm
  rw [show W.heap[b]? = _ from h] at ho; cases ho; cases hc
theorem StayFrom.cell {B : Nat} {a : Addr} {v : Value} : StayFrom B (fun W => W.cell? a = some v) :=
  fun _ _ _ h hg hr => cell_kept h hg (fun r e => (hr r e).2)
theorem StayFrom.imp {B : Nat} {I : World → Prop} {p : Prop} (h : p → StayFrom B I) : StayFrom B (fun W => p → I W) := fun W W' row hs hg hr hp => h hp W W' row (hs hp) hg hr
variable {P : Program}
/-- the frame behind a range: one mark more -/
def marked (a : Act) (D : Nat) : Act := { a with defers := { target := .collected D, args := #[] } :: a.defers }

/-- the frame in which a round begins: the loop's variables, then what else has been assigned -/
def roundFrame (a : Act) (ps : Array Tmp) (vs : Array Value) (qs : List (Nat × Value)) : Act :=
  { tmps := qs.foldl (fun t (p, v) => t.setIfInBounds p v) ((ps.zip vs).foldl (fun t (p, v) => t.setIfInBounds p v) a.tmps), defers := [] }

theorem wp_range2 {σ : Type} {g : Operand} {ps : Array Tmp} {assign body : Code} {Q : Exit → Act → World → Prop} {a : Act} {w : World} {gf : Nat} {lb : Array Value} (id : Nat)
    (hg : a.eval g = .func (.func gf) #[] lb) (eg : ∀ args w, (callFunc gf args).run P w = .ok (.enter gf args) w)
    {enc : σ → Array Value} {nxt : σ → σ} {can last : σ → Prop} {bad : σ → List PanicEntry → Prop} {s0 : σ} {Pre : World → Prop} (hit : IterC P gf lb enc nxt can last bad s0 Pre)
    (hps : ∀ s, (enc s).size = ps.size) (I : σ → World → Prop) (Ib Ir : World → Prop) (hI : ∀ s, StayFrom w.heap.size (I s)) (hIb : StayFrom w.heap.size Ib) (hIr : StayFrom w.heap.size Ir) (hPre : ∀ s A, I s A → Pre A) (h0 : I s0 w) (qs : σ → List (Nat × Value))
    (hassign : ∀ (l : Nat) (s : σ) (W : World), assign.wpIn (Fence.wide.inRound l) 0 P (Exit.then (fun a' W' => roundFrame a ps (enc s) (qs s) = a' ∧ W = W') (fun _ _ _ => False)) { tmps := (ps.zip (enc s)).foldl (fun t (p, v) => t.setIfInBounds p v) a.tmps, defers := [] } W)
    (hbody : ∀ (l : Nat) (s : σ) (W : World), can s → I s W → body.wpIn (Fence.wide.inRound l) 0 P (roundEnd W (I (nxt s)) (fun c W' => (c = .exit id ∧ Ib W') ∨ (c = .ret ∧ Ir W'))) (roundFrame a ps (enc s) (qs s)) W)
    (hafter : ∀ (D : Nat) (W : World), w.heap.size ≤ D → ((∃ s, last s ∧ I s W) ∨ Ib W) → W.heap[D]? = some (.deferred (some [])) → Q .normal (marked a D) W)
    (hexit : ∀ a' W', Q .normal a' W' → Q (.exit id) a' W')
    (hret : ∀ (D : Nat) (W : World), w.heap.size ≤ D → Ir W → W.heap[D]? = some (.deferred (some [])) → Q .ret (marked a D) W)
    (hbad : ∀ (D : Nat) (chain : List PanicEntry) (s : σ) (W : World), w.heap.size ≤ D → bad s chain → I s W → W.heap[D]? = some (.deferred (some [])) → Q (.panic chain) (marked a D) W) :
    (Code.rangeFunc g ps assign body).wpIn Fence.wide 0 P Q a w := by
  refine wp_range hg eg hit hps I (fun c W' => (c = .exit id ∧ Ib W') ∨ (c = .ret ∧ Ir W')) (fun s W W' row hs hgr hr => hI s W W' row hs hgr hr) ?_ hPre h0 (fun s => roundFrame a ps (enc s) (qs s)) ?_ hbody
    (fun D s W h1 h2 h3 h4 => hafter D W h1 (.inl ⟨s, h2, h3⟩) h4) ?_ hbad
  · rintro c W W' row (⟨e, hs⟩ | ⟨e, hs⟩) hgr hr
    · exact .inl ⟨e, hIb W W' row hs hgr hr⟩
    · exact .inr ⟨e, hIr W W' row hs hgr hr⟩
  · intro l s W K hK
    refine wpIn_mono (hassign l s W) ?_
    intro e a' W' h
    cases e with
    | normal => obtain ⟨rfl, rfl⟩ := h; exact hK
    | ret => exact h.elim
    | exit id => exact h.elim
    | goto t => exact h.elim
    | panic ch => exact h.elim
    | outgrown => exact h.elim
  · rintro D c W h1 (⟨rfl, hs⟩ | ⟨rfl, hs⟩) h3
    · exact wpIn_exit (hexit _ _ (hafter D W h1 (.inr hs) h3))
    · exact wpIn_ret (hret D W h1 hs h3)

theorem leave_mark {fn : Func} {R : Ending → World → Prop} {tmps : Array Value} {D : Nat} {w : World} {v : Value} (h : w.heap[D]? = some (.deferred (some [])))
    (hr : (results fn tmps).run P (w.putObj D (.deferred none)) = .ok v (w.putObj D (.deferred none))) (hR : R (.returned v) (w.putObj D (.deferred none))) :
    bodyPostM Fence.wide 0 P fn R .ret { tmps := tmps, defers := [{ target := .collected D, args := #[] }] } w :=
  ⟨by simp, .inl ⟨_, _, rfl, run_takeDeferred h, _, hr, hR⟩⟩
theorem keeps_below {A B : World} (h : Below A.heap.size A B) : KeepsOthers A B := KeepsOthers.of_grownBy (Grows.grownBy h) (by intro j o e; cases e)
end Go.Proofs.YtnglhgogkemgbaaGreatDoor
/-! A region that draws its order, its operations without a call, its last ones a tail: inside a fence (a round of a range over a function), over any program. -/
namespace Go.Proofs.YtnglhgogkemgbaaGreatDoor

/-- an operation that neither calls nor defers nor waits -/
def plainOp : Op → Bool
  | .move _ | .assign _ | .pick .. | .alloc _ | .box .. | .load .. | .store .. | .nilCheck _ | .binOp .. | .unOp .. | .convert .. | .fieldAddr .. | .field .. | .indexAddr .. | .index .. => true
  | _ => false
def plainNext : Next → Prop
  | .value _ | .skip => True
  | _ => False
def Plainly (P : Program) (s : Sem Next) : Prop := ∀ w w' x, s.run P w = .ok x w' → plainNext x
theorem Plainly.pure {P : Program} {x : Next} (h : plainNext x) : Plainly P (pure x) := by
  intro w w' y e
  rw [Sem.run_pure] at e
  cases e; exact h
theorem Plainly.bind {P : Program} {α : Type} {s : Sem α} {f : α → Sem Next} (h : ∀ a, Plainly P (f a)) : Plainly P (s >>= f) := by
  intro w w' x e
  rw [Sem.run_bind] at e
  cases hs : s.run P w with
  | ok v u => rw [hs] at e; exact h v u w' x e
  | halt c u => rw [hs] at e; cases e
theorem Plainly.panic {P : Program} : Plainly P (runtimePanic .nilDeref) := by
  unfold runtimePanic
  refine .bind fun p => ?_
  intro w w' x h
  cases h
theorem plain_exec {P : Program} {o : Oper} {ρ : Operand → Value} (hp : plainOp o.op = true) : Plainly P (execOp ρ o) := by
  unfold execOp
  cases ho : o.op <;> rw [ho] at hp <;> simp only [plainOp, Bool.false_eq_true] at hp <;> simp only
  case nilCheck y =>
    split
    · exact .panic
    · exact .panic
    · exact .panic
    · split
      · exact .panic
      · refine .bind fun p => .bind fun b => ?_
        split
        · exact .bind fun _ => .pure (x := .value _) trivial
        · exact .pure (x := .value _) trivial
      · exact .pure (x := .value _) trivial
    · exact .pure (x := .value _) trivial
  all_goals first
    | exact Plainly.pure (x := .value _) trivial
    | exact Plainly.bind fun _ => Plainly.pure (x := .value _) trivial
    | exact Plainly.bind fun _ => Plainly.pure (x := .skip) trivial
    | skip
theorem plain_about {P : Program} {o : Oper} {ρ : Operand → Value} {w : World} (hp : plainOp o.op = true) : o.about P w ρ = none := by
  unfold Oper.about
  cases ho : o.op <;> rw [ho] at hp <;> simp only [plainOp, Bool.false_eq_true] at hp <;> rfl
theorem plain_semAt {o : Oper} {ρ : Operand → Value} (hp : plainOp o.op = true) (r : Option Nat) : o.semAt r ρ = execOp ρ o := by
  refine Oper.semAt_eq r ρ o fun c hc => ?_
  rw [hc] at hp; cases hp
theorem plain_wpIn {F : Fence} {n : Nat} {P : Program} {o : Oper} {a : Act} {w : World} {K : Act → World → Prop} {Q : Exit → Act → World → Prop} (hp : plainOp o.op = true) (h : o.wp P a w K Q) : o.wpIn F n P a w K Q := by
  refine ⟨fun f hf => (by rw [plain_about hp] at hf; cases hf), ?_⟩
  rw [plain_semAt hp]
  unfold Oper.wp at h
  have hx := plain_exec (P := P) (ρ := a.eval) hp w
  generalize (execOp a.eval o).run P w = r at *
  cases r with
  | ok x w' =>
    have := hx w' x rfl
    cases x <;> first | exact h | exact this.elim
  | halt c w' => cases c <;> exact h

section
variable {F : Fence} {n : Nat} {P : Program} {ops : Array Oper} {Q : Exit → Act → World → Prop} {md : Region.Mode}
theorem plain_wpOpIn {i : Nat} {K K' : Act → World → Prop} {a : Act} {w : World} (hp : ∀ (j : Nat) o, ops[j]? = some o → plainOp o.op = true) (hQ : ¬ LetsOut Q) (hK : ∀ a w, K a w → K' a w) (h : wpOp P ops Q i K a w) : wpOpIn F n P ops Q i K' a w := by
  unfold wpOp at h
  unfold wpOpIn
  cases ho : ops[i]? with
  | none => rw [ho] at h; exact hK _ _ h
  | some o =>
    rw [ho] at h
    simp only at h ⊢
    split
    · rename_i hw
      rw [if_pos hw] at h
      rcases h with h | h
      · exact plain_wpIn (hp i o ho) (Oper.wp_mono hK h)
      · exact absurd h.2 hQ
    · rename_i hw
      rw [if_neg hw] at h
      exact ⟨fun f hf => (by rw [plain_about (hp i o ho)] at hf; cases hf), hK _ _ h⟩
theorem plain_wpAnyIn (hp : ∀ (j : Nat) o, ops[j]? = some o → plainOp o.op = true) (hQ : ¬ LetsOut Q) : ∀ (fuel : Nat) (listed : Array Bool) (a : Act) (w : World), wpAny P md ops Q fuel listed a w → wpAnyIn F n P md ops Q fuel listed a w := by
  intro fuel
  induction fuel with
  | zero => intro listed a w h; exact h
  | succ fuel ih => intro listed a w h; exact ⟨h.1, fun i hi => plain_wpOpIn hp hQ (fun a w => ih _ a w) (h.2 i hi)⟩
end
theorem wpAny_still_tail {P : Program} {Q : Exit → Act → World → Prop} {a : Act} {w : World} {l : List Oper} (n : Nat) (hB : Region.lexTailB .any l.toArray n = true)
    (h : wpStill P l.toArray { w with drawn := w.drawn + 1 } (fun a' => wpList P l.toArray Q (l.drop n) a' { w with drawn := w.drawn + 1 }) (l.take n) a) :
    wpAny P .any l.toArray Q l.toArray.size (Array.replicate l.toArray.size false) a { w with drawn := w.drawn + 1 } := by
  simp only [Region.lexTailB, Bool.and_eq_true, decide_eq_true_eq] at hB
  obtain ⟨⟨⟨⟨hsel, hn⟩, hs⟩, hc⟩, hlex⟩ := hB
  have hn' : n < l.length := by simpa using hn
  have htl : (l.take n).length = n := by simp; omega
  have hdl : (l.drop n).length = l.toArray.size - n := by simp
  have inv0 : HeadInv .any l.toArray n (Array.replicate l.toArray.size false) :=
    ⟨by simp, fun j oj _ hl => (by rw [getD_replicate_false] at hl; cases hl), fun t _ ht => getD_in (by simpa using ht) (getD_replicate_false _ _)⟩
  have H := wpAnyL_lex (md := .any) (g := l.toArray.size - n) hsel hs hc hn (l.take n) 0 _ a (fun j hj => by
    have hj' : j < n := by rw [htl] at hj; exact hj
    simp [hj']) (by simpa using htl) inv0 (by rw [htl]; exact hlex) h
  have := wpAny_of_head (Q' := Q) (g := l.toArray.size - n) (fun listed a' hL => by
    have := wpAny_of_seq (md := .any) (Q' := Q) (l.drop n) n listed a' { w with drawn := w.drawn + 1 } (fun j => by simp [List.getElem?_drop]) (by rw [hdl]; exact hL.1) hL.2
    rwa [hdl] at this) _ _ _ H
  rw [htl, show n + (l.toArray.size - n) = l.toArray.size by omega] at this
  exact this
theorem wpIn_region_tail {F : Fence} {m : Nat} {P : Program} {id : Nat} {Q : Exit → Act → World → Prop} {a : Act} {w : World} {l : List Oper} (n : Nat) (hm : P.follows .mixedOrders = true) (hB : Region.lexTailB .any l.toArray n = true) (hp : l.all (fun o => plainOp o.op) = true) (hQ : ¬ LetsOut Q)
    (h : wpStill P l.toArray w.drew (fun a' => wpList P l.toArray Q (l.drop n) a' w.drew) (l.take n) a) : (Code.region id l.toArray true).wpIn F m P Q a w :=
  wpIn_region_any hm (plain_wpAnyIn (fun j o ho => List.all_eq_true.1 hp o (List.mem_of_getElem? (by simpa using ho))) hQ _ _ _ _ (wpAny_still_tail n hB h))
end Go.Proofs.YtnglhgogkemgbaaGreatDoor
/-! UTF-8 in plain words: which scalar's form stands at a place of a text. -/
namespace Go.Proofs.YtnglhgogkemgbaaGreatDoor
open Go.RowKit
open PlainAid (bt)

/-- a scalar -/
def sc (r : Int) : Bool := decide (0 ≤ r ∧ r < 55296) || decide (57343 < r ∧ r ≤ 1114111)
/-- a byte that goes on -/
def co (c : Int) : Bool := decide (128 ≤ c ∧ c < 192)
/-- its form -/
def enc (r : Int) : List Int :=
  if r < 128 then [r] else if r < 2048 then [192 + r / 64, 128 + r % 64] else if r < 65536 then [224 + r / 4096, 128 + r / 64 % 64, 128 + r % 64]
  else [240 + r / 262144, 128 + r / 4096 % 64, 128 + r / 64 % 64, 128 + r % 64]
/-- what the bytes at a place come to, as a form of two, three, four bytes -/
def r2 (s : ByteArray) (a : Nat) : Int := bt s a % 32 * 64 + bt s (a + 1) % 64
def r3 (s : ByteArray) (a : Nat) : Int := (bt s a % 16 * 64 + bt s (a + 1) % 64) * 64 + bt s (a + 2) % 64
def r4 (s : ByteArray) (a : Nat) : Int := ((bt s a % 8 * 64 + bt s (a + 1) % 64) * 64 + bt s (a + 2) % 64) * 64 + bt s (a + 3) % 64
/-- a code point that may be -/
def pt (r : Int) : Bool := decide (0 ≤ r) && decide (r ≤ 1114111) && (decide (r < 55296) || decide (57343 < r))
theorem take_snocR {α : Type} {l : List α} {i : Nat} {x : α} (h : l[i]? = some x) : l.take (i + 1) = l.take i ++ [x] := by rw [List.take_add_one, h]; rfl
end Go.Proofs.YtnglhgogkemgbaaGreatDoor
