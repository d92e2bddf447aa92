/- norm.sorted, slices.SortStableFunc at []rune. norm.sorted of nothing. Putting in order, plain: each goes ahead of those of its run that have a greater class. A range over a function whose loop variable lies in memory of its own, over any program. -/
import Derived.Test.YtnglhgogkemgbaaGreatDoorG26
import Derived.Test.YtnglhgogkemgbaaGreatDoorG27
import Derived.Test.YtnglhgogkemgbaaGreatDoorG24
import Derived.Test.YtnglhgogkemgbaaGreatDoorG01
/-! norm.sorted, slices.SortStableFunc at []rune. -/
namespace Go.Proofs.YtnglhgogkemgbaaGreatDoor
open Go.RowKit

/-- a number of each code point that the method Class of rv tells, in worlds of I, which lasts where only one block from B on is turned -/
structure Num (f : Int → Int) (rv : Value) (B : Nat) (I : World → Prop) : Prop where
  lo : ∀ r, 0 ≤ f r
  hi : ∀ r, f r ≤ 255
  call : ∀ r W, I W → Calls Tryz.prog 100 #[rv, .int .i32 r] W fun e w' => e = .returned (.int .i64 (f r)) ∧ Below W.heap.size W w'
  keep : ∀ g W W', B ≤ g → I W → Only (fun k => k = g) W W' → I W'
theorem Num.below {f : Int → Int} {rv : Value} {B : Nat} {I : World → Prop} (h : Num f rv B I) {W W' : World} (hi : I W) (hb : Below W.heap.size W W') : I W' := h.keep B W W' (Nat.le_refl _) hi ((Only.refl _ W).below hb)
set_option maxHeartbeats 1000000 in
set_option maxRecDepth 100000 in
theorem sortStable_any (f : Int → Int) (J : World → Prop) (nb g off cap n : Nat) (S : List Int) (w : World) (hC : CmpBy f g nb J) (hs : SeqAt w g off S) (hj : J w) (hn : S.length = n) (hl : n ≤ 1000000000) :
    Calls Tryz.prog 184 #[.slice (some ⟨g, off, none⟩) n cap, .func (.func 185) #[] #[.pointer (some ⟨nb, 0, none⟩)]] w fun e w' =>
      e = .returned (.tuple #[]) ∧ (∃ M, Stab f S M ∧ SeqAt w' g off M) ∧ Frm g off n w w' := by
  have hst := stable_any f J nb g off cap n S w hC hs hj hn hl (symMerge_any f J nb g off cap n hC hl _)
  clear hC hs hj hn
  go_enter Tryz.func184, Tryz.ntmps184
  go_wp2_with fail
  with_reducible refine hst.mono ?_
  rintro e w1 ⟨rfl, h1, h2⟩
  have H1 := Lib.hid h1
  have H2 := Lib.hid h2
  clear hst h1 h2
  go_wp2_with fail
  go_end0
  exact ⟨rfl, H1.out, H2.out⟩
set_option maxHeartbeats 1000000 in
set_option maxRecDepth 100000 in
theorem sorted_any (f : Int → Int) (rv : Value) (B : Nat) (I : World → Prop) (g off cap n : Nat) (S : List Int) (w : World) (hN : Num f rv B I) (hg : B ≤ g) (hs : SeqAt w g off S) (hi : I w) (hn : S.length = n) (hl : n ≤ 1000000000) :
    Calls Tryz.prog 173 #[.slice (some ⟨g, off, none⟩) n cap, .func (.func 100) #[rv] #[]] w fun e w' =>
      e = .returned (.tuple #[]) ∧ (∃ M, Stab f S M ∧ SeqAt w' g off M) ∧ Frm g off n w w' := by
  have hmf : ∀ (fn : Fn) (first cap : Array Value) (w : World), (Instr.makeFunc fn first cap).run Tryz.prog w = .ok (.func fn first cap) w := fun _ _ _ _ => rfl
  have hal : Below w.heap.size w (w.alloc (.cells #[.func (.func 100) #[rv] #[]] 185)) := (Below.refl _ _).alloc (Nat.le_refl _) _
  have hss := sortStable_any f _ w.heap.size g off cap n S (w.alloc (.cells #[.func (.func 100) #[rv] #[]] 185))
    (cmp_num f g w.heap.size rv I (fun r => ⟨hN.lo r, hN.hi r⟩) hN.call (fun W W' => hN.keep g W W' hg) (by have := hs.1; omega)) (hs.kept hal) ⟨hN.below hi hal, by unfold World.cell?; rw [World.alloc_heap_new]; rfl⟩ hn hl
  have HAL := Lib.hid hal
  clear hN hs hi hal
  go_enter Tryz.func173, Tryz.ntmps173
  go_wp2_with fail
  with_reducible refine hss.mono ?_
  rintro e w1 ⟨rfl, h1, h2⟩
  have H1 := Lib.hid h1
  have H2 : Hid (Frm g off n w w1) := (Frm.of_below HAL.out).trans h2
  clear hss h1 h2
  go_wp2_with fail
  go_end0
  exact ⟨rfl, H1.out, H2.out⟩
end Go.Proofs.YtnglhgogkemgbaaGreatDoor
/-! norm.sorted of nothing. -/
namespace Go.Proofs.YtnglhgogkemgbaaGreatDoor
open Go.RowKit

set_option maxHeartbeats 1000000 in
set_option maxRecDepth 100000 in
theorem insertion_nil (cv : Value) (w : World) : Calls Tryz.prog 203 #[.slice none 0 0, .int .i64 0, .int .i64 0, cv] w fun e w' => e = .returned (.tuple #[]) ∧ Below w.heap.size w w' := by
  go_enter Tryz.func203, Tryz.ntmps203
  go_wp2
  go_loopw [8] (fun iv wr => iv = .int .i64 1 ∧ Below w.heap.size w wr) (fun iv _ => 0)
  case atStart => exact ⟨rfl, Below.refl _ _⟩
  case round =>
    obtain ⟨rfl, hb⟩ := hrel
    go_wp2
    go_end0
    exact ⟨rfl, hb⟩
set_option maxHeartbeats 1000000 in
set_option maxRecDepth 100000 in
theorem stable_nil (cv : Value) (w : World) : Calls Tryz.prog 193 #[.slice none 0 0, .int .i64 0, cv] w fun e w' => e = .returned (.tuple #[]) ∧ Below w.heap.size w w' := by
  go_enter Tryz.func193, Tryz.ntmps193
  go_wp2
  go_loopw [7, 8] (fun av bv wr => av = .int .i64 0 ∧ bv = .int .i64 20 ∧ Below w.heap.size w wr) (fun _ _ _ => 0)
  case atStart => exact ⟨rfl, rfl, Below.refl _ _⟩
  case round =>
    obtain ⟨rfl, rfl, hb⟩ := hrel
    have HB := Lib.hid hb
    clear hb
    go_wp2_with fail
    refine (insertion_nil _ _).mono ?_
    rintro e w1 ⟨rfl, hb1⟩
    have HB1 := Lib.hid (HB.out.trans (hb1.mono HB.out.size))
    clear hb1
    go_wp2_with fail
    go_loopw [6] (fun sv wr => sv = .int .i64 20 ∧ Below w.heap.size w wr) (fun _ _ => 0)
    case atStart => exact ⟨rfl, HB1.out⟩
    case round =>
      obtain ⟨rfl, hb⟩ := hrel
      go_wp2
      go_end0
      exact ⟨rfl, hb⟩
set_option maxHeartbeats 1000000 in
set_option maxRecDepth 100000 in
theorem sorted_nil (rv : Value) (w : World) :
    Calls Tryz.prog 173 #[.slice none 0 0, .func (.func 100) #[rv] #[]] w fun e w' => e = .returned (.tuple #[]) ∧ Below w.heap.size w w' := by
  have hmf : ∀ (fn : Fn) (first cap : Array Value) (w : World), (Instr.makeFunc fn first cap).run Tryz.prog w = .ok (.func fn first cap) w := fun _ _ _ _ => rfl
  have hss : ∀ cv W, Calls Tryz.prog 184 #[.slice none 0 0, cv] W fun e w' => e = .returned (.tuple #[]) ∧ Below W.heap.size W w' := by
    intro cv W
    have hst := stable_nil cv W
    go_enter Tryz.func184, Tryz.ntmps184
    go_wp2_with fail
    refine hst.mono ?_
    rintro e w1 ⟨rfl, hb⟩
    clear hst
    go_wp2_with fail
    go_end0
    exact ⟨rfl, hb⟩
  have hal : Below w.heap.size w (w.alloc (.cells #[.func (.func 100) #[rv] #[]] 185)) := (Below.refl _ _).alloc (Nat.le_refl _) _
  have HAL := Lib.hid hal
  have HSS := Lib.hid hss
  clear hal hss
  go_enter Tryz.func173, Tryz.ntmps173
  go_wp2_with fail
  refine (HSS.out _ _).mono ?_
  rintro e w1 ⟨rfl, hb⟩
  have hb' := HAL.out.trans (hb.mono HAL.out.size)
  clear hb
  go_wp2_with fail
  go_end0
  exact ⟨rfl, hb'⟩
end Go.Proofs.YtnglhgogkemgbaaGreatDoor
namespace Go.Proofs.YtnglhgogkemgbaaGreatDoor
open Go.RowKit

theorem snoc_ind {p : List Int → Prop} (h0 : p []) (h1 : ∀ S x, p S → p (S ++ [x])) : ∀ S, p S := by
  have : ∀ R : List Int, p R.reverse := by
    intro R
    induction R with
    | nil => exact h0
    | cons x xs ih => rw [List.reverse_cons]; exact h1 _ _ ih
  intro S
  rw [← List.reverse_reverse S]; exact this _
/-- how many at the end are of a greater class -/
def aheadOf (f : Int → Int) (out : List Int) (x : Int) : Nat := (out.reverse.takeWhile (fun y => decide (f x < f y))).length
/-- one comes in -/
def insC (f : Int → Int) (out : List Int) (x : Int) : List Int :=
  if f x = 0 then out ++ [x] else out.take (out.length - aheadOf f out x) ++ x :: out.drop (out.length - aheadOf f out x)
/-- in order, run by run -/
def ordL (f : Int → Int) (L : List Int) : List Int := L.foldl (insC f) []
theorem takeWhile_split {p : Int → Bool} : ∀ (l : List Int), ∃ A B, l = A ++ B ∧ (∀ x ∈ A, p x = true) ∧ (∀ x, B.head? = some x → p x = false) ∧ l.takeWhile p = A
  | [] => ⟨[], [], rfl, fun x h => by simp at h, fun x h => by simp at h, rfl⟩
  | z :: zs => by
    by_cases hz : p z = true
    · obtain ⟨A, B, h1, h2, h3, h4⟩ := takeWhile_split (p := p) zs
      refine ⟨z :: A, B, by rw [h1]; rfl, fun x hx => ?_, h3, by rw [List.takeWhile_cons_of_pos hz, h4]⟩
      rcases List.mem_cons.1 hx with rfl | hx
      · exact hz
      · exact h2 x hx
    · exact ⟨[], z :: zs, rfl, fun x h => by simp at h, fun x h => by simp at h; subst h; simpa using hz, List.takeWhile_cons_of_neg hz⟩
/-- where it comes in -/
theorem ahead_split (f : Int → Int) (out : List Int) (x : Int) : ∃ U V, out = U ++ V ∧ (∀ v ∈ V, f x < f v) ∧ (∀ u, U.getLast? = some u → f u ≤ f x) ∧ out.length - aheadOf f out x = U.length := by
  obtain ⟨A, B, h1, h2, h3, h4⟩ := takeWhile_split (p := fun y => decide (f x < f y)) out.reverse
  have e : out = B.reverse ++ A.reverse := by rw [← List.reverse_append, ← h1, List.reverse_reverse]
  refine ⟨B.reverse, A.reverse, e, fun v hv => by simpa using h2 v (by simpa using hv), fun u hu => ?_, ?_⟩
  · rw [List.getLast?_reverse] at hu
    have := h3 u hu
    simp at this; omega
  · unfold aheadOf; rw [h4, e]; simp
theorem insC_zero {f : Int → Int} {out : List Int} {x : Int} (h : f x = 0) : insC f out x = out ++ [x] := by unfold insC; rw [if_pos h]
/-- a run without a starter, behind what ends in one -/
theorem ord_run (f : Int → Int) (hf : ∀ r, 0 ≤ f r) (D : List Int) (hD : ∀ u, D.getLast? = some u → f u = 0) (S : List Int) (hS : ∀ x ∈ S, f x ≠ 0) : ∃ M, Stab f S M ∧ S.foldl (insC f) D = D ++ M := by
  revert hS
  refine snoc_ind (p := fun S => (∀ x ∈ S, f x ≠ 0) → ∃ M, Stab f S M ∧ S.foldl (insC f) D = D ++ M) (fun _ => ⟨[], Stab.nil, by simp⟩) (fun S x ih hS => ?_) S
  · obtain ⟨M, hM, hfo⟩ := ih (fun z hz => hS z (by simp [hz]))
    have hx : f x ≠ 0 := hS x (by simp)
    rw [List.foldl_append, hfo]
    simp only [List.foldl_cons, List.foldl_nil]
    obtain ⟨U, V, e, hV, hU, hk⟩ := ahead_split f (D ++ M) x
    -- what is greater lies in M
    have hDU : ∃ U', U = D ++ U' ∧ M = U' ++ V := by
      rcases List.append_eq_append_iff.1 e with ⟨a, h1, h2⟩ | ⟨c, h1, h2⟩
      · exact ⟨a, h1, h2⟩
      · -- U is a beginning of D
        cases c with
        | nil => exact ⟨[], by simpa using h1.symm, by simpa using h2.symm⟩
        | cons z zs =>
          exfalso
          obtain ⟨l, hl⟩ : ∃ l, (z :: zs).getLast? = some l := ⟨_, List.getLast?_eq_some_getLast (by simp)⟩
          have h3 := hD l (by rw [h1, List.getLast?_append, hl]; rfl)
          have h4 := hV l (by rw [h2]; exact List.mem_append_left _ (List.mem_of_getLast? hl))
          have := hf x
          omega
    obtain ⟨U', rfl, rfl⟩ := hDU
    refine ⟨U' ++ x :: V, hM.insert (fun u hu => ?_) hV, ?_⟩
    · -- all of U' are no greater, as its last is
      obtain ⟨l, hl⟩ : ∃ l, U'.getLast? = some l := by
        cases hc : U'.getLast? with
        | none => rw [List.getLast?_eq_none_iff] at hc; subst hc; cases hu
        | some l => exact ⟨l, rfl⟩
      have h1 := hU l (by rw [List.getLast?_append, hl]; rfl)
      obtain ⟨U0, rfl⟩ := List.getLast?_eq_some_iff.1 hl
      rcases List.mem_append.1 hu with hu | hu
      · have := hM.1.left.across hu (by simp : l ∈ [l]); omega
      · simp at hu; subst hu; exact h1
    · unfold insC
      rw [if_neg hx, hk, ← List.append_assoc, List.take_left, List.drop_left, List.append_assoc]
theorem ord_run_eq {f : Int → Int} (hf : ∀ r, 0 ≤ f r) {D S M : List Int} (hD : ∀ u, D.getLast? = some u → f u = 0) (hS : ∀ x ∈ S, f x ≠ 0) (hM : Stab f S M) : S.foldl (insC f) D = D ++ M := by
  obtain ⟨M', h1, h2⟩ := ord_run f hf D hD S hS
  rw [h2, hM.unique h1]
/-- a run and its starter -/
theorem ord_next {f : Int → Int} (hf : ∀ r, 0 ≤ f r) {D S M : List Int} {x : Int} (hD : ∀ u, D.getLast? = some u → f u = 0) (hS : ∀ x ∈ S, f x ≠ 0) (hM : Stab f S M) (hx : f x = 0) : (S ++ [x]).foldl (insC f) D = D ++ (M ++ [x]) := by
  rw [List.foldl_append, ord_run_eq hf hD hS hM]
  simp [insC_zero hx]
theorem insC_len (f : Int → Int) (out : List Int) (x : Int) : (insC f out x).length = out.length + 1 := by
  unfold insC
  split
  · simp
  · simp; omega
theorem ordL_len (f : Int → Int) (L : List Int) : (ordL f L).length = L.length := by
  unfold ordL
  have : ∀ (L D : List Int), (L.foldl (insC f) D).length = D.length + L.length := by
    intro L
    induction L with
    | nil => intro D; simp
    | cons x xs ih => intro D; rw [List.foldl_cons, ih, insC_len]; simp; omega
  simpa using this L []
end Go.Proofs.YtnglhgogkemgbaaGreatDoor
namespace Go.Proofs.YtnglhgogkemgbaaGreatDoor
open Go.RowKit
variable {P : Program}
/-- every loop's and every mark's book-keeping is as it was -/
def KeepsBooks (W W' : World) : Prop := W.heap.size ≤ W'.heap.size ∧ ∀ (k : Nat) (o : Obj), W.heap[k]? = some o → ((∃ r, o = .loop r) ∨ ∃ ds, o = .deferred ds) → W'.heap[k]? = some o
theorem KeepsBooks.of {W W' : World} (h : KeepsOthers W W') : KeepsBooks W W' := ⟨h.size, fun k o hk ho => h.same k o hk (by rcases ho with ⟨r, rfl⟩ | ⟨ds, rfl⟩ <;> rfl)⟩
theorem KeepsBooks.trans {A B C : World} (h : KeepsBooks A B) (k : KeepsBooks B C) : KeepsBooks A C := ⟨Nat.le_trans h.1 k.1, fun i o hi ho => k.2 i o (h.2 i o hi ho) ho⟩
theorem KeepsBooks.below {A B : World} (h : Below A.heap.size A B) : KeepsBooks A B := .of (keeps_below h)
theorem KeepsBooks.grown {A B : World} {row : Option Nat} (h : A.grownBy B row) (hr : ∀ k o, row = some k → A.heap[k]? = some o → (∀ r, o ≠ .loop r) ∧ ∀ ds, o ≠ .deferred ds) : KeepsBooks A B :=
  ⟨h.size, fun k o hk ho => (h.block k (Array.getElem?_eq_some_iff.1 hk).1 (fun e => by
    have := hr k o e.symm hk
    rcases ho with ⟨r, rfl⟩ | ⟨ds, rfl⟩
    · exact this.1 r rfl
    · exact this.2 ds rfl)).trans hk⟩
/-- how a round's body may be left -/
def roundEndB (W : World) (Go' : World → Prop) (Out : Code → World → Prop) : Exit → Act → World → Prop
  | .normal, _, B => KeepsBooks W B ∧ Go' B
  | .ret, _, B => KeepsBooks W B ∧ Out .ret B
  | .exit id, _, B => KeepsBooks W B ∧ Out (.exit id) B
  | .goto t, _, B => KeepsBooks W B ∧ Out (.goto t) B
  | .panic _, _, _ => False
  | .outgrown, _, _ => False
theorem Books.kept {D : Nat} {r : Loop} {A B : World} (h : Books D r A) (hg : KeepsBooks A B) : Books D r B := ⟨hg.2 _ _ h.loop (.inl ⟨_, rfl⟩), hg.2 _ _ h.defs (.inr ⟨_, rfl⟩)⟩
theorem wp_rangeA {σ : Type} {g : Operand} {ps : Array Tmp} {assign body : Code} {Q : Exit → Act → World → Prop} {a : Act} {w : World} {gf : Nat} {lb : Array Value}
    (hg : a.eval g = .func (.func gf) #[] lb) (eg : ∀ args w, (callFunc gf args).run P w = .ok (.enter gf args) w)
    {enc : σ → Array Value} {nxt : σ → σ} {can last : σ → Prop} {bad : σ → List PanicEntry → Prop} {s0 : σ} {Pre : World → Prop} (hit : IterC P gf lb enc nxt can last bad s0 Pre)
    (hps : ∀ s, (enc s).size = ps.size) (I : σ → World → Prop) (Ix : Code → World → Prop) (hI : OwnFrom w.heap.size I) (hIx : OwnFrom w.heap.size Ix) (hPre : ∀ s A, I s A → Pre A) (h0 : I s0 w) (a₁ : σ → Nat → Act) (oo : σ → Obj)
    (hassign : ∀ (l : Nat) (s : σ) (W : World) (K : Act → World → Prop), K (a₁ s W.heap.size) (W.alloc (oo s)) →
      assign.wpIn (Fence.wide.inRound l) 0 P (Exit.then K (fun _ _ _ => False)) { tmps := (ps.zip (enc s)).foldl (fun t (p, v) => t.setIfInBounds p v) a.tmps, defers := [] } W)
    (hbody : ∀ (l : Nat) (s : σ) (W : World) (b : Nat), can s → I s W → w.heap.size ≤ b → W.heap[b]? = some (oo s) → body.wpIn (Fence.wide.inRound l) 0 P (roundEndB W (I (nxt s)) Ix) (a₁ s b) W)
    (hdone : ∀ (D : Nat) (s : σ) (W : World), w.heap.size ≤ D → last s → I s W → W.heap[D]? = some (.deferred (some [])) → Q .normal { a with defers := { target := .collected D, args := #[] } :: a.defers } W)
    (hstop : ∀ (D : Nat) (c : Code) (W : World), w.heap.size ≤ D → Ix c W → W.heap[D]? = some (.deferred (some [])) → c.wpIn Fence.wide 0 P Q { a with defers := { target := .collected D, args := #[] } :: a.defers } W)
    (hbad : ∀ (D : Nat) (chain : List PanicEntry) (s : σ) (W : World), w.heap.size ≤ D → bad s chain → I s W → W.heap[D]? = some (.deferred (some [])) → Q (.panic chain) { a with defers := { target := .collected D, args := #[] } :: a.defers } W) :
    (Code.rangeFunc g ps assign body).wpIn Fence.wide 0 P Q a w := by
  refine wpIn_rangeFunc ?_
  intro fn _
  let D := w.heap.size
  let bk : LoopState → Option Code → Loop := fun st pe => { state := st, pending := pe, fn, tmps := a.tmps, params := ps, assign, body, defers := w.heap.size }
  have start : Books w.heap.size (bk .ready none) ((w.alloc (.deferred (some []))).alloc (.loop (bk .ready none))) := by
    refine ⟨?_, ?_⟩
    · have := World.alloc_heap_new (w.alloc (.deferred (some []))) (.loop (bk .ready none)); rwa [World.size_alloc] at this
    · exact (Below.heap_alloc _ _ _ (by simp)).trans (World.alloc_heap_new w _)
  generalize hW1 : (w.alloc (.deferred (some []))).alloc (.loop (bk .ready none)) = W1 at start
  have hI1 : I s0 W1 := by rw [← hW1]; exact hI.alloc _ (hI.alloc _ h0)
  refine ⟨w.heap.size + 1, [{ target := .collected w.heap.size, args := #[] }], W1, { target := .fn (.func gf) lb, args := #[.func (.yield (w.heap.size + 1)) #[] #[]] }, W1, gf,
    #[.func (.yield (w.heap.size + 1)) #[] #[]] ++ lb, W1, ?_, ?_, ?_, ?_, fun h => (by cases h), ?_⟩
  · rw [← hW1]; exact run_enterLoop_outer _ _ _ _ _
  · simp only [resolve, hg]
    simp [go_sem]
  · intro f' _; trivial
  · simp [invoke, go_sem, eg]
  refine callsIn_wide.2 ((hit (w.heap.size + 1) (fun s W => I s W ∧ Books w.heap.size (bk .ready none) W) (fun W => ∃ c, Ix c W ∧ Books w.heap.size (bk .done (some c)) W) W1
    (fun s A B hA hAB => ⟨OwnFrom.stays hI s A B hA.1 hAB, hA.2.grow hAB⟩)
    (fun A B ⟨c, hc, hb⟩ hAB => ⟨c, OwnFrom.stays hIx c A B hc hAB, hb.grow hAB⟩)
    (fun s A hA => hPre s A hA.1) ?_ ⟨hI1, start⟩).mono ?_)
  · -- one round
    rintro s A ⟨hi, hbk⟩ hcan
    have hy := run_yield (P := P) (args := enc s) hbk.loop (hps s)
    have hbkA : Books w.heap.size (bk .ready none) (A.alloc (oo s)) := hbk.grow ⟨rfl, rfl, rfl, by simp, fun k hk => Below.heap_alloc _ _ _ hk⟩
    have hiA : I s (A.alloc (oo s)) := hI.alloc _ hi
    have hAl : w.heap.size + 1 < A.heap.size := (Array.getElem?_eq_some_iff.1 hbk.loop).1
    refine ⟨fn, _, assign, body, hy, roundIn_of_wpIn trivial (hassign _ s A _ ⟨_, run_beginRound hbkA.loop rfl, ?_⟩)⟩
    have hb2 := hbkA.put { bk .ready none with state := .busy }
    have hi2 : I s ((A.alloc (oo s)).putObj (w.heap.size + 1) (.loop { bk .ready none with state := .busy })) := hI.putObj _ hiA (by omega) hbkA.loop rfl
    have hob : ((A.alloc (oo s)).putObj (w.heap.size + 1) (.loop { bk .ready none with state := .busy })).heap[A.heap.size]? = some (oo s) := (World.putObj_heap_other (by omega)).trans (World.alloc_heap_new _ _)
    refine wpIn_mono (hbody _ s _ A.heap.size hcan hi2 (by omega) hob) ?_
    intro e a3 W3 hp
    have out : ∀ (c : Code), KeepsBooks ((A.alloc (oo s)).putObj (w.heap.size + 1) (.loop { bk .ready none with state := .busy })) W3 → Ix c W3 →
        ∃ v w', (Instr.endRound (w.heap.size + 1) (some c)).run P W3 = .ok v w' ∧ ((Ending.returned v = .returned (.bool true) ∧ (I (nxt s) w' ∧ Books w.heap.size (bk .ready none) w')) ∨ (Ending.returned v = .returned (.bool false) ∧ ∃ c, Ix c w' ∧ Books w.heap.size (bk .done (some c)) w')) := by
      intro c hk hx
      have hb3 := hb2.kept hk
      exact ⟨_, _, run_endRound (some c) hb3.loop, .inr ⟨rfl, c, hIx.putObj _ hx (by omega) hb3.loop rfl, hb3.put _⟩⟩
    cases e with
    | normal =>
      obtain ⟨hk, hgo⟩ := hp
      have hb3 := hb2.kept hk
      exact ⟨_, _, run_endRound none hb3.loop, .inl ⟨rfl, hI.putObj _ hgo (by omega) hb3.loop rfl, hb3.put _⟩⟩
    | ret => exact out _ hp.1 hp.2
    | exit id => exact out _ hp.1 hp.2
    | goto t => exact out _ hp.1 hp.2
    | panic ch => exact hp.elim
    | outgrown => exact hp.elim
  · -- behind it
    rintro e W2 (⟨⟨v, rfl⟩, s, hl, hi, hb⟩ | ⟨⟨v, rfl⟩, c, hx, hb⟩ | ⟨chain, s, rfl, hbd, hi, hb⟩)
    · exact ⟨none, _, run_endLoop hb.loop (by intro h; cases h), hdone _ s _ (Nat.le_refl _) hl (hI.putObj _ hi (by omega) hb.loop rfl) ((World.putObj_heap_other (by omega)).trans hb.defs)⟩
    · exact ⟨some c, _, run_endLoop hb.loop (by intro h; cases h), hstop _ c _ (Nat.le_refl _) (hIx.putObj _ hx (by omega) hb.loop rfl) ((World.putObj_heap_other (by omega)).trans hb.defs)⟩
    · exact hbad _ chain s _ (Nat.le_refl _) hbd hi hb.defs

theorem wp_rangeA2 {σ : Type} {g : Operand} {ps : Array Tmp} {assign body : Code} {Q : Exit → Act → World → Prop} {a : Act} {w : World} {gf : Nat} {lb : Array Value} (id : Nat)
    (hg : a.eval g = .func (.func gf) #[] lb) (eg : ∀ args w, (callFunc gf args).run P w = .ok (.enter gf args) w)
    {enc : σ → Array Value} {nxt : σ → σ} {can last : σ → Prop} {bad : σ → List PanicEntry → Prop} {s0 : σ} {Pre : World → Prop} (hit : IterC P gf lb enc nxt can last bad s0 Pre)
    (hps : ∀ s, (enc s).size = ps.size) (I : σ → World → Prop) (Ib Ir : World → Prop) (hI : ∀ s, StayFrom w.heap.size (I s)) (hIb : StayFrom w.heap.size Ib) (hIr : StayFrom w.heap.size Ir) (hPre : ∀ s A, I s A → Pre A) (h0 : I s0 w) (qs : σ → Nat → List (Nat × Value)) (oo : σ → Obj)
    (hassign : ∀ (l : Nat) (s : σ) (W : World), assign.wpIn (Fence.wide.inRound l) 0 P (Exit.then (fun a' W' => roundFrame a ps (enc s) (qs s W.heap.size) = a' ∧ W.alloc (oo s) = W') (fun _ _ _ => False)) { tmps := (ps.zip (enc s)).foldl (fun t (p, v) => t.setIfInBounds p v) a.tmps, defers := [] } W)
    (hbody : ∀ (l : Nat) (s : σ) (W : World) (b : Nat), can s → I s W → w.heap.size ≤ b → W.heap[b]? = some (oo s) → body.wpIn (Fence.wide.inRound l) 0 P (roundEndB W (I (nxt s)) (fun c W' => (c = .exit id ∧ Ib W') ∨ (c = .ret ∧ Ir W'))) (roundFrame a ps (enc s) (qs s b)) W)
    (hafter : ∀ (D : Nat) (W : World), w.heap.size ≤ D → ((∃ s, last s ∧ I s W) ∨ Ib W) → W.heap[D]? = some (.deferred (some [])) → Q .normal (marked a D) W)
    (hexit : ∀ a' W', Q .normal a' W' → Q (.exit id) a' W')
    (hret : ∀ (D : Nat) (W : World), w.heap.size ≤ D → Ir W → W.heap[D]? = some (.deferred (some [])) → Q .ret (marked a D) W)
    (hbad : ∀ (D : Nat) (chain : List PanicEntry) (s : σ) (W : World), w.heap.size ≤ D → bad s chain → I s W → W.heap[D]? = some (.deferred (some [])) → Q (.panic chain) (marked a D) W) :
    (Code.rangeFunc g ps assign body).wpIn Fence.wide 0 P Q a w := by
  refine wp_rangeA hg eg hit hps I (fun c W' => (c = .exit id ∧ Ib W') ∨ (c = .ret ∧ Ir W')) (fun s W W' row hs hgr hr => hI s W W' row hs hgr hr) ?_ hPre h0 (fun s b => roundFrame a ps (enc s) (qs s b)) oo ?_ hbody
    (fun D s W h1 h2 h3 h4 => hafter D W h1 (.inl ⟨s, h2, h3⟩) h4) ?_ hbad
  · rintro c W W' row (⟨e, hs⟩ | ⟨e, hs⟩) hgr hr
    · exact .inl ⟨e, hIb W W' row hs hgr hr⟩
    · exact .inr ⟨e, hIr W W' row hs hgr hr⟩
  · intro l s W K hK
    refine wpIn_mono (hassign l s W) ?_
    intro e a' W' h
    cases e with
    | normal => obtain ⟨rfl, rfl⟩ := h; exact hK
    | ret => exact h.elim
    | exit id => exact h.elim
    | goto t => exact h.elim
    | panic ch => exact h.elim
    | outgrown => exact h.elim
  · rintro D c W h1 (⟨rfl, hs⟩ | ⟨rfl, hs⟩) h3
    · exact wpIn_exit (hexit _ _ (hafter D W h1 (.inr hs) h3))
    · exact wpIn_ret (hret D W h1 hs h3)
end Go.Proofs.YtnglhgogkemgbaaGreatDoor
