/- Package table: Parse: walked, given what the sort makes of the ranges. -/
import Derived.Test.YtjbcbejedaeedaaGreatDoorDa
import Derived.Test.YtjbcbejedaeedaaGreatDoorDe
import Derived.LoopNIn
import Derived.OwnWalkIn
import Derived.TacticsInMore
namespace Go.Proofs.YtjbcbejedaeedaaGreatDoor
open Go.RowKit
open PlainAid (bt)
attribute [local go_sem] Oper.semAt_some

theorem linesF_len : ∀ (ps : List Bs) (i : Nat), (linesF i ps).length ≤ ps.length
  | [], _ => Nat.le_refl _
  | p :: ps, i => by
    have := linesF_len ps (i + 1)
    rw [linesF]; split
    · rw [List.length_cons]; omega
    · rw [List.length_cons, List.length_cons]; omega
/-- what the sort makes of ranges, in place -/
def SortAt (rs : List Rng) : Prop := ∀ (B : Nat) (rv : Value) (W : World), W.ownsRow B 61 4 rv rs.length (rs.flatMap rgCells) →
  Calls Tryz.prog 21 #[rv, .func (.func 22) #[] #[]] W fun e w' => e = .returned (.tuple #[]) ∧ w'.ownsRow B 61 4 rv rs.length ((srtR rs).flatMap rgCells) ∧ Only (fun k => rv.ownBlock = some k) W w'
theorem Prs.same {B : Nat} {W W' : World} {pb mb : Nat} {st : TSt} (h : Prs B W pb mb st) (hz : W.heap.size ≤ W'.heap.size) (hk : ∀ k, k < W.heap.size → (k = pb ∨ k = mb ∨ B ≤ k) → W'.heap[k]? = W.heap[k]?) : Prs B W' pb mb st := by
  obtain ⟨rv, ev, vs, h3, h4, h5, h6, h7, h8⟩ := h
  have row : ∀ {e : TypeId} {k n : Nat} {v : Value} {xs : List Value}, W.ownsRow B e k v n xs → W'.ownsRow B e k v n xs := by
    rintro e k n v xs ⟨g1, g2⟩
    refine ⟨g1, g2.imp id ?_⟩
    rintro ⟨g, cap, cur, e1, e2, e3, e4⟩
    exact ⟨g, cap, cur, e1, e2, (hk g (Array.getElem?_eq_some_iff.1 e3).1 (.inr (.inr e2))).trans e3, e4⟩
  exact ⟨rv, ev, vs, (hk pb h3.cells.2.2.2.2.2.2 (.inl rfl)).trans h3, row h4, row h5, h6.kept ⟨hz, fun k hb hl => hk k hl (.inr (.inr hb.1))⟩, h7.same (hk mb h7.lt (.inr (.inl rfl))), h8⟩
/-- how Parse ends -/
def ParseEnd (l : Bs) (w : World) (e : Ending) (w' : World) : Prop :=
  Below w.heap.size w w' ∧ ∃ rv ev, e = .returned (.tuple #[.agg #[.string (mkB (parseW l).1.1), rv, ev], .int .i64 ((parseW l).2.1 : Int), .int .i64 (parseW l).2.2]) ∧ RngsIn (fun b => w.heap.size ≤ b) w' rv (parseW l).1.2.1 ∧ EntsIn (fun b => w.heap.size ≤ b) w' ev (parseW l).1.2.2
/-- a source in memory -/
def SrcIs (W : World) (b : Nat) (ver : Bs) (rv ev : Value) : Prop := W.heap[b]? = some (.cells #[.string (mkB ver), rv, ev] 26 (0, 0))
theorem SrcIs.cells {W : World} {b : Nat} {ver : Bs} {rv ev : Value} (h : SrcIs W b ver rv ev) : W.cell? ⟨b, 0, none⟩ = some (.string (mkB ver)) ∧ W.cell? ⟨b, 1, none⟩ = some rv ∧ W.cell? ⟨b, 2, none⟩ = some ev ∧ (∀ o, W.frozen? ⟨b, o, none⟩ = false) ∧ b < W.heap.size := by
  unfold SrcIs at h
  refine ⟨?_, ?_, ?_, fun o => ?_, (Array.getElem?_eq_some_iff.1 h).1⟩ <;> simp [World.cell?, World.frozen?, h]
theorem alloc7 {w : World} {o0 o1 o2 o3 o4 o5 o6 : Obj} {W : World} (h : (((((((w.alloc o0).alloc o1).alloc o2).alloc o3).alloc o4).alloc o5).alloc o6) = W) :
    W.heap.size = w.heap.size + 7 ∧ W.heap[w.heap.size]? = some o0 ∧ W.heap[w.heap.size + 1]? = some o1 ∧ W.heap[w.heap.size + 2]? = some o2 ∧ W.heap[w.heap.size + 3]? = some o3 ∧ W.heap[w.heap.size + 4]? = some o4 ∧ W.heap[w.heap.size + 5]? = some o5 ∧ W.heap[w.heap.size + 6]? = some o6 ∧ Below w.heap.size w W := by
  subst h
  have key : ∀ (v : World) (o : Obj) (n : Nat), v.heap.size = n → (v.alloc o).heap[n]? = some o ∧ (v.alloc o).heap.size = n + 1 ∧ ∀ k, k < n → (v.alloc o).heap[k]? = v.heap[k]? := fun v o n hn => by
    subst hn
    exact ⟨World.alloc_heap_new v o, by simp, fun k hk => Below.heap_alloc _ _ _ hk⟩
  have a0 := key w o0 _ rfl
  have a1 := key _ o1 _ a0.2.1
  have a2 := key _ o2 _ a1.2.1
  have a3 := key _ o3 _ a2.2.1
  have a4 := key _ o4 _ a3.2.1
  have a5 := key _ o5 _ a4.2.1
  have a6 := key _ o6 _ a5.2.1
  refine ⟨a6.2.1, ?_, ?_, ?_, ?_, ?_, ?_, a6.1, ?_⟩
  · rw [a6.2.2 _ (by omega), a5.2.2 _ (by omega), a4.2.2 _ (by omega), a3.2.2 _ (by omega), a2.2.2 _ (by omega), a1.2.2 _ (by omega)]; exact a0.1
  · rw [a6.2.2 _ (by omega), a5.2.2 _ (by omega), a4.2.2 _ (by omega), a3.2.2 _ (by omega), a2.2.2 _ (by omega)]; exact a1.1
  · rw [a6.2.2 _ (by omega), a5.2.2 _ (by omega), a4.2.2 _ (by omega), a3.2.2 _ (by omega)]; exact a2.1
  · rw [a6.2.2 _ (by omega), a5.2.2 _ (by omega), a4.2.2 _ (by omega)]; exact a3.1
  · rw [a6.2.2 _ (by omega), a5.2.2 _ (by omega)]; exact a4.1
  · rw [a6.2.2 _ (by omega)]; exact a5.1
  · exact (((((((Below.refl _ w).alloc (Nat.le_refl _) _).alloc (by omega) _).alloc (by omega) _).alloc (by omega) _).alloc (by omega) _).alloc (by omega) _).alloc (by omega) _
/-- rounds that are behind -/
def PRel (l : Bs) (D pb mb : Nat) (w2 : World) (i : Nat) (W : World) : Prop :=
  ∃ st, goL (none, [], []) ((linesW l).take i) = .ok st ∧ Prs (D + 2) W pb mb st ∧ Only (PS D pb mb) w2 W ∧ st.2.1.length ≤ i
/-- a line was wrong -/
def PStop (s : ByteArray) (D : Nat) (w : World) (W : World) : Prop :=
  ∃ (n : Nat) (z : Int), goL (none, [], []) (linesW s.data.toList) = .error (n, z) ∧ Below w.heap.size w W ∧ w.heap.size + 6 < D ∧ W.heap[w.heap.size + 6]? = some (.cells #[.string s] 9 (0, 0)) ∧ SrcIs W w.heap.size [] (.slice none 0 0) (.slice none 0 0) ∧ W.heap[w.heap.size + 1]? = some (.cells #[.int .i64 (n : Int)] 3 (0, 0)) ∧ W.heap[w.heap.size + 2]? = some (.cells #[.int .i64 z] 27 (0, 0))
theorem rangedW_len {st st' : TSt} {b : Bool} {l : Bs} (h : rangedW st b l = .ok st') : st'.2.1.length ≤ st.2.1.length + 1 := by
  unfold rangedW at h
  split at h
  · cases h
  · cases h; simp
theorem stepW_len {st st' : TSt} {l : Bs} (h : stepW st l = .ok st') : st'.2.1.length ≤ st.2.1.length + 1 := by
  unfold stepW at h
  split at h
  · split at h
    · rw [markW_eq] at h
      split at h
      · unfold nameW at h
        split at h
        · split at h
          · cases h; simp
          · cases h
        · cases h
      · split at h
        · exact rangedW_len h
        · split at h
          · exact rangedW_len h
          · cases h
    · cases h
  · split at h
    · cases h
    · split at h
      · cases h
      · split at h
        · cases h; simp
        · cases h
/-- the results are laid -/
theorem lay5 {A : World} {r : Nat} {ver : Bs} {rv ev v1 v2 : Value} {ver' : Bs} {rv' ev' v1' v2' : Value} (h0 : SrcIs A r ver rv ev) (h1 : A.heap[r + 1]? = some (.cells #[v1] 3 (0, 0))) (h2 : A.heap[r + 2]? = some (.cells #[v2] 27 (0, 0))) :
    SrcIs (((((A.setCell ⟨r, 0, none⟩ (.string (mkB ver'))).setCell ⟨r, 1, none⟩ rv').setCell ⟨r, 2, none⟩ ev').setCell ⟨r + 1, 0, none⟩ v1').setCell ⟨r + 2, 0, none⟩ v2') r ver' rv' ev' ∧
    (((((A.setCell ⟨r, 0, none⟩ (.string (mkB ver'))).setCell ⟨r, 1, none⟩ rv').setCell ⟨r, 2, none⟩ ev').setCell ⟨r + 1, 0, none⟩ v1').setCell ⟨r + 2, 0, none⟩ v2').heap[r + 1]? = some (.cells #[v1'] 3 (0, 0)) ∧
    (((((A.setCell ⟨r, 0, none⟩ (.string (mkB ver'))).setCell ⟨r, 1, none⟩ rv').setCell ⟨r, 2, none⟩ ev').setCell ⟨r + 1, 0, none⟩ v1').setCell ⟨r + 2, 0, none⟩ v2').heap[r + 2]? = some (.cells #[v2'] 27 (0, 0)) ∧
    Only (fun k => r ≤ k ∧ k < r + 3) A (((((A.setCell ⟨r, 0, none⟩ (.string (mkB ver'))).setCell ⟨r, 1, none⟩ rv').setCell ⟨r, 2, none⟩ ev').setCell ⟨r + 1, 0, none⟩ v1').setCell ⟨r + 2, 0, none⟩ v2') := by
  unfold SrcIs at *
  refine ⟨?_, ?_, ?_, ?_⟩
  · unfold World.setCell
    simp [Array.getElem?_modify, h0]
  · unfold World.setCell
    simp [Array.getElem?_modify, h1]
  · unfold World.setCell
    simp [Array.getElem?_modify, h2]
  · exact (((((Only.refl (fun k => r ≤ k ∧ k < r + 3) A).setCell (p := ⟨r, 0, none⟩) (by simp) _).setCell (p := ⟨r, 1, none⟩) (by simp) _).setCell (p := ⟨r, 2, none⟩) (by simp) _).setCell (p := ⟨r + 1, 0, none⟩) (by simp) _).setCell (p := ⟨r + 2, 0, none⟩) (by simp) _
theorem only_put {S : Nat → Prop} {a b : World} (h : Only S a b) {D : Nat} (hD : S D) (o : Obj) : Only S a (b.putObj D o) :=
  h.trans ⟨rfl, rfl, rfl, by simp [World.putObj], fun k _ hk => World.putObj_heap_other (fun e => hk (e ▸ hD))⟩
theorem prel_book {l : Bs} {D pb mb : Nat} {w2 : World} (h1 : pb < D) (h2 : mb < D) : BookR D (PRel l D pb mb w2) := by
  refine ⟨?_, ?_⟩
  · rintro i A o ⟨st, g1, g2, g3, g4⟩ _
    exact ⟨st, g1, g2.below ((Below.refl _ A).alloc (Nat.le_refl _) _), g3.alloc _, g4⟩
  · rintro i A o ⟨st, g1, g2, g3, g4⟩
    exact ⟨st, g1, g2.same (by simp [World.putObj]) (fun k _ hk => World.putObj_heap_other (by omega)), only_put g3 (.inr (.inr (by omega))) o, g4⟩
theorem prel_grows {l : Bs} {D pb mb : Nat} {w2 : World} {i : Nat} {A B : World} (h : PRel l D pb mb w2 i A) (hg : Grows A B) : PRel l D pb mb w2 i B := by
  obtain ⟨st, g1, g2, g3, g4⟩ := h
  exact ⟨st, g1, g2.below hg, g3.below hg, g4⟩
theorem pstop_grows {l : ByteArray} {D : Nat} {w A B : World} (h : PStop l D w A) (hg : Grows A B) : PStop l D w B := by
  obtain ⟨n, z, g1, g2, g3, g7, g4, g5, g6⟩ := h
  have hk : ∀ (k : Nat) o, A.heap[k]? = some o → B.heap[k]? = some o := fun k o hk => (hg.block k (Array.getElem?_eq_some_iff.1 hk).1).trans hk
  exact ⟨n, z, g1, g2.trans (show Below w.heap.size A B from Below.mono hg g2.size), g3, hk _ _ g7, hk _ _ g4, hk _ _ g5, hk _ _ g6⟩
theorem pstop_put {l : ByteArray} {D : Nat} {w A : World} (h : PStop l D w A) (o : Obj) {E : Nat} (hE : D ≤ E) : PStop l D w (A.putObj E o) := by
  obtain ⟨n, z, g1, g2, g3, g7, g4, g5, g6⟩ := h
  have hk : ∀ (k : Nat), k ≠ E → (A.putObj E o).heap[k]? = A.heap[k]? := fun k hk => World.putObj_heap_other hk
  exact ⟨n, z, g1, below_putObj g2 (by omega) o, g3, (hk _ (by omega)).trans g7, (hk _ (by omega)).trans g4, (hk _ (by omega)).trans g5, (hk _ (by omega)).trans g6⟩
theorem TFrame.of_onlyS {T : TypeId} {S : Nat → Prop} {a b : World} (h : Only S a b) (hS : ∀ k, S k → ∃ c fr, a.heap[k]? = some (.cells c T fr)) : TFrame T a b :=
  ⟨h.size, fun k o hk hn => (h.block k (Array.getElem?_eq_some_iff.1 hk).1 (fun e => by obtain ⟨c, fr, hx⟩ := hS k e; rw [hx] at hk; cases hk; exact hn c fr rfl)).trans hk⟩
/-- blocks of cells from B on -/
def Cb (B : Nat) (w : World) (b : Nat) : Prop := B ≤ b ∧ ∃ c t fr, w.heap[b]? = some (.cells c t fr)
theorem cb_put {B D : Nat} {A : World} (hD : A.heap[D]? = some (.deferred (some []))) (o : Obj) : Kept (Cb B A) A (A.putObj D o) := by
  refine ⟨by simp [World.putObj], fun b hb _ => World.putObj_heap_other (fun e => ?_)⟩
  obtain ⟨_, c, t, fr, h⟩ := hb
  subst e
  rw [hD] at h; cases h
theorem rngsIn_row {B : Nat} {w : World} {v : Value} {rs : List Rng} (h : w.ownsRow B 61 4 v rs.length (rs.flatMap rgCells)) : RngsIn (Cb B w) w v rs := by
  have h' := h
  rcases h.2 with ⟨rfl, h0⟩ | ⟨g, cap, cur, rfl, hg, hr, hx⟩
  · obtain rfl := List.eq_nil_of_length_eq_zero h0
    exact .nil _ _
  · refine ⟨some ⟨g, 0, none⟩, cap, rfl, fun i x hi => ⟨g, 0, rfl, ⟨hg, cur, _, _, hr⟩, (Array.getElem?_eq_some_iff.1 hr).1, ?_⟩⟩
    have at' : ∀ j u, (rgCells x)[j]? = some u → w.cell? ⟨g, 0 + (i * 4 + j), none⟩ = some u := fun j u hu => by
      have := h'.cells (g := g) rfl (i * 4 + j) u (flat_at rgCells 4 (fun _ => rfl) rs i j x u hi hu)
      rw [addr_add] at this; exact this
    exact ⟨at' 0 _ rfl, at' 1 _ rfl, at' 2 _ rfl, at' 3 _ rfl⟩
theorem entsIn_row {B : Nat} {w : World} {v : Value} {es : List Ent} {vs : List (Value × Value)} (h : w.ownsRow B 45 2 v es.length (vs.flatMap evCells)) (hv : EVs B w es vs) : EntsIn (Cb B w) w v es := by
  have h' := h
  rcases h.2 with ⟨rfl, h0⟩ | ⟨g, cap, cur, rfl, hg, hr, hx⟩
  · obtain rfl := List.eq_nil_of_length_eq_zero h0
    exact ⟨none, 0, rfl, fun i x hi => by simp at hi⟩
  · refine ⟨some ⟨g, 0, none⟩, cap, rfl, fun i x hi => ?_⟩
    obtain ⟨cu, hcu⟩ : ∃ cu, vs[i]? = some cu := ⟨_, List.getElem?_eq_getElem (by rw [hv.1]; exact (List.getElem?_eq_some_iff.1 hi).1)⟩
    have at' : ∀ j u, (evCells cu)[j]? = some u → w.cell? ⟨g, 0 + (i * 2 + j), none⟩ = some u := fun j u hu => by
      have := h'.cells (g := g) rfl (i * 2 + j) u (flat_at evCells 2 (fun _ => rfl) vs i j cu u hcu hu)
      rw [addr_add] at this; exact this
    have hlf : ∀ b, Lf B w b → Cb B w b := fun b hb => by obtain ⟨h1, c, t, h2, _⟩ := hb; exact ⟨h1, c, t, _, h2⟩
    obtain ⟨h1, h2⟩ := hv.2 i x cu hi hcu
    exact ⟨g, 0, cu.1, cu.2, rfl, ⟨hg, cur, _, _, hr⟩, (Array.getElem?_eq_some_iff.1 hr).1, at' 0 _ rfl, at' 1 _ rfl, h1.mono (fun b hb _ => hlf b hb), h2.mono (fun b hb _ => hlf b hb)⟩
theorem EntsIn.monoP {R S : Nat → Prop} {w : World} {v : Value} {es : List Ent} (h : EntsIn R w v es) (hm : ∀ b, R b → S b) : EntsIn S w v es := by
  obtain ⟨p, cap, h1, h2⟩ := h
  refine ⟨p, cap, h1, fun i x hx => ?_⟩
  obtain ⟨b, o, c, u, e1, e2, e3, e4, e5, e6, e7⟩ := h2 i x hx
  exact ⟨b, o, c, u, e1, hm b e2, e3, e4, e5, e6.mono (fun b hb _ => hm b hb), e7.mono (fun b hb _ => hm b hb)⟩
theorem keepS_only {N : Nat} {S : Nat → Prop} {A B : World} (h : Only S A B) (hs : ∀ k, S k → k < N) : KeepS N A B :=
  ⟨h.size, fun k c fr hk ha => (h.block k (Array.getElem?_eq_some_iff.1 ha).1 (fun hS => by have := hs k hS; omega)).trans ha⟩
theorem pkeep_S {N pb mb : Nat} {A B : World} (h : PKeep pb mb A B) (h1 : pb < N) (h2 : mb < N) : KeepS N A B :=
  ⟨h.1, fun k c fr hk ha => h.2 k _ ha (by omega) (by omega) (fun c fr e => by injection e with _ e _; exact absurd e (by decide)) (fun c fr e => by injection e with _ e _; exact absurd e (by decide))⟩
theorem insR_len (x : Rng) : ∀ l : List Rng, (insR x l).length = l.length + 1
  | [] => rfl
  | y :: ys => by
    rw [insR]; split
    · rfl
    · rw [List.length_cons, insR_len x ys, List.length_cons]
theorem srtR_len (l : List Rng) : (srtR l).length = l.length := by
  have key : ∀ (l a : List Rng), (l.foldl (fun a x => insR x a) a).length = a.length + l.length := by
    intro l
    induction l with
    | nil => intro a; rfl
    | cons x l ih => intro a; rw [List.foldl_cons, ih, insR_len, List.length_cons]; omega
  have := key l []
  simpa [srtR] using this
theorem below_lay {w A B : World} {r : Nat} (hA : Below r w A) (h : Only (fun k => r ≤ k ∧ k < r + 3) A B) (hw : r ≤ A.heap.size) : Below r w B :=
  ⟨h.os.trans hA.os, h.tape.trans hA.tape, h.output.trans hA.output, Nat.le_trans hA.size h.size, fun k hk => (h.block k (by omega) (by omega)).trans (hA.block k hk)⟩
/-- the results are told, the mark behind -/
theorem pfin {l : Bs} {w B : World} {D2 : Nat} {ver : Bs} {rv ev : Value} {n z : Int} {tmps : Array Value} (h0 : SrcIs B w.heap.size ver rv ev) (h1 : B.heap[w.heap.size + 1]? = some (.cells #[.int .i64 n] 3 (0, 0))) (h2 : B.heap[w.heap.size + 2]? = some (.cells #[.int .i64 z] 27 (0, 0)))
    (hdf : B.heap[D2]? = some (.deferred (some []))) (hlt : w.heap.size + 2 < D2) (t2 : tmps.getD 2 undef = .pointer (some ⟨w.heap.size, 0, none⟩)) (t3 : tmps.getD 3 undef = .pointer (some ⟨w.heap.size + 1, 0, none⟩)) (t4 : tmps.getD 4 undef = .pointer (some ⟨w.heap.size + 2, 0, none⟩))
    (hE : ParseEnd l w (.returned (.tuple #[.agg #[.string (mkB ver), rv, ev], .int .i64 n, .int .i64 z])) (B.putObj D2 (.deferred none))) :
    bodyPostM Fence.wide 0 Tryz.prog Tryz.f7 (ParseEnd l w) .ret { tmps := tmps, defers := [{ target := .collected D2, args := #[] }] } B := by
  have f0 : SrcIs (B.putObj D2 (.deferred none)) w.heap.size ver rv ev := (World.putObj_heap_other (by omega)).trans h0
  obtain ⟨e0, e1, e2, _, _⟩ := f0.cells
  have e3 : (B.putObj D2 (.deferred none)).cell? ⟨w.heap.size + 1, 0, none⟩ = some (.int .i64 n) := by
    rw [World.cell?_of_block (a := ⟨w.heap.size + 1, 0, none⟩) (World.putObj_heap_other (by show w.heap.size + 1 ≠ D2; omega))]; simp [World.cell?, h1]
  have e4 : (B.putObj D2 (.deferred none)).cell? ⟨w.heap.size + 2, 0, none⟩ = some (.int .i64 z) := by
    rw [World.cell?_of_block (a := ⟨w.heap.size + 2, 0, none⟩) (World.putObj_heap_other (by show w.heap.size + 2 ≠ D2; omega))]; simp [World.cell?, h2]
  refine leave_mark hdf ?_ hE
  have t2' : tmps[2]?.getD undef = .pointer (some ⟨w.heap.size, 0, none⟩) := by simpa using t2
  have t3' : tmps[3]?.getD undef = .pointer (some ⟨w.heap.size + 1, 0, none⟩) := by simpa using t3
  have t4' : tmps[4]?.getD undef = .pointer (some ⟨w.heap.size + 2, 0, none⟩) := by simpa using t4
  simp [results, Tryz.results7, go_sem, t2', t3', t4', e0, e1, e2, e3, e4]
set_option maxHeartbeats 8000000 in
set_option maxRecDepth 100000 in
theorem parse_any (s : ByteArray) (w : World) (hs : s.size ≤ 1000000) (hm : ML w) (hsort : ∀ st, goL (none, [], []) (linesW s.data.toList) = .ok st → SortAt st.2.1) :
    Calls Tryz.prog 7 #[.string s] w (ParseEnd s.data.toList w) := by
  have HM := Lib.hid hm
  have HS := Lib.hid hs
  have HSORT := Lib.hid hsort
  have HPW : Hid (parseW s.data.toList = endW (goL (none, [], []) (linesW s.data.toList))) := parseW_lines _
  have g1 : ¬ (s.size : Int) > 4194304 := by omega
  have hmm := @run_makeMap Tryz.prog
  clear hm hs hsort
  refine callsIn_wide (n := 0) |>.1 ?_
  refine callsIn_of_wp_marks Tryz.func7 rfl trivial ?_ rfl
  simp only [Tryz.ntmps7, List.size_toArray, List.length_cons, List.length_nil, Nat.reduceAdd, Nat.reduceSub, Array.replicate_succ, Array.replicate_zero, List.push_toArray, List.append_toArray, List.nil_append, List.cons_append]
  gi_wp2_with fail
  refine ⟨trivial, rfl, (callsIn_wide.2 (lines_fn _ _)).mono ?_⟩
  rintro e w2 ⟨rfl, hw2⟩
  gi_wp2_with fail
  obtain ⟨hz2, hr0, hr1, hr2, hmb, hpb, hpx, hsx, hbw⟩ := alloc7 hw2
  have HZ2 := Lib.hid hz2
  have HBW := Lib.hid hbw
  have hpar : ParAt w2 (w.heap.size + 4) (w.heap.size + 3) [] (.slice none 0 0) (.slice none 0 0) 0 := hpb
  have hmp : SMp w2 (w.heap.size + 3) 0 (seenF []) := ⟨[], ⟨#[], 0, hmb, ⟨by simp, Go.MapKept.stamped_empty 0, by simp⟩, Nat.le_refl _, rfl⟩, fun _ => rfl⟩
  obtain ⟨D, hD⟩ : ∃ D, D = w2.heap.size := ⟨_, rfl⟩
  have HD := Lib.hid hD
  have hI0 : PRel s.data.toList D (w.heap.size + 4) (w.heap.size + 3) w2 0 w2 :=
    ⟨(none, [], []), rfl, ⟨_, _, [], hpar, World.ownsRow_nil _ _ _ _, World.ownsRow_nil _ _ _ _, ⟨rfl, fun i x cu h _ => by simp at h⟩, hmp, fun x hx => by simp at hx, Nat.zero_le _, Nat.zero_le _⟩, Only.refl _ _, Nat.zero_le _⟩
  have HI0 := Lib.hid hI0
  have HR0 : Hid (SrcIs w2 w.heap.size [] (.slice none 0 0) (.slice none 0 0)) := hr0
  have HR1 := Lib.hid hr1
  have HR2 := Lib.hid hr2
  have HPX := Lib.hid hpx
  have HSX := Lib.hid hsx
  have HM2 : Hid (ML w2) := HM.out.below hbw
  have HLN : Hid (∀ (i : Nat) (x : Nat × Bs), (linesW s.data.toList)[i]? = some x → x.2.length ≤ 1000000 ∧ x.1 ≤ 1000001) := by
    show ∀ i x, _
    intro i x hx
    obtain ⟨_, h1, h2⟩ := linesW_mem _ x (List.mem_of_getElem? hx)
    rw [size_data] at h1 h2
    have := HS.out
    omega
  have HLC : Hid ((linesW s.data.toList).length ≤ 1000001) := by
    show _ ≤ _
    have h1 := linesF_len (piecesW s.data.toList) 0
    have h2 := pieces_count s.data.toList
    rw [size_data] at h2
    have h3 := HS.out
    unfold linesW
    omega
  have HFX : Hid (∀ A, Only (PS D (w.heap.size + 4) (w.heap.size + 3)) w2 A → ML A ∧ Below w.heap.size w A ∧ A.cell? ⟨w.heap.size + 5, 0, none⟩ = some (.pointer (some ⟨w.heap.size + 4, 0, none⟩)) ∧ A.cell? ⟨w.heap.size + 6, 0, none⟩ = some (.string s) ∧ SrcIs A w.heap.size [] (.slice none 0 0) (.slice none 0 0) ∧ A.heap[w.heap.size + 1]? = some (.cells #[.int .i64 0] 3 (0, 0)) ∧ A.heap[w.heap.size + 2]? = some (.cells #[.int .i64 0] 27 (0, 0))) := by
    show ∀ A, _
    intro A hA
    have hz := HZ2.out
    have hd := HD.out
    have hk : ∀ k, k < D → k ≠ w.heap.size + 4 → k ≠ w.heap.size + 3 → A.heap[k]? = w2.heap[k]? := fun k h1 h2 h3 => hA.block k (by omega) (by unfold PS; omega)
    have hbA : Below w.heap.size w A := ⟨hA.os.trans HBW.out.os, hA.tape.trans HBW.out.tape, hA.output.trans HBW.out.output, Nat.le_trans HBW.out.size hA.size, fun k h1 => (hk k (by omega) (by omega) (by omega)).trans (HBW.out.block k h1)⟩
    refine ⟨HM.out.below hbA, hbA, ?_, ?_, (hk _ (by omega) (by omega) (by omega)).trans HR0.out, (hk _ (by omega) (by omega) (by omega)).trans HR1.out, (hk _ (by omega) (by omega) (by omega)).trans HR2.out⟩
    · rw [World.cell?_of_block (a := ⟨w.heap.size + 5, 0, none⟩) (hk (w.heap.size + 5) (by omega) (by omega) (by omega))]
      simp [World.cell?, HPX.out]
    · rw [World.cell?_of_block (a := ⟨w.heap.size + 6, 0, none⟩) (hk (w.heap.size + 6) (by omega) (by omega) (by omega))]
      simp [World.cell?, HSX.out]
  clear hw2 hr0 hr1 hr2 hmb hpb hpx hsx hpar hmp hI0 hbw hmm g1
  rw [show w.heap.size + 1 + 1 + 1 + 1 + 1 + 1 = w.heap.size + 6 from by omega]
  refine wp_rangeR (gf := 41) (lb := #[.pointer (some ⟨w.heap.size + 6, 0, none⟩)]) rfl (enters_of Tryz.func41 (by kernel_rfl) rfl) (by rw [← hD]; exact lines1_iter s (by have := HS.out; omega) (w.heap.size + 6) (D + 2))
    (fun (A B C : World) (h : KeepS (D + 2) A B) k => h.trans k) (fun A o => ?hKp) ?hps (PRel s.data.toList D (w.heap.size + 4) (w.heap.size + 3) w2) (fun c W => c = .ret ∧ PStop s D w W) ?hI ?hIx (fun _ _ _ h k => prel_grows h k) (fun _ _ _ h k => ⟨h.1, pstop_grows h.2 k⟩) ?hT ?hPre ?hPreX HI0.out ?hround ?hdone ?hstop
  case hKp =>
    refine ⟨by simp [World.putObj], fun k c fr hk ha => ?_⟩
    rw [World.putObj_heap_other (by rw [← HD.out]; omega)]; exact ha
  case hps => rintro i A vs j ⟨x, _, rfl, _⟩; rfl
  case hI => rw [← HD.out]; exact prel_book (by have := HD.out; have := HZ2.out; omega) (by have := HD.out; have := HZ2.out; omega)
  case hIx =>
    rw [← HD.out]
    exact ⟨fun c A o h _ => ⟨h.1, pstop_grows h.2 ((Below.refl _ A).alloc (Nat.le_refl _) _)⟩, fun c A o h => ⟨h.1, pstop_put h.2 o (by omega)⟩⟩
  case hT => exact fun A B hb k h1 h2 h3 => hb.block k h3
  case hPre =>
    rintro i A ⟨st, _, _, ho, _⟩
    have := HFX.out A ho
    exact ⟨this.1, this.2.2.2.1⟩
  case hPreX =>
    rintro c A ⟨_, n, z, _, hb, _, h6, _⟩
    exact ⟨HM.out.below hb, by simp [World.cell?, h6]⟩
  case hround =>
    rintro l i A vs j ⟨st, hgo, hp, ho, hrl⟩ ⟨x, hx, rfl, rfl⟩ hA
    obtain ⟨hmA, hbA, hpx, hsx, hr0, hr1, hr2⟩ := HFX.out A ho
    obtain ⟨hx1, hx2⟩ := HLN.out i x hx
    have HGO := Lib.hid hgo
    have HO := Lib.hid ho
    have HXX := Lib.hid hx
    have HRL := Lib.hid hrl
    rw [← HD.out] at hA ⊢
    simp
    gi_wp2
    have hb1 : Below A.heap.size A (A.alloc (.cells #[.string (mkB x.2)] 9)) := (Below.refl _ A).alloc (Nat.le_refl _) _
    refine ⟨fun k h1 h2 => hb1.block k (by omega), KeepS.below hb1, fun o => ?_⟩
    obtain ⟨A2, hA2⟩ : ∃ A2, (A.alloc (.cells #[.string (mkB x.2)] 9)).putObj (D + 1) o = A2 := ⟨_, rfl⟩
    have hlx : A2.heap[A.heap.size]? = some (.cells #[.string (mkB x.2)] 9 (0, 0)) := by
      rw [← hA2, World.putObj_heap_other (by omega)]; exact World.alloc_heap_new _ _
    have hoA : Only (fun k => k = D + 1) A A2 := by rw [← hA2]; exact only_put ((Only.refl (fun k => k = D + 1) A).alloc _) rfl o
    have hzD := HZ2.out
    have hdd := HD.out
    have hp2 : Prs (D + 2) A2 (w.heap.size + 4) (w.heap.size + 3) st := hp.same hoA.size (fun k hk hs => hoA.block k hk (by omega))
    have ho2 : Only (PS D (w.heap.size + 4) (w.heap.size + 3)) w2 A2 := ho.trans (ps_only hoA (fun k hk => .inr (.inr (by omega))))
    obtain ⟨hm2, hb2, hpx2, hsx2, hs0, hs1, hs2⟩ := HFX.out A2 ho2
    have hl2 : A2.cell? ⟨A.heap.size, 0, none⟩ = some (.string (mkB x.2)) := by simp [World.cell?, hlx]
    have hst := gstep_any (D + 2) (w.heap.size + 4) (w.heap.size + 3) (w.heap.size + 5) A.heap.size st (mkB x.2) A2 (by rw [size_mkB]; exact hx1) hp2 (Nat.le_trans hA hoA.size) hm2 (by
      have : i < (linesW s.data.toList).length := (List.getElem?_eq_some_iff.1 hx).1
      have := HLC.out
      omega) hpx2 hl2
    rw [data_mkB] at hst
    have HST := Lib.hid hst
    rw [hA2]
    have hmf : ∀ (fn : Fn) (first cap : Array Value) (w : World), (Instr.makeFunc fn first cap).run Tryz.prog w = .ok (.func fn first cap) w := fun _ _ _ _ => rfl
    have HA2 := Lib.hid ho2
    have HAO : Hid (D + 2 ≤ A.heap.size ∧ A.heap.size ≤ A2.heap.size) := ⟨hA, hoA.size⟩
    have HKA : Hid (KeepS (D + 2) A A2) := by
      refine ⟨hoA.size, fun k c fr hk ha => ?_⟩
      rw [hoA.block k (Array.getElem?_eq_some_iff.1 ha).1 (by omega)]; exact ha
    clear hgo hp ho hrl hx hbA hpx hsx hr0 hr1 hr2 hb1 hlx hp2 ho2 hm2 hb2 hl2 hst hpx2 hsx2 hmA hx1 hx2 hA hoA hA2 hdd hzD hs0 hs1 hs2
    gi_wp2_with fail
    refine ⟨trivial, rfl, (callsIn_wide.2 HST.out).mono ?_⟩
    rintro e A3 ⟨ho3, hk3, ⟨st', hr3, rfl, hp3⟩ | ⟨z, hr3, rfl⟩⟩
    · have hsl := stepW_len hr3
      have HR3 := Lib.hid hr3
      have HP3 := Lib.hid hp3
      have HO3 := Lib.hid ho3
      have HK3 := Lib.hid hk3
      have HSL := Lib.hid hsl
      clear ho3 hk3 hr3 hp3 hsl
      gi_wp2_with fail
      have hzD := HZ2.out
      have hdd := HD.out
      refine ⟨fun k h1 h2 => HO3.out.block k (by have := HAO.out; omega) (by unfold PS; omega), pkeep_S HK3.out (by omega) (by omega), st', ?_, HP3.out, HA2.out.trans (ps_only HO3.out (fun k hk => by unfold PS at *; omega)), by have := HSL.out; have := HRL.out; omega⟩
      rw [take_snocR HXX.out, goL_snoc, HGO.out]
      simp only
      rw [HR3.out]
    · have hz := stepW_ne hr3
      have gz1 : (z == 0) = false := beq_eq_false_iff_ne.2 hz
      have gz2 : (z != 0) = true := bne_iff_ne.2 hz
      have HR3 := Lib.hid hr3
      have HO3 : Hid (Only (PS D (w.heap.size + 4) (w.heap.size + 3)) w2 A3) := HA2.out.trans (ps_only ho3 (fun k hk => by unfold PS at *; omega))
      have HO4 := Lib.hid ho3
      have HK3 := Lib.hid hk3
      obtain ⟨_, hb3, _, hs3, q0, q1, q2⟩ := HFX.out A3 HO3.out
      obtain ⟨c0, c1, c2, cf, cl⟩ := q0.cells
      have cf0 := cf 0
      have cf1 := cf 1
      have cf2 := cf 2
      have d1 : A3.cell? ⟨w.heap.size + 1, 0, none⟩ = some (.int .i64 0) := by simp [World.cell?, q1]
      have d2 : A3.cell? ⟨w.heap.size + 2, 0, none⟩ = some (.int .i64 0) := by simp [World.cell?, q2]
      have df1 : A3.frozen? ⟨w.heap.size + 1, 0, none⟩ = false := by simp [World.frozen?, q1]
      have df2 : A3.frozen? ⟨w.heap.size + 2, 0, none⟩ = false := by simp [World.frozen?, q2]
      have dl1 := (Array.getElem?_eq_some_iff.1 q1).1
      have dl2 := (Array.getElem?_eq_some_iff.1 q2).1
      have HL5 := Lib.hid (lay5 (ver' := []) (rv' := .slice none 0 0) (ev' := .slice none 0 0) (v1' := .int .i64 (x.1 : Int)) (v2' := .int .i64 z) q0 q1 q2)
      have HB3 := Lib.hid hb3
      have HS6 : Hid (A3.heap[w.heap.size + 6]? = some (.cells #[.string s] 9 (0, 0))) := by
        show _ = _
        rw [HO3.out.block (w.heap.size + 6) (by have := HZ2.out; omega) (by unfold PS; have := HZ2.out; have := HD.out; omega)]; exact HSX.out
      clear ho3 hk3 hr3 hz q0 q1 q2 hb3 hs3 cf
      gi_wp2_with fail
      have hzD := HZ2.out
      have hdd := HD.out
      refine ⟨fun k h1 h2 => (HL5.out.2.2.2.block k (by have := HO4.out.size; have := HAO.out; omega) (by omega)).trans (HO4.out.block k (by have := HAO.out; omega) (by unfold PS; omega)), (pkeep_S HK3.out (by omega) (by omega)).trans (keepS_only HL5.out.2.2.2 (fun k hk => by omega)), rfl, x.1, z, ?_, ?_, by omega, ?_, HL5.out.1, HL5.out.2.1, HL5.out.2.2.1⟩
      · rw [← List.take_append_drop (i + 1) (linesW s.data.toList)]
        refine goL_error _ _ _ _ ?_
        rw [take_snocR HXX.out, goL_snoc, HGO.out]
        simp only
        rw [HR3.out]
      · exact ⟨HL5.out.2.2.2.os.trans HB3.out.os, HL5.out.2.2.2.tape.trans HB3.out.tape, HL5.out.2.2.2.output.trans HB3.out.output, Nat.le_trans HB3.out.size HL5.out.2.2.2.size, fun k hk => (HL5.out.2.2.2.block k (by have := HB3.out.size; omega) (by omega)).trans (HB3.out.block k hk)⟩
      · exact (HL5.out.2.2.2.block (w.heap.size + 6) (Array.getElem?_eq_some_iff.1 HS6.out).1 (by omega)).trans HS6.out
  case hdone =>
    rintro D2 i A hD2 rfl ⟨st, hgo, hp, ho, _⟩ hdf
    rw [List.take_length] at hgo
    obtain ⟨_, hbA, px, _, q0, q1, q2⟩ := HFX.out A ho
    have HGO := Lib.hid hgo
    have HQ := Lib.hid (And.intro q0 (And.intro q1 q2))
    obtain ⟨c0, c1, c2, cf, cl⟩ := q0.cells
    have cf0 := cf 0
    have cf1 := cf 1
    have cf2 := cf 2
    have d1 : A.cell? ⟨w.heap.size + 1, 0, none⟩ = some (.int .i64 0) := by simp [World.cell?, q1]
    have d2 : A.cell? ⟨w.heap.size + 2, 0, none⟩ = some (.int .i64 0) := by simp [World.cell?, q2]
    have df1 : A.frozen? ⟨w.heap.size + 1, 0, none⟩ = false := by simp [World.frozen?, q1]
    have df2 : A.frozen? ⟨w.heap.size + 2, 0, none⟩ = false := by simp [World.frozen?, q2]
    have dl1 := (Array.getElem?_eq_some_iff.1 q1).1
    have dl2 := (Array.getElem?_eq_some_iff.1 q2).1
    have HBA := Lib.hid hbA
    have HDF := Lib.hid hdf
    have HPP := Lib.hid hp
    obtain ⟨rv, ev, vs, hpar, hrr, hre, hev, _⟩ := hp
    obtain ⟨p0, p1, p2, _, p4, _, pl⟩ := hpar.cells
    have HROW := Lib.hid (And.intro hpar (And.intro hrr (And.intro hre hev)))
    clear q0 q1 q2 cf hbA hdf hgo hpar hrr hre hev
    cases hst : st.1 with
    | none =>
      rw [hst] at p4
      simp only [toldO] at p4
      have HST := Lib.hid hst
      have HL5 := Lib.hid (lay5 (ver' := []) (rv' := .slice none 0 0) (ev' := .slice none 0 0) (v1' := .int .i64 0) (v2' := .int .i64 114) HQ.out.1 HQ.out.2.1 HQ.out.2.2)
      clear hst
      gi_wp2_with fail
      have hzD := HZ2.out
      have hdd := HD.out
      have hdf5 := (HL5.out.2.2.2.block D2 (Array.getElem?_eq_some_iff.1 HDF.out).1 (by omega)).trans HDF.out
      have hb5 := below_lay HBA.out HL5.out.2.2.2 HBA.out.size
      have HPR : Hid (parseW s.data.toList = (tab0, 0, 114)) := by
        show _ = _
        rw [HPW.out, HGO.out]
        obtain ⟨a1, a2, a3⟩ := st
        have := HST.out
        simp only at this
        subst this
        rfl
      refine pfin HL5.out.1 HL5.out.2.1 HL5.out.2.2.1 hdf5 (by omega) rfl rfl rfl ⟨below_putObj hb5 (by omega) _, .slice none 0 0, .slice none 0 0, ?_, ?_, ?_⟩
      · rw [HPR.out]; rfl
      · rw [HPR.out]; exact RngsIn.nil _ _
      · rw [HPR.out]; exact ⟨none, 0, rfl, fun i x hx => by simp [tab0] at hx⟩
    | some ver =>
      rw [hst] at p4 p0
      simp only [toldO, Option.getD_some] at p4 p0
      have HST := Lib.hid hst
      have hzD := HZ2.out
      have hdd := HD.out
      have HPR : Hid (parseW s.data.toList = if rngC (srtR st.2.1) = 0 then ((ver, srtR st.2.1, st.2.2), 0, 0) else (tab0, 0, rngC (srtR st.2.1))) := by
        show _ = _
        rw [HPW.out, HGO.out]
        obtain ⟨a1, a2, a3⟩ := st
        have := HST.out
        simp only at this
        subst this
        rfl
      have HLR : Hid (st.2.1.length ≤ 5000000) := by
        obtain ⟨_, _, _, _, _, _, _, _, _, h⟩ := HPP.out
        exact h.1
      have HSO := Lib.hid (HSORT.out st HGO.out (D + 2) rv A HROW.out.2.1)
      clear hst hzD hdd
      gi_wp2_with fail
      refine ⟨trivial, rfl, (callsIn_wide.2 HSO.out).mono ?_⟩
      rintro e A1 ⟨rfl, hrow1, ho1⟩
      have hzD := HZ2.out
      have hdd := HD.out
      have hF := TFrame.of_onlyS ho1 (row_block HROW.out.2.1)
      have hkA : ∀ k, k < D + 2 → k < A.heap.size → A1.heap[k]? = A.heap[k]? := fun k h1 h2 => ho1.block k h2 (fun e => by have := (HROW.out.2.1.lt k e).1; omega)
      have hb1 : Below w.heap.size w A1 := HBA.out.trans ⟨ho1.os, ho1.tape, ho1.output, ho1.size, fun k hk => hkA k (by omega) (by have := HBA.out.size; omega)⟩
      have HQ1 : Hid (SrcIs A1 w.heap.size [] (.slice none 0 0) (.slice none 0 0) ∧ A1.heap[w.heap.size + 1]? = some (.cells #[.int .i64 0] 3 (0, 0)) ∧ A1.heap[w.heap.size + 2]? = some (.cells #[.int .i64 0] 27 (0, 0))) :=
        ⟨(hkA _ (by omega) cl).trans HQ.out.1, (hkA _ (by omega) dl1).trans HQ.out.2.1, (hkA _ (by omega) dl2).trans HQ.out.2.2⟩
      have hpar1 := hF.par HROW.out.1 (by decide)
      have hre1 := hF.row HROW.out.2.2.1 (by decide)
      have hev1 := HROW.out.2.2.2.kept (hF.lf (by decide) (by decide))
      have hdf1 : A1.heap[D2]? = some (.deferred (some [])) := hF.2 D2 _ HDF.out (fun c fr e => by cases e)
      have hpx1 : A1.cell? ⟨w.heap.size + 5, 0, none⟩ = some (.pointer (some ⟨w.heap.size + 4, 0, none⟩)) := (World.cell?_of_block (a := ⟨w.heap.size + 5, 0, none⟩) (hkA (w.heap.size + 5) (by omega) (cell_lt px))).trans px
      have hri : RngsIn (Cb (D + 2) A1) A1 rv (srtR st.2.1) := rngsIn_row (by rw [srtR_len]; exact hrow1)
      have HW1 := Lib.hid (wRanges_any _ (srtR st.2.1) rv A1 hri (by rw [srtR_len]; have := HLR.out; omega))
      have HRI := Lib.hid hri
      have HEI := Lib.hid (entsIn_row hre1 hev1)
      have HB1 := Lib.hid hb1
      have HDF1 := Lib.hid hdf1
      rw [HST.out, Option.getD_some] at hpar1
      have HPAR1 := Lib.hid hpar1
      obtain ⟨u0, u1, u2, _, _, _, ul⟩ := hpar1.cells
      generalize rngC (srtR st.2.1) = z at *
      clear hrow1 ho1 hF hkA hb1 hre1 hev1 hdf1 hri hpar1 p0 p1 p2 p4 pl px c0 c1 c2 cf0 cf1 cf2 cl d1 d2 df1 df2 dl1 dl2 hzD hdd
      gi_wp2_with fail
      refine ⟨trivial, rfl, (callsIn_wide.2 HW1.out).mono ?_⟩
      rintro e A2 ⟨rfl, hb2⟩
      have q0 := (hb2.block _ HQ1.out.1.cells.2.2.2.2).trans HQ1.out.1
      have q1 := (hb2.block _ (Array.getElem?_eq_some_iff.1 HQ1.out.2.1).1).trans HQ1.out.2.1
      have q2 := (hb2.block _ (Array.getElem?_eq_some_iff.1 HQ1.out.2.2).1).trans HQ1.out.2.2
      have HQ2 : Hid (SrcIs A2 w.heap.size [] (.slice none 0 0) (.slice none 0 0) ∧ A2.heap[w.heap.size + 1]? = some (.cells #[.int .i64 0] 3 (0, 0)) ∧ A2.heap[w.heap.size + 2]? = some (.cells #[.int .i64 0] 27 (0, 0))) := ⟨q0, q1, q2⟩
      have q0' : SrcIs A2 w.heap.size [] (.slice none 0 0) (.slice none 0 0) := q0
      obtain ⟨c0, c1, c2, cf, cl⟩ := q0'.cells
      have cf0 := cf 0
      have cf1 := cf 1
      have cf2 := cf 2
      have d1 : A2.cell? ⟨w.heap.size + 1, 0, none⟩ = some (.int .i64 0) := by simp [World.cell?, q1]
      have d2 : A2.cell? ⟨w.heap.size + 2, 0, none⟩ = some (.int .i64 0) := by simp [World.cell?, q2]
      have df1 : A2.frozen? ⟨w.heap.size + 1, 0, none⟩ = false := by simp [World.frozen?, q1]
      have df2 : A2.frozen? ⟨w.heap.size + 2, 0, none⟩ = false := by simp [World.frozen?, q2]
      have dl1 := (Array.getElem?_eq_some_iff.1 q1).1
      have dl2 := (Array.getElem?_eq_some_iff.1 q2).1
      have hpar2 : ParAt A2 (w.heap.size + 4) (w.heap.size + 3) ver rv ev (toldO (some ver)) := (hb2.block _ ul).trans HPAR1.out
      obtain ⟨p0, p1, p2, _, _, _, pl⟩ := hpar2.cells
      have hpx2 := (hb2.cell (p := ⟨w.heap.size + 5, 0, none⟩) (cell_lt hpx1)).trans hpx1
      have HB2 : Hid (Below w.heap.size w A2) := HB1.out.trans (hb2.mono HB1.out.size)
      have HDF2 : Hid (A2.heap[D2]? = some (.deferred (some []))) := (hb2.block D2 (Array.getElem?_eq_some_iff.1 HDF1.out).1).trans HDF1.out
      have HKB : Hid (Kept (Cb (D + 2) A1) A1 A2) := Kept.below hb2
      clear q0 q1 q2 q0' cf hb2 hpar2 hpx1 u0 u1 u2 ul
      have HKF : Hid (∀ B5, Only (fun k => w.heap.size ≤ k ∧ k < w.heap.size + 3) A2 B5 → Kept (Cb (D + 2) A1) A1 (B5.putObj D2 (.deferred none)) ∧ B5.heap[D2]? = some (.deferred (some [])) ∧ Below w.heap.size w B5) := by
        show ∀ B5, _
        intro B5 h5
        have hzD := HZ2.out
        have hdd := HD.out
        refine ⟨⟨Nat.le_trans HKB.out.1 (by have := h5.size; simp [World.putObj]; omega), fun b hb hl => ?_⟩, (h5.block D2 (Array.getElem?_eq_some_iff.1 HDF2.out).1 (by omega)).trans HDF2.out, below_lay HB2.out h5 HB2.out.size⟩
        have hb' := hb
        obtain ⟨g1, c, t, fr, g2⟩ := hb
        rw [World.putObj_heap_other (fun e => by subst e; rw [HDF1.out] at g2; cases g2), h5.block b (Nat.lt_of_lt_of_le hl HKB.out.1) (by omega)]
        exact HKB.out.2 b hb' hl
      by_cases hz : z = 0
      · subst hz
        have HPR2 : Hid (parseW s.data.toList = ((ver, srtR st.2.1, st.2.2), 0, 0)) := by show _ = _; rw [HPR.out, if_pos rfl]
        have HL5 := Lib.hid (lay5 (ver' := ver) (rv' := rv) (ev' := ev) (v1' := .int .i64 0) (v2' := .int .i64 0) HQ2.out.1 HQ2.out.2.1 HQ2.out.2.2)
        obtain ⟨pr, cr, rfl, _⟩ := HRI.out
        obtain ⟨pe, ce, rfl, _⟩ := HEI.out
        gi_wp2_with fail
        have hzD := HZ2.out
        have hdd := HD.out
        obtain ⟨hkf, hdf5, hb5⟩ := HKF.out _ HL5.out.2.2.2
        refine pfin HL5.out.1 HL5.out.2.1 HL5.out.2.2.1 hdf5 (by omega) rfl rfl rfl ⟨below_putObj hb5 (by omega) _, .slice pr (srtR st.2.1).length cr, .slice pe st.2.2.length ce, ?_, ?_, ?_⟩
        · rw [HPR2.out]; rfl
        · rw [HPR2.out]; exact (HRI.out.kept hkf).mono (fun b hb _ => by have := hb.1; omega)
        · rw [HPR2.out]; exact (HEI.out.kept hkf).monoP (fun b hb => by have := hb.1; omega)
      · have gz1 : (z == 0) = false := beq_eq_false_iff_ne.2 hz
        have gz2 : (z != 0) = true := bne_iff_ne.2 hz
        have HPR2 : Hid (parseW s.data.toList = (tab0, 0, z)) := by show _ = _; rw [HPR.out, if_neg hz]
        have HL5 := Lib.hid (lay5 (ver' := []) (rv' := .slice none 0 0) (ev' := .slice none 0 0) (v1' := .int .i64 0) (v2' := .int .i64 z) HQ2.out.1 HQ2.out.2.1 HQ2.out.2.2)
        clear hz
        gi_wp2_with fail
        have hzD := HZ2.out
        have hdd := HD.out
        obtain ⟨_, hdf5, hb5⟩ := HKF.out _ HL5.out.2.2.2
        refine pfin HL5.out.1 HL5.out.2.1 HL5.out.2.2.1 hdf5 (by omega) rfl rfl rfl ⟨below_putObj hb5 (by omega) _, .slice none 0 0, .slice none 0 0, ?_, ?_, ?_⟩
        · rw [HPR2.out]; rfl
        · rw [HPR2.out]; exact RngsIn.nil _ _
        · rw [HPR2.out]; exact ⟨none, 0, rfl, fun i x hx => by simp [tab0] at hx⟩
  case hstop =>
    rintro D2 c A hD2 ⟨rfl, n, z, hgo, hb, hlt, h6, h0, h1, h2⟩ hdf
    have hzD := HZ2.out
    have hdd := HD.out
    gi_wp2
    refine pfin h0 h1 h2 hdf (by omega) rfl rfl rfl ?_
    · refine ⟨below_putObj hb (by omega) _, .slice none 0 0, .slice none 0 0, ?_, ?_, ?_⟩
      · rw [HPW.out, hgo]; rfl
      · rw [HPW.out, hgo]; exact RngsIn.nil _ _
      · rw [HPW.out, hgo]; exact ⟨none, 0, rfl, fun i x hx => by simp [endW, tab0] at hx⟩
end Go.Proofs.YtjbcbejedaeedaaGreatDoor
