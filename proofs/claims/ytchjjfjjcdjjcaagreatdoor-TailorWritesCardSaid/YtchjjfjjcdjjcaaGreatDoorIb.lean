/- Entries in memory of their own, each with blocks of its own. Package tailor: a source in memory of its own. -/
import Derived.Test.YtchjjfjjcdjjcaaGreatDoorIa
import Derived.Test.YtchjjfjjcdjjcaaGreatDoorGl
import Derived.Test.YtchjjfjjcdjjcaaGreatDoorHeldS
import Derived.Deep.Cut
import Derived.Deep.CutRange
import Derived.Deep.AppendLies
/-! Entries in memory of their own, each with blocks of its own. -/
namespace Go.Proofs.YtchjjfjjcdjjcaaGreatDoor
open Go.RowKit

def eCells (c : Value × Value) : List Value := [c.1, c.2]
def flatE (cs : List (Value × Value)) : List Value := cs.flatMap eCells
theorem flatE_snoc (cs : List (Value × Value)) (c : Value × Value) : flatE (cs ++ [c]) = flatE cs ++ eCells c := by unfold flatE; simp
/-- elements in blocks of a range, none of them frozen -/
def ElsFz (lo hi : Nat) (W : World) (v : Value) (xs : List El) : Prop := ElsIn (fun b => lo ≤ b ∧ b < hi ∧ ∀ o, W.frozen? ⟨b, o, none⟩ = false) W v xs
theorem ElsFz.keep {lo hi : Nat} {W W' : World} {v : Value} {xs : List El} (h : ElsFz lo hi W v xs) (hk : ∀ b, lo ≤ b → b < hi → b < W.heap.size → W'.heap[b]? = W.heap[b]?) (hs : W.heap.size ≤ W'.heap.size) : ElsFz lo hi W' v xs := by
  have h1 : ElsIn (fun b => lo ≤ b ∧ b < hi ∧ (∀ o, W.frozen? ⟨b, o, none⟩ = false) ∧ b < W.heap.size) W v xs := ElsIn.mono h (fun b hb hl => ⟨hb.1, hb.2.1, hb.2.2, hl⟩)
  have h2 := h1.kept (w' := W') ⟨hs, fun b hb hl => hk b hb.1 hb.2.1 hl⟩
  exact ElsIn.mono h2 (fun b hb _ => ⟨hb.1, hb.2.1, fun o => (World.frozen?_of_block (w := W) (a := ⟨b, o, none⟩) (hk b hb.1 hb.2.1 hb.2.2.2)).trans (hb.2.2.1 o)⟩)
theorem ElsFz.els {lo hi : Nat} {W : World} {v : Value} {xs : List El} (h : ElsFz lo hi W v xs) : ElsIn (fun b => lo ≤ b ∧ b < hi) W v xs := ElsIn.mono h (fun b hb _ => ⟨hb.1, hb.2.1⟩)
/-- where the parts of an entry lie: codes from the first on, elements from the second on, up to the third -/
abbrev Tri3 := Nat × Nat × Nat
structure EntsOwnC (B : Nat) (W : World) (lv : Value) (es : List Ent) (ts : List Tri3) (cs : List (Value × Value)) : Prop where
  clen : cs.length = es.length
  tlen : ts.length = es.length
  inn : ∀ (i : Nat) e c t, es[i]? = some e → cs[i]? = some c → ts[i]? = some t → IntsIn (fun b => t.1 ≤ b ∧ b < t.2.1) .i32 W c.1 e.1 ∧ ElsFz t.2.1 t.2.2 W c.2 e.2
  bnd : ∀ (i : Nat) t, ts[i]? = some t → B ≤ t.1 ∧ t.1 ≤ t.2.1 ∧ t.2.1 ≤ t.2.2 ∧ t.2.2 ≤ W.heap.size
  srt : ∀ (i j : Nat) s t, i < j → ts[i]? = some s → ts[j]? = some t → s.2.2 ≤ t.1
  own : ∀ g, lv.ownBlock = some g → B ≤ g ∧ g < W.heap.size ∧ ∀ (i : Nat) t, ts[i]? = some t → ¬ (t.1 ≤ g ∧ g < t.2.2)
  row : W.ownsRow B 39 2 lv es.length (flatE cs)
theorem EntsOwnC.nil (B : Nat) (W : World) : EntsOwnC B W (.slice none 0 0) [] [] [] :=
  ⟨rfl, rfl, fun i e c t h => by simp at h, fun i t h => by simp at h, fun i j s t _ h => by simp at h, fun g h => by simp [Value.ownBlock] at h, World.ownsRow_nil _ _ _ _⟩
section
variable {B : Nat} {W W' : World} {lv : Value} {es : List Ent} {ts : List Tri3} {cs : List (Value × Value)}
theorem EntsOwnC.get (h : EntsOwnC B W lv es ts cs) {i : Nat} {e : Ent} (he : es[i]? = some e) : ∃ c t, cs[i]? = some c ∧ ts[i]? = some t ∧ IntsIn (fun b => t.1 ≤ b ∧ b < t.2.1) .i32 W c.1 e.1 ∧ ElsFz t.2.1 t.2.2 W c.2 e.2 ∧
    ∃ g cap, lv = .slice (some ⟨g, 0, none⟩) es.length cap ∧ B ≤ g ∧ g < W.heap.size ∧ W.cell? ⟨g, i * 2, none⟩ = some c.1 ∧ W.cell? ⟨g, i * 2 + 1, none⟩ = some c.2 := by
  have hi := (List.getElem?_eq_some_iff.1 he).1
  have h1 := h.clen
  have h2 := h.tlen
  obtain ⟨c, hc⟩ : ∃ c, cs[i]? = some c := ⟨cs[i]'(by omega), List.getElem?_eq_getElem _⟩
  obtain ⟨t, ht⟩ : ∃ t, ts[i]? = some t := ⟨ts[i]'(by omega), List.getElem?_eq_getElem _⟩
  obtain ⟨k1, k2⟩ := h.inn i e c t he hc ht
  have hrow := h.row
  have hfl : (flatE cs).length = cs.length * 2 := tflat_len eCells 2 (fun _ => rfl) cs
  have f1 : (flatE cs)[i * 2]? = some c.1 := flat_at eCells 2 (fun _ => rfl) cs i 0 c c.1 hc rfl
  have f2 : (flatE cs)[i * 2 + 1]? = some c.2 := flat_at eCells 2 (fun _ => rfl) cs i 1 c c.2 hc rfl
  rcases hrow.2 with ⟨_, h0⟩ | ⟨g, cap, cur, rfl, hg, hr, _⟩
  · omega
  · refine ⟨c, t, hc, ht, k1, k2, g, cap, rfl, hg, (Array.getElem?_eq_some_iff.1 hr).1, ?_, ?_⟩
    · rw [hrow.cellAt (i * 2) (by omega), f1]
    · rw [hrow.cellAt (i * 2 + 1) (by omega), f2]
/-- what changes no block of theirs changes nothing -/
theorem EntsOwnC.kept (h : EntsOwnC B W lv es ts cs) (ho : ∀ b, B ≤ b → b < W.heap.size → W'.heap[b]? = W.heap[b]?) (hs : W.heap.size ≤ W'.heap.size) : EntsOwnC B W' lv es ts cs := by
  refine ⟨h.clen, h.tlen, fun i e c t he hc ht => ?_, fun i t ht => ?_, h.srt, fun g hg => ?_, gBlock h.row (fun j hj hl => ho j (h.own j hj).1 hl)⟩
  · obtain ⟨k1, k2⟩ := h.inn i e c t he hc ht
    have hb := h.bnd i t ht
    exact ⟨k1.kept ⟨hs, fun b hb' hl => ho b (by omega) hl⟩, k2.keep (fun b h1 h2 hl => ho b (by omega) hl) hs⟩
  · have := h.bnd i t ht; omega
  · have := h.own g hg; exact ⟨this.1, by omega, this.2.2⟩
theorem EntsOwnC.below (h : EntsOwnC B W lv es ts cs) (hb : Below W.heap.size W W') : EntsOwnC B W' lv es ts cs := h.kept (fun b _ hl => hb.block b hl) hb.size
theorem EntsOwnC.only (h : EntsOwnC B W lv es ts cs) {S : Nat → Prop} (ho : Only S W W') (hS : ∀ b, S b → b < B ∨ W.heap.size ≤ b) : EntsOwnC B W' lv es ts cs :=
  h.kept (fun b hb hl => ho.block b hl (fun e => by rcases hS b e with h | h <;> omega)) ho.size
theorem EntsOwnC.form (h : EntsOwnC B W lv es ts cs) : ∃ p cap, lv = .slice p es.length cap := by
  rcases h.row.2 with ⟨rfl, h0⟩ | ⟨g, cap, cur, rfl, _⟩
  · exact ⟨none, 0, by rw [h0]⟩
  · exact ⟨_, _, rfl⟩
/-- one is put behind: its parts lie above all others -/
theorem EntsOwnC.push (h : EntsOwnC B W lv es ts cs) {lv' cv ev : Value} {e : Ent} {A C D : Nat} (hB : B ≤ A) (hAC : A ≤ C) (hCD : C ≤ D) (hD : D ≤ W.heap.size)
    (hab : ∀ (i : Nat) t, ts[i]? = some t → t.2.2 ≤ A) (hown : ∀ g, lv.ownBlock = some g → ¬ (A ≤ g ∧ g < D))
    (hc : IntsIn (fun b => A ≤ b ∧ b < C) .i32 W cv e.1) (he : ElsFz C D W ev e.2)
    (hrow : W'.ownsRow B 39 2 lv' (es.length + 1) (flatE cs ++ [cv, ev])) (hg : W.grownBy W' lv.ownBlock) (how : lv'.ownBlock = lv.ownBlock ∨ ∃ n, W.heap.size ≤ n ∧ n < W'.heap.size ∧ lv'.ownBlock = some n) (hBW : B ≤ W.heap.size) :
    EntsOwnC B W' lv' (es ++ [e]) (ts ++ [(A, C, D)]) (cs ++ [(cv, ev)]) := by
  have hsz := hg.size
  have hcl := h.clen
  have htl := h.tlen
  have nth : ∀ {α : Type} (l : List α) (x y : α) (i n : Nat), l.length = n → (l ++ [x])[i]? = some y → (i < n ∧ l[i]? = some y) ∨ (i = n ∧ x = y) := fun l x y i n hl hy => by
    by_cases hi : i < n
    · rw [List.getElem?_append_left (by omega)] at hy; exact .inl ⟨hi, hy⟩
    · rw [List.getElem?_append_right (by omega)] at hy
      have h1 := (List.getElem?_eq_some_iff.1 hy).1
      simp at h1
      have : i - l.length = 0 := by omega
      rw [this] at hy; simp at hy
      exact .inr ⟨by omega, hy⟩
  refine ⟨by simp [hcl], by simp [htl], fun i e' c t he' hc' ht => ?_, fun i t ht => ?_, fun i j s t hij hs ht => ?_, fun g hg' => ?_, by rw [flatE_snoc, List.length_append]; exact hrow⟩
  · rcases nth _ _ _ _ _ rfl he' with ⟨hi, he'⟩ | ⟨hi, rfl⟩
    · rcases nth _ _ _ _ _ hcl hc' with ⟨_, hc'⟩ | ⟨hi', _⟩
      · rcases nth _ _ _ _ _ htl ht with ⟨_, ht⟩ | ⟨hi', _⟩
        · obtain ⟨k1, k2⟩ := h.inn i e' c t he' hc' ht
          have hb := h.bnd i t ht
          exact ⟨k1.kept ⟨hsz, fun b hb' hl => hg.block b hl (fun e => (h.own b e.symm).2.2 i t ht ⟨by omega, by omega⟩)⟩, k2.keep (fun b h1 h2 hl => hg.block b hl (fun e => (h.own b e.symm).2.2 i t ht ⟨by omega, by omega⟩)) hsz⟩
        · omega
      · omega
    · rcases nth _ _ _ _ _ hcl hc' with ⟨hi', _⟩ | ⟨_, rfl⟩
      · omega
      · rcases nth _ _ _ _ _ htl ht with ⟨hi', _⟩ | ⟨_, rfl⟩
        · omega
        · exact ⟨hc.kept ⟨hsz, fun b hb' hl => hg.block b hl (fun e => hown b e.symm ⟨by omega, by omega⟩)⟩, he.keep (fun b h1 h2 hl => hg.block b hl (fun e => hown b e.symm ⟨by omega, by omega⟩)) hsz⟩
  · rcases nth _ _ _ _ _ htl ht with ⟨_, ht⟩ | ⟨_, rfl⟩
    · have := h.bnd i t ht; omega
    · exact ⟨hB, hAC, hCD, by show D ≤ _; omega⟩
  · rcases nth _ _ _ _ _ htl ht with ⟨hj, ht⟩ | ⟨hj, rfl⟩
    · rcases nth _ _ _ _ _ htl hs with ⟨_, hs⟩ | ⟨hi', _⟩
      · exact h.srt i j s t hij hs ht
      · omega
    · rcases nth _ _ _ _ _ htl hs with ⟨_, hs⟩ | ⟨hi', _⟩
      · exact hab i s hs
      · omega
  · rcases how with e1 | ⟨n, hn, hn2, e1⟩
    · rw [e1] at hg'
      have hh := h.own g hg'
      refine ⟨hh.1, by omega, fun i t ht => ?_⟩
      rcases nth _ _ _ _ _ htl ht with ⟨_, ht⟩ | ⟨_, rfl⟩
      · exact hh.2.2 i t ht
      · exact hown g hg'
    · rw [e1] at hg'
      have hng : n = g := by simpa using hg'
      subst hng
      refine ⟨by omega, hn2, fun i t ht => ?_⟩
      rcases nth _ _ _ _ _ htl ht with ⟨_, ht⟩ | ⟨_, rfl⟩
      · have := h.bnd i t ht; omega
      · show ¬ (A ≤ n ∧ n < D); omega
/-- an element is written anew -/
theorem EntsOwnC.set (h : EntsOwnC B W lv es ts cs) {i j : Nat} {e : Ent} {t : Tri3} {q o : Nat} {x y : El} (he : es[i]? = some e) (ht : ts[i]? = some t) (hx : e.2[j]? = some x) (hq : t.2.1 ≤ q ∧ q < t.2.2)
    (hel : ∀ (c : Value × Value), cs[i]? = some c → ∃ cap, c.2 = .slice (some ⟨q, o, none⟩) e.2.length cap)
    (ho : Only (fun b => b = q) W W') (h4 : El4 W' q (o + j * 4) y) (hoth : ∀ k, (∀ m, m < 4 → k ≠ o + j * 4 + m) → W'.cell? ⟨q, k, none⟩ = W.cell? ⟨q, k, none⟩) (hfr : ∀ k, W'.frozen? ⟨q, k, none⟩ = W.frozen? ⟨q, k, none⟩) :
    EntsOwnC B W' lv (es.set i (e.1, e.2.set j y)) ts cs := by
  have hb := h.bnd i t ht
  refine ⟨by rw [List.length_set]; exact h.clen, by rw [List.length_set]; exact h.tlen, fun i' e' c t' he' hc ht' => ?_, fun i' t' ht' => ?_, h.srt, fun g hg => ?_, by rw [List.length_set]; exact gBlock h.row (fun g hg hl => ho.block g hl (fun e1 => (h.own g hg).2.2 i t ht (by omega)))⟩
  · by_cases hii : i' = i
    · subst hii
      rw [ht] at ht'; cases ht'
      obtain ⟨k1, k2⟩ := h.inn i' e c t he hc ht
      have hil : i' < es.length := (List.getElem?_eq_some_iff.1 he).1
      rw [List.getElem?_set_self hil] at he'; cases he'
      refine ⟨k1.kept ⟨ho.size, fun b hb' hl => ho.block b hl (fun e1 => by omega)⟩, ?_⟩
      obtain ⟨cap, hce⟩ := hel c hc
      rw [hce] at k2 ⊢
      refine ⟨_, _, by rw [List.length_set], fun m z hm => ?_⟩
      by_cases hmj : m = j
      · subst hmj
        rw [List.getElem?_set_self (List.getElem?_eq_some_iff.1 hx).1] at hm; cases hm
        obtain ⟨b', o', e1, e2, e3, e4⟩ := ElsIn.at k2 m x hx
        cases e1
        exact ⟨q, o, rfl, ⟨e2.1, e2.2.1, fun k => (hfr k).trans (e2.2.2 k)⟩, Nat.lt_of_lt_of_le e3 ho.size, h4⟩
      · rw [List.getElem?_set_ne (Ne.symm hmj)] at hm
        obtain ⟨b', o', e1, e2, e3, e4⟩ := ElsIn.at k2 m z hm
        cases e1
        refine ⟨q, o, rfl, ⟨e2.1, e2.2.1, fun k => (hfr k).trans (e2.2.2 k)⟩, Nat.lt_of_lt_of_le e3 ho.size, ?_⟩
        obtain ⟨f0, f1, f2, f3⟩ := e4
        refine ⟨?_, ?_, ?_, ?_⟩
        · rw [hoth _ (fun r hr e => by omega)]; exact f0
        · rw [hoth _ (fun r hr e => by omega)]; exact f1
        · rw [hoth _ (fun r hr e => by omega)]; exact f2
        · rw [hoth _ (fun r hr e => by omega)]; exact f3
    · rw [List.getElem?_set_ne (Ne.symm hii)] at he'
      obtain ⟨k1, k2⟩ := h.inn i' e' c t' he' hc ht'
      have hb' := h.bnd i' t' ht'
      have hdis : ¬ (t'.1 ≤ q ∧ q < t'.2.2) := fun hh => by
        rcases Nat.lt_or_gt_of_ne hii with hlt | hlt
        · have := h.srt i' i t' t hlt ht' ht; omega
        · have := h.srt i i' t t' hlt ht ht'; omega
      exact ⟨k1.kept ⟨ho.size, fun b hb2 hl => ho.block b hl (fun e1 => by omega)⟩, k2.keep (fun b h1 h2 hl => ho.block b hl (fun e1 => by omega)) ho.size⟩
  · have := h.bnd i' t' ht'; have := ho.size; omega
  · have := h.own g hg; exact ⟨this.1, by have := ho.size; omega, this.2.2⟩
theorem EntsOwnC.weak (h : EntsOwnC B W lv es ts cs) {B' : Nat} (hb : B' ≤ B) : EntsOwnC B' W lv es ts cs :=
  ⟨h.clen, h.tlen, h.inn, fun i t ht => by have := h.bnd i t ht; omega, h.srt, fun g hg => by have := h.own g hg; exact ⟨by omega, this.2⟩, ownsRow_weak h.row hb⟩
end
end Go.Proofs.YtchjjfjjcdjjcaaGreatDoor
/-! Package tailor: a source in memory of its own. -/
namespace Go.Proofs.YtchjjfjjcdjjcaaGreatDoor
open Go.RowKit

theorem Tryz.infoEn : (Tryz.prog.info? 39).map (fun i => (i.zero, i.size, i.bytes)) = some (some (.agg #[.slice none 0 0, .slice none 0 0]), 2, 48) := by kernel_rfl
/-- a source in memory -/
def SrcAt (W : World) (b : Nat) (v r e : Value) : Prop := W.heap[b]? = some (.cells #[v, r, e] 43 (0, 0))
section
variable {W W' : World} {b : Nat} {v r e : Value}
theorem SrcAt.cells (h : SrcAt W b v r e) : W.cell? ⟨b, 0, none⟩ = some v ∧ W.cell? ⟨b, 1, none⟩ = some r ∧ W.cell? ⟨b, 2, none⟩ = some e ∧ (∀ o, W.frozen? ⟨b, o, none⟩ = false) ∧ b < W.heap.size :=
  ⟨by simp [World.cell?, show W.heap[b]? = _ from h], by simp [World.cell?, show W.heap[b]? = _ from h], by simp [World.cell?, show W.heap[b]? = _ from h], fun o => by simp [World.frozen?, show W.heap[b]? = _ from h], (Array.getElem?_eq_some_iff.1 h).1⟩
theorem SrcAt.put2 (h : SrcAt W b v r e) (u : Value) : SrcAt (W.setCell ⟨b, 2, none⟩ u) b v r u := by
  unfold SrcAt at *
  unfold World.setCell
  simp [Array.getElem?_modify, h]
theorem SrcAt.put3 (h : SrcAt W b v r e) (x y z : Value) : SrcAt (((W.setCell ⟨b, 0, none⟩ x).setCell ⟨b, 1, none⟩ y).setCell ⟨b, 2, none⟩ z) b x y z := by
  unfold SrcAt at *
  unfold World.setCell
  simp [Array.getElem?_modify, h]
theorem SrcAt.below (h : SrcAt W b v r e) (hb : Below W.heap.size W W') : SrcAt W' b v r e := (hb.block b h.cells.2.2.2.2).trans h
theorem SrcAt.only (h : SrcAt W b v r e) {S : Nat → Prop} (ho : Only S W W') (hx : ¬ S b) : SrcAt W' b v r e := (ho.block b h.cells.2.2.2.2 hx).trans h
end
set_option maxHeartbeats 8000000 in
set_option maxRecDepth 100000 in
theorem twin_any (R : Nat → Prop) (es : List Ent) (ver : ByteArray) (n : Nat) (rv ev : Value) (w : World) (hr : CellsIn w rv n 4) (he : EntsIn R w ev es) (hn : n ≤ 1000000000) (hel : es.length ≤ 1000000000) (hx : ∀ x ∈ es, x.1.length ≤ 1000000000 ∧ x.2.length ≤ 1000000000) :
    Calls Tryz.prog 80 #[.agg #[.string ver, rv, ev]] w fun e w' => ∃ p c lv ts cs, e = .returned (.agg #[.string ver, .slice p n c, lv]) ∧ EntsOwnC w.heap.size w' lv es ts cs ∧ Below w.heap.size w w' := by
  have HR := Lib.hid hr
  have HE := Lib.hid he
  have HX := Lib.hid hx
  obtain ⟨p1, c1, rfl, _⟩ := hr
  obtain ⟨p2, c2, rfl, _⟩ := he
  obtain ⟨m, hm⟩ : ∃ m, m = es.length := ⟨_, rfl⟩
  rw [← hm] at HE hel ⊢
  have HM := Lib.hid hm
  clear hm hx
  go_enter Tryz.func80, Tryz.ntmps80
  go_wp2_with fail
  have hb0 : Below w.heap.size w ((w.alloc (.cells #[.string ver, .slice p1 n c1, .slice p2 m c2] 43)).alloc (.cells #[.string ⟨#[]⟩, .slice none 0 0, .slice none 0 0] 43)) := ((Below.refl _ w).alloc (Nat.le_refl _) _).alloc (by simp) _
  have hs0 : SrcAt ((w.alloc (.cells #[.string ver, .slice p1 n c1, .slice p2 m c2] 43)).alloc (.cells #[.string ⟨#[]⟩, .slice none 0 0, .slice none 0 0] 43)) w.heap.size (.string ver) (.slice p1 n c1) (.slice p2 m c2) := by
    unfold SrcAt
    rw [Below.heap_alloc _ _ _ (by simp), World.alloc_heap_new]
  have hr0 : SrcAt ((w.alloc (.cells #[.string ver, .slice p1 n c1, .slice p2 m c2] 43)).alloc (.cells #[.string ⟨#[]⟩, .slice none 0 0, .slice none 0 0] 43)) (w.heap.size + 1) (.string ⟨#[]⟩) (.slice none 0 0) (.slice none 0 0) := by
    have := World.alloc_heap_new (w.alloc (.cells #[.string ver, .slice p1 n c1, .slice p2 m c2] 43)) (.cells #[.string ⟨#[]⟩, .slice none 0 0, .slice none 0 0] 43)
    rw [World.size_alloc] at this; exact this
  have hz0 : ((w.alloc (.cells #[.string ver, .slice p1 n c1, .slice p2 m c2] 43)).alloc (.cells #[.string ⟨#[]⟩, .slice none 0 0, .slice none 0 0] 43)).heap.size = w.heap.size + 2 := by simp
  generalize ((w.alloc (.cells #[.string ver, .slice p1 n c1, .slice p2 m c2] 43)).alloc (.cells #[.string ⟨#[]⟩, .slice none 0 0, .slice none 0 0] 43)) = W0 at *
  have HB0 := Lib.hid hb0
  have HS0 := Lib.hid hs0
  have HR0 := Lib.hid hr0
  have HZ0 := Lib.hid hz0
  clear hb0 hs0 hr0 hz0
  go_upto_region 1 with fail
  go_cut [3] from 6 to 11 (fun s3 wx => ∃ (ob : Nat) (rp : Option Addr) (rc : Nat), s3 = .pointer (some ⟨ob, 0, none⟩) ∧ SrcAt wx ob (.string ver) (.slice rp n rc) (.slice none 0 0) ∧ W0.heap.size ≤ ob ∧ Below W0.heap.size W0 wx)
  case first =>
    obtain ⟨c0, c1', c2', _, cl⟩ := HS0.out.cells
    have HCL := Lib.hid (fun W (h : Below W0.heap.size W0 W) => cloneR_any n (.slice p1 n c1) W ((HR.out.below HB0.out).below h) hn)
    have hS0 : W0.drew.cell? ⟨w.heap.size, 0, none⟩ = some (.string ver) ∧ W0.drew.cell? ⟨w.heap.size, 1, none⟩ = some (.slice p1 n c1) := ⟨c0, c1'⟩
    have HSS : Hid (∀ W, Below W0.heap.size W0 W → W.cell? ⟨w.heap.size, 0, none⟩ = some (.string ver) ∧ W.cell? ⟨w.heap.size, 1, none⟩ = some (.slice p1 n c1)) := fun W h => ⟨(h.cell (p := ⟨w.heap.size, 0, none⟩) cl).trans c0, (h.cell (p := ⟨w.heap.size, 1, none⟩) cl).trans c1'⟩
    refine wp_region_S (fun V : World => V.cell? ⟨w.heap.size, 0, none⟩ = some (.string ver) ∧ V.cell? ⟨w.heap.size, 1, none⟩ = some (.slice p1 n c1)) 7 (by kernel_rfl) ?_
    refine sTake (i := 0) (v := ?_) rfl (by kernel_rfl) (by kernel_rfl) (by kernel_rfl) (by kernel_rfl) (fun _ _ _ h => h) (Or.inl ⟨by first | rfl | kernel_rfl, ?_⟩) hS0 ?_; rotate_left 1; (first | (focus (intro w hSw; (try dsimp only at hSw); go_simp; done)) | (focus (intro w hSw; (try dsimp only at hSw); go_simp; with_reducible rfl)) | (focus (intro w hSw; (try dsimp only at hSw); simp [hSw, go_sem]; done))); (try simp only [Act.put, List.setIfInBounds_toArray, List.set_cons_zero, List.set_cons_succ])
    refine sTake (i := 1) (v := ?_) rfl (by kernel_rfl) (by kernel_rfl) (by kernel_rfl) (by kernel_rfl) (fun _ _ _ h => h) (Or.inl ⟨by first | rfl | kernel_rfl, ?_⟩) hS0 ?_; rotate_left 1; (first | (focus (intro w hSw; (try dsimp only at hSw); go_simp; done)) | (focus (intro w hSw; (try dsimp only at hSw); go_simp; with_reducible rfl)) | (focus (intro w hSw; (try dsimp only at hSw); simp [hSw, go_sem]; done))); (try simp only [Act.put, List.setIfInBounds_toArray, List.set_cons_zero, List.set_cons_succ])
    refine sTake (i := 2) (v := ?_) rfl (by kernel_rfl) (by kernel_rfl) (by kernel_rfl) (by kernel_rfl) (fun _ _ _ h => h) (Or.inl ⟨by first | rfl | kernel_rfl, ?_⟩) hS0 ?_; rotate_left 1; (first | (focus (intro w hSw; (try dsimp only at hSw); go_simp; done)) | (focus (intro w hSw; (try dsimp only at hSw); go_simp; with_reducible rfl)) | (focus (intro w hSw; (try dsimp only at hSw); simp [hSw, go_sem]; done))); (try simp only [Act.put, List.setIfInBounds_toArray, List.set_cons_zero, List.set_cons_succ])
    refine sTake (i := 3) (v := ?_) rfl (by kernel_rfl) (by kernel_rfl) (by kernel_rfl) (by kernel_rfl) (fun _ _ _ h => h) (Or.inl ⟨by first | rfl | kernel_rfl, ?_⟩) hS0 ?_; rotate_left 1; (first | (focus (intro w hSw; (try dsimp only at hSw); go_simp; done)) | (focus (intro w hSw; (try dsimp only at hSw); go_simp; with_reducible rfl)) | (focus (intro w hSw; (try dsimp only at hSw); simp [hSw, go_sem]; done))); (try simp only [Act.put, List.setIfInBounds_toArray, List.set_cons_zero, List.set_cons_succ])
    refine sTwo (i := 4) (j := 6) (by kernel_rfl) rfl rfl (by rfl) (by rfl) (fun K hK => ?_) (fun K hK => ?_)
    · have HK := Lib.hid hK
      clear hK
      go_simp
      refine (HCL.out _ ((Below.refl _ _).drew)).mono ?_
      rintro e w5 ⟨rp, rc, rfl, hb5⟩
      have HB5 : Hid (Below W0.heap.size W0 w5) := (Below.refl _ W0).drew.trans hb5
      refine HK.out _ _ (HSS.out _ HB5.out) ?_
      clear HK
      (try simp only [Act.put, List.setIfInBounds_toArray, List.set_cons_zero, List.set_cons_succ])
      refine sTake (i := 5) (v := ?_) rfl (by kernel_rfl) (by kernel_rfl) (by kernel_rfl) (by kernel_rfl) (fun _ _ _ h => h) (Or.inl ⟨by first | rfl | kernel_rfl, ?_⟩) (HSS.out _ HB5.out) ?_; rotate_left 1; (first | (focus (intro w hSw; (try dsimp only at hSw); go_simp; done)) | (focus (intro w hSw; (try dsimp only at hSw); go_simp; with_reducible rfl)) | (focus (intro w hSw; (try dsimp only at hSw); simp [hSw, go_sem]; done))); (try simp only [Act.put, List.setIfInBounds_toArray, List.set_cons_zero, List.set_cons_succ])
      have HBA : Hid (Below W0.heap.size W0 (w5.alloc (.cells #[.string ⟨#[]⟩, .slice none 0 0, .slice none 0 0] 43))) := HB5.out.alloc HB5.out.size _
      refine sOne (i := 6) (by kernel_rfl) rfl (by rfl) (fun K hK => ?_)
      have HK := Lib.hid hK
      clear hK
      go_simp
      refine HK.out _ _ (HSS.out _ HBA.out) ?_
      clear HK
      (try simp only [Act.put, List.setIfInBounds_toArray, List.set_cons_zero, List.set_cons_succ])
      refine sLast (by kernel_rfl) rfl (by rfl) (fun K hK => ?_)
      have HK := Lib.hid hK
      clear hK
      go_simp
      refine HK.out _ _ ?_
      clear HK
      (try simp only [Act.put, List.setIfInBounds_toArray, List.set_cons_zero, List.set_cons_succ])
      refine sDone (by kernel_rfl) ?_ _
      go_wp2_with fail
      go_meet
      case rel => exact ⟨_, rp, rc, rfl, World.alloc_heap_new _ _, HB5.out.size, HB5.out.alloc HB5.out.size _⟩
    · have HK := Lib.hid hK
      clear hK
      have HBA : Hid (Below W0.heap.size W0 (W0.drew.alloc (.cells #[.string ⟨#[]⟩, .slice none 0 0, .slice none 0 0] 43))) := (Below.refl _ W0).drew.alloc (Nat.le_refl _) _
      go_simp
      refine HK.out _ _ (HSS.out _ HBA.out) ?_
      clear HK
      (try simp only [Act.put, List.setIfInBounds_toArray, List.set_cons_zero, List.set_cons_succ])
      refine sOne (i := 4) (by kernel_rfl) rfl (by rfl) (fun K hK => ?_)
      have HK := Lib.hid hK
      clear hK
      go_simp
      refine (HCL.out _ HBA.out).mono ?_
      rintro e w5 ⟨rp, rc, rfl, hb5⟩
      have HB5 : Hid (Below W0.heap.size W0 w5) := HBA.out.trans (hb5.mono HBA.out.size)
      refine HK.out _ _ (HSS.out _ HB5.out) ?_
      clear HK
      (try simp only [Act.put, List.setIfInBounds_toArray, List.set_cons_zero, List.set_cons_succ])
      refine sTake (i := 5) (v := ?_) rfl (by kernel_rfl) (by kernel_rfl) (by kernel_rfl) (by kernel_rfl) (fun _ _ _ h => h) (Or.inl ⟨by first | rfl | kernel_rfl, ?_⟩) (HSS.out _ HB5.out) ?_; rotate_left 1; (first | (focus (intro w hSw; (try dsimp only at hSw); go_simp; done)) | (focus (intro w hSw; (try dsimp only at hSw); go_simp; with_reducible rfl)) | (focus (intro w hSw; (try dsimp only at hSw); simp [hSw, go_sem]; done))); (try simp only [Act.put, List.setIfInBounds_toArray, List.set_cons_zero, List.set_cons_succ])
      refine sLast (by kernel_rfl) rfl (by rfl) (fun K hK => ?_)
      have HK := Lib.hid hK
      clear hK
      have hsa : SrcAt w5 W0.heap.size (.string ⟨#[]⟩) (.slice none 0 0) (.slice none 0 0) := by
        have h1 : SrcAt (W0.drew.alloc (.cells #[.string ⟨#[]⟩, .slice none 0 0, .slice none 0 0] 43)) W0.heap.size (.string ⟨#[]⟩) (.slice none 0 0) (.slice none 0 0) := World.alloc_heap_new _ _
        exact h1.below hb5
      obtain ⟨d0, d1, d2, df, dl⟩ := hsa.cells
      have f0 := df 0
      have f1 := df 1
      have f2 := df 2
      have HSA := Lib.hid hsa
      clear df hsa hb5
      go_simp
      refine HK.out _ _ ?_
      clear HK
      (try simp only [Act.put, List.setIfInBounds_toArray, List.set_cons_zero, List.set_cons_succ])
      refine sDone (by kernel_rfl) ?_ _
      have HSF := Lib.hid (HSA.out.put3 (.string ver) (.slice rp n rc) (.slice none 0 0))
      have HBF : Hid (Below W0.heap.size W0 (((w5.setCell ⟨W0.heap.size, 0, none⟩ (.string ver)).setCell ⟨W0.heap.size, 1, none⟩ (.slice rp n rc)).setCell ⟨W0.heap.size, 2, none⟩ (.slice none 0 0))) := ((HB5.out.setCell (Nat.le_refl _) _).setCell (Nat.le_refl _) _).setCell (Nat.le_refl _) _
      clear d0 d1 d2 f0 f1 f2 dl HSA
      go_wp2_with fail
      go_meet
      case rel => exact ⟨_, rp, rc, rfl, HSF.out, Nat.le_refl _, HBF.out⟩
  case rest =>
  obtain ⟨ob, rp, rc, rfl, hsrc, hob, hbc⟩ := hcut
  have HSRC := Lib.hid hsrc
  have HBC := Lib.hid hbc
  obtain ⟨i0, hti, hz0, hz1, hz2⟩ := info_parts Tryz.infoEn
  obtain ⟨_, _, x2', _, xl⟩ := (HS0.out.below hbc).cells
  have hobl := hsrc.cells.2.2.2.2
  have hsz := hbc.size
  clear hsrc hbc
  go_wp2_with fail
  go_loopw [15] (fun iv wx => ∃ (i : Nat) (lv : Value) (ts : List Tri3) (cs : List (Value × Value)), iv = .int .i64 i ∧ i ≤ m ∧ SrcAt wx ob (.string ver) (.slice rp n rc) lv ∧ EntsOwnC wc.heap.size wx lv (es.take i) ts cs ∧ Only (fun k => k = ob ∨ wc.heap.size ≤ k) wc wx) (fun iv _ => m - (intOf iv).toNat)
  case atStart => exact ⟨0, _, [], [], rfl, Nat.zero_le _, HSRC.out, by rw [List.take_zero]; exact .nil _ _, Only.refl _ _⟩
  case round =>
    obtain ⟨i, lv, ts, cs, rfl, him, hsr, hown, honly⟩ := hrel
    have HSR := Lib.hid hsr
    have HOW := Lib.hid hown
    have HON := Lib.hid honly
    have hwz : wc.heap.size ≤ wr.heap.size := honly.size
    clear hsr hown
    by_cases hlt : i < m
    · have g1 : (i : Int) < (m : Int) := by omega
      obtain ⟨e, he⟩ : ∃ e, es[i]? = some e := ⟨es[i]'(by rw [← HM.out]; exact hlt), List.getElem?_eq_getElem _⟩
      have hbw : Kept R w wr := by
        have b1 : Below w.heap.size w wc := HB0.out.trans (HBC.out.mono HB0.out.size)
        exact ⟨Nat.le_trans b1.size hwz, fun b _ hl => (honly.block b (by have := b1.size; omega) (by have := HZ0.out; have := b1.size; omega)).trans (b1.block b hl)⟩
      obtain ⟨eb, eo, cv, ev, rfl, _, hel', k0, k1, hci, hei⟩ := (HE.out.kept hbw).at i e he
      have HCI := Lib.hid hci
      have HEI := Lib.hid hei
      have HEX := Lib.hid he
      have HXE := Lib.hid (HX.out e (List.mem_iff_getElem?.2 ⟨i, he⟩))
      obtain ⟨lp, lcap, rfl⟩ := HOW.out.form
      have HTL : Hid ((es.take i).length = i) := by show _ = _; rw [List.length_take, ← HM.out]; omega
      rw [HTL.out] at HSR HOW
      have HOB : Hid (∀ g, (Value.slice lp i lcap).ownBlock = some g → wc.heap.size ≤ g ∧ g < wr.heap.size) := fun g hg => ⟨(HOW.out.own g hg).1, (HOW.out.own g hg).2.1⟩
      have HTB : Hid (∀ (j : Nat) t, ts[j]? = some t → t.2.2 ≤ wr.heap.size) := fun j t ht => (HOW.out.bnd j t ht).2.2.2
      obtain ⟨cp, cc, rfl, _⟩ := hci
      obtain ⟨ep, ec, rfl, _⟩ := hei
      clear hbw he honly
      go_wp2_with fail
      have hxe : (wr.alloc (.cells #[.slice cp e.1.length cc, .slice ep e.2.length ec] 39)).heap[wr.heap.size]? = some (.cells #[.slice cp e.1.length cc, .slice ep e.2.length ec] 39 (0, 0)) := World.alloc_heap_new _ _
      have hbx : Below wr.heap.size wr (wr.alloc (.cells #[.slice cp e.1.length cc, .slice ep e.2.length ec] 39)) := (Below.refl _ wr).alloc (Nat.le_refl _) _
      have hxz : (wr.alloc (.cells #[.slice cp e.1.length cc, .slice ep e.2.length ec] 39)).heap.size = wr.heap.size + 1 := by simp
      generalize wr.alloc (.cells #[.slice cp e.1.length cc, .slice ep e.2.length ec] 39) = W1 at *
      have HBX := Lib.hid hbx
      have HXZ := Lib.hid hxz
      have hsr1 := HSR.out.below hbx
      have how1 := HOW.out.below hbx
      have HSR1 := Lib.hid hsr1
      have HOW1 := Lib.hid how1
      have HCI1 := Lib.hid (HCI.out.kept (Kept.below hbx))
      have HEI1 := Lib.hid (HEI.out.kept (Kept.below hbx))
      obtain ⟨_, _, s2, sf, sl⟩ := hsr1.cells
      have hx0 : W1.cell? ⟨wr.heap.size, 0, none⟩ = some (.slice cp e.1.length cc) := by simp [World.cell?, hxe]
      have hx1 : W1.cell? ⟨wr.heap.size, 1, none⟩ = some (.slice ep e.2.length ec) := by simp [World.cell?, hxe]
      have hxl : wr.heap.size < W1.heap.size := by omega
      obtain ⟨xb, hxb⟩ : ∃ xb, xb = wr.heap.size := ⟨_, rfl⟩
      rw [← hxb] at hx0 hx1 hxl ⊢
      have HXB := Lib.hid hxb
      have HSS : Hid (∀ W, Below W1.heap.size W1 W → W.cell? ⟨ob, 2, none⟩ = some (.slice lp i lcap) ∧ W.cell? ⟨xb, 0, none⟩ = some (.slice cp e.1.length cc) ∧ W.cell? ⟨xb, 1, none⟩ = some (.slice ep e.2.length ec)) := fun W h => ⟨(h.cell (p := ⟨ob, 2, none⟩) sl).trans s2, (h.cell (p := ⟨xb, 0, none⟩) hxl).trans hx0, (h.cell (p := ⟨xb, 1, none⟩) hxl).trans hx1⟩
      have hS0 := HSS.out _ ((Below.refl _ W1).drew)
      have HCC := Lib.hid (fun W (h : Below W1.heap.size W1 W) => cloneI_any R e.1 (.slice cp e.1.length cc) W (HCI1.out.kept (Kept.below h)) (by have := HXE.out; omega))
      have HEE := Lib.hid (fun W (h : Below W1.heap.size W1 W) => cloneE_any R e.2 (.slice ep e.2.length ec) W (HEI1.out.kept (Kept.below h)) (by have := HXE.out; omega))
      clear hxe hbx hxz hsr1 how1 sf hxb HSR HOW HCI HEI k0 k1
      go_upto_region 5 with fail
      refine wp_region_S (fun V : World => V.cell? ⟨ob, 2, none⟩ = some (.slice lp i lcap) ∧ V.cell? ⟨xb, 0, none⟩ = some (.slice cp e.1.length cc) ∧ V.cell? ⟨xb, 1, none⟩ = some (.slice ep e.2.length ec)) 12 (by kernel_rfl) ?_
      refine sTake (i := 0) (v := ?_) rfl (by kernel_rfl) (by kernel_rfl) (by kernel_rfl) (by kernel_rfl) (fun _ _ _ h => h) (Or.inl ⟨by first | rfl | kernel_rfl, ?_⟩) hS0 ?_; rotate_left 1; (first | (focus (intro w hSw; (try dsimp only at hSw); go_simp; done)) | (focus (intro w hSw; (try dsimp only at hSw); go_simp; with_reducible rfl)) | (focus (intro w hSw; (try dsimp only at hSw); simp [hSw, go_sem]; done))); (try simp only [Act.put, List.setIfInBounds_toArray, List.set_cons_zero, List.set_cons_succ])
      refine sTake (i := 1) (v := ?_) rfl (by kernel_rfl) (by kernel_rfl) (by kernel_rfl) (by kernel_rfl) (fun _ _ _ h => h) (Or.inl ⟨by first | rfl | kernel_rfl, ?_⟩) hS0 ?_; rotate_left 1; (first | (focus (intro w hSw; (try dsimp only at hSw); go_simp; done)) | (focus (intro w hSw; (try dsimp only at hSw); go_simp; with_reducible rfl)) | (focus (intro w hSw; (try dsimp only at hSw); simp [hSw, go_sem]; done))); (try simp only [Act.put, List.setIfInBounds_toArray, List.set_cons_zero, List.set_cons_succ])
      refine sTake (i := 2) (v := ?_) rfl (by kernel_rfl) (by kernel_rfl) (by kernel_rfl) (by kernel_rfl) (fun _ _ _ h => h) (Or.inl ⟨by first | rfl | kernel_rfl, ?_⟩) hS0 ?_; rotate_left 1; (first | (focus (intro w hSw; (try dsimp only at hSw); go_simp; done)) | (focus (intro w hSw; (try dsimp only at hSw); go_simp; with_reducible rfl)) | (focus (intro w hSw; (try dsimp only at hSw); simp [hSw, go_sem]; done))); (try simp only [Act.put, List.setIfInBounds_toArray, List.set_cons_zero, List.set_cons_succ])
      refine sTake (i := 3) (v := ?_) rfl (by kernel_rfl) (by kernel_rfl) (by kernel_rfl) (by kernel_rfl) (fun _ _ _ h => h) (Or.inl ⟨by first | rfl | kernel_rfl, ?_⟩) hS0 ?_; rotate_left 1; (first | (focus (intro w hSw; (try dsimp only at hSw); go_simp; done)) | (focus (intro w hSw; (try dsimp only at hSw); go_simp; with_reducible rfl)) | (focus (intro w hSw; (try dsimp only at hSw); simp [hSw, go_sem]; done))); (try simp only [Act.put, List.setIfInBounds_toArray, List.set_cons_zero, List.set_cons_succ])
      refine sTake (i := 5) (v := ?_) rfl (by kernel_rfl) (by kernel_rfl) (by kernel_rfl) (by kernel_rfl) (fun _ _ _ h => h) (Or.inl ⟨by first | rfl | kernel_rfl, ?_⟩) hS0 ?_; rotate_left 1; (first | (focus (intro w hSw; (try dsimp only at hSw); go_simp; done)) | (focus (intro w hSw; (try dsimp only at hSw); go_simp; with_reducible rfl)) | (focus (intro w hSw; (try dsimp only at hSw); simp [hSw, go_sem]; done))); (try simp only [Act.put, List.setIfInBounds_toArray, List.set_cons_zero, List.set_cons_succ])
      refine sTake (i := 6) (v := ?_) rfl (by kernel_rfl) (by kernel_rfl) (by kernel_rfl) (by kernel_rfl) (fun _ _ _ h => h) (Or.inl ⟨by first | rfl | kernel_rfl, ?_⟩) hS0 ?_; rotate_left 1; (first | (focus (intro w hSw; (try dsimp only at hSw); go_simp; done)) | (focus (intro w hSw; (try dsimp only at hSw); go_simp; with_reducible rfl)) | (focus (intro w hSw; (try dsimp only at hSw); simp [hSw, go_sem]; done))); (try simp only [Act.put, List.setIfInBounds_toArray, List.set_cons_zero, List.set_cons_succ])
      refine sOne (i := 4) (by kernel_rfl) rfl (by rfl) (fun K hK => ?_)
      have HK := Lib.hid hK
      clear hK hS0
      go_simp
      refine (HCC.out _ ((Below.refl _ _).drew)).mono ?_
      rintro e' w5 ⟨cv, rfl, hcv, hb5⟩
      have HB5 : Hid (Below W1.heap.size W1 w5) := (Below.refl _ W1).drew.trans hb5
      have HCV := Lib.hid hcv
      refine HK.out _ _ (HSS.out _ HB5.out) ?_
      clear HK
      (try simp only [Act.put, List.setIfInBounds_toArray, List.set_cons_zero, List.set_cons_succ])
      refine sOne (i := 7) (by kernel_rfl) rfl (by rfl) (fun K hK => ?_)
      have HK := Lib.hid hK
      clear hK
      go_simp
      refine (HEE.out _ HB5.out).mono ?_
      rintro e' w6 ⟨ev, rfl, hev, hb6⟩
      have HB6 : Hid (Below W1.heap.size W1 w6) := HB5.out.trans (hb6.mono HB5.out.size)
      have HEV := Lib.hid hev
      have HB56 := Lib.hid hb6
      refine HK.out _ _ (HSS.out _ HB6.out) ?_
      clear HK
      (try simp only [Act.put, List.setIfInBounds_toArray, List.set_cons_zero, List.set_cons_succ])
      obtain ⟨cp2, cc2, rfl, _⟩ := hcv
      obtain ⟨ep2, ec2, rfl, _⟩ := hev
      refine sTake (i := 8) (v := ?_) rfl (by kernel_rfl) (by kernel_rfl) (by kernel_rfl) (by kernel_rfl) (fun _ _ _ h => h) (Or.inl ⟨by first | rfl | kernel_rfl, ?_⟩) (HSS.out _ HB6.out) ?_; rotate_left 1; (first | (focus (intro w hSw; (try dsimp only at hSw); go_simp; done)) | (focus (intro w hSw; (try dsimp only at hSw); go_simp; with_reducible rfl)) | (focus (intro w hSw; (try dsimp only at hSw); simp [hSw, go_sem]; done))); (try simp only [Act.put, List.setIfInBounds_toArray, List.set_cons_zero, List.set_cons_succ])
      have hbA : Below w6.heap.size w6 (w6.alloc (.cells #[.slice cp2 e.1.length cc2, .slice ep2 e.2.length ec2] 39)) := (Below.refl _ w6).alloc (Nat.le_refl _) _
      have HBA : Hid (Below W1.heap.size W1 (w6.alloc (.cells #[.slice cp2 e.1.length cc2, .slice ep2 e.2.length ec2] 39))) := HB6.out.trans (hbA.mono HB6.out.size)
      have HB6A := Lib.hid hbA
      clear hbA hb5 hb6
      refine sOne (i := 9) (by kernel_rfl) rfl (by rfl) (fun K hK => ?_)
      have HK := Lib.hid hK
      clear hK
      go_simp
      refine HK.out _ _ (HSS.out _ HBA.out) ?_
      clear HK
      (try simp only [Act.put, List.setIfInBounds_toArray, List.set_cons_zero, List.set_cons_succ])
      have HOWA := Lib.hid (HOW1.out.below HBA.out)
      have hsrA := HSR1.out.below HBA.out
      have HSRA := Lib.hid hsrA
      have HRW := Lib.hid HOWA.out.row
      have hzz : W1.heap.size ≤ w5.heap.size ∧ w5.heap.size ≤ w6.heap.size := ⟨HB5.out.size, HB56.out.size⟩
      have HBZ : Hid (wc.heap.size ≤ (w6.alloc (.cells #[.slice cp2 e.1.length cc2, .slice ep2 e.2.length ec2] 39)).heap.size) := by show _ ≤ _; have := HXZ.out; simp; omega
      refine sOne (i := 10) (by kernel_rfl) rfl (by rfl) (fun K hK => ?_)
      have HK := Lib.hid hK
      clear hK
      refine Go.wp_append_lies _ (.tmp 20) (.tmp 28) 40 rfl wc.heap.size 39 i0 (.agg #[.slice none 0 0, .slice none 0 0]) 2 48 Tryz.underlying40 hti hz0 hz1 hz2 rfl (by decide) (.slice lp i lcap) i (flatE cs) rfl (by have h := HRW.out; rw [HTL.out] at h; exact h) ⟨w6.heap.size, 0, none⟩ 1 1 [.slice cp2 e.1.length cc2, .slice ep2 e.2.length ec2] rfl rfl (gCells _ _ _) (by simp [Value.oneCell']) (by decide) (by unfold maxLen; omega) (by omega) HBZ.out _ rfl ?_
      intro g8 cap8 w8 hown8 hgrow8 hor8 hlt8
      have hoblt : ob < wc.heap.size := hobl
      have HGB : Hid (∀ b, b < wc.heap.size → w8.heap[b]? = (w6.alloc (.cells #[.slice cp2 e.1.length cc2, .slice ep2 e.2.length ec2] 39)).heap[b]?) := fun b hb => hgrow8.block b (by have := HBZ.out; omega) (fun e => by have := (HOWA.out.own b e.symm).1; omega)
      have hsr8 : SrcAt w8 ob (.string ver) (.slice rp n rc) (.slice lp i lcap) := (HGB.out ob hoblt).trans hsrA
      obtain ⟨_, _, t2, tf, tl⟩ := hsr8.cells
      have tf2 := tf 2
      have hxw : xb < (w6.alloc (.cells #[.slice cp2 e.1.length cc2, .slice ep2 e.2.length ec2] 39)).heap.size := by have := HXB.out; have := HXZ.out; simp; omega
      have hx8 : w8.heap[xb]? = (w6.alloc (.cells #[.slice cp2 e.1.length cc2, .slice ep2 e.2.length ec2] 39)).heap[xb]? := by
        refine hgrow8.block xb hxw (fun e => ?_)
        have h1 := HOB.out xb e.symm
        have h2 := HXB.out
        omega
      have HS8 : Hid (w8.cell? ⟨ob, 2, none⟩ = some (.slice lp i lcap) ∧ w8.cell? ⟨xb, 0, none⟩ = some (.slice cp e.1.length cc) ∧ w8.cell? ⟨xb, 1, none⟩ = some (.slice ep e.2.length ec)) := by
        have h := HSS.out _ HBA.out
        exact ⟨t2, (World.cell?_of_block (a := ⟨xb, 0, none⟩) hx8).trans h.2.1, (World.cell?_of_block (a := ⟨xb, 1, none⟩) hx8).trans h.2.2⟩
      refine HK.out _ _ HS8.out ?_
      clear HK hx8 hxw tf
      (try simp only [Act.put, List.setIfInBounds_toArray, List.set_cons_zero, List.set_cons_succ])
      refine sOne (i := 11) (by kernel_rfl) rfl (by rfl) (fun K hK => ?_)
      have HK := Lib.hid hK
      clear hK
      go_simp
      refine HK.out _ _ HS8.out ?_
      clear HK
      (try simp only [Act.put, List.setIfInBounds_toArray, List.set_cons_zero, List.set_cons_succ])
      refine sLast (by kernel_rfl) rfl (by rfl) (fun K hK => ?_)
      have HK := Lib.hid hK
      clear hK
      go_simp
      refine HK.out _ _ ?_
      clear HK
      (try simp only [Act.put, List.setIfInBounds_toArray, List.set_cons_zero, List.set_cons_succ])
      refine sDone (by kernel_rfl) ?_ _
      have HSN := Lib.hid (hsr8.put2 (.slice (some ⟨g8, 0, none⟩) (i + 1) cap8))
      have hgs := hgrow8.size
      have hcv := HCV.out
      have hev := HEV.out
      have hdr : W1.drew.heap.size = W1.heap.size := rfl
      rw [hdr] at hcv
      have hz6 : w6.heap.size ≤ (w6.alloc (.cells #[.slice cp2 e.1.length cc2, .slice ep2 e.2.length ec2] 39)).heap.size := by simp
      have hpush : EntsOwnC wc.heap.size w8 (.slice (some ⟨g8, 0, none⟩) (i + 1) cap8) (es.take i ++ [e]) (ts ++ [(W1.heap.size, w5.heap.size, w6.heap.size)]) (cs ++ [(.slice cp2 e.1.length cc2, .slice ep2 e.2.length ec2)]) := by
        refine HOWA.out.push (by have := HXZ.out; omega) hzz.1 hzz.2 hz6 (fun j t ht => ?_) (fun g hg => ?_) ?_ ?_ (by rw [HTL.out]; exact hown8) hgrow8 ?_ HBZ.out
        · have := HTB.out j t ht; have := HXZ.out; omega
        · have := (HOB.out g hg).2; have := HXZ.out; omega
        · exact ((IntsIn.mono (S := fun b => W1.heap.size ≤ b ∧ b < w5.heap.size) hcv (fun b hb hl => ⟨hb.1, hl⟩)).kept (Kept.below HB56.out)).kept (Kept.below HB6A.out)
        · refine ElsFz.keep (W := w6) (ElsIn.mono hev (fun b hb hl => ⟨hb.1, hl, fun o => ?_⟩)) (fun b _ _ hl => HB6A.out.block b hl) HB6A.out.size
          obtain ⟨_, c', t', hc', _⟩ := hb
          simp [World.frozen?, hc']
        · rcases hor8 with e1 | e1
          · exact .inl e1.symm
          · exact .inr ⟨g8, by omega, hlt8, rfl⟩
      have hset : Only (fun b => b = ob) w8 (w8.setCell ⟨ob, 2, none⟩ (.slice (some ⟨g8, 0, none⟩) (i + 1) cap8)) := (Only.refl (fun b => b = ob) w8).setCell (p := ⟨ob, 2, none⟩) rfl _
      have HPU := Lib.hid (hpush.only hset (fun b hb => .inl (by omega)))
      have HONN : Hid (Only (fun k => k = ob ∨ wc.heap.size ≤ k) wc (w8.setCell ⟨ob, 2, none⟩ (.slice (some ⟨g8, 0, none⟩) (i + 1) cap8))) := by
        have o1 : Only (fun k => k = ob ∨ wc.heap.size ≤ k) wc (w6.alloc (.cells #[.slice cp2 e.1.length cc2, .slice ep2 e.2.length ec2] 39)) := (HON.out.below HBX.out).below HBA.out
        have o2 : Only (fun k => k = ob ∨ wc.heap.size ≤ k) (w6.alloc (.cells #[.slice cp2 e.1.length cc2, .slice ep2 e.2.length ec2] 39)) w8 := ⟨hgrow8.os, hgrow8.tape, hgrow8.output, hgrow8.size, fun k hk hn => hgrow8.block k hk (fun e => hn (.inr (HOB.out k e.symm).1))⟩
        exact (o1.trans o2).trans (hset.mono fun k hk => .inl hk)
      have HTK : Hid (es.take (i + 1) = es.take i ++ [e]) := by show _ = _; rw [List.take_add_one, HEX.out]; rfl
      clear hown8 hgrow8 hor8 hlt8 hpush hset t2 tf2 tl hsr8 hsrA hcv hev
      go_wp2_with fail
      go_roundw
      case rel => exact ⟨i + 1, _, _, _, by go_num, by omega, HSN.out, by rw [HTK.out]; exact HPU.out, HONN.out⟩
      case measure => (show m - ((i : Int) + 1).toNat < m - (i : Int).toNat; omega)
    · obtain rfl : i = m := by omega
      have g1 : ¬ ((i : Int) < (i : Int)) := by omega
      have HFIN : Hid (EntsOwnC wc.heap.size wr lv es ts cs) := by
        have h := HOW.out
        rw [List.take_of_length_le (by rw [← HM.out]; exact Nat.le_refl _)] at h
        exact h
      obtain ⟨s0, s1, s2, _, sl⟩ := HSR.out.cells
      have hrb : w.heap.size + 1 < W0.heap.size := by have := HZ0.out; omega
      have hrr : SrcAt wr (w.heap.size + 1) (.string ⟨#[]⟩) (.slice none 0 0) (.slice none 0 0) := (HR0.out.below HBC.out).only honly (by omega)
      obtain ⟨r0, r1, r2, rf, rl⟩ := hrr.cells
      have rf0 := rf 0
      have rf1 := rf 1
      have rf2 := rf 2
      obtain ⟨lp, lcap, rfl⟩ := HOW.out.form
      generalize (es.take i).length = ll at *
      clear rf hlt HOW
      go_wp2_with fail
      have hsf := hrr.put3 (.string ver) (.slice rp n rc) (.slice lp ll lcap)
      have HPF := Lib.hid (HFIN.out)
      have hwcb : w.heap.size + 1 < wc.heap.size := by have := HBC.out.size; omega
      have HBF : Hid (Below w.heap.size w (((wr.setCell ⟨w.heap.size + 1, 0, none⟩ (.string ver)).setCell ⟨w.heap.size + 1, 1, none⟩ (.slice rp n rc)).setCell ⟨w.heap.size + 1, 2, none⟩ (.slice lp ll lcap))) := by
        have b1 : Below w.heap.size w wc := HB0.out.trans (HBC.out.mono HB0.out.size)
        have b2 : Below w.heap.size w wr := Only.toBelow b1 (by omega) honly (fun i hi => by have := HB0.out.size; omega)
        exact ((b2.setCell (by show _ ≤ w.heap.size + 1; omega) _).setCell (by show _ ≤ w.heap.size + 1; omega) _).setCell (by show _ ≤ w.heap.size + 1; omega) _
      have HEF : Hid (EntsOwnC wc.heap.size (((wr.setCell ⟨w.heap.size + 1, 0, none⟩ (.string ver)).setCell ⟨w.heap.size + 1, 1, none⟩ (.slice rp n rc)).setCell ⟨w.heap.size + 1, 2, none⟩ (.slice lp ll lcap)) (.slice lp ll lcap) es ts cs) := by
        have ho : Only (fun b => b = w.heap.size + 1) wr (((wr.setCell ⟨w.heap.size + 1, 0, none⟩ (.string ver)).setCell ⟨w.heap.size + 1, 1, none⟩ (.slice rp n rc)).setCell ⟨w.heap.size + 1, 2, none⟩ (.slice lp ll lcap)) :=
          (((Only.refl (fun b => b = w.heap.size + 1) wr).setCell (p := ⟨w.heap.size + 1, 0, none⟩) rfl _).setCell (p := ⟨w.heap.size + 1, 1, none⟩) rfl _).setCell (p := ⟨w.heap.size + 1, 2, none⟩) rfl _
        exact HFIN.out.only ho (fun b hb => .inl (by omega))
      obtain ⟨q0, q1, q2, _, _⟩ := hsf.cells
      generalize (((wr.setCell ⟨w.heap.size + 1, 0, none⟩ (.string ver)).setCell ⟨w.heap.size + 1, 1, none⟩ (.slice rp n rc)).setCell ⟨w.heap.size + 1, 2, none⟩ (.slice lp ll lcap)) = WF at *
      refine bodyPost_ret (v := .agg #[.string ver, .slice rp n rc, .slice lp ll lcap]) (by simp [results, Tryz.results80, go_sem, q0, q1, q2]) rfl ?_
      exact ⟨_, _, _, rfl, ⟨_, _, HEF.out.weak (by omega)⟩, HBF.out⟩
end Go.Proofs.YtchjjfjjcdjjcaaGreatDoor
