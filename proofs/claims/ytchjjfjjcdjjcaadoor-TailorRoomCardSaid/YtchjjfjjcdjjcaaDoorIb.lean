/- Entries in memory of their own, each with blocks of its own. -/
import Derived.Test.YtchjjfjjcdjjcaaDoorIa
import Derived.Test.YtchjjfjjcdjjcaaDoorGl
namespace Go.Proofs.YtchjjfjjcdjjcaaDoor
open Go.RowKit

def eCells (c : Value × Value) : List Value := [c.1, c.2]
def flatE (cs : List (Value × Value)) : List Value := cs.flatMap eCells
theorem flatE_snoc (cs : List (Value × Value)) (c : Value × Value) : flatE (cs ++ [c]) = flatE cs ++ eCells c := by unfold flatE; simp
/-- elements in blocks of a range, none of them frozen -/
def ElsFz (lo hi : Nat) (W : World) (v : Value) (xs : List El) : Prop := ElsIn (fun b => lo ≤ b ∧ b < hi ∧ ∀ o, W.frozen? ⟨b, o, none⟩ = false) W v xs
theorem ElsFz.keep {lo hi : Nat} {W W' : World} {v : Value} {xs : List El} (h : ElsFz lo hi W v xs) (hk : ∀ b, lo ≤ b → b < hi → b < W.heap.size → W'.heap[b]? = W.heap[b]?) (hs : W.heap.size ≤ W'.heap.size) : ElsFz lo hi W' v xs := by
  have h1 : ElsIn (fun b => lo ≤ b ∧ b < hi ∧ (∀ o, W.frozen? ⟨b, o, none⟩ = false) ∧ b < W.heap.size) W v xs := ElsIn.mono h (fun b hb hl => ⟨hb.1, hb.2.1, hb.2.2, hl⟩)
  have h2 := h1.kept (w' := W') ⟨hs, fun b hb hl => hk b hb.1 hb.2.1 hl⟩
  exact ElsIn.mono h2 (fun b hb _ => ⟨hb.1, hb.2.1, fun o => (World.frozen?_of_block (w := W) (a := ⟨b, o, none⟩) (hk b hb.1 hb.2.1 hb.2.2.2)).trans (hb.2.2.1 o)⟩)
theorem ElsFz.els {lo hi : Nat} {W : World} {v : Value} {xs : List El} (h : ElsFz lo hi W v xs) : ElsIn (fun b => lo ≤ b ∧ b < hi) W v xs := ElsIn.mono h (fun b hb _ => ⟨hb.1, hb.2.1⟩)
/-- where the parts of an entry lie: codes from the first on, elements from the second on, up to the third -/
abbrev Tri3 := Nat × Nat × Nat
structure EntsOwnC (B : Nat) (W : World) (lv : Value) (es : List Ent) (ts : List Tri3) (cs : List (Value × Value)) : Prop where
  clen : cs.length = es.length
  tlen : ts.length = es.length
  inn : ∀ (i : Nat) e c t, es[i]? = some e → cs[i]? = some c → ts[i]? = some t → IntsIn (fun b => t.1 ≤ b ∧ b < t.2.1) .i32 W c.1 e.1 ∧ ElsFz t.2.1 t.2.2 W c.2 e.2
  bnd : ∀ (i : Nat) t, ts[i]? = some t → B ≤ t.1 ∧ t.1 ≤ t.2.1 ∧ t.2.1 ≤ t.2.2 ∧ t.2.2 ≤ W.heap.size
  srt : ∀ (i j : Nat) s t, i < j → ts[i]? = some s → ts[j]? = some t → s.2.2 ≤ t.1
  own : ∀ g, lv.ownBlock = some g → B ≤ g ∧ g < W.heap.size ∧ ∀ (i : Nat) t, ts[i]? = some t → ¬ (t.1 ≤ g ∧ g < t.2.2)
  row : W.ownsRow B 45 2 lv es.length (flatE cs)
theorem EntsOwnC.nil (B : Nat) (W : World) : EntsOwnC B W (.slice none 0 0) [] [] [] :=
  ⟨rfl, rfl, fun i e c t h => by simp at h, fun i t h => by simp at h, fun i j s t _ h => by simp at h, fun g h => by simp [Value.ownBlock] at h, World.ownsRow_nil _ _ _ _⟩
section
variable {B : Nat} {W W' : World} {lv : Value} {es : List Ent} {ts : List Tri3} {cs : List (Value × Value)}
theorem EntsOwnC.get (h : EntsOwnC B W lv es ts cs) {i : Nat} {e : Ent} (he : es[i]? = some e) : ∃ c t, cs[i]? = some c ∧ ts[i]? = some t ∧ IntsIn (fun b => t.1 ≤ b ∧ b < t.2.1) .i32 W c.1 e.1 ∧ ElsFz t.2.1 t.2.2 W c.2 e.2 ∧
    ∃ g cap, lv = .slice (some ⟨g, 0, none⟩) es.length cap ∧ B ≤ g ∧ g < W.heap.size ∧ W.cell? ⟨g, i * 2, none⟩ = some c.1 ∧ W.cell? ⟨g, i * 2 + 1, none⟩ = some c.2 := by
  have hi := (List.getElem?_eq_some_iff.1 he).1
  have h1 := h.clen
  have h2 := h.tlen
  obtain ⟨c, hc⟩ : ∃ c, cs[i]? = some c := ⟨cs[i]'(by omega), List.getElem?_eq_getElem _⟩
  obtain ⟨t, ht⟩ : ∃ t, ts[i]? = some t := ⟨ts[i]'(by omega), List.getElem?_eq_getElem _⟩
  obtain ⟨k1, k2⟩ := h.inn i e c t he hc ht
  have hrow := h.row
  have hfl : (flatE cs).length = cs.length * 2 := tflat_len eCells 2 (fun _ => rfl) cs
  have f1 : (flatE cs)[i * 2]? = some c.1 := flat_at eCells 2 (fun _ => rfl) cs i 0 c c.1 hc rfl
  have f2 : (flatE cs)[i * 2 + 1]? = some c.2 := flat_at eCells 2 (fun _ => rfl) cs i 1 c c.2 hc rfl
  rcases hrow.2 with ⟨_, h0⟩ | ⟨g, cap, cur, rfl, hg, hr, _⟩
  · omega
  · refine ⟨c, t, hc, ht, k1, k2, g, cap, rfl, hg, (Array.getElem?_eq_some_iff.1 hr).1, ?_, ?_⟩
    · rw [hrow.cellAt (i * 2) (by omega), f1]
    · rw [hrow.cellAt (i * 2 + 1) (by omega), f2]
/-- what changes no block of theirs changes nothing -/
theorem EntsOwnC.kept (h : EntsOwnC B W lv es ts cs) (ho : ∀ b, B ≤ b → b < W.heap.size → W'.heap[b]? = W.heap[b]?) (hs : W.heap.size ≤ W'.heap.size) : EntsOwnC B W' lv es ts cs := by
  refine ⟨h.clen, h.tlen, fun i e c t he hc ht => ?_, fun i t ht => ?_, h.srt, fun g hg => ?_, gBlock h.row (fun j hj hl => ho j (h.own j hj).1 hl)⟩
  · obtain ⟨k1, k2⟩ := h.inn i e c t he hc ht
    have hb := h.bnd i t ht
    exact ⟨k1.kept ⟨hs, fun b hb' hl => ho b (by omega) hl⟩, k2.keep (fun b h1 h2 hl => ho b (by omega) hl) hs⟩
  · have := h.bnd i t ht; omega
  · have := h.own g hg; exact ⟨this.1, by omega, this.2.2⟩
theorem EntsOwnC.below (h : EntsOwnC B W lv es ts cs) (hb : Below W.heap.size W W') : EntsOwnC B W' lv es ts cs := h.kept (fun b _ hl => hb.block b hl) hb.size
theorem EntsOwnC.only (h : EntsOwnC B W lv es ts cs) {S : Nat → Prop} (ho : Only S W W') (hS : ∀ b, S b → b < B ∨ W.heap.size ≤ b) : EntsOwnC B W' lv es ts cs :=
  h.kept (fun b hb hl => ho.block b hl (fun e => by rcases hS b e with h | h <;> omega)) ho.size
theorem EntsOwnC.form (h : EntsOwnC B W lv es ts cs) : ∃ p cap, lv = .slice p es.length cap := by
  rcases h.row.2 with ⟨rfl, h0⟩ | ⟨g, cap, cur, rfl, _⟩
  · exact ⟨none, 0, by rw [h0]⟩
  · exact ⟨_, _, rfl⟩
/-- one is put behind: its parts lie above all others -/
theorem EntsOwnC.push (h : EntsOwnC B W lv es ts cs) {lv' cv ev : Value} {e : Ent} {A C D : Nat} (hB : B ≤ A) (hAC : A ≤ C) (hCD : C ≤ D) (hD : D ≤ W.heap.size)
    (hab : ∀ (i : Nat) t, ts[i]? = some t → t.2.2 ≤ A) (hown : ∀ g, lv.ownBlock = some g → ¬ (A ≤ g ∧ g < D))
    (hc : IntsIn (fun b => A ≤ b ∧ b < C) .i32 W cv e.1) (he : ElsFz C D W ev e.2)
    (hrow : W'.ownsRow B 45 2 lv' (es.length + 1) (flatE cs ++ [cv, ev])) (hg : W.grownBy W' lv.ownBlock) (how : lv'.ownBlock = lv.ownBlock ∨ ∃ n, W.heap.size ≤ n ∧ n < W'.heap.size ∧ lv'.ownBlock = some n) (hBW : B ≤ W.heap.size) :
    EntsOwnC B W' lv' (es ++ [e]) (ts ++ [(A, C, D)]) (cs ++ [(cv, ev)]) := by
  have hsz := hg.size
  have hcl := h.clen
  have htl := h.tlen
  have nth : ∀ {α : Type} (l : List α) (x y : α) (i n : Nat), l.length = n → (l ++ [x])[i]? = some y → (i < n ∧ l[i]? = some y) ∨ (i = n ∧ x = y) := fun l x y i n hl hy => by
    by_cases hi : i < n
    · rw [List.getElem?_append_left (by omega)] at hy; exact .inl ⟨hi, hy⟩
    · rw [List.getElem?_append_right (by omega)] at hy
      have h1 := (List.getElem?_eq_some_iff.1 hy).1
      simp at h1
      have : i - l.length = 0 := by omega
      rw [this] at hy; simp at hy
      exact .inr ⟨by omega, hy⟩
  refine ⟨by simp [hcl], by simp [htl], fun i e' c t he' hc' ht => ?_, fun i t ht => ?_, fun i j s t hij hs ht => ?_, fun g hg' => ?_, by rw [flatE_snoc, List.length_append]; exact hrow⟩
  · rcases nth _ _ _ _ _ rfl he' with ⟨hi, he'⟩ | ⟨hi, rfl⟩
    · rcases nth _ _ _ _ _ hcl hc' with ⟨_, hc'⟩ | ⟨hi', _⟩
      · rcases nth _ _ _ _ _ htl ht with ⟨_, ht⟩ | ⟨hi', _⟩
        · obtain ⟨k1, k2⟩ := h.inn i e' c t he' hc' ht
          have hb := h.bnd i t ht
          exact ⟨k1.kept ⟨hsz, fun b hb' hl => hg.block b hl (fun e => (h.own b e.symm).2.2 i t ht ⟨by omega, by omega⟩)⟩, k2.keep (fun b h1 h2 hl => hg.block b hl (fun e => (h.own b e.symm).2.2 i t ht ⟨by omega, by omega⟩)) hsz⟩
        · omega
      · omega
    · rcases nth _ _ _ _ _ hcl hc' with ⟨hi', _⟩ | ⟨_, rfl⟩
      · omega
      · rcases nth _ _ _ _ _ htl ht with ⟨hi', _⟩ | ⟨_, rfl⟩
        · omega
        · exact ⟨hc.kept ⟨hsz, fun b hb' hl => hg.block b hl (fun e => hown b e.symm ⟨by omega, by omega⟩)⟩, he.keep (fun b h1 h2 hl => hg.block b hl (fun e => hown b e.symm ⟨by omega, by omega⟩)) hsz⟩
  · rcases nth _ _ _ _ _ htl ht with ⟨_, ht⟩ | ⟨_, rfl⟩
    · have := h.bnd i t ht; omega
    · exact ⟨hB, hAC, hCD, by show D ≤ _; omega⟩
  · rcases nth _ _ _ _ _ htl ht with ⟨hj, ht⟩ | ⟨hj, rfl⟩
    · rcases nth _ _ _ _ _ htl hs with ⟨_, hs⟩ | ⟨hi', _⟩
      · exact h.srt i j s t hij hs ht
      · omega
    · rcases nth _ _ _ _ _ htl hs with ⟨_, hs⟩ | ⟨hi', _⟩
      · exact hab i s hs
      · omega
  · rcases how with e1 | ⟨n, hn, hn2, e1⟩
    · rw [e1] at hg'
      have hh := h.own g hg'
      refine ⟨hh.1, by omega, fun i t ht => ?_⟩
      rcases nth _ _ _ _ _ htl ht with ⟨_, ht⟩ | ⟨_, rfl⟩
      · exact hh.2.2 i t ht
      · exact hown g hg'
    · rw [e1] at hg'
      have hng : n = g := by simpa using hg'
      subst hng
      refine ⟨by omega, hn2, fun i t ht => ?_⟩
      rcases nth _ _ _ _ _ htl ht with ⟨_, ht⟩ | ⟨_, rfl⟩
      · have := h.bnd i t ht; omega
      · show ¬ (A ≤ n ∧ n < D); omega
/-- an element is written anew -/
theorem EntsOwnC.set (h : EntsOwnC B W lv es ts cs) {i j : Nat} {e : Ent} {t : Tri3} {q o : Nat} {x y : El} (he : es[i]? = some e) (ht : ts[i]? = some t) (hx : e.2[j]? = some x) (hq : t.2.1 ≤ q ∧ q < t.2.2)
    (hel : ∀ (c : Value × Value), cs[i]? = some c → ∃ cap, c.2 = .slice (some ⟨q, o, none⟩) e.2.length cap)
    (ho : Only (fun b => b = q) W W') (h4 : El4 W' q (o + j * 4) y) (hoth : ∀ k, (∀ m, m < 4 → k ≠ o + j * 4 + m) → W'.cell? ⟨q, k, none⟩ = W.cell? ⟨q, k, none⟩) (hfr : ∀ k, W'.frozen? ⟨q, k, none⟩ = W.frozen? ⟨q, k, none⟩) :
    EntsOwnC B W' lv (es.set i (e.1, e.2.set j y)) ts cs := by
  have hb := h.bnd i t ht
  refine ⟨by rw [List.length_set]; exact h.clen, by rw [List.length_set]; exact h.tlen, fun i' e' c t' he' hc ht' => ?_, fun i' t' ht' => ?_, h.srt, fun g hg => ?_, by rw [List.length_set]; exact gBlock h.row (fun g hg hl => ho.block g hl (fun e1 => (h.own g hg).2.2 i t ht (by omega)))⟩
  · by_cases hii : i' = i
    · subst hii
      rw [ht] at ht'; cases ht'
      obtain ⟨k1, k2⟩ := h.inn i' e c t he hc ht
      have hil : i' < es.length := (List.getElem?_eq_some_iff.1 he).1
      rw [List.getElem?_set_self hil] at he'; cases he'
      refine ⟨k1.kept ⟨ho.size, fun b hb' hl => ho.block b hl (fun e1 => by omega)⟩, ?_⟩
      obtain ⟨cap, hce⟩ := hel c hc
      rw [hce] at k2 ⊢
      refine ⟨_, _, by rw [List.length_set], fun m z hm => ?_⟩
      by_cases hmj : m = j
      · subst hmj
        rw [List.getElem?_set_self (List.getElem?_eq_some_iff.1 hx).1] at hm; cases hm
        obtain ⟨b', o', e1, e2, e3, e4⟩ := ElsIn.at k2 m x hx
        cases e1
        exact ⟨q, o, rfl, ⟨e2.1, e2.2.1, fun k => (hfr k).trans (e2.2.2 k)⟩, Nat.lt_of_lt_of_le e3 ho.size, h4⟩
      · rw [List.getElem?_set_ne (Ne.symm hmj)] at hm
        obtain ⟨b', o', e1, e2, e3, e4⟩ := ElsIn.at k2 m z hm
        cases e1
        refine ⟨q, o, rfl, ⟨e2.1, e2.2.1, fun k => (hfr k).trans (e2.2.2 k)⟩, Nat.lt_of_lt_of_le e3 ho.size, ?_⟩
        obtain ⟨f0, f1, f2, f3⟩ := e4
        refine ⟨?_, ?_, ?_, ?_⟩
        · rw [hoth _ (fun r hr e => by omega)]; exact f0
        · rw [hoth _ (fun r hr e => by omega)]; exact f1
        · rw [hoth _ (fun r hr e => by omega)]; exact f2
        · rw [hoth _ (fun r hr e => by omega)]; exact f3
    · rw [List.getElem?_set_ne (Ne.symm hii)] at he'
      obtain ⟨k1, k2⟩ := h.inn i' e' c t' he' hc ht'
      have hb' := h.bnd i' t' ht'
      have hdis : ¬ (t'.1 ≤ q ∧ q < t'.2.2) := fun hh => by
        rcases Nat.lt_or_gt_of_ne hii with hlt | hlt
        · have := h.srt i' i t' t hlt ht' ht; omega
        · have := h.srt i i' t t' hlt ht ht'; omega
      exact ⟨k1.kept ⟨ho.size, fun b hb2 hl => ho.block b hl (fun e1 => by omega)⟩, k2.keep (fun b h1 h2 hl => ho.block b hl (fun e1 => by omega)) ho.size⟩
  · have := h.bnd i' t' ht'; have := ho.size; omega
  · have := h.own g hg; exact ⟨this.1, by have := ho.size; omega, this.2.2⟩
theorem EntsOwnC.weak (h : EntsOwnC B W lv es ts cs) {B' : Nat} (hb : B' ≤ B) : EntsOwnC B' W lv es ts cs :=
  ⟨h.clen, h.tlen, h.inn, fun i t ht => by have := h.bnd i t ht; omega, h.srt, fun g hg => by have := h.own g hg; exact ⟨by omega, this.2⟩, ownsRow_weak h.row hb⟩
end
end Go.Proofs.YtchjjfjjcdjjcaaDoor
