/- A trie while it is made: what it holds in memory. -/
import Derived.Test.YtnglhgogkemgbaaGreatDoorG09
namespace Go.Proofs.YtnglhgogkemgbaaGreatDoor
open Go.RowKit

/-- why an entry of a list may not be; 91: its code points stand there already -/
def badAt (es : List Ent) (i : Nat) : Int := match es[i]? with | none => 0 | some e => if eErr e ≠ 0 then eErr e else if (es.take i).any (fun x => x.1 == e.1) = true then 91 else 0
def fstBad (es : List Ent) : Option Nat := (List.range es.length).find? fun i => badAt es i != 0
def ckA (es : List Ent) : Int := if 4000 < es.length then 0 else match fstBad es with | none => 0 | some i => i
def ckE (es : List Ent) : Int := if 4000 < es.length then 2 else match fstBad es with | none => 0 | some i => badAt es i
theorem fst_here {es : List Ent} {i : Nat} (hi : i < es.length) (h : ∀ j, j < i → badAt es j = 0) (hb : badAt es i ≠ 0) : fstBad es = some i := by
  unfold fstBad
  rw [List.find?_eq_some_iff_getElem]
  refine ⟨by simpa using hb, i, by simpa using hi, by simp, fun j hj => ?_⟩
  simp [h j hj]
theorem fst_none {es : List Ent} (h : ∀ j, j < es.length → badAt es j = 0) : fstBad es = none := by
  unfold fstBad
  rw [List.find?_eq_none]
  intro j hj
  have := h j (by simpa using hj)
  simp [this]
theorem fst_none_all {es : List Ent} (h : fstBad es = none) : ∀ j, j < es.length → badAt es j = 0 := by
  intro j hj
  unfold fstBad at h
  rw [List.find?_eq_none] at h
  have := h j (by simpa using hj)
  simpa using this
theorem badAt_err {es : List Ent} {i : Nat} {e : Ent} (he : es[i]? = some e) (h : eErr e ≠ 0) : badAt es i = eErr e := by unfold badAt; rw [he]; exact if_pos h
theorem badAt_twin {es : List Ent} {i : Nat} {e : Ent} (he : es[i]? = some e) (h : eErr e = 0) {k : Nat} (hk : idx (es.take i) e.1 = some k) : badAt es i = 91 := by
  unfold badAt; rw [he]; simp only [h, ne_eq, not_true_eq_false, if_false]
  rw [if_pos]
  obtain ⟨x, h1, h2⟩ := idx_some hk
  rw [List.any_eq_true]
  exact ⟨x, List.mem_of_getElem? h1, by simpa using h2⟩
theorem badAt_ok {es : List Ent} {i : Nat} {e : Ent} (he : es[i]? = some e) (h : eErr e = 0) (hk : idx (es.take i) e.1 = none) : badAt es i = 0 := by
  unfold badAt; rw [he]; simp only [h, ne_eq, not_true_eq_false, if_false]
  rw [if_neg]
  intro ha
  rw [List.any_eq_true] at ha
  obtain ⟨x, h1, h2⟩ := ha
  exact idx_none hk x h1 (by simpa using h2)
/-- the entry's number at a way down; -1: none -/
def entOf (es : List Ent) (p : List Int) : Int := match idx es p with | some i => i | none => -1
theorem entOf_neg {es : List Ent} {p : List Int} (h : idx es p = none) : entOf es p = -1 := by unfold entOf; rw [h]
theorem entOf_pos {es : List Ent} {p : List Int} {i : Nat} (h : idx es p = some i) : entOf es p = i := by unfold entOf; rw [h]
theorem entOf_snoc {es : List Ent} {e : Ent} (h : idx es e.1 = none) : entOf (es ++ [e]) = fun p => if p = e.1 then (es.length : Int) else entOf es p := by
  funext p
  unfold entOf
  rw [idx_snoc]
  by_cases c : p = e.1
  · subst c; rw [h]; simp
  · rw [if_neg c]
    cases hx : idx es p with
    | some i => rfl
    | none => simp [show ¬ e.1 = p from fun h => c h.symm]
/-- beginnings of one list more -/
theorem dom_snoc {S : List (List Int)} {c p : List Int} : Dom (S ++ [c]) p ↔ Dom S p ∨ p <+: c := by
  unfold Dom
  constructor
  · rintro (h | ⟨x, hx, hp⟩)
    · exact .inl (.inl h)
    · rcases List.mem_append.1 hx with hx | hx
      · exact .inl (.inr ⟨x, hx, hp⟩)
      · simp at hx; subst hx; exact .inr hp
  · rintro ((h | ⟨x, hx, hp⟩) | h)
    · exact .inl h
    · exact .inr ⟨x, List.mem_append_left _ hx, hp⟩
    · exact .inr ⟨c, by simp, h⟩
theorem prefix_snoc {p q : List Int} {r : Int} : p <+: q ++ [r] ↔ p <+: q ∨ p = q ++ [r] := by
  rw [List.prefix_concat_iff]
  exact or_comm
theorem take_snoc' {xs : List Int} {k : Nat} {x : Int} (h : xs[k]? = some x) : xs.take (k + 1) = xs.take k ++ [x] := by rw [List.take_add_one, h]; rfl
def flatVs (vs : List (Value × Value)) : List Value := vs.flatMap fun x => [x.1, x.2]

/-- the trie in block tb: entries es, the ways down that S begins; from block B on -/
structure NewAt (B : Nat) (W : World) (tb : Nat) (es fs : List Ent) (S : List (List Int)) (N : NMap) (root : Nat) (lv : Value) (n : Nat) (asked : Int) (vs : List (Value × Value)) : Prop where
  tcell : W.heap[tb]? = some (.cells #[.int .i64 1, .pointer (some ⟨root, 0, none⟩), lv, .int .i64 asked] 177 (0, 0))
  rootN : ∃ rm, N [] = some (root, rm)
  mem : TMem Tryz.prog 21 181 B n W N (entOf fs)
  dom : ∀ p, N p ≠ none ↔ Dom S p
  row : W.ownsRow B 45 2 lv es.length (flatVs vs)
  vlen : vs.length = es.length
  vals : ∀ (j : Nat) (x : Ent), es[j]? = some x → ∃ c u, vs[j]? = some (c, u) ∧ IntsIn (Lf B W) .i32 W c x.1 ∧ ElsIn (Lf B W) W u x.2
  tB : B ≤ tb
variable {B : Nat} {W W' : World} {tb root n : Nat} {es fs : List Ent} {S : List (List Int)} {N : NMap} {lv : Value} {asked : Int} {vs : List (Value × Value)}
theorem NewAt.tlt (h : NewAt B W tb es fs S N root lv n asked vs) : tb < W.heap.size := (Array.getElem?_eq_some_iff.1 h.tcell).1
/-- leaves are no nodes, no maps, not the head, not the row -/
theorem lf_apart {b g : Nat} {c : Array Value} {t : TypeId} {fr : Nat × Nat} (h : Lf B W b) (hg : W.heap[g]? = some (.cells c t fr)) (h1 : t ≠ 21) (h2 : t ≠ 73) : b ≠ g := by
  rintro rfl
  obtain ⟨_, c', t', h3, h4⟩ := h
  rw [h3] at hg; cases hg
  rcases h4 with h4 | h4
  · exact h1 h4
  · exact h2 h4
theorem NewAt.lfM (h : NewAt B W tb es fs S N root lv n asked vs) {b : Nat} (hb : Lf B W b) {p : List Int} {nb mb : Nat} (hp : N p = some (nb, mb)) : b ≠ nb ∧ b ≠ mb := by
  refine ⟨lf_apart hb (h.mem.node p nb mb hp) (by decide) (by decide), ?_⟩
  rintro rfl
  obtain ⟨_, c', t', h3, _⟩ := hb
  obtain ⟨L, ⟨es', c'', h4, _⟩, _⟩ := h.mem.map p nb b hp
  rw [h4] at h3; cases h3
/-- whatever keeps its nodes, its head, its row and its leaves keeps it -/
theorem NewAt.same (h : NewAt B W tb es fs S N root lv n asked vs) (hz : W.heap.size ≤ W'.heap.size) (ht : W'.heap[tb]? = W.heap[tb]?) (hN : ∀ p nb mb, N p = some (nb, mb) → W'.heap[nb]? = W.heap[nb]? ∧ W'.heap[mb]? = W.heap[mb]?)
    (hrow : W'.ownsRow B 45 2 lv es.length (flatVs vs)) (hl : ∀ b, Lf B W b → W'.heap[b]? = W.heap[b]?) : NewAt B W' tb es fs S N root lv n asked vs := by
  have hk : Kept (Lf B W) W W' := ⟨hz, fun b hb _ => hl b hb⟩
  refine ⟨ht.trans h.tcell, h.rootN, h.mem.same hN, h.dom, hrow, h.vlen, fun j x hx => ?_, h.tB⟩
  obtain ⟨c, u, h1, h2, h3⟩ := h.vals j x hx
  exact ⟨c, u, h1, h2.lf hk (Nat.le_refl _), h3.lf hk (Nat.le_refl _)⟩
theorem ownsRow_grow' {e : TypeId} {k : Nat} {v : Value} {m : Nat} {xs : List Value} {w w' : World} (h : w.ownsRow B e k v m xs) (hb : Below w.heap.size w w') : w'.ownsRow B e k v m xs := by
  refine h.kept (Grows.grownBy hb) ?_
  rcases h.2 with ⟨rfl, _⟩ | ⟨g, cap, cur, rfl, _, hgb, _⟩
  · exact .inl rfl
  · exact .inr (fun e => by simp [Value.ownBlock] at e)
theorem NewAt.below (h : NewAt B W tb es fs S N root lv n asked vs) (hb : Below W.heap.size W W') : NewAt B W' tb es fs S N root lv n asked vs :=
  h.same hb.size (hb.block _ h.tlt) (fun p nb mb hp => ⟨hb.block _ (h.mem.ltN hp), hb.block _ (h.mem.ltM hp)⟩) (ownsRow_grow' h.row hb) (fun b hb' => by
    obtain ⟨_, c, t, h3, _⟩ := hb'; exact hb.block _ (Array.getElem?_eq_some_iff.1 h3).1)
theorem NewAt.rowNe (h : NewAt B W tb es fs S N root lv n asked vs) {g : Nat} {c : Array Value} {t : TypeId} {fr : Nat × Nat} (hg : W.heap[g]? = some (.cells c t fr)) (ht : t ≠ 45) : lv.ownBlock ≠ some g := by
  rcases h.row.2 with ⟨e, _⟩ | ⟨g', cap, cur, e, _, hr, _⟩
  · rw [e]; simp [Value.ownBlock]
  · rw [e]; simp only [Value.ownBlock]
    intro e'; cases e'
    rw [hr] at hg; cases hg; exact ht rfl

theorem dom_go {T : List (List Int)} {q : List Int} {r : Int} (h : Dom (T ++ [q]) (q ++ [r])) (p : List Int) : Dom (T ++ [q]) p ↔ Dom (T ++ [q ++ [r]]) p := by
  rw [dom_snoc, dom_snoc, prefix_snoc]
  rw [dom_snoc] at h
  constructor
  · rintro (c | c)
    · exact .inl c
    · exact .inr (.inl c)
  · rintro (c | c | c)
    · exact .inl c
    · exact .inr c
    · subst c
      rcases h with h | h
      · exact .inl h
      · have := h.length_le; simp at this; omega
theorem grownBy_setAt (w : World) (a : Addr) (v : Value) : w.grownBy (w.setCell a v) (some a.block) :=
  ⟨rfl, rfl, rfl, by simp [World.setCell], fun k _ hne => Below.heap_setCell _ _ _ _ (fun e => hne (by rw [e]))⟩
/-- the way goes on where a node is -/
theorem NewAt.go {T : List (List Int)} {q : List Int} {r : Int} (h : NewAt B W tb es fs (T ++ [q]) N root lv n asked vs) (hy : N (q ++ [r]) ≠ none) : NewAt B W tb es fs (T ++ [q ++ [r]]) N root lv n asked vs :=
  ⟨h.tcell, h.rootN, h.mem, fun p => (h.dom p).trans (dom_go ((h.dom _).1 hy) p), h.row, h.vlen, h.vals, h.tB⟩
theorem NewAt.mono (h : NewAt B W tb es fs S N root lv n asked vs) {m : Nat} (hm : n ≤ m) : NewAt B W tb es fs S N root lv m asked vs := ⟨h.tcell, h.rootN, h.mem.mono hm, h.dom, h.row, h.vlen, h.vals, h.tB⟩
theorem NewAt.sameDom {T : List (List Int)} (h : NewAt B W tb es fs S N root lv n asked vs) (hd : ∀ p, Dom S p ↔ Dom T p) : NewAt B W tb es fs T N root lv n asked vs :=
  ⟨h.tcell, h.rootN, h.mem, fun p => (h.dom p).trans (hd p), h.row, h.vlen, h.vals, h.tB⟩
/-- a node more -/
theorem NewAt.add {T : List (List Int)} {q : List Int} {r : Int} {nb mb nb' mb' : Nat} {w1 w2 : World} (h : NewAt B W tb es fs (T ++ [q]) N root lv n asked vs) (hfs : ∀ x ∈ fs, x.1 ∈ T) (hq : N q = some (nb, mb)) (hno : N (q ++ [r]) = none)
    (hnb : W.heap.size ≤ nb') (hmb : W.heap.size ≤ mb') (hb1 : Below W.heap.size W w1) (hn1 : w1.heap[nb']? = some (.cells #[.map (some mb'), .int .i64 (-1)] 181 (0, 0))) (hm1 : PMap Tryz.prog 21 w1 mb' n (fun _ => none))
    (hg : w1.grownBy w2 (some mb)) (hu : PMap Tryz.prog 21 w2 mb (n + 1) (fun s => if s = r then some nb' else (N (q ++ [s])).map (·.1))) :
    NewAt B w2 tb es fs (T ++ [q ++ [r]]) (fun p => if p = q ++ [r] then some (nb', mb') else N p) root lv (n + 1) asked vs := by
  have hB : B ≤ W.heap.size := Nat.le_trans h.tB (Nat.le_of_lt h.tlt)
  have hent : entOf fs (q ++ [r]) = -1 := by
    apply entOf_neg
    cases hx : idx fs (q ++ [r]) with
    | none => rfl
    | some i =>
      obtain ⟨x, g1, g2⟩ := idx_some hx
      exact absurd hno ((h.dom _).2 (.inr ⟨x.1, List.mem_append_left _ (hfs x (List.mem_of_getElem? g1)), by rw [g2]; exact List.prefix_refl _⟩))
  have hmap := h.mem.map q nb mb hq
  have hmlt := hmap.lt
  have cellsNe : ∀ {g : Nat} {c : Array Value} {t : TypeId} {fr : Nat × Nat}, W.heap[g]? = some (.cells c t fr) → w2.heap[g]? = W.heap[g]? := fun {g} {c} {t} {fr} hc => by
    have hne : g ≠ mb := by
      rintro rfl
      obtain ⟨L, ⟨es', c'', h4, _⟩, _⟩ := hmap
      rw [h4] at hc; cases hc
    have hl := (Array.getElem?_eq_some_iff.1 hc).1
    rw [hg.block g (by have := hb1.size; omega) (by simp [hne]), hb1.block g hl]
  have hk : Kept (Lf B W) W w2 := ⟨Nat.le_trans hb1.size hg.size, fun b hb _ => by obtain ⟨_, c, t, h3, _⟩ := hb; exact cellsNe h3⟩
  have hne : (([] : List Int) = q ++ [r]) ↔ False := by simp
  refine ⟨(cellsNe h.tcell).trans h.tcell, ?_, h.mem.add hq r hno hent hB hnb hmb hb1 hn1 hm1 hg hu, fun p => ?_, ?_, h.vlen, fun j x hx => ?_, h.tB⟩
  · obtain ⟨rm, hr⟩ := h.rootN
    refine ⟨rm, ?_⟩
    rw [if_neg (by simp)]; exact hr
  · rw [dom_snoc, prefix_snoc]
    have hd := h.dom p
    rw [dom_snoc] at hd
    by_cases e : p = q ++ [r]
    · subst e; rw [if_pos rfl]; simp
    · rw [if_neg e, hd]
      constructor
      · rintro (c | c)
        · exact .inl c
        · exact .inr (.inl c)
      · rintro (c | c | c)
        · exact .inl c
        · exact .inr c
        · exact absurd c e
  · have h1 := ownsRow_grow' h.row hb1
    refine h1.kept hg ?_
    rcases h.row.2 with ⟨e, _⟩ | ⟨g', cap, cur, e, _, hr, _⟩
    · rw [e]; exact .inl rfl
    · right
      rw [e]; simp only [Value.ownBlock]
      intro e'; cases e'
      obtain ⟨L, ⟨es', c'', h4, _⟩, _⟩ := hmap
      rw [h4] at hr; cases hr
  · obtain ⟨c, u, h1, h2, h3⟩ := h.vals j x hx
    exact ⟨c, u, h1, h2.lf hk (Nat.le_refl _), h3.lf hk (Nat.le_refl _)⟩
/-- the entry's number is stored -/
theorem NewAt.setEnt {x : Ent} {nb mb : Nat} (h : NewAt B W tb es fs S N root lv n asked vs) (hx : N x.1 = some (nb, mb)) (hi : idx fs x.1 = none) : NewAt B (W.setCell ⟨nb, 1, none⟩ (.int .i64 fs.length)) tb es (fs ++ [x]) S N root lv n asked vs := by
  have hnode := h.mem.node x.1 nb mb hx
  have hother : ∀ k, k ≠ nb → (W.setCell ⟨nb, 1, none⟩ (.int .i64 fs.length)).heap[k]? = W.heap[k]? := fun k hk => Below.heap_setCell _ _ _ _ hk
  have tne : tb ≠ nb := by
    rintro rfl; rw [h.tcell] at hnode; cases hnode
  have hk : Kept (Lf B W) W (W.setCell ⟨nb, 1, none⟩ (.int .i64 fs.length)) := ⟨by simp [World.setCell], fun b hb _ => hother b (h.lfM hb hx).1⟩
  refine ⟨(hother tb tne).trans h.tcell, h.rootN, ?_, h.dom, ?_, h.vlen, fun j y hy => ?_, h.tB⟩
  · rw [entOf_snoc hi]; exact h.mem.setEnt hx _
  · refine h.row.kept (grownBy_setAt W ⟨nb, 1, none⟩ _) ?_
    right
    exact h.rowNe hnode (by decide)
  · obtain ⟨c, u, h1, h2, h3⟩ := h.vals j y hy
    exact ⟨c, u, h1, h2.lf hk (Nat.le_refl _), h3.lf hk (Nat.le_refl _)⟩
/-- the entry is laid behind the others -/
theorem NewAt.push {x : Ent} {c u v' : Value} {w1 w2 : World} (h : NewAt B W tb es fs S N root lv n asked vs) (hb1 : Below W.heap.size W w1) (hc : IntsIn (Lf W.heap.size w1) .i32 w1 c x.1) (hu : ElsIn (Lf W.heap.size w1) w1 u x.2)
    (hown : w2.ownsRow B 45 2 v' (es.length + 1) (flatVs vs ++ [c, u])) (hg : (w1.alloc (.cells #[c, u] 45)).grownBy w2 lv.ownBlock) :
    NewAt B (w2.setCell ⟨tb, 2, none⟩ v') tb (es ++ [x]) fs S N root v' n asked (vs ++ [(c, u)]) := by
  have hB : B ≤ W.heap.size := Nat.le_trans h.tB (Nat.le_of_lt h.tlt)
  have ha := h.below hb1
  have hw1 : Below w1.heap.size w1 (w1.alloc (.cells #[c, u] 45)) := (Below.refl _ _).alloc (Nat.le_refl _) _
  have hall := ha.below hw1
  have keep : ∀ {g : Nat} {c' : Array Value} {t : TypeId} {fr : Nat × Nat}, w1.heap[g]? = some (.cells c' t fr) → t ≠ 45 → w2.heap[g]? = w1.heap[g]? := fun {g} {c'} {t} {fr} hc' ht => by
    have hl := (Array.getElem?_eq_some_iff.1 hc').1
    have e1 : (w1.alloc (.cells #[c, u] 45)).heap[g]? = w1.heap[g]? := hw1.block g hl
    rw [hg.block g (by simp; omega) (fun e => (hall.rowNe (e1.trans hc') ht) e.symm), e1]
  have t2 : w2.heap[tb]? = some (.cells #[.int .i64 1, .pointer (some ⟨root, 0, none⟩), lv, .int .i64 asked] 177 (0, 0)) := (keep ha.tcell (by decide)).trans ha.tcell
  have hother : ∀ k, k ≠ tb → (w2.setCell ⟨tb, 2, none⟩ v').heap[k]? = w2.heap[k]? := fun k hk => Below.heap_setCell _ _ _ _ hk
  have hz : (w2.setCell ⟨tb, 2, none⟩ v').heap.size = w2.heap.size := by simp [World.setCell]
  have hz2 : w1.heap.size ≤ w2.heap.size := by have := hg.size; simp at this; omega
  have hlf : ∀ {A : Nat} (b : Nat), Lf A w1 b → (w2.setCell ⟨tb, 2, none⟩ v').heap[b]? = w1.heap[b]? := fun {A} b hb => by
    obtain ⟨hbA, c', t, h3, h4⟩ := hb
    have hne : b ≠ tb := by
      rintro rfl
      rw [ha.tcell] at h3; cases h3
      rcases h4 with h4 | h4 <;> cases h4
    rw [hother b hne]
    exact keep h3 (by rcases h4 with h4 | h4 <;> (rw [h4]; decide))
  have hk : ∀ {A : Nat}, Kept (Lf A w1) w1 (w2.setCell ⟨tb, 2, none⟩ v') := fun {A} => ⟨by rw [hz]; exact hz2, fun b hb _ => hlf b hb⟩
  refine ⟨?_, h.rootN, ?_, h.dom, ?_, by simp [h.vlen], fun j y hy => ?_, h.tB⟩
  · unfold World.setCell
    simp [Array.getElem?_modify, t2]
  · refine ha.mem.same fun p nb mb hp => ⟨?_, ?_⟩
    · have hn := ha.mem.node p nb mb hp
      have hne : nb ≠ tb := by rintro rfl; rw [ha.tcell] at hn; cases hn
      rw [hother nb hne]; exact keep hn (by decide)
    · have hm := ha.mem.map p nb mb hp
      have hlt := hm.lt
      have hne : mb ≠ tb := by
        rintro rfl
        obtain ⟨L, ⟨es', c'', h4, _⟩, _⟩ := hm
        have := ha.tcell; rw [h4] at this; cases this
      rw [hother mb hne, hg.block mb (by simp; omega) (fun e => ?_)]
      · exact hw1.block mb hlt
      · rcases ha.row.2 with ⟨e', _⟩ | ⟨g', cap, cur, e', _, hr, _⟩
        · rw [e'] at e; simp [Value.ownBlock] at e
        · rw [e'] at e; simp only [Value.ownBlock] at e
          cases e
          obtain ⟨L, ⟨es', c'', h4, _⟩, _⟩ := hm
          rw [h4] at hr; cases hr
  · have e1 : flatVs (vs ++ [(c, u)]) = flatVs vs ++ [c, u] := by simp [flatVs]
    rw [e1, List.length_append]
    refine hown.kept (grownBy_setAt w2 ⟨tb, 2, none⟩ _) ?_
    rcases hown.2 with ⟨e, _⟩ | ⟨g', cap, cur, e, _, hr, _⟩
    · rw [e]; exact .inl rfl
    · right
      rw [e]; simp only [Value.ownBlock]
      intro e'; cases e'
      rw [t2] at hr; cases hr
  · rw [List.getElem?_append] at hy
    split at hy
    · rename_i hj
      obtain ⟨c', u', h1, h2, h3⟩ := ha.vals j y hy
      exact ⟨c', u', by rw [List.getElem?_append_left (by rw [h.vlen]; exact hj)]; exact h1, h2.lf hk (Nat.le_refl _), h3.lf hk (Nat.le_refl _)⟩
    · rename_i hj
      have hj0 : j - es.length = 0 := by
        have := (List.getElem?_eq_some_iff.1 hy).1; simp at this; omega
      rw [hj0] at hy; simp at hy; subst hy
      refine ⟨c, u, by rw [List.getElem?_append_right (by rw [h.vlen]; omega), h.vlen, hj0]; rfl, hc.lf hk hB, hu.lf hk hB⟩
end Go.Proofs.YtnglhgogkemgbaaGreatDoor
