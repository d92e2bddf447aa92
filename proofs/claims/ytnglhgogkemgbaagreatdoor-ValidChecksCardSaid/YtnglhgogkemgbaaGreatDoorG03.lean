/- Arguments opened: a source; its ranges. Chapter 8 in plain words: what a table's text says; no program in sight. Maps from texts to numbers that the call itself makes: a word for what they hold, over any program. -/
import Derived.Test.YtnglhgogkemgbaaGreatDoorG02
import Derived.Lib.SlTrimSet
import Derived.Lib.IndexMore
import Derived.Lib.IndexAny
import Derived.Lib.Split
import Derived.Lib.Strings
import Derived.Maps.OwnOps
import Derived.Maps.OwnSet
import Derived.Maps.Views
import Derived.StringKeys
namespace Go.Proofs.YtnglhgogkemgbaaGreatDoor
open Go.ChangeShapes Go.WideShapes Go.ChangeAt Go.RowKit Go.Joins Go.Deep

/-- a range by rule: from, to, base, whole -/
abbrev Rng := Int × Int × Int × Bool
def Rg4 (w : World) (b o : Nat) (x : Rng) : Prop :=
  w.cell? ⟨b, o, none⟩ = some (.int .i32 x.1) ∧ w.cell? ⟨b, o + 1, none⟩ = some (.int .i32 x.2.1) ∧ w.cell? ⟨b, o + 2, none⟩ = some (.int .i64 x.2.2.1) ∧ w.cell? ⟨b, o + 3, none⟩ = some (.bool x.2.2.2)
theorem Rg4.of {w w' : World} {b o : Nat} {x : Rng} (h : Rg4 w b o x) (hb : w'.heap[b]? = w.heap[b]?) : Rg4 w' b o x := by
  have e : ∀ o', w'.cell? ⟨b, o', none⟩ = w.cell? ⟨b, o', none⟩ := fun o' => World.cell?_of_block (w := w) (a := ⟨b, o', none⟩) hb
  exact ⟨(e _).trans h.1, (e _).trans h.2.1, (e _).trans h.2.2.1, (e _).trans h.2.2.2⟩
/-- a slice of ranges -/
def RngsIn (R : Nat → Prop) (w : World) (v : Value) (xs : List Rng) : Prop :=
  ∃ p cap, v = .slice p xs.length cap ∧ ∀ (i : Nat) (x : Rng), xs[i]? = some x → ∃ b o, p = some ⟨b, o, none⟩ ∧ R b ∧ b < w.heap.size ∧ Rg4 w b (o + i * 4) x
theorem RngsIn.nil (R : Nat → Prop) (w : World) : RngsIn R w (.slice none 0 0) [] := ⟨none, 0, rfl, fun i x h => by simp at h⟩
theorem RngsIn.kept {R : Nat → Prop} {w w' : World} {v : Value} {xs : List Rng} (h : RngsIn R w v xs) (hb : Kept R w w') : RngsIn R w' v xs := by
  obtain ⟨p, cap, h1, h2⟩ := h
  refine ⟨p, cap, h1, fun i x hx => ?_⟩
  obtain ⟨b, o, e1, e2, e3, e4⟩ := h2 i x hx
  exact ⟨b, o, e1, e2, Nat.lt_of_lt_of_le e3 hb.1, e4.of (hb.2 b e2 e3)⟩
theorem RngsIn.mono {R S : Nat → Prop} {w : World} {v : Value} {xs : List Rng} (h : RngsIn R w v xs) (hm : ∀ b, R b → b < w.heap.size → S b) : RngsIn S w v xs := by
  obtain ⟨p, cap, h1, h2⟩ := h
  refine ⟨p, cap, h1, fun i x hx => ?_⟩
  obtain ⟨b, o, e1, e2, e3, e4⟩ := h2 i x hx
  exact ⟨b, o, e1, hm b e2 e3, e3, e4⟩
theorem RngsIn.at {R : Nat → Prop} {w : World} {p : Option Addr} {len cap : Nat} {xs : List Rng} (h : RngsIn R w (.slice p len cap) xs) (i : Nat) (x : Rng) (hi : xs[i]? = some x) :
    ∃ b o, p = some ⟨b, o, none⟩ ∧ R b ∧ b < w.heap.size ∧ Rg4 w b (o + i * 4) x := by
  obtain ⟨p', cap', h1, h2⟩ := h
  cases h1
  exact h2 i x hi
def rgWf (x : Rng) : Prop := (Lit.int .i32 x.1).wf = true ∧ (Lit.int .i32 x.2.1).wf = true ∧ (Lit.int .i64 x.2.2.1).wf = true
/-- what is known of each entry of an argument -/
def EntWf (x : Ent) : Prop := x.1.length * 4 ≤ 140737488351232 ∧ x.2.length * 32 ≤ 140737488351232 ∧ (∀ r ∈ x.1, (Lit.int .i32 r).wf = true) ∧ ∀ y ∈ x.2, elWf y
section
variable {H : Type} {enc : TypeId × Value → H} {P : Program} {W : World}
theorem rngs_trod {t e : TypeId} {f0 f1 f2 f3 : Field} {n : Nat} {v : Value} {y : DataW H × List MemPlace} (ht : P.underlying t = some (.slice e)) (he : P.underlying e = some (.struct #[f0, f1, f2, f3])) (hone : oneCellFields P #[f0, f1, f2, f3] = true)
    (ce : P.cellsOf e = 4) (k0 : P.underlying f0.type = some (.int .i32)) (k1 : P.underlying f1.type = some (.int .i32)) (k2 : P.underlying f2.type = some (.int .i64)) (k3 : P.underlying f3.type = some .bool)
    (h : DataW.trod enc P W 0 (fun _ => true) true n t [v] = some y) :
    ∃ xs, RngsIn (· < W.heap.size) W v xs ∧ (∀ x ∈ xs, rgWf x) ∧ ((y.1 = .nil ∧ xs = []) ∨ ∃ es sp, y.1 = .slice es sp ∧ es.length = xs.length) := by
  rcases open_slice ht h with ⟨h1, h2⟩ | ⟨a, len, cap, m, n', D, Pl, h1, hb, hl, hm, hmm, h2, hx⟩
  · simp at h1
    subst h1
    exact ⟨[], .nil _ _, by simp, .inl ⟨by rw [h2], rfl⟩⟩
  · simp at h1
    subst h1
    simp only [if_true] at hmm
    subst hmm
    obtain ⟨o0, c0⟩ := hone_of hone 0 f0 rfl
    obtain ⟨o1, c1⟩ := hone_of hone 1 f1 rfl
    obtain ⟨o2, c2⟩ := hone_of hone 2 f2 rfl
    obtain ⟨o3, c3⟩ := hone_of hone 3 f3 rfl
    have each : ∀ i, i < m → ∃ x : Rng, rgWf x ∧ a = ⟨a.block, a.off, none⟩ ∧ Rg4 W a.block (a.off + i * 4) x := by
      intro i hi
      obtain ⟨cs', g1, g2⟩ := hx i hi
      rw [ce] at g1
      obtain ⟨_, hlen, hcell⟩ := World.cells?_some g1
      obtain ⟨xs, j, hk, hxy, _, hxl, hf⟩ := DataW.trod_struct he g2
      match xs, hxl, cs', hlen with
      | [y0, y1, y2, y3], _, [v0, v1, v2, v3], _ =>
        have g0 := hf 0 f0 rfl
        have g1 := hf 1 f1 rfl
        have g2 := hf 2 f2 rfl
        have g3 := hf 3 f3 rfl
        simp [o0, o1, o2, o3, c0, c1, c2, c3] at g0 g1 g2 g3
        obtain ⟨p, e0, _, w0⟩ := DataW.trod_int k0 g0
        obtain ⟨s, e1, _, w1⟩ := DataW.trod_int k1 g1
        obtain ⟨t', e2, _, w2⟩ := DataW.trod_int k2 g2
        obtain ⟨b, e3, _⟩ := DataW.trod_bool k3 g3
        simp at e0 e1 e2 e3
        subst e0 e1 e2 e3
        have q0 := hcell 0 (by omega)
        have q1 := hcell 1 (by omega)
        have q2 := hcell 2 (by omega)
        have q3 := hcell 3 (by omega)
        have z0 : W.cell? ((a.add (i * 4)).add 0) = some (.int .i32 p) := by simpa using q0
        have hsp : a = ⟨a.block, a.off, none⟩ := by
          by_cases hi0 : i = 0
          · subst hi0
            rw [Nat.zero_mul] at z0
            have : (a.add 0) = a := by unfold Addr.add; rw [if_pos rfl]
            rw [this] at z0
            exact spot_none z0
          · obtain ⟨cs0, p1, p2⟩ := hx 0 (by omega)
            rw [ce, Nat.zero_mul] at p1
            obtain ⟨_, l0, hcell0⟩ := World.cells?_some p1
            have := hcell0 0 (by omega)
            have ha : (a.add 0) = a := by unfold Addr.add; rw [if_pos rfl]
            rw [ha] at this
            obtain ⟨u, hu⟩ : ∃ u, cs0[0]? = some u := ⟨cs0[0]'(by omega), List.getElem?_eq_getElem (by omega)⟩
            rw [hu] at this
            exact spot_none this
        refine ⟨(p, s, t', b), ⟨w0, w1, w2⟩, hsp, ?_⟩
        rw [hsp, add_none] at z0 q1 q2 q3
        rw [add_none] at z0 q1 q2 q3
        exact ⟨by simpa using z0, by simpa using q1, by simpa using q2, by simpa using q3⟩
    obtain ⟨X, hX⟩ := choose_lt (α := Rng) (p := fun i x => rgWf x ∧ a = ⟨a.block, a.off, none⟩ ∧ Rg4 W a.block (a.off + i * 4) x) each
    refine ⟨(List.range len).map X, ⟨some a, m, by simp, fun i x hi => ?_⟩, fun x hxm => ?_, .inr ⟨_, _, by rw [h2], by simp⟩⟩
    · obtain ⟨hi', rfl⟩ := range_list X len i x hi
      obtain ⟨_, ha, h4⟩ := hX i (by omega)
      exact ⟨a.block, a.off, by rw [← ha], lt_of_cell h4.1, lt_of_cell h4.1, h4⟩
    · obtain ⟨i, hi⟩ := List.getElem?_of_mem hxm
      obtain ⟨hi', rfl⟩ := range_list X len i x hi
      exact (hX i (by omega)).1
theorem weights_all {e : TypeId} {d : DataW H} {k : Nat} : ∀ {ds : List (DataW H)}, d ∈ ds → k ∈ d.weights P e → k ∈ DataW.weightsAll P e ds := by
  intro ds
  induction ds with
  | nil => intro h; cases h
  | cons x xs ih =>
    intro h hk
    rw [DataW.weightsAll, List.mem_append]
    rcases List.mem_cons.1 h with rfl | h
    · exact .inl hk
    · exact .inr (ih h hk)
theorem slice_reach {t e : TypeId} {d : DataW H} {L b : Nat} (ht : P.underlying t = some (.slice e)) (hb : P.bytesOf e = b) (hd : (d = .nil ∧ L = 0) ∨ ∃ es sp, d = .slice es sp ∧ es.length = L) (hw : ∀ k ∈ d.weights P t, k ≤ reachBytes) : L * b ≤ 140737488351232 := by
  rcases hd with ⟨_, rfl⟩ | ⟨es, sp, rfl, rfl⟩
  · simp
  · have := hw ((es.length + sp.length) * P.bytesOf e) (by simp [DataW.weights, ht])
    rw [hb, Nat.add_mul] at this
    unfold reachBytes at this
    omega
theorem entsw_trod {t e e1 e2 : TypeId} {f0 f1 g0 g1 g2 g3 : Field} {n : Nat} {v : Value} {y : DataW H × List MemPlace} (ht : P.underlying t = some (.slice e)) (he : P.underlying e = some (.struct #[f0, f1]))
    (ce : P.cellsOf e = 2) (o0 : f0.offset = 0) (o1 : f1.offset = 1) (c0 : P.cellsOf f0.type = 1) (c1 : P.cellsOf f1.type = 1) (be : P.bytesOf e = 48)
    (t1 : P.underlying f0.type = some (.slice e1)) (he1 : P.underlying e1 = some (.int .i32)) (ce1 : P.cellsOf e1 = 1) (be1 : P.bytesOf e1 = 4)
    (t2 : P.underlying f1.type = some (.slice e2)) (he2 : P.underlying e2 = some (.struct #[g0, g1, g2, g3])) (hone : oneCellFields P #[g0, g1, g2, g3] = true) (ce2 : P.cellsOf e2 = 4) (be2 : P.bytesOf e2 = 32)
    (k0 : P.underlying g0.type = some (.int .i64)) (k1 : P.underlying g1.type = some (.int .i64)) (k2 : P.underlying g2.type = some (.int .i64)) (k3 : P.underlying g3.type = some .bool)
    (h : DataW.trod enc P W 0 (fun _ => true) true n t [v] = some y) (hw : ∀ k ∈ y.1.weights P t, k ≤ reachBytes) :
    ∃ es, EntsIn (· < W.heap.size) W v es ∧ (∀ x ∈ es, EntWf x) ∧ es.length ≤ 140737488351232 := by
  rcases open_slice_pairs ht he ce o0 o1 c0 c1 h with ⟨h1, _⟩ | ⟨a, len, cap, m, n', V0, V1, D0, D1, P0, P1, h1, hb, hl, hm, hmm, h2, hx⟩
  · simp at h1
    subst h1
    exact ⟨[], ⟨none, 0, rfl, fun i x h => by simp at h⟩, by simp, by simp⟩
  · simp at h1
    subst h1
    simp only [if_true] at hmm
    subst hmm
    have hL : len * 48 ≤ 140737488351232 := slice_reach ht be (.inr ⟨_, _, by rw [h2], by simp⟩) hw
    have each : ∀ i, i < len → ∃ x : Ent, IntsIn (· < W.heap.size) .i32 W (V0 i) x.1 ∧ ElsIn (· < W.heap.size) W (V1 i) x.2 ∧ EntWf x := by
      intro i hi
      obtain ⟨_, _, h3, h4⟩ := hx i (by omega)
      obtain ⟨xs, x1, x2, x3⟩ := ints_trod t1 he1 ce1 h3
      obtain ⟨ys, y1, y2, y3⟩ := els_trod t2 he2 hone ce2 k0 k1 k2 k3 h4
      have hmem : ∀ k ∈ (DataW.agg [D0 i, D1 i]).weights P e, k ≤ reachBytes := by
        intro k hk
        refine hw k ?_
        rw [h2]
        simp only [DataW.weights, ht, List.mem_cons, List.mem_append]
        refine .inr (.inl (weights_all (List.mem_map.2 ⟨i, List.mem_range.2 hi, rfl⟩) hk))
      have hw1 : ∀ k ∈ (D0 i).weights P f0.type, k ≤ reachBytes := fun k hk => hmem k (by simp [DataW.weights, he, DataW.weightsEach, hk])
      have hw2 : ∀ k ∈ (D1 i).weights P f1.type, k ≤ reachBytes := fun k hk => hmem k (by simp [DataW.weights, he, DataW.weightsEach, hk])
      have r1 : xs.length * 4 ≤ 140737488351232 := slice_reach t1 be1 (x3.imp (fun h => ⟨h.1, by rw [h.2]; rfl⟩) id) hw1
      have r2 : ys.length * 32 ≤ 140737488351232 := slice_reach t2 be2 (y3.imp (fun h => ⟨h.1, by rw [h.2]; rfl⟩) id) hw2
      exact ⟨(xs, ys), x1, y1, r1, r2, x2, y2⟩
    obtain ⟨X, hX⟩ := choose_lt (α := Ent) (p := fun i x => IntsIn (· < W.heap.size) .i32 W (V0 i) x.1 ∧ ElsIn (· < W.heap.size) W (V1 i) x.2 ∧ EntWf x) each
    refine ⟨(List.range len).map X, ⟨some a, m, by simp, fun i x hi => ?_⟩, fun x hxm => ?_, by simp; omega⟩
    · obtain ⟨hi', rfl⟩ := range_list X len i x hi
      obtain ⟨q1, q2, _⟩ := hX i hi'
      obtain ⟨z0, z1, _, _⟩ := hx i (by omega)
      obtain ⟨y0, _, _, _⟩ := hx 0 (by omega)
      have ha : a = ⟨a.block, a.off, none⟩ := spot_none (by simpa using y0)
      rw [ha, add_none] at z0 z1
      exact ⟨a.block, a.off, V0 i, V1 i, by rw [← ha], lt_of_cell z0, lt_of_cell z0, z0, z1, q1, q2⟩
    · obtain ⟨i, hi⟩ := List.getElem?_of_mem hxm
      obtain ⟨hi', rfl⟩ := range_list X len i x hi
      exact (hX i hi').2.2
/-- the types of a source, over any program -/
structure SrcTy (P : Program) (t e e1 e2 r : TypeId) (s0 s1 s2 f0 f1 g0 g1 g2 g3 q0 q1 q2 q3 : Field) : Prop where
  src : P.underlying t = some (.struct #[s0, s1, s2])
  one : oneCellFields P #[s0, s1, s2] = true
  cells : P.cellsOf t = 3
  ver : P.underlying s0.type = some .string
  rs : P.underlying s1.type = some (.slice r)
  rt : P.underlying r = some (.struct #[q0, q1, q2, q3])
  rone : oneCellFields P #[q0, q1, q2, q3] = true
  rcells : P.cellsOf r = 4
  rbytes : P.bytesOf r = 24
  ri0 : P.underlying q0.type = some (.int .i32)
  ri1 : P.underlying q1.type = some (.int .i32)
  ri2 : P.underlying q2.type = some (.int .i64)
  ri3 : P.underlying q3.type = some .bool
  es : P.underlying s2.type = some (.slice e)
  et : P.underlying e = some (.struct #[f0, f1])
  ecells : P.cellsOf e = 2
  o0 : f0.offset = 0
  o1 : f1.offset = 1
  c0 : P.cellsOf f0.type = 1
  c1 : P.cellsOf f1.type = 1
  ebytes : P.bytesOf e = 48
  t1 : P.underlying f0.type = some (.slice e1)
  he1 : P.underlying e1 = some (.int .i32)
  ce1 : P.cellsOf e1 = 1
  be1 : P.bytesOf e1 = 4
  t2 : P.underlying f1.type = some (.slice e2)
  he2 : P.underlying e2 = some (.struct #[g0, g1, g2, g3])
  hone : oneCellFields P #[g0, g1, g2, g3] = true
  ce2 : P.cellsOf e2 = 4
  be2 : P.bytesOf e2 = 32
  k0 : P.underlying g0.type = some (.int .i64)
  k1 : P.underlying g1.type = some (.int .i64)
  k2 : P.underlying g2.type = some (.int .i64)
  k3 : P.underlying g3.type = some .bool
theorem src_arg {t e e1 e2 r : TypeId} {s0 s1 s2 f0 f1 g0 g1 g2 g3 q0 q1 q2 q3 : Field} {v : Value} {d : DataW H} {ps : List MemPlace} {rc : Reach} {b0 : Nat} (T : SrcTy P t e e1 e2 r s0 s1 s2 f0 f1 g0 g1 g2 g3 q0 q1 q2 q3)
    (hval : Value.okWide P W rc b0 t v) (hd : DataW.Trod enc P W 0 (fun _ => true) true t v d ps) (hw : ∀ k ∈ d.weights P t, k ≤ reachBytes) :
    ∃ ver rv ev rs es, v = .agg #[.string ver, rv, ev] ∧ ver.size ≤ 140737488351232 ∧ RngsIn (· < W.heap.size) W rv rs ∧ rs.length * 24 ≤ 140737488351232 ∧ (∀ x ∈ rs, rgWf x) ∧ EntsIn (· < W.heap.size) W ev es ∧ es.length ≤ 140737488351232 ∧ ∀ x ∈ es, EntWf x := by
  obtain ⟨v0, v1, v2, y0, y1, y2, n, rfl, rfl, rfl, h0, h1, h2⟩ := open_agg3 T.src T.one T.cells hval hd
  have hw' : ∀ k, k ∈ y0.1.weights P s0.type ∨ k ∈ y1.1.weights P s1.type ∨ k ∈ y2.1.weights P s2.type → k ≤ reachBytes := fun k hk => hw k (by
    simp only [DataW.weights, T.src, List.map_cons, List.map_nil, DataW.weightsEach, List.mem_append, List.append_nil]
    exact hk)
  obtain ⟨ver, e0, x0, _⟩ := DataW.trod_string T.ver h0
  simp at e0
  subst e0
  obtain ⟨rs, r1, r2, r3⟩ := rngs_trod T.rs T.rt T.rone T.rcells T.ri0 T.ri1 T.ri2 T.ri3 h1
  obtain ⟨es, k1, k2, k3⟩ := entsw_trod T.es T.et T.ecells T.o0 T.o1 T.c0 T.c1 T.ebytes T.t1 T.he1 T.ce1 T.be1 T.t2 T.he2 T.hone T.ce2 T.be2 T.k0 T.k1 T.k2 T.k3 h2 (fun k hk => hw' k (.inr (.inr hk)))
  refine ⟨ver, v1, v2, rs, es, rfl, ?_, r1, slice_reach T.rs T.rbytes (r3.imp (fun h => ⟨h.1, by rw [h.2]; rfl⟩) id) (fun k hk => hw' k (.inr (.inl hk))), r2, k1, k3, k2⟩
  have := hw' ver.data.toList.length (.inl (by rw [x0]; simp [DataW.weights]))
  have e2 : ver.data.toList.length = ver.size := Array.length_toList
  rw [e2] at this
  exact this
end
set_option maxRecDepth 100000 in
theorem Tryz.srcTy : ∃ s0 s1 s2 f0 f1 g0 g1 g2 g3 q0 q1 q2 q3, SrcTy Tryz.prog 25 45 21 73 136 s0 s1 s2 f0 f1 g0 g1 g2 g3 q0 q1 q2 q3 :=
  ⟨_, _, _, _, _, _, _, _, _, _, _, _, _, {
    src := Tryz.underlying25, one := by kernel_rfl, cells := by kernel_rfl, ver := Tryz.underlying9, rs := Tryz.underlying22, rt := Tryz.underlying136
    rone := by kernel_rfl, rcells := by kernel_rfl, rbytes := by kernel_rfl, ri0 := Tryz.underlying21, ri1 := Tryz.underlying21, ri2 := Tryz.underlying3, ri3 := Tryz.underlying4
    es := Tryz.underlying23, et := Tryz.underlying45, ecells := by kernel_rfl, o0 := rfl, o1 := rfl, c0 := by kernel_rfl, c1 := by kernel_rfl, ebytes := by kernel_rfl
    t1 := Tryz.underlying42, he1 := Tryz.underlying21, ce1 := by kernel_rfl, be1 := by kernel_rfl, t2 := Tryz.underlying43, he2 := Tryz.underlying73, hone := by kernel_rfl
    ce2 := by kernel_rfl, be2 := by kernel_rfl, k0 := Tryz.underlying3, k1 := Tryz.underlying3, k2 := Tryz.underlying3, k3 := Tryz.underlying4 }⟩
set_option maxRecDepth 100000 in
theorem source_arg {H : Type} {enc : TypeId × Value → H} {W : World} {v : Value} {d : DataW H} {ps : List MemPlace} {rc : Reach} {b0 : Nat} (hval : Value.okWide Tryz.prog W rc b0 25 v) (hd : DataW.Trod enc Tryz.prog W 0 (fun _ => true) true 25 v d ps) (hw : ∀ k ∈ d.weights Tryz.prog 25, k ≤ reachBytes) :
    ∃ ver rv ev rs es, v = .agg #[.string ver, rv, ev] ∧ ver.size ≤ 140737488351232 ∧ RngsIn (· < W.heap.size) W rv rs ∧ rs.length * 24 ≤ 140737488351232 ∧ (∀ x ∈ rs, rgWf x) ∧ EntsIn (· < W.heap.size) W ev es ∧ es.length ≤ 140737488351232 ∧ ∀ x ∈ es, EntWf x := by
  obtain ⟨_, _, _, _, _, _, _, _, _, _, _, _, _, T⟩ := Tryz.srcTy
  exact src_arg T hval hd hw
end Go.Proofs.YtnglhgogkemgbaaGreatDoor
/-! Chapter 8 in plain words: what a table's text says; no program in sight. -/
namespace Go.Proofs.YtnglhgogkemgbaaGreatDoor
open Go.RowKit
open PlainAid (bt)

abbrev Bs := List UInt8
def mkB (l : Bs) : ByteArray := ⟨l.toArray⟩
theorem mkB_data (s : ByteArray) : mkB s.data.toList = s := by unfold mkB; simp
theorem data_mkB (l : Bs) : (mkB l).data.toList = l := by unfold mkB; simp
theorem size_mkB (l : Bs) : (mkB l).size = l.length := by unfold mkB; simp [ByteArray.size]
/-- blanks and tabs -/
def blk (b : UInt8) : Bool := [32, 9].contains b
/-- an element's text -/
def elS (s : ByteArray) : El := (acc s 2 4, acc s 7 4, acc s 12 4, starB s)
def lvS (s : ByteArray) : Int := lvl (acc s 2 4) (acc s 7 4) (acc s 12 4)
/-- a version's name -/
def verB (l : Bs) : Bool := decide (1 ≤ l.length) && decide (l.length ≤ 32) && l.all (fun b => decide (33 ≤ b.toNat) && decide (b.toNat ≤ 126))
def rngB (prev : Option Rng) (x : Rng) : Bool :=
  decide (0 ≤ x.1) && decide (x.2.1 ≤ 1114111) && decide (x.1 ≤ x.2.1) && (match prev with | none => true | some y => decide (y.2.1 < x.1)) && decide (64256 ≤ x.2.2.1) && decide (x.2.2.1 ≤ 64447) &&
    (if x.2.2.2 then decide (x.2.2.1 < 64320) && decide (x.2.1 - x.1 < 32768) else decide (x.2.2.1 = 64320) || decide (x.2.2.1 = 64384))
def rngG : Option Rng → List Rng → Bool
  | _, [] => true
  | p, x :: xs => rngB p x && rngG (some x) xs
def rngC (l : List Rng) : Int := if 100 < l.length then 2 else if rngG none l then 0 else 71
end Go.Proofs.YtnglhgogkemgbaaGreatDoor
/-! Maps from texts to numbers that the call itself makes: a word for what they hold, over any program. -/
namespace Go.Proofs.YtnglhgogkemgbaaGreatDoor
open Go.RowKit
open Go.Maps (Keyed)

/-- how a number in a map reads -/
def Rn : Value → Option (DataW Unit × List MemPlace)
  | .int .i64 n => some (.lit (.int .i64 n), [])
  | _ => none
theorem int_of {v : Value} {c : Int} {ps : List MemPlace} (h : Rn v = some (.lit (.int .i64 c), ps)) : v = .int .i64 c := by
  unfold Rn at h
  split at h
  · simp only [Option.some.injEq, Prod.mk.injEq, DataW.lit.injEq, Lit.int.injEq, true_and] at h
    rw [h.1]
  · cases h
variable {P : Program} {k : TypeId}
/-- block b is a map that tells f of each text; at most n keys -/
def KMap (P : Program) (k : TypeId) (w : World) (b n : Nat) (f : Bs → Int) : Prop :=
  ∃ L : List (Lit × DataW Unit), w.ownsMap P k Rn b n (.map L) ∧ ∀ x : Bs, (DataW.map L).atKey (.string x) (.lit (.int .i64 0)) = .lit (.int .i64 (f x))
theorem KMap.made (w : World) : KMap P k (w.alloc (.map #[] 0)) w.heap.size 0 (fun _ => 0) := ⟨[], World.ownsMap_made w P k Rn, fun _ => rfl⟩
theorem KMap.kept {w w' : World} {row : Option Nat} {b n : Nat} {f : Bs → Int} (h : KMap P k w b n f) (hg : w.grownBy w' row) (hne : some b ≠ row) : KMap P k w' b n f := by
  obtain ⟨L, h1, h2⟩ := h; exact ⟨L, h1.kept hg hne, h2⟩
theorem KMap.lt {w : World} {b n : Nat} {f : Bs → Int} (h : KMap P k w b n f) : b < w.heap.size := by
  obtain ⟨L, h1, _⟩ := h; exact h1.lt
theorem KMap.same {w w' : World} {b n : Nat} {f : Bs → Int} (h : KMap P k w b n f) (hb : w'.heap[b]? = w.heap[b]?) : KMap P k w' b n f := by
  obtain ⟨L, ⟨es, c, h1, h2⟩, h3⟩ := h
  exact ⟨L, ⟨es, c, hb.trans h1, h2⟩, h3⟩
theorem KMap.lookup {w : World} {b n : Nat} {f : Bs → Int} {t e : TypeId} (h : KMap P k w b n f) (hk : P.underlying k = some .string) (ht : P.underlying t = some (.map k e)) (hz : ∀ w, (zeroValue e).run P w = .ok (.int .i64 0) w)
    (x : Bs) (hx : x.length ≤ maxLen) : (Instr.lookup t (.map (some b)) (.string (mkB x)) false).run P w = .ok (.int .i64 (f x)) w := by
  obtain ⟨L, h1, h2⟩ := h
  have hkey := WideMaps.keyOf_string_mk hk (s := mkB x) (by rw [size_mkB]; exact hx)
  rw [data_mkB] at hkey
  obtain ⟨v, ps, hrun, hv⟩ := h1.lookup (Maps.string_keyed hk) ht (hz w) (zd := .lit (.int .i64 0)) (zp := []) rfl (key := .string (mkB x)) (kl := .string x) hkey
  rw [h2 x] at hv
  rw [hrun, int_of hv]
theorem KMap.update {w : World} {b n : Nat} {f : Bs → Int} {t e : TypeId} (h : KMap P k w b n f) (hk : P.underlying k = some .string) (ht : P.underlying t = some (.map k e)) (hn : n < maxLen) (x : Bs) (hx : x.length ≤ maxLen) (c : Int) :
    ∃ w', (Instr.mapUpdate t (.map (some b)) (.string (mkB x)) (.int .i64 c)).run P w = .ok () w' ∧ KMap P k w' b (n + 1) (fun q => if q = x then c else f q) ∧ w.grownBy w' (some b) := by
  obtain ⟨L, h1, h2⟩ := h
  have hkey := WideMaps.keyOf_string_mk hk (s := mkB x) (by rw [size_mkB]; exact hx)
  rw [data_mkB] at hkey
  obtain ⟨w', hrun, hown, hg⟩ := h1.update (Maps.string_keyed hk) ht hn (key := .string (mkB x)) (kl := .string x) (d := .lit (.int .i64 c)) (ps := []) hkey (val := .int .i64 c) rfl
  refine ⟨w', hrun, ⟨_, hown, fun q => ?_⟩, hg⟩
  by_cases e : q = x
  · subst e
    simp only [if_true]
    exact Maps.atKey_put_same ⟨L, rfl⟩ (by simp [WideAt.IsKeyLit]) _ _
  · have h4 := Maps.atKey_put_other (D := DataW.map L) (k' := .string q) (k := .string x) (by intro h; cases h; exact e rfl) (.lit (.int .i64 c)) (.lit (.int .i64 0))
    simp only [if_neg e]
    exact h4.trans (h2 q)
end Go.Proofs.YtnglhgogkemgbaaGreatDoor
