/- Arguments opened under a bound on what is read: a source, a list of runes. -/
import Derived.Test.YtjbcbejedaeedaaGreatDoorOpenQ
import Derived.Test.YtjbcbejedaeedaaGreatDoorRows
namespace Go.Proofs.YtjbcbejedaeedaaGreatDoor
open Go.ChangeShapes Go.WideShapes Go.ChangeAt Go.RowKit Go.Joins Go.Deep
theorem bulk_one {H : Type} (d : DataW H) : 1 ≤ Rows.uptoBulk d := by
  cases d with
  | lit l => cases l <;> simp [Rows.uptoBulk]
  | _ => simp [Rows.uptoBulk]
theorem bulk_part {H : Type} {d : DataW H} : ∀ {l : List (DataW H)}, d ∈ l → Rows.uptoBulk d ≤ Rows.uptoBulkAll l
  | x :: r, h => by
    rw [Rows.uptoBulkAll]
    rcases List.mem_cons.1 h with rfl | h
    · omega
    · have := bulk_part h; omega
theorem bulk_length {H : Type} : ∀ l : List (DataW H), l.length ≤ Rows.uptoBulkAll l
  | [] => by simp
  | x :: r => by have := bulk_one x; have := bulk_length r; simp only [Rows.uptoBulkAll, List.length_cons]; omega
theorem slice_bulk {H : Type} {d : DataW H} {L : Nat} (hd : (d = .nil ∧ L = 0) ∨ ∃ es sp, d = .slice es sp ∧ es.length = L) : L ≤ Rows.uptoBulk d := by
  rcases hd with ⟨_, rfl⟩ | ⟨es, sp, rfl, rfl⟩
  · simp
  · have := bulk_length es; simp only [Rows.uptoBulk]; omega
section
variable {H : Type} {enc : TypeId × Value → H} {P : Program} {W : World}
theorem entsb_trod {N : Nat} {t e e1 e2 : TypeId} {f0 f1 g0 g1 g2 g3 : Field} {n : Nat} {v : Value} {y : DataW H × List MemPlace} (ht : P.underlying t = some (.slice e)) (he : P.underlying e = some (.struct #[f0, f1]))
    (ce : P.cellsOf e = 2) (o0 : f0.offset = 0) (o1 : f1.offset = 1) (c0 : P.cellsOf f0.type = 1) (c1 : P.cellsOf f1.type = 1) (be : P.bytesOf e = 48)
    (t1 : P.underlying f0.type = some (.slice e1)) (he1 : P.underlying e1 = some (.int .i32)) (ce1 : P.cellsOf e1 = 1) (be1 : P.bytesOf e1 = 4)
    (t2 : P.underlying f1.type = some (.slice e2)) (he2 : P.underlying e2 = some (.struct #[g0, g1, g2, g3])) (hone : oneCellFields P #[g0, g1, g2, g3] = true) (ce2 : P.cellsOf e2 = 4) (be2 : P.bytesOf e2 = 32)
    (k0 : P.underlying g0.type = some (.int .i64)) (k1 : P.underlying g1.type = some (.int .i64)) (k2 : P.underlying g2.type = some (.int .i64)) (k3 : P.underlying g3.type = some .bool)
    (h : DataW.trod enc P W 0 (fun _ => true) true n t [v] = some y) (hw : ∀ k ∈ y.1.weights P t, k ≤ reachBytes) (hN : Rows.uptoBulk y.1 ≤ N) :
    ∃ es, EntsIn (· < W.heap.size) W v es ∧ (∀ x ∈ es, EntWf x) ∧ es.length ≤ N ∧ ∀ x ∈ es, x.1.length ≤ N ∧ x.2.length ≤ N := by
  rcases open_slice_pairs ht he ce o0 o1 c0 c1 h with ⟨h1, _⟩ | ⟨a, len, cap, m, n', V0, V1, D0, D1, P0, P1, h1, hb, hl, hm, hmm, h2, hx⟩
  · simp at h1
    subst h1
    exact ⟨[], ⟨none, 0, rfl, fun i x h => by simp at h⟩, by simp, by simp, by simp⟩
  · simp at h1
    subst h1
    simp only [if_true] at hmm
    subst hmm
    have hL : len * 48 ≤ 140737488351232 := slice_reach ht be (.inr ⟨_, _, by rw [h2], by simp⟩) hw
    have each : ∀ i, i < len → ∃ x : Ent, IntsIn (· < W.heap.size) .i32 W (V0 i) x.1 ∧ ElsIn (· < W.heap.size) W (V1 i) x.2 ∧ EntWf x ∧ x.1.length ≤ N ∧ x.2.length ≤ N := by
      intro i hi
      obtain ⟨_, _, h3, h4⟩ := hx i (by omega)
      obtain ⟨xs, x1, x2, x3⟩ := ints_trod t1 he1 ce1 h3
      obtain ⟨ys, y1, y2, y3⟩ := els_trod t2 he2 hone ce2 k0 k1 k2 k3 h4
      have hmem : ∀ k ∈ (DataW.agg [D0 i, D1 i]).weights P e, k ≤ reachBytes := by
        intro k hk
        refine hw k ?_
        rw [h2]
        simp only [DataW.weights, ht, List.mem_cons, List.mem_append]
        refine .inr (.inl (weights_all (List.mem_map.2 ⟨i, List.mem_range.2 hi, rfl⟩) hk))
      have hw1 : ∀ k ∈ (D0 i).weights P f0.type, k ≤ reachBytes := fun k hk => hmem k (by simp [DataW.weights, he, DataW.weightsEach, hk])
      have hw2 : ∀ k ∈ (D1 i).weights P f1.type, k ≤ reachBytes := fun k hk => hmem k (by simp [DataW.weights, he, DataW.weightsEach, hk])
      have hD : Rows.uptoBulk (DataW.agg [D0 i, D1 i]) ≤ N := by
        refine Nat.le_trans (bulk_part (l := (List.range len).map fun i => DataW.agg [D0 i, D1 i]) (List.mem_map.2 ⟨i, List.mem_range.2 hi, rfl⟩)) (Nat.le_trans ?_ hN)
        rw [h2]
        simp only [Rows.uptoBulk]
        omega
      simp only [Rows.uptoBulk, Rows.uptoBulkAll] at hD
      have n1 : xs.length ≤ Rows.uptoBulk (D0 i) := slice_bulk (x3.imp (fun h => ⟨h.1, by rw [h.2]; rfl⟩) id)
      have n2 : ys.length ≤ Rows.uptoBulk (D1 i) := slice_bulk (y3.imp (fun h => ⟨h.1, by rw [h.2]; rfl⟩) id)
      have r1 : xs.length * 4 ≤ 140737488351232 := slice_reach t1 be1 (x3.imp (fun h => ⟨h.1, by rw [h.2]; rfl⟩) id) hw1
      have r2 : ys.length * 32 ≤ 140737488351232 := slice_reach t2 be2 (y3.imp (fun h => ⟨h.1, by rw [h.2]; rfl⟩) id) hw2
      exact ⟨(xs, ys), x1, y1, ⟨r1, r2, x2, y2⟩, by show xs.length ≤ N; omega, by show ys.length ≤ N; omega⟩
    obtain ⟨X, hX⟩ := choose_lt (α := Ent) (p := fun i x => IntsIn (· < W.heap.size) .i32 W (V0 i) x.1 ∧ ElsIn (· < W.heap.size) W (V1 i) x.2 ∧ EntWf x ∧ x.1.length ≤ N ∧ x.2.length ≤ N) each
    refine ⟨(List.range len).map X, ⟨some a, m, by simp, fun i x hi => ?_⟩, fun x hxm => ?_, ?_, fun x hxm => ?_⟩
    · obtain ⟨hi', rfl⟩ := range_list X len i x hi
      obtain ⟨q1, q2, _⟩ := hX i hi'
      obtain ⟨z0, z1, _, _⟩ := hx i (by omega)
      obtain ⟨y0, _, _, _⟩ := hx 0 (by omega)
      have ha : a = ⟨a.block, a.off, none⟩ := spot_none (by simpa using y0)
      rw [ha, add_none] at z0 z1
      exact ⟨a.block, a.off, V0 i, V1 i, by rw [← ha], lt_of_cell z0, lt_of_cell z0, z0, z1, q1, q2⟩
    · obtain ⟨i, hi⟩ := List.getElem?_of_mem hxm
      obtain ⟨hi', rfl⟩ := range_list X len i x hi
      exact (hX i hi').2.2.1
    · have := slice_bulk (d := y.1) (L := len) (.inr ⟨_, _, by rw [h2], by simp⟩)
      simp; omega
    · obtain ⟨i, hi⟩ := List.getElem?_of_mem hxm
      obtain ⟨hi', rfl⟩ := range_list X len i x hi
      exact (hX i hi').2.2.2
theorem srcb_arg {N : Nat} {t e e1 e2 r : TypeId} {s0 s1 s2 f0 f1 g0 g1 g2 g3 q0 q1 q2 q3 : Field} {v : Value} {d : DataW H} {ps : List MemPlace} {rc : Reach} {b0 : Nat} (T : SrcTy P t e e1 e2 r s0 s1 s2 f0 f1 g0 g1 g2 g3 q0 q1 q2 q3)
    (hval : Value.okWide P W rc b0 t v) (hd : DataW.Trod enc P W 0 (fun _ => true) true t v d ps) (hw : ∀ k ∈ d.weights P t, k ≤ reachBytes) (hN : Rows.uptoBulk d ≤ N) :
    ∃ ver rv ev rs es, v = .agg #[.string ver, rv, ev] ∧ ver.size ≤ 140737488351232 ∧ RngsIn (· < W.heap.size) W rv rs ∧ rs.length ≤ N ∧ (∀ x ∈ rs, rgWf x) ∧ EntsIn (· < W.heap.size) W ev es ∧ (∀ x ∈ es, EntWf x) ∧ es.length ≤ N ∧ ∀ x ∈ es, x.1.length ≤ N ∧ x.2.length ≤ N := by
  obtain ⟨v0, v1, v2, y0, y1, y2, n, rfl, rfl, rfl, h0, h1, h2⟩ := open_agg3 T.src T.one T.cells hval hd
  have hw' : ∀ k, k ∈ y0.1.weights P s0.type ∨ k ∈ y1.1.weights P s1.type ∨ k ∈ y2.1.weights P s2.type → k ≤ reachBytes := fun k hk => hw k (by
    simp only [DataW.weights, T.src, List.map_cons, List.map_nil, DataW.weightsEach, List.mem_append, List.append_nil]
    exact hk)
  simp only [Rows.uptoBulk, Rows.uptoBulkAll] at hN
  obtain ⟨ver, e0, x0, _⟩ := DataW.trod_string T.ver h0
  simp at e0
  subst e0
  obtain ⟨rs, r1, r2, r3⟩ := rngs_trod T.rs T.rt T.rone T.rcells T.ri0 T.ri1 T.ri2 T.ri3 h1
  obtain ⟨es, k1, k2, k3, k4⟩ := entsb_trod (N := N) T.es T.et T.ecells T.o0 T.o1 T.c0 T.c1 T.ebytes T.t1 T.he1 T.ce1 T.be1 T.t2 T.he2 T.hone T.ce2 T.be2 T.k0 T.k1 T.k2 T.k3 h2 (fun k hk => hw' k (.inr (.inr hk))) (by omega)
  refine ⟨ver, v1, v2, rs, es, rfl, ?_, r1, by have := slice_bulk (r3.imp (fun h => ⟨h.1, by rw [h.2]; rfl⟩) id); omega, r2, k1, k2, k3, k4⟩
  have := hw' ver.data.toList.length (.inl (by rw [x0]; simp [DataW.weights]))
  have e2 : ver.data.toList.length = ver.size := Array.length_toList
  rw [e2] at this
  exact this
end
set_option maxRecDepth 100000 in
theorem source_argb {N : Nat} {H : Type} {enc : TypeId × Value → H} {W : World} {v : Value} {d : DataW H} {ps : List MemPlace} {rc : Reach} {b0 : Nat} (hval : Value.okWide Tryz.prog W rc b0 26 v) (hd : DataW.Trod enc Tryz.prog W 0 (fun _ => true) true 26 v d ps) (hw : ∀ k ∈ d.weights Tryz.prog 26, k ≤ reachBytes) (hN : Rows.uptoBulk d ≤ N) :
    ∃ ver rv ev rs es, v = .agg #[.string ver, rv, ev] ∧ ver.size ≤ 140737488351232 ∧ RngsIn (· < W.heap.size) W rv rs ∧ rs.length ≤ N ∧ (∀ x ∈ rs, rgWf x) ∧ EntsIn (· < W.heap.size) W ev es ∧ (∀ x ∈ es, EntWf x) ∧ es.length ≤ N ∧ ∀ x ∈ es, x.1.length ≤ N ∧ x.2.length ≤ N := by
  obtain ⟨_, _, _, _, _, _, _, _, _, _, _, _, _, T⟩ := Tryz.srcTy
  exact srcb_arg T hval hd hw hN
set_option maxRecDepth 100000 in
theorem runes_argb {N : Nat} {H : Type} {enc : TypeId × Value → H} {W : World} {v : Value} {d : DataW H} {ps : List MemPlace} {r : Reach} {b0 : Nat} (hval : Value.okWide Tryz.prog W r b0 35 v) (hd : DataW.Trod enc Tryz.prog W 0 (fun _ => true) true 35 v d ps) (hN : Rows.uptoBulk d ≤ N) :
    ∃ xs, IntsIn (· < W.heap.size) .i32 W v xs ∧ (∀ n ∈ xs, (Lit.int .i32 n).wf = true) ∧ xs.length ≤ N := by
  obtain ⟨a0, l0, cp, rfl⟩ := okWide_slice Tryz.underlying35 hval
  obtain ⟨fuel, hf⟩ := hd
  obtain ⟨xs, x1, x2, x3⟩ := ints_trod (y := (d, ps)) Tryz.underlying35 Tryz.underlying21 (by kernel_rfl) (by simpa [Value.cells] using hf)
  have : xs.length ≤ Rows.uptoBulk d := slice_bulk (x3.imp (fun h => ⟨h.1, by rw [h.2]; rfl⟩) id)
  exact ⟨xs, x1, x2, by omega⟩
end Go.Proofs.YtjbcbejedaeedaaGreatDoor
