/- An argument opened: a slice of entries, with the reach of what lies in it. -/
import Derived.Test.YtcifoallahmjbaaOpenE
import Derived.Test.YtcifoallahmjbaaTo
namespace Go.Proofs.Ytcifoallahmjbaa
open Go.ChangeShapes Go.WideShapes Go.ChangeAt Go.RowKit Go.Joins Go.Deep

variable {H : Type} {enc : TypeId × Value → H} {P : Program} {W : World}
theorem weights_all {e : TypeId} {d : DataW H} {k : Nat} : ∀ {ds : List (DataW H)}, d ∈ ds → k ∈ d.weights P e → k ∈ DataW.weightsAll P e ds := by
  intro ds
  induction ds with
  | nil => intro h; cases h
  | cons x xs ih =>
    intro h hk
    rw [DataW.weightsAll, List.mem_append]
    rcases List.mem_cons.1 h with rfl | h
    · exact .inl hk
    · exact .inr (ih h hk)
theorem slice_reach {t e : TypeId} {d : DataW H} {L b : Nat} (ht : P.underlying t = some (.slice e)) (hb : P.bytesOf e = b) (hd : (d = .nil ∧ L = 0) ∨ ∃ es sp, d = .slice es sp ∧ es.length = L) (hw : ∀ k ∈ d.weights P t, k ≤ reachBytes) : L * b ≤ 140737488351232 := by
  rcases hd with ⟨_, rfl⟩ | ⟨es, sp, rfl, rfl⟩
  · simp
  · have := hw ((es.length + sp.length) * P.bytesOf e) (by simp [DataW.weights, ht])
    rw [hb, Nat.add_mul] at this
    unfold reachBytes at this
    omega
theorem ents_trod {t e e1 e2 : TypeId} {f0 f1 g0 g1 g2 g3 : Field} {n : Nat} {v : Value} {y : DataW H × List MemPlace} (ht : P.underlying t = some (.slice e)) (he : P.underlying e = some (.struct #[f0, f1]))
    (ce : P.cellsOf e = 2) (o0 : f0.offset = 0) (o1 : f1.offset = 1) (c0 : P.cellsOf f0.type = 1) (c1 : P.cellsOf f1.type = 1) (be : P.bytesOf e = 48)
    (t1 : P.underlying f0.type = some (.slice e1)) (he1 : P.underlying e1 = some (.int .i32)) (ce1 : P.cellsOf e1 = 1) (be1 : P.bytesOf e1 = 4)
    (t2 : P.underlying f1.type = some (.slice e2)) (he2 : P.underlying e2 = some (.struct #[g0, g1, g2, g3])) (hone : oneCellFields P #[g0, g1, g2, g3] = true) (ce2 : P.cellsOf e2 = 4) (be2 : P.bytesOf e2 = 32)
    (k0 : P.underlying g0.type = some (.int .i64)) (k1 : P.underlying g1.type = some (.int .i64)) (k2 : P.underlying g2.type = some (.int .i64)) (k3 : P.underlying g3.type = some .bool)
    (h : DataW.trod enc P W 0 (fun _ => true) true n t [v] = some y) (hw : ∀ k ∈ y.1.weights P t, k ≤ reachBytes) :
    ∃ es, EntsIn (· < W.heap.size) W v es ∧ (∀ x ∈ es, EntOk x) ∧ es.length ≤ 140737488351232 := by
  rcases open_slice_pairs ht he ce o0 o1 c0 c1 h with ⟨h1, _⟩ | ⟨a, len, cap, m, n', V0, V1, D0, D1, P0, P1, h1, hb, hl, hm, hmm, h2, hx⟩
  · simp at h1
    subst h1
    exact ⟨[], ⟨none, 0, rfl, fun i x h => by simp at h⟩, by simp, by simp⟩
  · simp at h1
    subst h1
    simp only [if_true] at hmm
    subst hmm
    have hL : len * 48 ≤ 140737488351232 := slice_reach ht be (.inr ⟨_, _, by rw [h2], by simp⟩) hw
    have each : ∀ i, i < len → ∃ x : Ent, IntsIn (· < W.heap.size) .i32 W (V0 i) x.1 ∧ ElsIn (· < W.heap.size) W (V1 i) x.2 ∧ EntOk x := by
      intro i hi
      obtain ⟨_, _, h3, h4⟩ := hx i (by omega)
      obtain ⟨xs, x1, x2, x3⟩ := ints_trod t1 he1 ce1 h3
      obtain ⟨ys, y1, _, y3⟩ := els_trod t2 he2 hone ce2 k0 k1 k2 k3 h4
      have hmem : ∀ k ∈ (DataW.agg [D0 i, D1 i]).weights P e, k ≤ reachBytes := by
        intro k hk
        refine hw k ?_
        rw [h2]
        simp only [DataW.weights, ht, List.mem_cons, List.mem_append]
        refine .inr (.inl (weights_all (List.mem_map.2 ⟨i, List.mem_range.2 hi, rfl⟩) hk))
      have hw1 : ∀ k ∈ (D0 i).weights P f0.type, k ≤ reachBytes := fun k hk => hmem k (by simp [DataW.weights, he, DataW.weightsEach, hk])
      have hw2 : ∀ k ∈ (D1 i).weights P f1.type, k ≤ reachBytes := fun k hk => hmem k (by simp [DataW.weights, he, DataW.weightsEach, hk])
      have r1 : xs.length * 4 ≤ 140737488351232 := slice_reach t1 be1 (x3.imp (fun h => ⟨h.1, by rw [h.2]; rfl⟩) id) hw1
      have r2 : ys.length * 32 ≤ 140737488351232 := slice_reach t2 be2 (y3.imp (fun h => ⟨h.1, by rw [h.2]; rfl⟩) id) hw2
      exact ⟨(xs, ys), x1, y1, r1, r2, x2⟩
    obtain ⟨X, hX⟩ := choose_lt (α := Ent) (p := fun i x => IntsIn (· < W.heap.size) .i32 W (V0 i) x.1 ∧ ElsIn (· < W.heap.size) W (V1 i) x.2 ∧ EntOk x) each
    refine ⟨(List.range len).map X, ⟨some a, m, by simp, fun i x hi => ?_⟩, fun x hxm => ?_, by simp; omega⟩
    · obtain ⟨hi', rfl⟩ := range_list X len i x hi
      obtain ⟨q1, q2, _⟩ := hX i hi'
      obtain ⟨z0, z1, _, _⟩ := hx i (by omega)
      obtain ⟨y0, _, _, _⟩ := hx 0 (by omega)
      have ha : a = ⟨a.block, a.off, none⟩ := spot_none (by simpa using y0)
      rw [ha, add_none] at z0 z1
      exact ⟨a.block, a.off, V0 i, V1 i, by rw [← ha], lt_of_cell z0, lt_of_cell z0, z0, z1, q1, q2⟩
    · obtain ⟨i, hi⟩ := List.getElem?_of_mem hxm
      obtain ⟨hi', rfl⟩ := range_list X len i x hi
      exact (hX i hi').2.2
theorem ents_arg {t : TypeId} {v : Value} {d : DataW H} {ps : List MemPlace} {r : Reach} {b0 : Nat} {e e1 e2 : TypeId} {f0 f1 g0 g1 g2 g3 : Field} (ht : P.underlying t = some (.slice e)) (he : P.underlying e = some (.struct #[f0, f1]))
    (ce : P.cellsOf e = 2) (o0 : f0.offset = 0) (o1 : f1.offset = 1) (c0 : P.cellsOf f0.type = 1) (c1 : P.cellsOf f1.type = 1) (be : P.bytesOf e = 48)
    (t1 : P.underlying f0.type = some (.slice e1)) (he1 : P.underlying e1 = some (.int .i32)) (ce1 : P.cellsOf e1 = 1) (be1 : P.bytesOf e1 = 4)
    (t2 : P.underlying f1.type = some (.slice e2)) (he2 : P.underlying e2 = some (.struct #[g0, g1, g2, g3])) (hone : oneCellFields P #[g0, g1, g2, g3] = true) (ce2 : P.cellsOf e2 = 4) (be2 : P.bytesOf e2 = 32)
    (k0 : P.underlying g0.type = some (.int .i64)) (k1 : P.underlying g1.type = some (.int .i64)) (k2 : P.underlying g2.type = some (.int .i64)) (k3 : P.underlying g3.type = some .bool)
    (hval : Value.okWide P W r b0 t v) (hd : DataW.Trod enc P W 0 (fun _ => true) true t v d ps) (hw : ∀ k ∈ d.weights P t, k ≤ reachBytes) :
    ∃ es, EntsIn (· < W.heap.size) W v es ∧ (∀ x ∈ es, EntOk x) ∧ es.length ≤ 140737488351232 := by
  obtain ⟨a0, l0, cp, rfl⟩ := okWide_slice ht hval
  obtain ⟨fuel, hf⟩ := hd
  exact ents_trod ht he ce o0 o1 c0 c1 be t1 he1 ce1 be1 t2 he2 hone ce2 be2 k0 k1 k2 k3 (by simpa [Value.cells] using hf) hw
set_option maxRecDepth 100000 in
theorem entries_arg {v : Value} {d : DataW H} {ps : List MemPlace} {r : Reach} {b0 : Nat} (hval : Value.okWide Try.prog W r b0 22 v) (hd : DataW.Trod enc Try.prog W 0 (fun _ => true) true 22 v d ps) (hw : ∀ k ∈ d.weights Try.prog 22, k ≤ reachBytes) :
    ∃ es, EntsIn (· < W.heap.size) W v es ∧ (∀ x ∈ es, EntOk x) ∧ es.length ≤ 140737488351232 :=
  ents_arg Try.underlying22 Try.underlying35 (by kernel_rfl) rfl rfl (by kernel_rfl) (by kernel_rfl) (by kernel_rfl)
    Try.underlying32 Try.underlying21 (by kernel_rfl) (by kernel_rfl) Try.underlying33 Try.underlying66 (by kernel_rfl) (by kernel_rfl) (by kernel_rfl)
    Try.underlying3 Try.underlying3 Try.underlying3 Try.underlying4 hval hd hw
end Go.Proofs.Ytcifoallahmjbaa
