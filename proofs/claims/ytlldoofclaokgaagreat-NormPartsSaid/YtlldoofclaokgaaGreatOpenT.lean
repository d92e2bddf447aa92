/- Arguments opened: slices of classes, of decompositions, of runes. -/
import Derived.Test.YtlldoofclaokgaaGreatNk
import Derived.Test.YtlldoofclaokgaaGreatRow
import Derived.SizedLaws
import Derived.DataShut
import Derived.Deep.SlicePairs
import Derived.Lib.SmallJoins
namespace Go.Proofs.YtlldoofclaokgaaGreat
open Go.ChangeShapes Go.WideShapes Go.ChangeAt Go.RowKit Go.Joins Go.Deep

section
variable {H : Type} {enc : TypeId × Value → H} {P : Program} {W : World}
theorem add_none (b o i : Nat) : (⟨b, o, none⟩ : Addr).add i = ⟨b, o + i, none⟩ := by
  unfold Addr.add
  by_cases h : i = 0
  · rw [if_pos h, h]; rfl
  · rw [if_neg h]
theorem lt_of_cell {b o : Nat} {v : Value} (h : W.cell? ⟨b, o, none⟩ = some v) : b < W.heap.size := by
  rcases Nat.lt_or_ge b W.heap.size with h' | h'
  · exact h'
  · simp [World.cell?, Array.getElem?_eq_none h'] at h
theorem spot_none {a : Addr} {v : Value} (h : W.cell? (a.add 0) = some v) : a = ⟨a.block, a.off, none⟩ := by
  obtain ⟨b, o, sp⟩ := a
  have := World.cell?_spot h
  simp [Addr.add] at this
  rw [this]
theorem ints_trod {t e : TypeId} {k : IntKind} {n : Nat} {v : Value} {y : DataW H × List MemPlace} (ht : P.underlying t = some (.slice e)) (he : P.underlying e = some (.int k)) (hc : P.cellsOf e = 1)
    (h : DataW.trod enc P W 0 (fun _ => true) true n t [v] = some y) :
    ∃ xs, IntsIn (· < W.heap.size) k W v xs ∧ (∀ n ∈ xs, (Lit.int k n).wf = true) ∧ ((y.1 = .nil ∧ xs = []) ∨ ∃ es sp, y.1 = .slice es sp ∧ es.length = xs.length) := by
  rcases open_ints ht he hc h with ⟨h1, h2⟩ | ⟨a, len, cap, zs, h1, hb, hl, hm, hlen, h2, hcell, hw⟩
  · simp at h1
    subst h1
    exact ⟨[], .nil _ _ _, by simp, .inl ⟨by rw [h2], rfl⟩⟩
  · simp at h1
    subst h1
    simp only [if_true] at hlen
    have hll : (zs.take len).length = len := by rw [List.length_take]; omega
    refine ⟨zs.take len, ⟨some a, cap, by rw [hll], ⟨by rw [hll]; exact hl, hm⟩, fun i x hx => ?_⟩, fun n hn => hw n (List.mem_of_mem_take hn), .inr ⟨_, _, by rw [h2], by simp [lits]⟩⟩
    have hi : i < len := by have := (List.getElem?_eq_some_iff.1 hx).1; omega
    have hcl := hcell i (by omega)
    have hx' : zs.getD i 0 = x := by
      rw [List.getElem?_take_of_lt hi] at hx
      rw [List.getD, hx]; rfl
    rw [hx'] at hcl
    have ha := spot_none (hcell 0 (by omega))
    rw [ha, add_none] at hcl
    exact ⟨a.block, a.off, by rw [← ha], lt_of_cell hcl, lt_of_cell hcl, hcl⟩
theorem range_list {α : Type} (f : Nat → α) (n i : Nat) (x : α) (h : ((List.range n).map f)[i]? = some x) : i < n ∧ x = f i := by
  have hi := (List.getElem?_eq_some_iff.1 h).1
  simp at hi
  rw [List.getElem?_map, List.getElem?_range hi] at h
  exact ⟨hi, by simpa using h.symm⟩
theorem slice_reach3 {t e : TypeId} {d : DataW H} {L b : Nat} (ht : P.underlying t = some (.slice e)) (hb : P.bytesOf e = b) (hd : (d = .nil ∧ L = 0) ∨ ∃ es sp, d = .slice es sp ∧ es.length = L) (hw : ∀ k ∈ d.weights P t, k ≤ reachBytes) : L * b ≤ 140737488351232 := by
  rcases hd with ⟨_, rfl⟩ | ⟨es, sp, rfl, rfl⟩
  · simp
  · have := hw ((es.length + sp.length) * P.bytesOf e) (by simp [DataW.weights, ht])
    rw [hb, Nat.add_mul] at this
    unfold reachBytes at this
    omega
theorem tris_trod {t e : TypeId} {f0 f1 f2 : Field} {kc : IntKind} {n : Nat} {v : Value} {y : DataW H × List MemPlace} (ht : P.underlying t = some (.slice e)) (he : P.underlying e = some (.struct #[f0, f1, f2])) (hone : oneCellFields P #[f0, f1, f2] = true)
    (ce : P.cellsOf e = 3) (k0 : P.underlying f0.type = some (.int .i32)) (k1 : P.underlying f1.type = some (.int .i32)) (k2 : P.underlying f2.type = some (.int kc))
    (h : DataW.trod enc P W 0 (fun _ => true) true n t [v] = some y) : ∃ xs : List T3, TrisIn (· < W.heap.size) kc W v xs := by
  rcases open_slice ht h with ⟨h1, h2⟩ | ⟨a, len, cap, m, n', D, Pl, h1, hb, hl, hm, hmm, h2, hx⟩
  · simp at h1
    subst h1
    exact ⟨[], .nil _ _ _⟩
  · simp at h1
    subst h1
    simp only [if_true] at hmm
    subst hmm
    obtain ⟨o0, c0⟩ := hone_of hone 0 f0 rfl
    obtain ⟨o1, c1⟩ := hone_of hone 1 f1 rfl
    obtain ⟨o2, c2⟩ := hone_of hone 2 f2 rfl
    have each : ∀ i, i < m → ∃ x : T3, a = ⟨a.block, a.off, none⟩ ∧ Tri kc W a.block (a.off + i * 3) x := by
      intro i hi
      obtain ⟨cs', g1, g2⟩ := hx i hi
      rw [ce] at g1
      obtain ⟨_, hlen, hcell⟩ := World.cells?_some g1
      obtain ⟨xs, j, hk, hxy, _, hxl, hf⟩ := DataW.trod_struct he g2
      match xs, hxl, cs', hlen with
      | [y0, y1, y2], _, [v0, v1, v2], _ =>
        have g0 := hf 0 f0 rfl
        have g1 := hf 1 f1 rfl
        have g2 := hf 2 f2 rfl
        simp [o0, o1, o2, c0, c1, c2] at g0 g1 g2
        obtain ⟨p, e0, _, w0⟩ := DataW.trod_int k0 g0
        obtain ⟨s, e1, _, w1⟩ := DataW.trod_int k1 g1
        obtain ⟨t', e2, _, w2⟩ := DataW.trod_int k2 g2
        simp at e0 e1 e2
        subst e0 e1 e2
        have q0 := hcell 0 (by omega)
        have q1 := hcell 1 (by omega)
        have q2 := hcell 2 (by omega)
        have z0 : W.cell? ((a.add (i * 3)).add 0) = some (.int .i32 p) := by simpa using q0
        have hsp : a = ⟨a.block, a.off, none⟩ := by
          by_cases hi0 : i = 0
          · subst hi0
            rw [Nat.zero_mul] at z0
            have : (a.add 0) = a := by unfold Addr.add; rw [if_pos rfl]
            rw [this] at z0
            exact spot_none z0
          · obtain ⟨cs0, p1, p2⟩ := hx 0 (by omega)
            rw [ce, Nat.zero_mul] at p1
            obtain ⟨_, l0, hcell0⟩ := World.cells?_some p1
            have := hcell0 0 (by omega)
            have ha : (a.add 0) = a := by unfold Addr.add; rw [if_pos rfl]
            rw [ha] at this
            obtain ⟨u, hu⟩ : ∃ u, cs0[0]? = some u := ⟨cs0[0]'(by omega), List.getElem?_eq_getElem (by omega)⟩
            rw [hu] at this
            exact spot_none this
        refine ⟨(p, s, t'), hsp, ?_⟩
        rw [hsp, add_none] at z0 q1 q2
        rw [add_none] at z0 q1 q2
        exact ⟨by simpa using z0, by simpa using q1, by simpa using q2⟩
    obtain ⟨X, hX⟩ := choose_lt (α := T3) (p := fun i x => a = ⟨a.block, a.off, none⟩ ∧ Tri kc W a.block (a.off + i * 3) x) each
    refine ⟨(List.range len).map X, ⟨some a, m, by simp, ⟨by simpa using hl, hm⟩, fun i x hi => ?_⟩⟩
    obtain ⟨hi', rfl⟩ := range_list X len i x hi
    obtain ⟨ha, h4⟩ := hX i (by omega)
    exact ⟨a.block, a.off, by rw [← ha], lt_of_cell h4.1, lt_of_cell h4.1, h4⟩
set_option maxRecDepth 100000 in
theorem classes_arg {v : Value} {d : DataW H} {ps : List MemPlace} {r : Reach} {b0 : Nat} (hval : Value.okWide Tryz.prog W r b0 23 v) (hd : DataW.Trod enc Tryz.prog W 0 (fun _ => true) true 23 v d ps) :
    ∃ xs, TrisIn (· < W.heap.size) .i64 W v xs := by
  obtain ⟨a0, l0, cp, rfl⟩ := okWide_slice Tryz.underlying23 hval
  obtain ⟨fuel, hf⟩ := hd
  exact tris_trod (y := (d, ps)) Tryz.underlying23 Tryz.underlying102 (by kernel_rfl) (by kernel_rfl) Tryz.underlying21 Tryz.underlying21 Tryz.underlying3 (by simpa [Value.cells] using hf)
set_option maxRecDepth 100000 in
theorem decomps_arg {v : Value} {d : DataW H} {ps : List MemPlace} {r : Reach} {b0 : Nat} (hval : Value.okWide Tryz.prog W r b0 24 v) (hd : DataW.Trod enc Tryz.prog W 0 (fun _ => true) true 24 v d ps) :
    ∃ xs, TrisIn (· < W.heap.size) .i32 W v xs := by
  obtain ⟨a0, l0, cp, rfl⟩ := okWide_slice Tryz.underlying24 hval
  obtain ⟨fuel, hf⟩ := hd
  exact tris_trod (y := (d, ps)) Tryz.underlying24 Tryz.underlying104 (by kernel_rfl) (by kernel_rfl) Tryz.underlying21 Tryz.underlying21 Tryz.underlying21 (by simpa [Value.cells] using hf)
end
set_option maxRecDepth 100000 in
theorem runes_arg {H : Type} {enc : TypeId × Value → H} {W : World} {v : Value} {d : DataW H} {ps : List MemPlace} {r : Reach} {b0 : Nat} (hval : Value.okWide Tryz.prog W r b0 48 v) (hd : DataW.Trod enc Tryz.prog W 0 (fun _ => true) true 48 v d ps) (hw : ∀ k ∈ d.weights Tryz.prog 48, k ≤ reachBytes) :
    ∃ xs, IntsIn (· < W.heap.size) .i32 W v xs ∧ (∀ n ∈ xs, (Lit.int .i32 n).wf = true) ∧ xs.length * 4 ≤ 140737488351232 := by
  obtain ⟨a0, l0, cp, rfl⟩ := okWide_slice Tryz.underlying48 hval
  obtain ⟨fuel, hf⟩ := hd
  obtain ⟨xs, x1, x2, x3⟩ := ints_trod (y := (d, ps)) Tryz.underlying48 Tryz.underlying21 (by kernel_rfl) (by simpa [Value.cells] using hf)
  exact ⟨xs, x1, x2, slice_reach3 Tryz.underlying48 (by kernel_rfl) (x3.imp (fun h => ⟨h.1, by rw [h.2]; rfl⟩) id) hw⟩
end Go.Proofs.YtlldoofclaokgaaGreat
