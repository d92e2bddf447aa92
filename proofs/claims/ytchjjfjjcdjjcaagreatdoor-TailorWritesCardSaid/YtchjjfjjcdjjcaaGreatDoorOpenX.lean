/- Arguments opened: rules. -/
import Derived.Test.YtchjjfjjcdjjcaaGreatDoorOpenE
import Derived.Test.YtchjjfjjcdjjcaaGreatDoorZg
namespace Go.Proofs.YtchjjfjjcdjjcaaGreatDoor
open Go.ChangeShapes Go.WideShapes Go.ChangeAt Go.RowKit Go.Joins Go.Deep

section
variable {H : Type} {enc : TypeId × Value → H} {P : Program} {W : World}
theorem weights_allX {e : TypeId} {d : DataW H} {k : Nat} : ∀ {ds : List (DataW H)}, d ∈ ds → k ∈ d.weights P e → k ∈ DataW.weightsAll P e ds := by
  intro ds
  induction ds with
  | nil => intro h; cases h
  | cons x xs ih =>
    intro h hk
    rw [DataW.weightsAll, List.mem_append]
    rcases List.mem_cons.1 h with rfl | h
    · exact .inl hk
    · exact .inr (ih h hk)
theorem slice_reachX {t e : TypeId} {d : DataW H} {L b : Nat} (ht : P.underlying t = some (.slice e)) (hb : P.bytesOf e = b) (hd : (d = .nil ∧ L = 0) ∨ ∃ es sp, d = .slice es sp ∧ es.length = L) (hw : ∀ k ∈ d.weights P t, k ≤ reachBytes) : L * b ≤ 140737488351232 := by
  rcases hd with ⟨_, rfl⟩ | ⟨es, sp, rfl, rfl⟩
  · simp
  · have := hw ((es.length + sp.length) * P.bytesOf e) (by simp [DataW.weights, ht])
    rw [hb, Nat.add_mul] at this
    unfold reachBytes at this
    omega
theorem ruls_arg {t e e1 : TypeId} {f0 f1 f2 : Field} {v : Value} {d : DataW H} {ps : List MemPlace} {rc : Reach} {b0 : Nat} (ht : P.underlying t = some (.slice e)) (he : P.underlying e = some (.struct #[f0, f1, f2])) (hone : oneCellFields P #[f0, f1, f2] = true)
    (ce : P.cellsOf e = 3) (be : P.bytesOf e = 56) (k0 : P.underlying f0.type = some (.int .i64)) (k1 : P.underlying f1.type = some (.slice e1)) (k2 : P.underlying f2.type = some (.slice e1)) (h1e : P.underlying e1 = some (.int .i32)) (c1e : P.cellsOf e1 = 1) (b1e : P.bytesOf e1 = 4)
    (hval : Value.okWide P W rc b0 t v) (hd : DataW.Trod enc P W 0 (fun _ => true) true t v d ps) (hw : ∀ k ∈ d.weights P t, k ≤ reachBytes) :
    ∃ xs, RulsIn (· < W.heap.size) W v xs ∧ xs.length * 56 ≤ 140737488351232 ∧ ∀ x ∈ xs, RulWf x := by
  obtain ⟨a0, l0, cp, rfl⟩ := okWide_slice ht hval
  obtain ⟨fuel, hf⟩ := hd
  rcases open_slice (x := (d, ps)) ht (by simpa [Value.cells] using hf) with ⟨h1, h2⟩ | ⟨a, len, cap, m, n', D, Pl, h1, hb, hl, hm, hmm, h2, hx⟩
  · simp at h1
    obtain ⟨rfl, rfl, rfl⟩ := h1
    exact ⟨[], .nil _ _, by simp, by simp⟩
  · simp at h1
    obtain ⟨rfl, rfl, rfl⟩ := h1
    simp only [if_true] at hmm
    subst hmm
    simp only [Prod.mk.injEq] at h2
    obtain ⟨h2, _⟩ := h2
    obtain ⟨o0, c0⟩ := hone_of hone 0 f0 rfl
    obtain ⟨o1, c1⟩ := hone_of hone 1 f1 rfl
    obtain ⟨o2, c2⟩ := hone_of hone 2 f2 rfl
    have hL : l0 * 56 ≤ 140737488351232 := slice_reachX ht be (.inr ⟨_, _, by rw [h2], by simp⟩) hw
    have hwi : ∀ i, i < m → ∀ k ∈ (D i).weights P e, k ≤ reachBytes := fun i hi k hk => by
      refine hw k ?_
      rw [h2]
      simp only [DataW.weights, ht, List.mem_cons, List.mem_append]
      by_cases hil : i < l0
      · exact .inr (.inl (weights_allX (List.mem_map.2 ⟨i, List.mem_range.2 hil, rfl⟩) hk))
      · exact .inr (.inr (weights_allX (List.mem_map.2 ⟨i - l0, List.mem_range.2 (by omega), by rw [show l0 + (i - l0) = i by omega]⟩) hk))
    have each : ∀ i, i < m → ∃ x : Rul, a = ⟨a.block, a.off, none⟩ ∧ (∃ t u, W.cell? ⟨a.block, a.off + i * 3, none⟩ = some (.int .i64 x.1) ∧ W.cell? ⟨a.block, a.off + i * 3 + 1, none⟩ = some t ∧ W.cell? ⟨a.block, a.off + i * 3 + 2, none⟩ = some u ∧ IntsIn (· < W.heap.size) .i32 W t x.2.1 ∧ IntsIn (· < W.heap.size) .i32 W u x.2.2) ∧ RulWf x := by
      intro i hi
      obtain ⟨cs', g1, g2⟩ := hx i hi
      rw [ce] at g1
      obtain ⟨_, hlen, hcell⟩ := World.cells?_some g1
      obtain ⟨xs, j, hk, hxy, _, hxl, hf⟩ := DataW.trod_struct he g2
      match xs, hxl, cs', hlen, hxy with
      | [y0, y1, y2], _, [v0, v1, v2], _, hxy =>
        have g0 := hf 0 f0 rfl
        have g1 := hf 1 f1 rfl
        have g2 := hf 2 f2 rfl
        simp [o0, o1, o2, c0, c1, c2] at g0 g1 g2
        obtain ⟨p, e0, _, w0⟩ := DataW.trod_int k0 g0
        obtain ⟨ts, t1, _, t3⟩ := ints_trod k1 h1e c1e g1
        obtain ⟨us, u1, _, u3⟩ := ints_trod k2 h1e c1e g2
        simp at e0
        subst e0
        have q0 := hcell 0 (by omega)
        have q1 := hcell 1 (by omega)
        have q2 := hcell 2 (by omega)
        have z0 : W.cell? ((a.add (i * 3)).add 0) = some (.int .i64 p) := by simpa using q0
        have hsp : a = ⟨a.block, a.off, none⟩ := by
          by_cases hi0 : i = 0
          · subst hi0
            rw [Nat.zero_mul] at z0
            have : (a.add 0) = a := by unfold Addr.add; rw [if_pos rfl]
            rw [this] at z0
            exact spot_none z0
          · obtain ⟨cs0, p1, p2⟩ := hx 0 (by omega)
            rw [ce, Nat.zero_mul] at p1
            obtain ⟨_, l0, hcell0⟩ := World.cells?_some p1
            have := hcell0 0 (by omega)
            have ha : (a.add 0) = a := by unfold Addr.add; rw [if_pos rfl]
            rw [ha] at this
            obtain ⟨u, hu⟩ : ∃ u, cs0[0]? = some u := ⟨cs0[0]'(by omega), List.getElem?_eq_getElem (by omega)⟩
            rw [hu] at this
            exact spot_none this
        have hD : D i = .agg [y0.1, y1.1, y2.1] := by
          have := congrArg Prod.fst hxy
          simpa using this
        have hwD := hwi i hi
        rw [hD] at hwD
        have hw1 : ∀ k ∈ y1.1.weights P f1.type, k ≤ reachBytes := fun k hk => hwD k (by simp [DataW.weights, he, DataW.weightsEach, hk])
        have hw2 : ∀ k ∈ y2.1.weights P f2.type, k ≤ reachBytes := fun k hk => hwD k (by simp [DataW.weights, he, DataW.weightsEach, hk])
        have r1 : ts.length * 4 ≤ 140737488351232 := slice_reachX k1 b1e (t3.imp (fun h => ⟨h.1, by rw [h.2]; rfl⟩) id) hw1
        have r2 : us.length * 4 ≤ 140737488351232 := slice_reachX k2 b1e (u3.imp (fun h => ⟨h.1, by rw [h.2]; rfl⟩) id) hw2
        refine ⟨(p, ts, us), hsp, ⟨v1, v2, ?_, ?_, ?_, t1, u1⟩, r1, r2⟩
        · rw [hsp, add_none, add_none] at z0; simpa using z0
        · rw [hsp, add_none, add_none] at q1; simpa using q1
        · rw [hsp, add_none, add_none] at q2; simpa using q2
    obtain ⟨X, hX⟩ := choose_lt (α := Rul) (p := fun i x => a = ⟨a.block, a.off, none⟩ ∧ (∃ t u, W.cell? ⟨a.block, a.off + i * 3, none⟩ = some (.int .i64 x.1) ∧ W.cell? ⟨a.block, a.off + i * 3 + 1, none⟩ = some t ∧ W.cell? ⟨a.block, a.off + i * 3 + 2, none⟩ = some u ∧ IntsIn (· < W.heap.size) .i32 W t x.2.1 ∧ IntsIn (· < W.heap.size) .i32 W u x.2.2) ∧ RulWf x) each
    refine ⟨(List.range l0).map X, ⟨some a, m, by simp, fun i x hi => ?_⟩, by simpa using hL, fun x hxm => ?_⟩
    · obtain ⟨hi', rfl⟩ := range_list X l0 i x hi
      obtain ⟨ha, ⟨t, u, k1, k2, k3, k4, k5⟩, _⟩ := hX i (by omega)
      exact ⟨a.block, a.off, t, u, by rw [← ha], lt_of_cell k1, lt_of_cell k1, k1, k2, k3, k4, k5⟩
    · obtain ⟨i, hi⟩ := List.getElem?_of_mem hxm
      obtain ⟨hi', rfl⟩ := range_list X l0 i x hi
      exact (hX i (by omega)).2.2
end
set_option maxRecDepth 100000 in
theorem rules_arg {H : Type} {enc : TypeId × Value → H} {W : World} {v : Value} {d : DataW H} {ps : List MemPlace} {rc : Reach} {b0 : Nat} (hval : Value.okWide Tryz.prog W rc b0 22 v) (hd : DataW.Trod enc Tryz.prog W 0 (fun _ => true) true 22 v d ps) (hw : ∀ k ∈ d.weights Tryz.prog 22, k ≤ reachBytes) :
    ∃ xs, RulsIn (· < W.heap.size) W v xs ∧ xs.length * 56 ≤ 140737488351232 ∧ ∀ x ∈ xs, RulWf x :=
  ruls_arg Tryz.underlying22 Tryz.underlying47 (by kernel_rfl) (by kernel_rfl) (by kernel_rfl) Tryz.underlying3 Tryz.underlying34 Tryz.underlying34 Tryz.underlying21 (by kernel_rfl) (by kernel_rfl) hval hd hw
end Go.Proofs.YtchjjfjjcdjjcaaGreatDoor
