/- Arguments opened: a slice of entries, over any program. -/
import Derived.Test.YtjbcbejedaeedaaGreatDoorBase
import Derived.Test.YtjbcbejedaeedaaGreatDoorRow
import Derived.SizedLaws
import Derived.DataShut
import Derived.Deep.SlicePairs
import Derived.Lib.SmallJoins
namespace Go.Proofs.YtjbcbejedaeedaaGreatDoor
open Go.ChangeShapes Go.WideShapes Go.ChangeAt Go.RowKit Go.Joins Go.Deep

variable {H : Type} {enc : TypeId × Value → H} {P : Program} {W : World}
theorem add_none (b o i : Nat) : (⟨b, o, none⟩ : Addr).add i = ⟨b, o + i, none⟩ := by
  unfold Addr.add
  by_cases h : i = 0
  · rw [if_pos h, h]; rfl
  · rw [if_neg h]
theorem lt_of_cell {b o : Nat} {v : Value} (h : W.cell? ⟨b, o, none⟩ = some v) : b < W.heap.size := by
  rcases Nat.lt_or_ge b W.heap.size with h' | h'
  · exact h'
  · simp [World.cell?, Array.getElem?_eq_none h'] at h
theorem spot_none {a : Addr} {v : Value} (h : W.cell? (a.add 0) = some v) : a = ⟨a.block, a.off, none⟩ := by
  obtain ⟨b, o, sp⟩ := a
  have := World.cell?_spot h
  simp [Addr.add] at this
  rw [this]
theorem ints_trod {t e : TypeId} {k : IntKind} {n : Nat} {v : Value} {y : DataW H × List MemPlace} (ht : P.underlying t = some (.slice e)) (he : P.underlying e = some (.int k)) (hc : P.cellsOf e = 1)
    (h : DataW.trod enc P W 0 (fun _ => true) true n t [v] = some y) :
    ∃ xs, IntsIn (· < W.heap.size) k W v xs ∧ (∀ n ∈ xs, (Lit.int k n).wf = true) ∧ ((y.1 = .nil ∧ xs = []) ∨ ∃ es sp, y.1 = .slice es sp ∧ es.length = xs.length) := by
  rcases open_ints ht he hc h with ⟨h1, h2⟩ | ⟨a, len, cap, zs, h1, hb, hl, hm, hlen, h2, hcell, hw⟩
  · simp at h1
    subst h1
    exact ⟨[], .nil _ _ _, by simp, .inl ⟨by rw [h2], rfl⟩⟩
  · simp at h1
    subst h1
    simp only [if_true] at hlen
    have hll : (zs.take len).length = len := by rw [List.length_take]; omega
    refine ⟨zs.take len, ⟨some a, cap, by rw [hll], ⟨by rw [hll]; exact hl, hm⟩, fun i x hx => ?_⟩, fun n hn => hw n (List.mem_of_mem_take hn), .inr ⟨_, _, by rw [h2], by simp [lits]⟩⟩
    have hi : i < len := by have := (List.getElem?_eq_some_iff.1 hx).1; omega
    have hcl := hcell i (by omega)
    have hx' : zs.getD i 0 = x := by
      rw [List.getElem?_take_of_lt hi] at hx
      rw [List.getD, hx]; rfl
    rw [hx'] at hcl
    have ha := spot_none (hcell 0 (by omega))
    rw [ha, add_none] at hcl
    exact ⟨a.block, a.off, by rw [← ha], lt_of_cell hcl, lt_of_cell hcl, hcl⟩
theorem range_list {α : Type} (f : Nat → α) (n i : Nat) (x : α) (h : ((List.range n).map f)[i]? = some x) : i < n ∧ x = f i := by
  have hi := (List.getElem?_eq_some_iff.1 h).1
  simp at hi
  rw [List.getElem?_map, List.getElem?_range hi] at h
  exact ⟨hi, by simpa using h.symm⟩
def numW (y : DataW H × List MemPlace) : Int := match y.1 with | .lit (.int _ n) => n | _ => 0
def boolW (y : DataW H × List MemPlace) : Bool := match y.1 with | .lit (.bool b) => b | _ => false
/-- the numbers of an element are such as fit -/
def elWf (x : El) : Prop := (Lit.int .i64 x.1).wf = true ∧ (Lit.int .i64 x.2.1).wf = true ∧ (Lit.int .i64 x.2.2.1).wf = true
theorem els_trod {t e : TypeId} {f0 f1 f2 f3 : Field} {n : Nat} {v : Value} {y : DataW H × List MemPlace} (ht : P.underlying t = some (.slice e)) (he : P.underlying e = some (.struct #[f0, f1, f2, f3])) (hone : oneCellFields P #[f0, f1, f2, f3] = true)
    (ce : P.cellsOf e = 4) (k0 : P.underlying f0.type = some (.int .i64)) (k1 : P.underlying f1.type = some (.int .i64)) (k2 : P.underlying f2.type = some (.int .i64)) (k3 : P.underlying f3.type = some .bool)
    (h : DataW.trod enc P W 0 (fun _ => true) true n t [v] = some y) :
    ∃ xs, ElsIn (· < W.heap.size) W v xs ∧ (∀ x ∈ xs, elWf x) ∧ ((y.1 = .nil ∧ xs = []) ∨ ∃ es sp, y.1 = .slice es sp ∧ es.length = xs.length) := by
  rcases open_slice ht h with ⟨h1, h2⟩ | ⟨a, len, cap, m, n', D, Pl, h1, hb, hl, hm, hmm, h2, hx⟩
  · simp at h1
    subst h1
    exact ⟨[], .nil _ _, by simp, .inl ⟨by rw [h2], rfl⟩⟩
  · simp at h1
    subst h1
    simp only [if_true] at hmm
    subst hmm
    obtain ⟨o0, c0⟩ := hone_of hone 0 f0 rfl
    obtain ⟨o1, c1⟩ := hone_of hone 1 f1 rfl
    obtain ⟨o2, c2⟩ := hone_of hone 2 f2 rfl
    obtain ⟨o3, c3⟩ := hone_of hone 3 f3 rfl
    have each : ∀ i, i < m → ∃ x : El, elWf x ∧ a = ⟨a.block, a.off, none⟩ ∧ El4 W a.block (a.off + i * 4) x := by
      intro i hi
      obtain ⟨cs', g1, g2⟩ := hx i hi
      rw [ce] at g1
      obtain ⟨_, hlen, hcell⟩ := World.cells?_some g1
      obtain ⟨xs, j, hk, hxy, _, hxl, hf⟩ := DataW.trod_struct he g2
      match xs, hxl, cs', hlen with
      | [y0, y1, y2, y3], _, [v0, v1, v2, v3], _ =>
        have g0 := hf 0 f0 rfl
        have g1 := hf 1 f1 rfl
        have g2 := hf 2 f2 rfl
        have g3 := hf 3 f3 rfl
        simp [o0, o1, o2, o3, c0, c1, c2, c3] at g0 g1 g2 g3
        obtain ⟨p, e0, _, w0⟩ := DataW.trod_int k0 g0
        obtain ⟨s, e1, _, w1⟩ := DataW.trod_int k1 g1
        obtain ⟨t', e2, _, w2⟩ := DataW.trod_int k2 g2
        obtain ⟨b, e3, _⟩ := DataW.trod_bool k3 g3
        simp at e0 e1 e2 e3
        subst e0 e1 e2 e3
        have q0 := hcell 0 (by omega)
        have q1 := hcell 1 (by omega)
        have q2 := hcell 2 (by omega)
        have q3 := hcell 3 (by omega)
        have z0 : W.cell? ((a.add (i * 4)).add 0) = some (.int .i64 p) := by simpa using q0
        have hsp : a = ⟨a.block, a.off, none⟩ := by
          by_cases hi0 : i = 0
          · subst hi0
            rw [Nat.zero_mul] at z0
            have : (a.add 0) = a := by unfold Addr.add; rw [if_pos rfl]
            rw [this] at z0
            exact spot_none z0
          · obtain ⟨cs0, p1, p2⟩ := hx 0 (by omega)
            rw [ce, Nat.zero_mul] at p1
            obtain ⟨_, l0, hcell0⟩ := World.cells?_some p1
            have := hcell0 0 (by omega)
            have ha : (a.add 0) = a := by unfold Addr.add; rw [if_pos rfl]
            rw [ha] at this
            obtain ⟨u, hu⟩ : ∃ u, cs0[0]? = some u := ⟨cs0[0]'(by omega), List.getElem?_eq_getElem (by omega)⟩
            rw [hu] at this
            exact spot_none this
        refine ⟨(p, s, t', b), ⟨w0, w1, w2⟩, hsp, ?_⟩
        rw [hsp, add_none] at z0 q1 q2 q3
        rw [add_none] at z0 q1 q2 q3
        exact ⟨by simpa using z0, by simpa using q1, by simpa using q2, by simpa using q3⟩
    obtain ⟨X, hX⟩ := choose_lt (α := El) (p := fun i x => elWf x ∧ a = ⟨a.block, a.off, none⟩ ∧ El4 W a.block (a.off + i * 4) x) each
    refine ⟨(List.range len).map X, ⟨some a, m, by simp, fun i x hi => ?_⟩, fun x hxm => ?_, .inr ⟨_, _, by rw [h2], by simp⟩⟩
    · obtain ⟨hi', rfl⟩ := range_list X len i x hi
      obtain ⟨_, ha, h4⟩ := hX i (by omega)
      exact ⟨a.block, a.off, by rw [← ha], lt_of_cell h4.1, lt_of_cell h4.1, h4⟩
    · obtain ⟨i, hi⟩ := List.getElem?_of_mem hxm
      obtain ⟨hi', rfl⟩ := range_list X len i x hi
      exact (hX i (by omega)).1
end Go.Proofs.YtjbcbejedaeedaaGreatDoor
