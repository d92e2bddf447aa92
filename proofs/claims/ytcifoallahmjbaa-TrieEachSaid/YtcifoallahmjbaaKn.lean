/- What a trie tells, in order: the law. -/
import Derived.Test.YtcifoallahmjbaaKm
import Derived.Test.YtcifoallahmjbaaKi
import Derived.Test.YtcifoallahmjbaaKl
import Derived.Test.YtcifoallahmjbaaTx
import Derived.Test.YtcifoallahmjbaaTzv
namespace Go.Proofs.Ytcifoallahmjbaa
open Go.RowKit
attribute [local go_sem] Oper.semAt_some

/-- behind a range that turned nothing -/
theorem bookB {σ : Type} (V : World) : BookR (σ := σ) V.heap.size (fun _ A => Below V.heap.size V A) :=
  ⟨fun _ A o h hs => h.alloc hs o, fun _ A o h => below_putObj h (by omega) o⟩
set_option maxHeartbeats 8000000 in
set_option maxRecDepth 1000000 in
theorem each_law (es : List Ent) (codes : List Int) (v u : Value) (w : World) (hv : EntsIn (· < w.heap.size) w v es) (hu : IntsIn (· < w.heap.size) .i32 w u codes) (hok : ∀ x ∈ es, EntOk x) (hl : es.length ≤ 140737488351232)
    (hcw : ∀ r ∈ codes, (Lit.int .i32 r).wf = true) (hcl : codes.length * 4 ≤ 140737488351232) :
    Calls Try.prog 5 #[v, u] w fun e w' => e = .returned (.bool true) ∧ Below w.heap.size w w' := by
  have HV := Lib.hid hv
  have HU := Lib.hid hu
  obtain ⟨p, cp, rfl, _⟩ := hv
  obtain ⟨q, cq, rfl, _⟩ := hu
  have HOK := Lib.hid hok
  have HL := Lib.hid hl
  have HCW := Lib.hid hcw
  have hcl1 : codes.length ≤ 35184372087808 := by omega
  clear hok hcw hcl
  refine callsIn_wide (n := 0) |>.1 ?_
  refine callsIn_of_wp_marks Try.func5 rfl trivial ?_ rfl
  simp only [Try.ntmps5, List.size_toArray, List.length_cons, List.length_nil, Nat.reduceAdd, Nat.reduceSub, Array.replicate_succ, Array.replicate_zero, List.push_toArray, List.append_toArray, List.nil_append, List.cons_append]
  gi_wp2_with fail
  refine ⟨trivial, rfl, (callsIn_wide.2 (awake_any _)).mono ?_⟩
  rintro e w1 ⟨rfl, hb1⟩
  have b2 : Boxed w1 w.heap.size 22 (.slice p es.length cp) := (hb1.block w.heap.size (by simp; omega)).trans ((Boxed.new w _ _).alloc _)
  have b4 : Boxed w1 (w.heap.size + 1) 4 (.bool false) := by
    have h1 := Boxed.new (w.alloc (.cells #[.slice p es.length cp] 22)) 4 (.bool false)
    rw [World.size_alloc] at h1
    exact (hb1.block (w.heap.size + 1) (by simp)).trans h1
  have HB1 : Hid (Below w.heap.size w w1) := (((Below.refl _ w).alloc (Nat.le_refl _) _).alloc (by simp) _).trans (hb1.mono (by simp; omega))
  have c2 := b2.cell
  clear hb1
  gi_wp2_with fail
  refine ⟨trivial, rfl, (callsIn_wide.2 (rCheck_any _ es _ _ (HV.out.kept (Kept.below HB1.out)) HOK.out HL.out)).mono ?_⟩
  rintro e w2 ⟨rfl, hb2⟩
  have d2 : Boxed w2 w.heap.size 22 (.slice p es.length cp) := (hb2.block _ b2.lt).trans b2
  have d4 : Boxed w2 (w.heap.size + 1) 4 (.bool false) := (hb2.block _ b4.lt).trans b4
  have HB2 : Hid (Below w.heap.size w w2) := HB1.out.trans (hb2.mono HB1.out.size)
  have e2 := d2.cell
  clear hb2 b2 b4 c2
  gi_wp2_with fail
  refine ⟨trivial, rfl, (callsIn_wide.2 (few_any _ es _ _ (HV.out.kept (Kept.below HB2.out)) HOK.out HL.out)).mono ?_⟩
  rintro e w3 ⟨bf, rfl, hb3⟩
  have b2 : Boxed w3 w.heap.size 22 (.slice p es.length cp) := (hb3.block _ d2.lt).trans d2
  have b4 : Boxed w3 (w.heap.size + 1) 4 (.bool false) := (hb3.block _ d4.lt).trans d4
  have HB3 : Hid (Below w.heap.size w w3) := HB2.out.trans (hb3.mono HB2.out.size)
  have hc := b4.cell
  have hf := b4.frozen
  have c2 := b2.cell
  have HB2' := Lib.hid b2
  have HB4' := Lib.hid b4
  clear hb3 d2 d4 e2 b2 b4
  have hquick : ∀ V : World, w3 = V → V.cell? ⟨w.heap.size + 1, 0, none⟩ = some (.bool false) := fun V h => h ▸ hc
  clear hquick
  cases bf
  · gi_wp2_with fail
    refine ⟨.bool true, ?_, rfl, ?_⟩
    · simp [results, Try.results5, go_sem, hc]
    · exact HB3.out.setCell (by simp) _
  by_cases hE : ckE es ≠ 0
  · have hne : (ckE es != 0) = true := by simpa using hE
    clear hE
    gi_wp2_with fail
    refine ⟨.bool true, ?_, rfl, ?_⟩
    · simp [results, Try.results5, go_sem, hc]
    · exact HB3.out.setCell (by simp) _
  obtain ⟨h4, _, _, hA0⟩ := ck_zero (Decidable.not_not.1 hE)
  have hE0 : ckE es = 0 := Decidable.not_not.1 hE
  have HE := Lib.hid hE0
  have hne : (ckE es != 0) = false := by rw [hE0]; rfl
  clear hE hA0 hE0
  by_cases h5 : 500 < codes.length
  · have d1 : decide ((500 : Int) < (codes.length : Int)) = true := decide_eq_true (by omega)
    have d2 : decide (500 < codes.length) = true := decide_eq_true h5
    clear h5
    gi_wp2_with fail
    refine ⟨.bool true, ?_, rfl, ?_⟩
    · simp [results, Try.results5, go_sem, hc]
    · exact HB3.out.setCell (by simp) _
  have d1 : decide ((500 : Int) < (codes.length : Int)) = false := decide_eq_false (by omega)
  have d2 : decide (500 < codes.length) = false := decide_eq_false h5
  gi_wp2_with fail
  refine ⟨trivial, rfl, (callsIn_wide.2 (new_any9 es _ _ ((HV.out.kept (Kept.below HB3.out)).mono (fun b _ hb => hb)) HOK.out HL.out)).mono ?_⟩
  rintro e w4 ⟨hb4, h⟩
  obtain ⟨_, tb, N, root, lv, n, vs, hn9, rfl, hN⟩ := h.resolve_right (fun h => h.1 HE.out)
  have HB4 : Hid (Below w.heap.size w w4) := HB3.out.trans (hb4.mono HB3.out.size)
  have HX4 : Hid (Boxed w4 w.heap.size 22 (.slice p es.length cp) ∧ Boxed w4 (w.heap.size + 1) 4 (.bool false)) := ⟨(hb4.block _ HB2'.out.lt).trans HB2'.out, (hb4.block _ HB4'.out.lt).trans HB4'.out⟩
  obtain ⟨_, hap, hz, _⟩ := ck_zero HE.out
  obtain ⟨T, hT⟩ := exists_ord hap
  have HOO : Hid (Tr.Ok ⟨w3.heap.size, tb, es, N, root, lv, n, 0, vs, T⟩) := ⟨hT, hap, HOK.out, fun x hx => (eErr_zero (hz x hx)).2.1, by show n < _; omega⟩
  have HN : Hid (Tr.At ⟨w3.heap.size, tb, es, N, root, lv, n, 0, vs, T⟩ w4) := hN
  have HAP := Lib.hid hap
  have HT := Lib.hid hT
  clear hb4 h hN d1 d2 h5 hne hc hf c2 HB2' HB4' HB1 HB2 hn9 hap hz hT
  gi_wp2_with fail
  refine ⟨trivial, rfl, (callsIn_wide.2 (each_fn _ _)).mono ?_⟩
  rintro e w5 ⟨rfl, rfl⟩
  gi_wp2_with fail
  refine ⟨trivial, rfl, (callsIn_wide.2 (under_any _ _ _ _ _)).mono ?_⟩
  rintro e w6 ⟨rfl, hw6⟩
  have hz5 : (w4.alloc (.cells #[.pointer (some ⟨tb, 0, none⟩)] 25)).heap.size = w4.heap.size + 1 := by simp
  rw [hz5]
  have hb6 : Below w4.heap.size w4 w6 := by rw [← hw6]; exact (((Below.refl _ w4).alloc (Nat.le_refl _) _).alloc (by simp) _).alloc (by simp; omega) _
  have x1 : w6.cell? ⟨w4.heap.size, 0, none⟩ = some (.pointer (some ⟨tb, 0, none⟩)) := by rw [← hw6]; simp [go_sem]
  have x2 : w6.cell? ⟨w4.heap.size + 1, 0, none⟩ = some (.pointer (some ⟨tb, 0, none⟩)) := by rw [← hw6]; simp [go_sem]
  have x3 : w6.cell? ⟨w4.heap.size + 1 + 1, 0, none⟩ = some (.slice q codes.length cq) := by rw [← hw6]; simp [go_sem]
  have hz6 : w6.heap.size = w4.heap.size + 3 := by rw [← hw6]; simp
  have HX := Lib.hid (And.intro x1 (And.intro x2 x3))
  have HX6 : Hid (Boxed w6 w.heap.size 22 (.slice p es.length cp) ∧ Boxed w6 (w.heap.size + 1) 4 (.bool false)) := ⟨(hb6.block _ HX4.out.1.lt).trans HX4.out.1, (hb6.block _ HX4.out.2.lt).trans HX4.out.2⟩
  have HN6 : Hid (Tr.At ⟨w3.heap.size, tb, es, N, root, lv, n, 0, vs, T⟩ w6) := HN.out.below hb6
  have HB6 : Hid (Below w.heap.size w w6) := HB4.out.trans (hb6.mono HB4.out.size)
  have hz46 := HB4.out.size
  generalize hb : w4.heap.size = be at *
  have HZ : Hid (w.heap.size ≤ be ∧ w6.heap.size = be + 3) := ⟨hz46, hz6⟩
  clear hw6 hz5 hb6 x1 x2 x3 hz6 HX4 HN HB4 hb hz46
  have hnf1 : ∀ (cap : Array Value) (w : World), (binOp .eql 46 (.func (.func 37) #[] cap) .nilFunc).run Try.prog w = .ok (.bool false) w := fun _ _ => by kernel_rfl
  have hnf2 : ∀ (cap : Array Value) (w : World), (binOp .eql 49 (.func (.func 39) #[] cap) .nilFunc).run Try.prog w = .ok (.bool false) w := fun _ _ => by kernel_rfl
  gi_wp2_with fail
  have hHZ := HZ.out
  have hHX := HX.out
  refine wp_rangeR2 0 (gf := 37) (lb := #[.pointer (some ⟨be, 0, none⟩)]) rfl (enters_of Try.func37 (by kernel_rfl) rfl) (each_iter _ HOO.out be (w6.heap.size + 2))
    (fun _ _ _ h k => h.trans k) (fun A o => above_putM (by omega) o) ?hps (fun _ A => Below w6.heap.size w6 A) (fun A => Below w6.heap.size w6 A) (bookB w6) (bookB w6)
    (fun s A B h hb => h.trans (hb.mono (by omega))) (fun A B h hb => h.trans (hb.mono (by omega))) (fun A B hb k h1 h2 h3 => hb.block k (by omega))
    (fun s A h => ⟨(h.cell (p := ⟨be, 0, none⟩) (by show be < _; omega)).trans hHX.1, HN6.out.below h⟩) (fun A h => ⟨(h.cell (p := ⟨be, 0, none⟩) (by show be < _; omega)).trans hHX.1, HN6.out.below h⟩) (Below.refl _ _) ?hround ?hafter ?hexit
  case hps => rintro s A vs s' ⟨i, x, c', u, _, _, rfl, _⟩; rfl
  case hround =>
    rintro l s A vs s' hA ⟨i, x, c', u, _, _, rfl, _⟩ hsz
    clear hHZ
    simp
    gi_wp2
    refine ⟨AboveM.refl _ _, fun o => ?_⟩
    gi_wp2
    exact ⟨fun _ _ _ => rfl, AboveM.refl _ _, rfl, below_putObj hA (by omega) o⟩
  case hexit => intro a' W' h; exact h
  case hafter =>
    intro D1 V1 hD1 hI1 hK1
    have hb7 : Below w6.heap.size w6 V1 := by rcases hI1 with ⟨_, _, h⟩ | h <;> exact h
    have hzb := hHZ.2
    have HX7 : Hid (V1.cell? ⟨be, 0, none⟩ = some (.pointer (some ⟨tb, 0, none⟩)) ∧ V1.cell? ⟨be + 1, 0, none⟩ = some (.pointer (some ⟨tb, 0, none⟩)) ∧ V1.cell? ⟨be + 1 + 1, 0, none⟩ = some (.slice q codes.length cq)) :=
      ⟨(hb7.cell (p := ⟨be, 0, none⟩) (by show be < _; omega)).trans hHX.1, (hb7.cell (p := ⟨be + 1, 0, none⟩) (by show be + 1 < _; omega)).trans hHX.2.1, (hb7.cell (p := ⟨be + 1 + 1, 0, none⟩) (by show be + 1 + 1 < _; omega)).trans hHX.2.2⟩
    have HX6' : Hid (Boxed V1 w.heap.size 22 (.slice p es.length cp) ∧ Boxed V1 (w.heap.size + 1) 4 (.bool false)) := ⟨(hb7.block _ HX6.out.1.lt).trans HX6.out.1, (hb7.block _ HX6.out.2.lt).trans HX6.out.2⟩
    have HN7 : Hid (Tr.At ⟨w3.heap.size, tb, es, N, root, lv, n, 0, vs, T⟩ V1) := HN6.out.below hb7
    have HB7 : Hid (Below w.heap.size w V1) := HB6.out.trans (hb7.mono HB6.out.size)
    have HK1 : Hid (V1.heap[D1]? = some (.deferred (some [])) ∧ w.heap.size ≤ D1 ∧ D1 < V1.heap.size) := ⟨hK1, by have := HB6.out.size; omega, (Array.getElem?_eq_some_iff.1 hK1).1⟩
    have HZ7 : Hid (w.heap.size ≤ be ∧ be + 3 ≤ V1.heap.size) := ⟨hHZ.1, by have := hb7.size; omega⟩
    simp only [marked]
    clear hb7 hI1 hK1 hD1 hHZ hHX HX HX6 HN6 HB6 HZ hzb
    gi_wp2_with fail
    have hHZ := HZ7.out
    have hHX := HX7.out
    refine wp_rangeR2 2 (gf := 39) (lb := #[.pointer (some ⟨be + 1, 0, none⟩), .pointer (some ⟨be + 1 + 1, 0, none⟩)]) rfl (enters_of Try.func39 (by kernel_rfl) rfl) (under_iter _ HOO.out codes (· < w.heap.size) q codes.length cq (by unfold maxLen; omega) HCW.out (be + 1) (be + 1 + 1) (V1.heap.size + 2))
      (fun _ _ _ h k => h.trans k) (fun A o => above_putM (by omega) o) ?hps (fun _ A => Below V1.heap.size V1 A) (fun A => Below V1.heap.size V1 A) (bookB V1) (bookB V1)
      (fun s A B h hb => h.trans (hb.mono (by omega))) (fun A B h hb => h.trans (hb.mono (by omega))) (fun A B hb k h1 h2 h3 => hb.block k (by omega))
      (fun s A h => ⟨(h.cell (p := ⟨be + 1, 0, none⟩) (by show be + 1 < _; omega)).trans hHX.2.1, (h.cell (p := ⟨be + 1 + 1, 0, none⟩) (by show be + 1 + 1 < _; omega)).trans hHX.2.2, HN7.out.below h, HU.out.kept (Kept.below (HB7.out.trans (h.mono HB7.out.size)))⟩)
      (fun A h => ⟨(h.cell (p := ⟨be + 1, 0, none⟩) (by show be + 1 < _; omega)).trans hHX.2.1, (h.cell (p := ⟨be + 1 + 1, 0, none⟩) (by show be + 1 + 1 < _; omega)).trans hHX.2.2, HN7.out.below h, HU.out.kept (Kept.below (HB7.out.trans (h.mono HB7.out.size)))⟩) (Below.refl _ _) ?hround ?hafter ?hexit
    case hps => rintro s A vs s' ⟨i, x, c', u, _, _, rfl, _⟩; rfl
    case hround =>
      rintro l s A vs s' hA ⟨i, x, c', u, _, _, rfl, _⟩ hsz
      clear hHZ
      simp
      gi_wp2
      refine ⟨AboveM.refl _ _, fun o => ?_⟩
      gi_wp2
      exact ⟨fun _ _ _ => rfl, AboveM.refl _ _, rfl, below_putObj hA (by omega) o⟩
    case hexit => intro a' W' h; exact h
    case hafter =>
      intro D2 V2 hD2 hI2 hK2
      have hb7 : Below V1.heap.size V1 V2 := by rcases hI2 with ⟨_, _, h⟩ | h <;> exact h
      have HX8 : Hid (V2.cell? ⟨be, 0, none⟩ = some (.pointer (some ⟨tb, 0, none⟩)) ∧ V2.cell? ⟨be + 1, 0, none⟩ = some (.pointer (some ⟨tb, 0, none⟩)) ∧ V2.cell? ⟨be + 1 + 1, 0, none⟩ = some (.slice q codes.length cq)) :=
        ⟨(hb7.cell (p := ⟨be, 0, none⟩) (by show be < _; omega)).trans hHX.1, (hb7.cell (p := ⟨be + 1, 0, none⟩) (by show be + 1 < _; omega)).trans hHX.2.1, (hb7.cell (p := ⟨be + 1 + 1, 0, none⟩) (by show be + 1 + 1 < _; omega)).trans hHX.2.2⟩
      have b2 : Boxed V2 w.heap.size 22 (.slice p es.length cp) := (hb7.block _ HX6'.out.1.lt).trans HX6'.out.1
      have b4 : Boxed V2 (w.heap.size + 1) 4 (.bool false) := (hb7.block _ HX6'.out.2.lt).trans HX6'.out.2
      have HN8 : Hid (Tr.At ⟨w3.heap.size, tb, es, N, root, lv, n, 0, vs, T⟩ V2) := HN7.out.below hb7
      have HB8 : Hid (Below w.heap.size w V2) := HB7.out.trans (hb7.mono HB7.out.size)
      have HM8 : Hid (V2.heap[D1]? = some (.deferred (some [])) ∧ w.heap.size ≤ D1 ∧ D1 < V1.heap.size ∧ V2.heap[D2]? = some (.deferred (some [])) ∧ V1.heap.size ≤ D2 ∧ D2 < V2.heap.size) :=
        ⟨(hb7.block D1 HK1.out.2.2).trans HK1.out.1, HK1.out.2.1, HK1.out.2.2, hK2, hD2, (Array.getElem?_eq_some_iff.1 hK2).1⟩
      have HZ8 : Hid (w.heap.size ≤ be ∧ be + 3 ≤ V2.heap.size) := ⟨hHZ.1, by have := hb7.size; omega⟩
      simp only [marked]
      have e2 := b2.cell
      have HBX := Lib.hid (And.intro b2 b4)
      clear hb7 hI2 hK2 hD2 hHZ hHX HX6' HN7 HB7 HZ7 HX7 b2 b4 HK1
      have HORD := Lib.hid (rOrder_any _ es _ V2 (HV.out.kept (Kept.below HB8.out)) HOK.out h4 HAP.out)
      gi_wp2_with fail
      refine ⟨trivial, rfl, (callsIn_wide.2 HORD.out).mono ?_⟩
      rintro e V3 ⟨z, T', rfl, hT', hrow, hb8⟩
      have hTe := hT'.eq HT.out
      rw [hTe] at hrow
      clear hT' hTe HORD
      have HTL : Hid (T.length = es.length) := HT.out.len
      obtain ⟨pt, ct, rfl, hcells⟩ := nv_cell hrow
      obtain ⟨V0, hV0⟩ : ∃ V0, V3.alloc (.cells #[.slice pt T.length ct] 51) = V0 := ⟨_, rfl⟩
      have hb9 : Below V3.heap.size V3 V0 := by rw [← hV0]; exact (Below.refl _ V3).alloc (Nat.le_refl _) _
      have hb7 : Below V2.heap.size V2 V0 := hb8.trans (hb9.mono hb8.size)
      have hz0' : V0.heap.size = V3.heap.size + 1 := by rw [← hV0]; simp
      have b12 : Boxed V0 V3.heap.size 51 (.slice pt T.length ct) := by rw [← hV0]; exact Boxed.new _ _ _
      have HCT : Hid (∀ j i, T[j]? = some i → ∃ g, pt = some ⟨g, 0, none⟩ ∧ V2.heap.size ≤ g ∧ g < V0.heap.size ∧ V0.cell? ⟨g, j, none⟩ = some (.int .i64 (i : Nat))) := by
        intro j i hj
        obtain ⟨g, h1, h2, h3, h4⟩ := hcells j i hj
        exact ⟨g, h1, h2, by omega, (hb9.cell (p := ⟨g, j, none⟩) h3).trans h4⟩
      have hHX := HX8.out
      have hHZ := HZ8.out
      have HX9 : Hid (V0.cell? ⟨be, 0, none⟩ = some (.pointer (some ⟨tb, 0, none⟩)) ∧ V0.cell? ⟨be + 1, 0, none⟩ = some (.pointer (some ⟨tb, 0, none⟩)) ∧ V0.cell? ⟨be + 1 + 1, 0, none⟩ = some (.slice q codes.length cq)) :=
        ⟨(hb7.cell (p := ⟨be, 0, none⟩) (by show be < _; omega)).trans hHX.1, (hb7.cell (p := ⟨be + 1, 0, none⟩) (by show be + 1 < _; omega)).trans hHX.2.1, (hb7.cell (p := ⟨be + 1 + 1, 0, none⟩) (by show be + 1 + 1 < _; omega)).trans hHX.2.2⟩
      have HBX9 : Hid (Boxed V0 w.heap.size 22 (.slice p es.length cp) ∧ Boxed V0 (w.heap.size + 1) 4 (.bool false) ∧ Boxed V0 V3.heap.size 51 (.slice pt T.length ct)) :=
        ⟨(hb7.block _ HBX.out.1.lt).trans HBX.out.1, (hb7.block _ HBX.out.2.lt).trans HBX.out.2, b12⟩
      have HN9 : Hid (Tr.At ⟨w3.heap.size, tb, es, N, root, lv, n, 0, vs, T⟩ V0) := HN8.out.below hb7
      have HB9 : Hid (Below w.heap.size w V0) := HB8.out.trans (hb7.mono HB8.out.size)
      have hHM := HM8.out
      have HM9 : Hid (V0.heap[D1]? = some (.deferred (some [])) ∧ w.heap.size ≤ D1 ∧ D1 < D2 ∧ V0.heap[D2]? = some (.deferred (some [])) ∧ D2 < V0.heap.size) :=
        ⟨(hb7.block D1 (by omega)).trans hHM.1, hHM.2.1, by omega, (hb7.block D2 (by omega)).trans hHM.2.2.2.1, by have := hb7.size; omega⟩
      have HZ9 : Hid (w.heap.size ≤ be ∧ be + 3 ≤ V0.heap.size ∧ V0.heap.size = V3.heap.size + 1) := ⟨hHZ.1, by have := hb7.size; omega, hz0'⟩
      have hctl : T.length ≤ 4000 := by rw [HTL.out]; exact h4
      clear hrow hcells hb8 hb9 hb7 hHX hHZ hHM HX8 HBX HN8 HB8 HM8 HZ8 e2 b12
      have HV0 := Lib.hid hV0
      clear hz0' hV0
      gi_wp2_with fail
      rw [HV0.out, ← HZ9.out.2.2]
      obtain ⟨V, hV⟩ : ∃ V, V0.alloc (.cells #[.int .i64 0] 3) = V := ⟨_, rfl⟩
      have hbV : Below V0.heap.size V0 V := by rw [← hV]; exact (Below.refl _ V0).alloc (Nat.le_refl _) _
      have hzV : V.heap.size = V0.heap.size + 1 := by rw [← hV]; simp
      have b13 : Boxed V V0.heap.size 3 (.int .i64 (0 : Nat)) := by rw [← hV]; exact Boxed.new _ _ _
      rw [hV]
      clear hV
      have hHZ := HZ9.out
      have hHX := HX9.out
      have hbk : BookR (σ := Nat) V.heap.size (fun s A => Below V0.heap.size V0 A ∧ Boxed A V0.heap.size 3 (.int .i64 (s : Nat))) :=
        ⟨fun s A o h hs => ⟨h.1.alloc h.1.size o, h.2.alloc o⟩, fun s A o h => ⟨below_putObj h.1 (by omega) o, boxed_putObj h.2 (by omega) o⟩⟩
      refine wp_rangeR2 4 (gf := 37) (lb := #[.pointer (some ⟨be, 0, none⟩)]) rfl (enters_of Try.func37 (by kernel_rfl) rfl) (each_iter _ HOO.out be (V.heap.size + 2))
        (fun _ _ _ h k => h.trans k) (fun A o => above_putM (by omega) o) ?hps (fun s A => Below V0.heap.size V0 A ∧ Boxed A V0.heap.size 3 (.int .i64 (s : Nat))) (fun _ => False) hbk ⟨fun _ _ _ h _ => h, fun _ _ _ h => h⟩
        (fun s A B h hb => ⟨h.1.trans (hb.mono (by omega)), (hb.block _ (by omega)).trans h.2⟩) (fun A B h hb => h) (fun A B hb k h1 h2 h3 => hb.block k (by omega))
        (fun s A h => ⟨(h.1.cell (p := ⟨be, 0, none⟩) (by show be < _; omega)).trans hHX.1, HN9.out.below h.1⟩) (fun A h => h.elim) ⟨hbV, b13⟩ ?hround ?hafter ?hexit
      case hps => rintro s A vs s' ⟨i, x, c', u, _, _, rfl, _⟩; rfl
      case hround =>
        rintro l s A vs s' ⟨hA, hAk⟩ ⟨i, x, c', u, hTs, hx, rfl, hci, hui, rfl⟩ hsz
        have HCI := Lib.hid hci
        have HUI := Lib.hid hui
        have HX := Lib.hid hx
        obtain ⟨p1, n1, rfl, _⟩ := hci
        obtain ⟨p2, n2, rfl, _⟩ := hui
        have HA := Lib.hid hA
        have HAK := Lib.hid hAk
        have HTS : Hid (T[s]? = some i) := hTs
        have hsl : s < T.length := (List.getElem?_eq_some_iff.1 hTs).1
        have HZZ := Lib.hid (And.intro hHZ hzV)
        clear hHZ hzV hA hAk hTs hx hHX hbV b13 hbk
        simp
        gi_wp2
        have hsz' := hsz
        have hbA : Below A.heap.size A (A.alloc (.cells #[.slice p1 x.1.length n1, .slice p2 x.2.length n2] 35)) := (Below.refl _ A).alloc (Nat.le_refl _) _
        refine ⟨fun k h1 h2 => hbA.block k (by omega), AboveM.below hbA, fun o => ?_⟩
        obtain ⟨A2, hA2⟩ : ∃ A2, (A.alloc (.cells #[.slice p1 x.1.length n1, .slice p2 x.2.length n2] 35)).putObj (V.heap.size + 1) o = A2 := ⟨_, rfl⟩
        have hzz := HZZ.out
        have e6 : A2.heap[A.heap.size]? = some (.cells #[.slice p1 x.1.length n1, .slice p2 x.2.length n2] 35 (0, 0)) := by
          rw [← hA2, World.putObj_heap_other (by omega)]; exact World.alloc_heap_new _ _
        have a60 : A2.cell? ⟨A.heap.size, 0, none⟩ = some (.slice p1 x.1.length n1) := by simp [World.cell?, e6]
        have a61 : A2.cell? ⟨A.heap.size, 1, none⟩ = some (.slice p2 x.2.length n2) := by simp [World.cell?, e6]
        have hkA : ∀ k, k < A.heap.size → k ≠ V.heap.size + 1 → A2.heap[k]? = A.heap[k]? := fun k h1 h2 => by rw [← hA2, World.putObj_heap_other h2]; exact hbA.block k h1
        have hzA : A2.heap.size = A.heap.size + 1 := by rw [← hA2]; simp [World.putObj]
        have hB2 : Below V0.heap.size V0 A2 := by rw [← hA2]; exact below_putObj (HA.out.trans (hbA.mono HA.out.size)) (by omega) o
        have hkp : Kept (fun b => V.heap.size + 2 ≤ b) A A2 := ⟨by omega, fun k h1 h2 => hkA k h2 (by omega)⟩
        have k13 : Boxed A2 V0.heap.size 3 (.int .i64 (s : Nat)) := (hkA _ (by omega) (by omega)).trans HAK.out
        have k12 : Boxed A2 V3.heap.size 51 (.slice pt T.length ct) := (hB2.block _ (by omega)).trans HBX9.out.2.2
        have k2 : Boxed A2 w.heap.size 22 (.slice p es.length cp) := (hB2.block _ HBX9.out.1.lt).trans HBX9.out.1
        have m13 := k13.cell
        have m12 := k12.cell
        have m2 := k2.cell
        obtain ⟨g, hpt, _, hgl, hgc⟩ := HCT.out s i HTS.out
        have mg := (hB2.cell (p := ⟨g, s, none⟩) hgl).trans hgc
        have hBw : Below w.heap.size w A2 := HB9.out.trans (hB2.mono HB9.out.size)
        obtain ⟨b, o', cx, ux, hp, _, hbl, mx, mu, hxi, hui2⟩ := (HV.out.kept (Kept.below hBw)).at i x HX.out
        have HSM := Lib.hid ((rSame_any _ _ x x (.slice p1 x.1.length n1) (.slice p2 x.2.length n2) cx ux A2.drew ((HCI.out.kept hkp).kept (Kept.below (Below.refl _ A2).drew)) ((HUI.out.kept hkp).kept (Kept.below (Below.refl _ A2).drew)) (hxi.kept (Kept.below (Below.refl _ A2).drew)) (hui2.kept (Kept.below (Below.refl _ A2).drew)) (HOK.out x (List.mem_of_getElem? HX.out)) (HOK.out x (List.mem_of_getElem? HX.out))).mono (fun e w' h => (⟨by rw [h.1]; simp, h.2⟩ : e = .returned (.bool true) ∧ Below A2.drew.heap.size A2.drew w')))
        obtain ⟨px, nx, rfl, _⟩ := hxi
        obtain ⟨pu, nu, rfl, _⟩ := hui2
        have hil : i < es.length := (List.getElem?_eq_some_iff.1 HX.out).1
        subst hpt
        subst hp
        have g1 : decide ((T.length : Int) ≤ (s : Int)) = false := decide_eq_false (by omega)
        have g1n : decide (T.length ≤ s) = false := decide_eq_false (by omega)
        have g2 : ((i : Int) != (i : Int)) = false := by simp
        have lA : A.heap.size < A2.heap.size := by omega
        rw [hA2]
        have HS : Hid (∀ U : World, Below A2.heap.size A2 U → U.cell? ⟨V0.heap.size, 0, none⟩ = some (.int .i64 (s : Nat)) ∧ U.cell? ⟨V3.heap.size, 0, none⟩ = some (.slice (some ⟨g, 0, none⟩) T.length ct) ∧ U.cell? ⟨g, s, none⟩ = some (.int .i64 (i : Nat)) ∧ U.cell? ⟨A.heap.size, 0, none⟩ = some (.slice p1 x.1.length n1) ∧ U.cell? ⟨A.heap.size, 1, none⟩ = some (.slice p2 x.2.length n2) ∧ U.cell? ⟨w.heap.size, 0, none⟩ = some (.slice (some ⟨b, o', none⟩) es.length cp) ∧ U.cell? ⟨b, o' + i * 2, none⟩ = some (.slice px x.1.length nx) ∧ U.cell? ⟨b, o' + i * 2 + 1, none⟩ = some (.slice pu x.2.length nu)) :=
          fun U h => ⟨(h.cell (p := ⟨V0.heap.size, 0, none⟩) k13.lt).trans m13, (h.cell (p := ⟨V3.heap.size, 0, none⟩) k12.lt).trans m12, (h.cell (p := ⟨g, s, none⟩) (by show g < _; have := hB2.size; omega)).trans mg, (h.cell (p := ⟨A.heap.size, 0, none⟩) lA).trans a60, (h.cell (p := ⟨A.heap.size, 1, none⟩) lA).trans a61, (h.cell (p := ⟨w.heap.size, 0, none⟩) k2.lt).trans m2, (h.cell (p := ⟨b, o' + i * 2, none⟩) hbl).trans mx, (h.cell (p := ⟨b, o' + i * 2 + 1, none⟩) hbl).trans mu⟩
        have HK13 := Lib.hid k13
        have HBB2 := Lib.hid hB2
        have HLA := Lib.hid (And.intro hzA hsz')
        clear hA2 hbA e6 hkA hzA hB2 hkp k13 k12 k2 m13 m12 m2 mg hBw mx mu a60 a61 hzz lA hgc hgl hbl hsz hsz'
        gi_wp2_with fail
        refine wpIn_region_held (fun U : World => U.cell? ⟨V0.heap.size, 0, none⟩ = some (.int .i64 (s : Nat)) ∧ U.cell? ⟨V3.heap.size, 0, none⟩ = some (.slice (some ⟨g, 0, none⟩) T.length ct) ∧ U.cell? ⟨g, s, none⟩ = some (.int .i64 (i : Nat)) ∧ U.cell? ⟨A.heap.size, 0, none⟩ = some (.slice p1 x.1.length n1) ∧ U.cell? ⟨A.heap.size, 1, none⟩ = some (.slice p2 x.2.length n2) ∧ U.cell? ⟨w.heap.size, 0, none⟩ = some (.slice (some ⟨b, o', none⟩) es.length cp) ∧ U.cell? ⟨b, o' + i * 2, none⟩ = some (.slice px x.1.length nx) ∧ U.cell? ⟨b, o' + i * 2 + 1, none⟩ = some (.slice pu x.2.length nu)) (by kernel_rfl) (by kernel_rfl) (by rintro ⟨_, _, h⟩; exact h) (HS.out _ (Below.refl _ A2).drew) (fun hH => ?_)
        refine wpAnyH_takeL (i := 0) (v := ?_) rfl (by kernel_rfl) (by kernel_rfl) (by kernel_rfl) (fun _ _ _ h => h) (Or.inl ⟨by first | rfl | kernel_rfl, ?_⟩) hH ?_; rotate_left 1; (first | (focus (intro w hSw; (try dsimp only at hSw); go_simp; done)) | (focus (intro w hSw; (try dsimp only at hSw); go_simp; with_reducible rfl)) | (focus (intro w hSw; (try dsimp only at hSw); simp [Builtin.len_, Try.underlying51, go_sem]; done))); (try simp only [Act.put, List.setIfInBounds_toArray, List.set_cons_zero, List.set_cons_succ])
        refine wpAnyH_takeL (i := 1) (v := ?_) rfl (by kernel_rfl) (by kernel_rfl) (by kernel_rfl) (fun _ _ _ h => h) (Or.inl ⟨by first | rfl | kernel_rfl, ?_⟩) hH ?_; rotate_left 1; (first | (focus (intro w hSw; (try dsimp only at hSw); go_simp; done)) | (focus (intro w hSw; (try dsimp only at hSw); go_simp; with_reducible rfl)) | (focus (intro w hSw; (try dsimp only at hSw); simp [Builtin.len_, Try.underlying51, go_sem]; done))); (try simp only [Act.put, List.setIfInBounds_toArray, List.set_cons_zero, List.set_cons_succ])
        refine wpAnyH_takeL (i := 2) (v := ?_) rfl (by kernel_rfl) (by kernel_rfl) (by kernel_rfl) (fun _ _ _ h => h) (Or.inl ⟨by first | rfl | kernel_rfl, ?_⟩) hH ?_; rotate_left 1; (first | (focus (intro w hSw; (try dsimp only at hSw); go_simp; done)) | (focus (intro w hSw; (try dsimp only at hSw); go_simp; with_reducible rfl)) | (focus (intro w hSw; (try dsimp only at hSw); simp [Builtin.len_, Try.underlying51, go_sem]; done))); (try simp only [Act.put, List.setIfInBounds_toArray, List.set_cons_zero, List.set_cons_succ])
        refine wpAnyH_takeL (i := 3) (v := ?_) rfl (by kernel_rfl) (by kernel_rfl) (by kernel_rfl) (fun _ _ _ h => h) (Or.inl ⟨by first | rfl | kernel_rfl, ?_⟩) hH ?_; rotate_left 1; (first | (focus (intro w hSw; (try dsimp only at hSw); go_simp; done)) | (focus (intro w hSw; (try dsimp only at hSw); go_simp; with_reducible rfl)) | (focus (intro w hSw; (try dsimp only at hSw); simp [Builtin.len_, Try.underlying51, go_sem]; done))); (try simp only [Act.put, List.setIfInBounds_toArray, List.set_cons_zero, List.set_cons_succ])
        refine wpAnyH_takeL (i := 4) (v := ?_) rfl (by kernel_rfl) (by kernel_rfl) (by kernel_rfl) (fun _ _ _ h => h) (Or.inl ⟨by first | rfl | kernel_rfl, ?_⟩) hH ?_; rotate_left 1; (first | (focus (intro w hSw; (try dsimp only at hSw); go_simp; done)) | (focus (intro w hSw; (try dsimp only at hSw); go_simp; with_reducible rfl)) | (focus (intro w hSw; (try dsimp only at hSw); simp [Builtin.len_, Try.underlying51, go_sem]; done))); (try simp only [Act.put, List.setIfInBounds_toArray, List.set_cons_zero, List.set_cons_succ])
        refine wpAnyH_takeL (i := 5) (v := ?_) rfl (by kernel_rfl) (by kernel_rfl) (by kernel_rfl) (fun _ _ _ h => h) (Or.inl ⟨by first | rfl | kernel_rfl, ?_⟩) hH ?_; rotate_left 1; (first | (focus (intro w hSw; (try dsimp only at hSw); go_simp; done)) | (focus (intro w hSw; (try dsimp only at hSw); go_simp; with_reducible rfl)) | (focus (intro w hSw; (try dsimp only at hSw); simp [Builtin.len_, Try.underlying51, go_sem]; done))); (try simp only [Act.put, List.setIfInBounds_toArray, List.set_cons_zero, List.set_cons_succ])
        refine wpAnyH_takeL (i := 6) (v := ?_) rfl (by kernel_rfl) (by kernel_rfl) (by kernel_rfl) (fun _ _ _ h => h) (Or.inl ⟨by first | rfl | kernel_rfl, ?_⟩) hH ?_; rotate_left 1; (first | (focus (intro w hSw; (try dsimp only at hSw); go_simp; done)) | (focus (intro w hSw; (try dsimp only at hSw); go_simp; with_reducible rfl)) | (focus (intro w hSw; (try dsimp only at hSw); simp [Builtin.len_, Try.underlying51, go_sem]; done))); (try simp only [Act.put, List.setIfInBounds_toArray, List.set_cons_zero, List.set_cons_succ])
        refine wpAnyH_takeL (i := 7) (v := ?_) rfl (by kernel_rfl) (by kernel_rfl) (by kernel_rfl) (fun _ _ _ h => h) (Or.inl ⟨by first | rfl | kernel_rfl, ?_⟩) hH ?_; rotate_left 1; (first | (focus (intro w hSw; (try dsimp only at hSw); go_simp; done)) | (focus (intro w hSw; (try dsimp only at hSw); go_simp; with_reducible rfl)) | (focus (intro w hSw; (try dsimp only at hSw); simp [Builtin.len_, Try.underlying51, go_sem]; done))); (try simp only [Act.put, List.setIfInBounds_toArray, List.set_cons_zero, List.set_cons_succ])
        refine wpAnyH_takeL (i := 8) (v := ?_) rfl (by kernel_rfl) (by kernel_rfl) (by kernel_rfl) (fun _ _ _ h => h) (Or.inl ⟨by first | rfl | kernel_rfl, ?_⟩) hH ?_; rotate_left 1; (first | (focus (intro w hSw; (try dsimp only at hSw); go_simp; done)) | (focus (intro w hSw; (try dsimp only at hSw); go_simp; with_reducible rfl)) | (focus (intro w hSw; (try dsimp only at hSw); simp [Builtin.len_, Try.underlying51, go_sem]; done))); (try simp only [Act.put, List.setIfInBounds_toArray, List.set_cons_zero, List.set_cons_succ])
        refine wpAnyH_takeL (i := 9) (v := ?_) rfl (by kernel_rfl) (by kernel_rfl) (by kernel_rfl) (fun _ _ _ h => h) (Or.inl ⟨by first | rfl | kernel_rfl, ?_⟩) hH ?_; rotate_left 1; (first | (focus (intro w hSw; (try dsimp only at hSw); go_simp; done)) | (focus (intro w hSw; (try dsimp only at hSw); go_simp; with_reducible rfl)) | (focus (intro w hSw; (try dsimp only at hSw); simp [Builtin.len_, Try.underlying51, go_sem]; done))); (try simp only [Act.put, List.setIfInBounds_toArray, List.set_cons_zero, List.set_cons_succ])
        refine wpAnyH_takeL (i := 10) (v := ?_) rfl (by kernel_rfl) (by kernel_rfl) (by kernel_rfl) (fun _ _ _ h => h) (Or.inl ⟨by first | rfl | kernel_rfl, ?_⟩) hH ?_; rotate_left 1; (first | (focus (intro w hSw; (try dsimp only at hSw); go_simp; done)) | (focus (intro w hSw; (try dsimp only at hSw); go_simp; with_reducible rfl)) | (focus (intro w hSw; (try dsimp only at hSw); simp [Builtin.len_, Try.underlying51, go_sem]; done))); (try simp only [Act.put, List.setIfInBounds_toArray, List.set_cons_zero, List.set_cons_succ])
        refine wpAnyH_takeL (i := 11) (v := ?_) rfl (by kernel_rfl) (by kernel_rfl) (by kernel_rfl) (fun _ _ _ h => h) (Or.inl ⟨by first | rfl | kernel_rfl, ?_⟩) hH ?_; rotate_left 1; (first | (focus (intro w hSw; (try dsimp only at hSw); go_simp; done)) | (focus (intro w hSw; (try dsimp only at hSw); go_simp; with_reducible rfl)) | (focus (intro w hSw; (try dsimp only at hSw); simp [Builtin.len_, Try.underlying51, go_sem]; done))); (try simp only [Act.put, List.setIfInBounds_toArray, List.set_cons_zero, List.set_cons_succ])
        refine wpAnyH_takeL (i := 12) (v := ?_) rfl (by kernel_rfl) (by kernel_rfl) (by kernel_rfl) (fun _ _ _ h => h) (Or.inl ⟨by first | rfl | kernel_rfl, ?_⟩) hH ?_; rotate_left 1; (first | (focus (intro w hSw; (try dsimp only at hSw); go_simp; done)) | (focus (intro w hSw; (try dsimp only at hSw); go_simp; with_reducible rfl)) | (focus (intro w hSw; (try dsimp only at hSw); simp [Builtin.len_, Try.underlying51, go_sem]; done))); (try simp only [Act.put, List.setIfInBounds_toArray, List.set_cons_zero, List.set_cons_succ])
        refine wpAnyH_takeL (i := 13) (v := ?_) rfl (by kernel_rfl) (by kernel_rfl) (by kernel_rfl) (fun _ _ _ h => h) (Or.inl ⟨by first | rfl | kernel_rfl, ?_⟩) hH ?_; rotate_left 1; (first | (focus (intro w hSw; (try dsimp only at hSw); go_simp; done)) | (focus (intro w hSw; (try dsimp only at hSw); go_simp; with_reducible rfl)) | (focus (intro w hSw; (try dsimp only at hSw); simp [Builtin.len_, Try.underlying51, go_sem]; done))); (try simp only [Act.put, List.setIfInBounds_toArray, List.set_cons_zero, List.set_cons_succ])
        refine wpAnyH_takeL (i := 14) (v := ?_) rfl (by kernel_rfl) (by kernel_rfl) (by kernel_rfl) (fun _ _ _ h => h) (Or.inl ⟨by first | rfl | kernel_rfl, ?_⟩) hH ?_; rotate_left 1; (first | (focus (intro w hSw; (try dsimp only at hSw); go_simp; done)) | (focus (intro w hSw; (try dsimp only at hSw); go_simp; with_reducible rfl)) | (focus (intro w hSw; (try dsimp only at hSw); simp [Builtin.len_, Try.underlying51, go_sem]; done))); (try simp only [Act.put, List.setIfInBounds_toArray, List.set_cons_zero, List.set_cons_succ])
        refine wpAnyH_takeL (i := 15) (v := ?_) rfl (by kernel_rfl) (by kernel_rfl) (by kernel_rfl) (fun _ _ _ h => h) (Or.inl ⟨by first | rfl | kernel_rfl, ?_⟩) hH ?_; rotate_left 1; (first | (focus (intro w hSw; (try dsimp only at hSw); go_simp; done)) | (focus (intro w hSw; (try dsimp only at hSw); go_simp; with_reducible rfl)) | (focus (intro w hSw; (try dsimp only at hSw); simp [Builtin.len_, Try.underlying51, go_sem]; done))); (try simp only [Act.put, List.setIfInBounds_toArray, List.set_cons_zero, List.set_cons_succ])
        refine wpAnyH_takeL (i := 16) (v := ?_) rfl (by kernel_rfl) (by kernel_rfl) (by kernel_rfl) (fun _ _ _ h => h) (Or.inl ⟨by first | rfl | kernel_rfl, ?_⟩) hH ?_; rotate_left 1; (first | (focus (intro w hSw; (try dsimp only at hSw); go_simp; done)) | (focus (intro w hSw; (try dsimp only at hSw); go_simp; with_reducible rfl)) | (focus (intro w hSw; (try dsimp only at hSw); simp [Builtin.len_, Try.underlying51, go_sem]; done))); (try simp only [Act.put, List.setIfInBounds_toArray, List.set_cons_zero, List.set_cons_succ])
        refine wpAnyH_takeL (i := 17) (v := ?_) rfl (by kernel_rfl) (by kernel_rfl) (by kernel_rfl) (fun _ _ _ h => h) (Or.inl ⟨by first | rfl | kernel_rfl, ?_⟩) hH ?_; rotate_left 1; (first | (focus (intro w hSw; (try dsimp only at hSw); go_simp; done)) | (focus (intro w hSw; (try dsimp only at hSw); go_simp; with_reducible rfl)) | (focus (intro w hSw; (try dsimp only at hSw); simp [Builtin.len_, Try.underlying51, go_sem]; done))); (try simp only [Act.put, List.setIfInBounds_toArray, List.set_cons_zero, List.set_cons_succ])
        refine wpAnyH_oneL (i := 18) (by kernel_rfl) rfl (by rfl) (fun K hK => ?_)
        go_simp
        refine HSM.out.mono ?_
        rintro e w9 ⟨rfl, hb9⟩
        have hb9' : Below A2.heap.size A2 w9 := (Below.refl _ A2).drew.trans hb9
        have hS9 := HS.out w9 hb9'
        refine hK _ _ hS9 ?_
        clear hK
        (try simp only [Act.put, List.setIfInBounds_toArray, List.set_cons_zero, List.set_cons_succ])
        refine wpAnyH_takeL (i := 19) (v := ?_) rfl (by kernel_rfl) (by kernel_rfl) (by kernel_rfl) (fun _ _ _ h => h) (Or.inl ⟨by first | rfl | kernel_rfl, ?_⟩) hS9 ?_; rotate_left 1; (first | (focus (intro w hSw; (try dsimp only at hSw); go_simp; done)) | (focus (intro w hSw; (try dsimp only at hSw); go_simp; with_reducible rfl)) | (focus (intro w hSw; (try dsimp only at hSw); simp [Builtin.len_, go_sem]; done))); (try simp only [Act.put, List.setIfInBounds_toArray, List.set_cons_zero, List.set_cons_succ])
        refine wpAnyH_takeL (i := 20) (v := ?_) rfl (by kernel_rfl) (by kernel_rfl) (by kernel_rfl) (fun _ _ _ h => h) (Or.inl ⟨by first | rfl | kernel_rfl, ?_⟩) hS9 ?_; rotate_left 1; (first | (focus (intro w hSw; (try dsimp only at hSw); go_simp; done)) | (focus (intro w hSw; (try dsimp only at hSw); go_simp; with_reducible rfl)) | (focus (intro w hSw; (try dsimp only at hSw); simp [Builtin.len_, go_sem]; done))); (try simp only [Act.put, List.setIfInBounds_toArray, List.set_cons_zero, List.set_cons_succ])
        refine wpAnyH_done (by kernel_rfl) ?_ _
        have j13 : Boxed w9 V0.heap.size 3 (.int .i64 (s : Nat)) := (hb9'.block _ HK13.out.lt).trans HK13.out
        have HJ13 := Lib.hid j13
        have HB9' := Lib.hid hb9'
        have n13 := j13.cell
        have f13 := j13.frozen
        clear hS9 hb9' hb9 j13 hH HS
        gi_wp2
        have hzz := HZZ.out
        have hla := HLA.out
        have hz9 := HB9'.out.size
        refine ⟨fun k h1 h2 => ?_, ⟨by simp [World.setCell]; omega, fun k h1 h2 => ?_⟩, ((HBB2.out.trans (HB9'.out.mono (by have := HBB2.out.size; omega))).setCell (Nat.le_refl _) _), ?_⟩
        · rw [Below.heap_setCell _ _ _ _ (show k ≠ V0.heap.size by omega)]; exact HB9'.out.block k (by omega)
        · rw [Below.heap_setCell _ _ _ _ (show k ≠ V0.heap.size by omega)]; exact HB9'.out.block k h2
        · have h1 := HJ13.out.set (.int .i64 ((s : Nat) + 1 : Nat))
          simpa using h1
      case hexit => intro a' W' h; exact h
      case hafter =>
        intro D3 V4 hD3 hI3 hK3
        obtain ⟨sT, rfl, hb4, k13⟩ : ∃ sT : Nat, sT = T.length ∧ Below V0.heap.size V0 V4 ∧ Boxed V4 V0.heap.size 3 (.int .i64 (sT : Nat)) := by
          rcases hI3 with ⟨s, h1, h2, h3⟩ | h
          · exact ⟨s, h1, h2, h3⟩
          · exact h.elim
        simp only [marked]
        clear hI3 hbk b13 hbV
        have b2 : Boxed V4 w.heap.size 22 (.slice p es.length cp) := (hb4.block _ HBX9.out.1.lt).trans HBX9.out.1
        have e2 := b2.cell
        have HB4 : Hid (Below w.heap.size w V4) := HB9.out.trans (hb4.mono HB9.out.size)
        have hord := (rUnder_any _ _ es codes _ (.slice q codes.length cq) V4 (HV.out.kept (Kept.below HB4.out)) (HU.out.kept (Kept.below HB4.out)) HOK.out h4 HAP.out (by omega))
        have HORD := Lib.hid hord
        have HD3 : Hid (V4.heap[D3]? = some (.deferred (some [])) ∧ V.heap.size ≤ D3 ∧ D3 < V4.heap.size ∧ V.heap.size = V0.heap.size + 1) := ⟨hK3, hD3, (Array.getElem?_eq_some_iff.1 hK3).1, hzV⟩
        have HK13 := Lib.hid k13
        have HBB4 := Lib.hid hb4
        have HB2 := Lib.hid b2
        clear hord hK3 hD3 hzV k13 hb4 b2 hHZ hHX
        gi_wp2_with fail
        refine ⟨trivial, rfl, (callsIn_wide.2 HORD.out).mono ?_⟩
        rintro e V5 ⟨z2, T2, rfl, hT2, hrow2, hb5⟩
        have hTe2 := hT2.eq HT.out
        rw [hTe2] at hrow2
        clear hT2 hTe2 HORD e2
        obtain ⟨L, hL⟩ : ∃ L, L = subT es T codes := ⟨_, rfl⟩
        rw [← hL] at hrow2
        have HLE := Lib.hid hL
        have hLl : L.length ≤ 4000 := by rw [hL]; exact Nat.le_trans (subT_len codes) hctl
        clear hL
        obtain ⟨pu2, cu2, rfl, hcells2⟩ := nv_cell hrow2
        obtain ⟨V6, hV6⟩ : ∃ V6, V5.alloc (.cells #[.slice pu2 L.length cu2] 51) = V6 := ⟨_, rfl⟩
        have hb9 : Below V5.heap.size V5 V6 := by rw [← hV6]; exact (Below.refl _ V5).alloc (Nat.le_refl _) _
        have hb7 : Below V4.heap.size V4 V6 := hb5.trans (hb9.mono hb5.size)
        have hz6' : V6.heap.size = V5.heap.size + 1 := by rw [← hV6]; simp
        have b16 : Boxed V6 V5.heap.size 51 (.slice pu2 L.length cu2) := by rw [← hV6]; exact Boxed.new _ _ _
        have HCP : Hid (∀ j i, L[j]? = some i → ∃ g, pu2 = some ⟨g, 0, none⟩ ∧ V4.heap.size ≤ g ∧ g < V6.heap.size ∧ V6.cell? ⟨g, j, none⟩ = some (.int .i64 (i : Nat))) := by
          intro j i hj
          obtain ⟨g, h1, h2, h3, h4⟩ := hcells2 j i hj
          exact ⟨g, h1, h2, by omega, (hb9.cell (p := ⟨g, j, none⟩) h3).trans h4⟩
        have h06 : Below V0.heap.size V0 V6 := HBB4.out.trans (hb7.mono HBB4.out.size)
        have hz7 := hb7.size
        have hz4 := HBB4.out.size
        have hHX := HX9.out
        have hHZ := HZ9.out
        have HX10 : Hid (V6.cell? ⟨be, 0, none⟩ = some (.pointer (some ⟨tb, 0, none⟩)) ∧ V6.cell? ⟨be + 1, 0, none⟩ = some (.pointer (some ⟨tb, 0, none⟩)) ∧ V6.cell? ⟨be + 1 + 1, 0, none⟩ = some (.slice q codes.length cq)) :=
          ⟨(h06.cell (p := ⟨be, 0, none⟩) (by show be < _; omega)).trans hHX.1, (h06.cell (p := ⟨be + 1, 0, none⟩) (by show be + 1 < _; omega)).trans hHX.2.1, (h06.cell (p := ⟨be + 1 + 1, 0, none⟩) (by show be + 1 + 1 < _; omega)).trans hHX.2.2⟩
        have HBX10 : Hid (Boxed V6 w.heap.size 22 (.slice p es.length cp) ∧ Boxed V6 (w.heap.size + 1) 4 (.bool false) ∧ Boxed V6 V3.heap.size 51 (.slice pt T.length ct) ∧ Boxed V6 V0.heap.size 3 (.int .i64 (T.length : Nat)) ∧ Boxed V6 V5.heap.size 51 (.slice pu2 L.length cu2)) :=
          ⟨(hb7.block _ HB2.out.lt).trans HB2.out, (h06.block _ HBX9.out.2.1.lt).trans HBX9.out.2.1, (h06.block _ HBX9.out.2.2.lt).trans HBX9.out.2.2, (hb7.block _ HK13.out.lt).trans HK13.out, b16⟩
        have HN10 : Hid (Tr.At ⟨w3.heap.size, tb, es, N, root, lv, n, 0, vs, T⟩ V6) := HN9.out.below h06
        have HB10 : Hid (Below w.heap.size w V6) := HB9.out.trans (h06.mono HB9.out.size)
        have hHM := HM9.out
        have hHD := HD3.out
        have HM10 : Hid (V6.heap[D1]? = some (.deferred (some [])) ∧ w.heap.size ≤ D1 ∧ D1 < D2 ∧ V6.heap[D2]? = some (.deferred (some [])) ∧ D2 < D3 ∧ V6.heap[D3]? = some (.deferred (some [])) ∧ D3 < V6.heap.size) :=
          ⟨(h06.block D1 (by omega)).trans hHM.1, hHM.2.1, hHM.2.2.1, (h06.block D2 (by omega)).trans hHM.2.2.2.1, by omega, (hb7.block D3 (by omega)).trans hHD.1, by omega⟩
        have HZ10 : Hid (w.heap.size ≤ be ∧ be + 3 ≤ V6.heap.size ∧ V6.heap.size = V5.heap.size + 1 ∧ V0.heap.size < V6.heap.size ∧ V3.heap.size < V6.heap.size ∧ w.heap.size + 1 < V6.heap.size) := ⟨hHZ.1, by omega, hz6', by omega, by omega, by have := HB9.out.size; omega⟩
        have HV6 := Lib.hid hV6
        clear hrow2 hcells2 hb5 hb9 hb7 h06 hz7 hz4 hHX hHZ hHM hHD HX9 HBX9 HN9 HM9 HZ9 HD3 HK13 HBB4 HB2 b16 hz6' hV6 HV0 HB4
        gi_wp2_with fail
        rw [HV6.out, ← HZ10.out.2.2.1]
        obtain ⟨V7, hV7⟩ : ∃ V7, V6.alloc (.cells #[.int .i64 0] 3) = V7 := ⟨_, rfl⟩
        have hbV : Below V6.heap.size V6 V7 := by rw [← hV7]; exact (Below.refl _ V6).alloc (Nat.le_refl _) _
        have hzV : V7.heap.size = V6.heap.size + 1 := by rw [← hV7]; simp
        have b13 : Boxed V7 V6.heap.size 3 (.int .i64 (0 : Nat)) := by rw [← hV7]; exact Boxed.new _ _ _
        rw [hV7]
        clear hV7
        have hHZ := HZ10.out
        have hHX := HX10.out
        have hUN := under_iter _ HOO.out codes (· < w.heap.size) q codes.length cq (by unfold maxLen; omega) HCW.out (be + 1) (be + 1 + 1) (V7.heap.size + 2)
        simp only [← HLE.out] at hUN
        have hbk : BookR (σ := Nat) V7.heap.size (fun s A => Below V6.heap.size V6 A ∧ Boxed A V6.heap.size 3 (.int .i64 (s : Nat))) :=
          ⟨fun s A o h hs => ⟨h.1.alloc h.1.size o, h.2.alloc o⟩, fun s A o h => ⟨below_putObj h.1 (by omega) o, boxed_putObj h.2 (by omega) o⟩⟩
        refine wp_rangeR2 6 (gf := 39) (lb := #[.pointer (some ⟨be + 1, 0, none⟩), .pointer (some ⟨be + 1 + 1, 0, none⟩)]) rfl (enters_of Try.func39 (by kernel_rfl) rfl) hUN
          (fun _ _ _ h k => h.trans k) (fun A o => above_putM (by omega) o) ?hps (fun s A => Below V6.heap.size V6 A ∧ Boxed A V6.heap.size 3 (.int .i64 (s : Nat))) (fun _ => False) hbk ⟨fun _ _ _ h _ => h, fun _ _ _ h => h⟩
          (fun s A B h hb => ⟨h.1.trans (hb.mono (by omega)), (hb.block _ (by omega)).trans h.2⟩) (fun A B h hb => h) (fun A B hb k h1 h2 h3 => hb.block k (by omega))
          (fun s A h => ⟨(h.1.cell (p := ⟨be + 1, 0, none⟩) (by show be + 1 < _; omega)).trans hHX.2.1, (h.1.cell (p := ⟨be + 1 + 1, 0, none⟩) (by show be + 1 + 1 < _; omega)).trans hHX.2.2, HN10.out.below h.1, HU.out.kept (Kept.below (HB10.out.trans (h.1.mono HB10.out.size)))⟩) (fun A h => h.elim) ⟨hbV, b13⟩ ?hround ?hafter ?hexit
        case hps => rintro s A vs s' ⟨i, x, c', u, _, _, rfl, _⟩; rfl
        case hround =>
          rintro l s A vs s' ⟨hA, hAk⟩ ⟨i, x, c', u, hLs, hx, rfl, hci, hui, rfl⟩ hsz
          have HCI := Lib.hid hci
          have HUI := Lib.hid hui
          have HX := Lib.hid hx
          obtain ⟨p1, n1, rfl, _⟩ := hci
          obtain ⟨p2, n2, rfl, _⟩ := hui
          have HA := Lib.hid hA
          have HAK := Lib.hid hAk
          have HLS : Hid (L[s]? = some i) := hLs
          have hsl : s < L.length := (List.getElem?_eq_some_iff.1 hLs).1
          have HZZ := Lib.hid (And.intro hHZ hzV)
          clear hHZ hzV hA hAk hLs hx hHX hbV b13 hbk
          simp
          gi_wp2
          have hsz' := hsz
          have hbA : Below A.heap.size A (A.alloc (.cells #[.slice p1 x.1.length n1, .slice p2 x.2.length n2] 35)) := (Below.refl _ A).alloc (Nat.le_refl _) _
          refine ⟨fun k h1 h2 => hbA.block k (by omega), AboveM.below hbA, fun o => ?_⟩
          obtain ⟨A2, hA2⟩ : ∃ A2, (A.alloc (.cells #[.slice p1 x.1.length n1, .slice p2 x.2.length n2] 35)).putObj (V7.heap.size + 1) o = A2 := ⟨_, rfl⟩
          have hzz := HZZ.out
          have e6 : A2.heap[A.heap.size]? = some (.cells #[.slice p1 x.1.length n1, .slice p2 x.2.length n2] 35 (0, 0)) := by
            rw [← hA2, World.putObj_heap_other (by omega)]; exact World.alloc_heap_new _ _
          have a60 : A2.cell? ⟨A.heap.size, 0, none⟩ = some (.slice p1 x.1.length n1) := by simp [World.cell?, e6]
          have a61 : A2.cell? ⟨A.heap.size, 1, none⟩ = some (.slice p2 x.2.length n2) := by simp [World.cell?, e6]
          have hkA : ∀ k, k < A.heap.size → k ≠ V7.heap.size + 1 → A2.heap[k]? = A.heap[k]? := fun k h1 h2 => by rw [← hA2, World.putObj_heap_other h2]; exact hbA.block k h1
          have hzA : A2.heap.size = A.heap.size + 1 := by rw [← hA2]; simp [World.putObj]
          have hB2 : Below V6.heap.size V6 A2 := by rw [← hA2]; exact below_putObj (HA.out.trans (hbA.mono HA.out.size)) (by omega) o
          have hkp : Kept (fun b => V7.heap.size + 2 ≤ b) A A2 := ⟨by omega, fun k h1 h2 => hkA k h2 (by omega)⟩
          have k13 : Boxed A2 V6.heap.size 3 (.int .i64 (s : Nat)) := (hkA _ (by omega) (by omega)).trans HAK.out
          have k12 : Boxed A2 V5.heap.size 51 (.slice pu2 L.length cu2) := (hB2.block _ (by omega)).trans HBX10.out.2.2.2.2
          have k2 : Boxed A2 w.heap.size 22 (.slice p es.length cp) := (hB2.block _ HBX10.out.1.lt).trans HBX10.out.1
          have m13 := k13.cell
          have m12 := k12.cell
          have m2 := k2.cell
          obtain ⟨g, hpt, _, hgl, hgc⟩ := HCP.out s i HLS.out
          have mg := (hB2.cell (p := ⟨g, s, none⟩) hgl).trans hgc
          have hBw : Below w.heap.size w A2 := HB10.out.trans (hB2.mono HB10.out.size)
          obtain ⟨b, o', cx, ux, hp, _, hbl, mx, mu, hxi, hui2⟩ := (HV.out.kept (Kept.below hBw)).at i x HX.out
          have HSM := Lib.hid ((rSame_any _ _ x x (.slice p1 x.1.length n1) (.slice p2 x.2.length n2) cx ux A2.drew ((HCI.out.kept hkp).kept (Kept.below (Below.refl _ A2).drew)) ((HUI.out.kept hkp).kept (Kept.below (Below.refl _ A2).drew)) (hxi.kept (Kept.below (Below.refl _ A2).drew)) (hui2.kept (Kept.below (Below.refl _ A2).drew)) (HOK.out x (List.mem_of_getElem? HX.out)) (HOK.out x (List.mem_of_getElem? HX.out))).mono (fun e w' h => (⟨by rw [h.1]; simp, h.2⟩ : e = .returned (.bool true) ∧ Below A2.drew.heap.size A2.drew w')))
          obtain ⟨px, nx, rfl, _⟩ := hxi
          obtain ⟨pu, nu, rfl, _⟩ := hui2
          have hil : i < es.length := (List.getElem?_eq_some_iff.1 HX.out).1
          subst hpt
          subst hp
          have g1 : decide ((L.length : Int) ≤ (s : Int)) = false := decide_eq_false (by omega)
          have g1n : decide (L.length ≤ s) = false := decide_eq_false (by omega)
          have g2 : ((i : Int) != (i : Int)) = false := by simp
          have lA : A.heap.size < A2.heap.size := by omega
          rw [hA2]
          have HS : Hid (∀ U : World, Below A2.heap.size A2 U → U.cell? ⟨V6.heap.size, 0, none⟩ = some (.int .i64 (s : Nat)) ∧ U.cell? ⟨V5.heap.size, 0, none⟩ = some (.slice (some ⟨g, 0, none⟩) L.length cu2) ∧ U.cell? ⟨g, s, none⟩ = some (.int .i64 (i : Nat)) ∧ U.cell? ⟨A.heap.size, 0, none⟩ = some (.slice p1 x.1.length n1) ∧ U.cell? ⟨A.heap.size, 1, none⟩ = some (.slice p2 x.2.length n2) ∧ U.cell? ⟨w.heap.size, 0, none⟩ = some (.slice (some ⟨b, o', none⟩) es.length cp) ∧ U.cell? ⟨b, o' + i * 2, none⟩ = some (.slice px x.1.length nx) ∧ U.cell? ⟨b, o' + i * 2 + 1, none⟩ = some (.slice pu x.2.length nu)) :=
            fun U h => ⟨(h.cell (p := ⟨V6.heap.size, 0, none⟩) k13.lt).trans m13, (h.cell (p := ⟨V5.heap.size, 0, none⟩) k12.lt).trans m12, (h.cell (p := ⟨g, s, none⟩) (by show g < _; have := hB2.size; omega)).trans mg, (h.cell (p := ⟨A.heap.size, 0, none⟩) lA).trans a60, (h.cell (p := ⟨A.heap.size, 1, none⟩) lA).trans a61, (h.cell (p := ⟨w.heap.size, 0, none⟩) k2.lt).trans m2, (h.cell (p := ⟨b, o' + i * 2, none⟩) hbl).trans mx, (h.cell (p := ⟨b, o' + i * 2 + 1, none⟩) hbl).trans mu⟩
          have HK13 := Lib.hid k13
          have HBB2 := Lib.hid hB2
          have HLA := Lib.hid (And.intro hzA hsz')
          clear hA2 hbA e6 hkA hzA hB2 hkp k13 k12 k2 m13 m12 m2 mg hBw mx mu a60 a61 hzz lA hgc hgl hbl hsz hsz'
          gi_wp2_with fail
          refine wpIn_region_held (fun U : World => U.cell? ⟨V6.heap.size, 0, none⟩ = some (.int .i64 (s : Nat)) ∧ U.cell? ⟨V5.heap.size, 0, none⟩ = some (.slice (some ⟨g, 0, none⟩) L.length cu2) ∧ U.cell? ⟨g, s, none⟩ = some (.int .i64 (i : Nat)) ∧ U.cell? ⟨A.heap.size, 0, none⟩ = some (.slice p1 x.1.length n1) ∧ U.cell? ⟨A.heap.size, 1, none⟩ = some (.slice p2 x.2.length n2) ∧ U.cell? ⟨w.heap.size, 0, none⟩ = some (.slice (some ⟨b, o', none⟩) es.length cp) ∧ U.cell? ⟨b, o' + i * 2, none⟩ = some (.slice px x.1.length nx) ∧ U.cell? ⟨b, o' + i * 2 + 1, none⟩ = some (.slice pu x.2.length nu)) (by kernel_rfl) (by kernel_rfl) (by rintro ⟨_, _, h⟩; exact h) (HS.out _ (Below.refl _ A2).drew) (fun hH => ?_)
          refine wpAnyH_takeL (i := 0) (v := ?_) rfl (by kernel_rfl) (by kernel_rfl) (by kernel_rfl) (fun _ _ _ h => h) (Or.inl ⟨by first | rfl | kernel_rfl, ?_⟩) hH ?_; rotate_left 1; (first | (focus (intro w hSw; (try dsimp only at hSw); go_simp; done)) | (focus (intro w hSw; (try dsimp only at hSw); go_simp; with_reducible rfl)) | (focus (intro w hSw; (try dsimp only at hSw); simp [Builtin.len_, Try.underlying51, go_sem]; done))); (try simp only [Act.put, List.setIfInBounds_toArray, List.set_cons_zero, List.set_cons_succ])
          refine wpAnyH_takeL (i := 1) (v := ?_) rfl (by kernel_rfl) (by kernel_rfl) (by kernel_rfl) (fun _ _ _ h => h) (Or.inl ⟨by first | rfl | kernel_rfl, ?_⟩) hH ?_; rotate_left 1; (first | (focus (intro w hSw; (try dsimp only at hSw); go_simp; done)) | (focus (intro w hSw; (try dsimp only at hSw); go_simp; with_reducible rfl)) | (focus (intro w hSw; (try dsimp only at hSw); simp [Builtin.len_, Try.underlying51, go_sem]; done))); (try simp only [Act.put, List.setIfInBounds_toArray, List.set_cons_zero, List.set_cons_succ])
          refine wpAnyH_takeL (i := 2) (v := ?_) rfl (by kernel_rfl) (by kernel_rfl) (by kernel_rfl) (fun _ _ _ h => h) (Or.inl ⟨by first | rfl | kernel_rfl, ?_⟩) hH ?_; rotate_left 1; (first | (focus (intro w hSw; (try dsimp only at hSw); go_simp; done)) | (focus (intro w hSw; (try dsimp only at hSw); go_simp; with_reducible rfl)) | (focus (intro w hSw; (try dsimp only at hSw); simp [Builtin.len_, Try.underlying51, go_sem]; done))); (try simp only [Act.put, List.setIfInBounds_toArray, List.set_cons_zero, List.set_cons_succ])
          refine wpAnyH_takeL (i := 3) (v := ?_) rfl (by kernel_rfl) (by kernel_rfl) (by kernel_rfl) (fun _ _ _ h => h) (Or.inl ⟨by first | rfl | kernel_rfl, ?_⟩) hH ?_; rotate_left 1; (first | (focus (intro w hSw; (try dsimp only at hSw); go_simp; done)) | (focus (intro w hSw; (try dsimp only at hSw); go_simp; with_reducible rfl)) | (focus (intro w hSw; (try dsimp only at hSw); simp [Builtin.len_, Try.underlying51, go_sem]; done))); (try simp only [Act.put, List.setIfInBounds_toArray, List.set_cons_zero, List.set_cons_succ])
          refine wpAnyH_takeL (i := 4) (v := ?_) rfl (by kernel_rfl) (by kernel_rfl) (by kernel_rfl) (fun _ _ _ h => h) (Or.inl ⟨by first | rfl | kernel_rfl, ?_⟩) hH ?_; rotate_left 1; (first | (focus (intro w hSw; (try dsimp only at hSw); go_simp; done)) | (focus (intro w hSw; (try dsimp only at hSw); go_simp; with_reducible rfl)) | (focus (intro w hSw; (try dsimp only at hSw); simp [Builtin.len_, Try.underlying51, go_sem]; done))); (try simp only [Act.put, List.setIfInBounds_toArray, List.set_cons_zero, List.set_cons_succ])
          refine wpAnyH_takeL (i := 5) (v := ?_) rfl (by kernel_rfl) (by kernel_rfl) (by kernel_rfl) (fun _ _ _ h => h) (Or.inl ⟨by first | rfl | kernel_rfl, ?_⟩) hH ?_; rotate_left 1; (first | (focus (intro w hSw; (try dsimp only at hSw); go_simp; done)) | (focus (intro w hSw; (try dsimp only at hSw); go_simp; with_reducible rfl)) | (focus (intro w hSw; (try dsimp only at hSw); simp [Builtin.len_, Try.underlying51, go_sem]; done))); (try simp only [Act.put, List.setIfInBounds_toArray, List.set_cons_zero, List.set_cons_succ])
          refine wpAnyH_takeL (i := 6) (v := ?_) rfl (by kernel_rfl) (by kernel_rfl) (by kernel_rfl) (fun _ _ _ h => h) (Or.inl ⟨by first | rfl | kernel_rfl, ?_⟩) hH ?_; rotate_left 1; (first | (focus (intro w hSw; (try dsimp only at hSw); go_simp; done)) | (focus (intro w hSw; (try dsimp only at hSw); go_simp; with_reducible rfl)) | (focus (intro w hSw; (try dsimp only at hSw); simp [Builtin.len_, Try.underlying51, go_sem]; done))); (try simp only [Act.put, List.setIfInBounds_toArray, List.set_cons_zero, List.set_cons_succ])
          refine wpAnyH_takeL (i := 7) (v := ?_) rfl (by kernel_rfl) (by kernel_rfl) (by kernel_rfl) (fun _ _ _ h => h) (Or.inl ⟨by first | rfl | kernel_rfl, ?_⟩) hH ?_; rotate_left 1; (first | (focus (intro w hSw; (try dsimp only at hSw); go_simp; done)) | (focus (intro w hSw; (try dsimp only at hSw); go_simp; with_reducible rfl)) | (focus (intro w hSw; (try dsimp only at hSw); simp [Builtin.len_, Try.underlying51, go_sem]; done))); (try simp only [Act.put, List.setIfInBounds_toArray, List.set_cons_zero, List.set_cons_succ])
          refine wpAnyH_takeL (i := 8) (v := ?_) rfl (by kernel_rfl) (by kernel_rfl) (by kernel_rfl) (fun _ _ _ h => h) (Or.inl ⟨by first | rfl | kernel_rfl, ?_⟩) hH ?_; rotate_left 1; (first | (focus (intro w hSw; (try dsimp only at hSw); go_simp; done)) | (focus (intro w hSw; (try dsimp only at hSw); go_simp; with_reducible rfl)) | (focus (intro w hSw; (try dsimp only at hSw); simp [Builtin.len_, Try.underlying51, go_sem]; done))); (try simp only [Act.put, List.setIfInBounds_toArray, List.set_cons_zero, List.set_cons_succ])
          refine wpAnyH_takeL (i := 9) (v := ?_) rfl (by kernel_rfl) (by kernel_rfl) (by kernel_rfl) (fun _ _ _ h => h) (Or.inl ⟨by first | rfl | kernel_rfl, ?_⟩) hH ?_; rotate_left 1; (first | (focus (intro w hSw; (try dsimp only at hSw); go_simp; done)) | (focus (intro w hSw; (try dsimp only at hSw); go_simp; with_reducible rfl)) | (focus (intro w hSw; (try dsimp only at hSw); simp [Builtin.len_, Try.underlying51, go_sem]; done))); (try simp only [Act.put, List.setIfInBounds_toArray, List.set_cons_zero, List.set_cons_succ])
          refine wpAnyH_takeL (i := 10) (v := ?_) rfl (by kernel_rfl) (by kernel_rfl) (by kernel_rfl) (fun _ _ _ h => h) (Or.inl ⟨by first | rfl | kernel_rfl, ?_⟩) hH ?_; rotate_left 1; (first | (focus (intro w hSw; (try dsimp only at hSw); go_simp; done)) | (focus (intro w hSw; (try dsimp only at hSw); go_simp; with_reducible rfl)) | (focus (intro w hSw; (try dsimp only at hSw); simp [Builtin.len_, Try.underlying51, go_sem]; done))); (try simp only [Act.put, List.setIfInBounds_toArray, List.set_cons_zero, List.set_cons_succ])
          refine wpAnyH_takeL (i := 11) (v := ?_) rfl (by kernel_rfl) (by kernel_rfl) (by kernel_rfl) (fun _ _ _ h => h) (Or.inl ⟨by first | rfl | kernel_rfl, ?_⟩) hH ?_; rotate_left 1; (first | (focus (intro w hSw; (try dsimp only at hSw); go_simp; done)) | (focus (intro w hSw; (try dsimp only at hSw); go_simp; with_reducible rfl)) | (focus (intro w hSw; (try dsimp only at hSw); simp [Builtin.len_, Try.underlying51, go_sem]; done))); (try simp only [Act.put, List.setIfInBounds_toArray, List.set_cons_zero, List.set_cons_succ])
          refine wpAnyH_takeL (i := 12) (v := ?_) rfl (by kernel_rfl) (by kernel_rfl) (by kernel_rfl) (fun _ _ _ h => h) (Or.inl ⟨by first | rfl | kernel_rfl, ?_⟩) hH ?_; rotate_left 1; (first | (focus (intro w hSw; (try dsimp only at hSw); go_simp; done)) | (focus (intro w hSw; (try dsimp only at hSw); go_simp; with_reducible rfl)) | (focus (intro w hSw; (try dsimp only at hSw); simp [Builtin.len_, Try.underlying51, go_sem]; done))); (try simp only [Act.put, List.setIfInBounds_toArray, List.set_cons_zero, List.set_cons_succ])
          refine wpAnyH_oneL (i := 13) (by kernel_rfl) rfl (by rfl) (fun K hK => ?_)
          go_simp
          refine HSM.out.mono ?_
          rintro e w9 ⟨rfl, hb9⟩
          have hb9' : Below A2.heap.size A2 w9 := (Below.refl _ A2).drew.trans hb9
          have hS9 := HS.out w9 hb9'
          refine hK _ _ hS9 ?_
          clear hK
          (try simp only [Act.put, List.setIfInBounds_toArray, List.set_cons_zero, List.set_cons_succ])
          refine wpAnyH_takeL (i := 14) (v := ?_) rfl (by kernel_rfl) (by kernel_rfl) (by kernel_rfl) (fun _ _ _ h => h) (Or.inl ⟨by first | rfl | kernel_rfl, ?_⟩) hS9 ?_; rotate_left 1; (first | (focus (intro w hSw; (try dsimp only at hSw); go_simp; done)) | (focus (intro w hSw; (try dsimp only at hSw); go_simp; with_reducible rfl)) | (focus (intro w hSw; (try dsimp only at hSw); simp [Builtin.len_, go_sem]; done))); (try simp only [Act.put, List.setIfInBounds_toArray, List.set_cons_zero, List.set_cons_succ])
          refine wpAnyH_takeL (i := 15) (v := ?_) rfl (by kernel_rfl) (by kernel_rfl) (by kernel_rfl) (fun _ _ _ h => h) (Or.inl ⟨by first | rfl | kernel_rfl, ?_⟩) hS9 ?_; rotate_left 1; (first | (focus (intro w hSw; (try dsimp only at hSw); go_simp; done)) | (focus (intro w hSw; (try dsimp only at hSw); go_simp; with_reducible rfl)) | (focus (intro w hSw; (try dsimp only at hSw); simp [Builtin.len_, go_sem]; done))); (try simp only [Act.put, List.setIfInBounds_toArray, List.set_cons_zero, List.set_cons_succ])
          refine wpAnyH_done (by kernel_rfl) ?_ _
          have j13 : Boxed w9 V6.heap.size 3 (.int .i64 (s : Nat)) := (hb9'.block _ HK13.out.lt).trans HK13.out
          have HJ13 := Lib.hid j13
          have HB9' := Lib.hid hb9'
          have n13 := j13.cell
          have f13 := j13.frozen
          clear hS9 hb9' hb9 j13 hH HS
          gi_wp2
          have hzz := HZZ.out
          have hla := HLA.out
          have hz9 := HB9'.out.size
          refine ⟨fun k h1 h2 => ?_, ⟨by simp [World.setCell]; omega, fun k h1 h2 => ?_⟩, ((HBB2.out.trans (HB9'.out.mono (by have := HBB2.out.size; omega))).setCell (Nat.le_refl _) _), ?_⟩
          · rw [Below.heap_setCell _ _ _ _ (show k ≠ V6.heap.size by omega)]; exact HB9'.out.block k (by omega)
          · rw [Below.heap_setCell _ _ _ _ (show k ≠ V6.heap.size by omega)]; exact HB9'.out.block k h2
          · have h1 := HJ13.out.set (.int .i64 ((s : Nat) + 1 : Nat))
            simpa using h1
        case hexit => intro a' W' h; exact h
        case hafter =>
          intro D4 V8 hD4 hI4 hK4
          obtain ⟨sL, rfl, hb8, k17⟩ : ∃ sL : Nat, sL = L.length ∧ Below V6.heap.size V6 V8 ∧ Boxed V8 V6.heap.size 3 (.int .i64 (sL : Nat)) := by
            rcases hI4 with ⟨s, h1, h2, h3⟩ | h
            · exact ⟨s, h1, h2, h3⟩
            · exact h.elim
          simp only [marked]
          clear hI4 hbk b13 hbV
          have k4 : Boxed V8 (w.heap.size + 1) 4 (.bool false) := (hb8.block _ HBX10.out.2.1.lt).trans HBX10.out.2.1
          have k12 : Boxed V8 V3.heap.size 51 (.slice pt T.length ct) := (hb8.block _ HBX10.out.2.2.1.lt).trans HBX10.out.2.2.1
          have k13 : Boxed V8 V0.heap.size 3 (.int .i64 (T.length : Nat)) := (hb8.block _ HBX10.out.2.2.2.1.lt).trans HBX10.out.2.2.2.1
          have k16 : Boxed V8 V5.heap.size 51 (.slice pu2 L.length cu2) := (hb8.block _ HBX10.out.2.2.2.2.lt).trans HBX10.out.2.2.2.2
          have m4 := k4.cell
          have f4 := k4.frozen
          have m12 := k12.cell
          have m13 := k13.cell
          have m16 := k16.cell
          have m17 := k17.cell
          have hHM := HM10.out
          have hz8 := hb8.size
          have g1 : ((T.length : Int) == (T.length : Int)) = true := by simp
          have g2 : ((L.length : Int) == (L.length : Int)) = true := by simp
          have q1 : Boxed (V8.setCell ⟨w.heap.size + 1, 0, none⟩ (.bool true)) (w.heap.size + 1) 4 (.bool true) := k4.set _
          have hw1 := HB9.out.size
          have HEND : Hid (∀ tmps : Array Value, tmps[4]? = some (.pointer (some ⟨w.heap.size + 1, 0, none⟩)) → bodyPostM Fence.wide 0 Try.prog Try.f5 (fun e w' => e = .returned (.bool true) ∧ Below w.heap.size w w') .ret
              { tmps := tmps, defers := [{ target := .collected D4, args := #[] }, { target := .collected D3, args := #[] }, { target := .collected D2, args := #[] }, { target := .collected D1, args := #[] }] } (V8.setCell ⟨w.heap.size + 1, 0, none⟩ (.bool true))) := by
            intro tmps ht
            have lw : w.heap.size + 1 < V6.heap.size := HZ10.out.2.2.2.2.2
            have hd4 : D4 ≠ w.heap.size + 1 := by omega
            have ne : ∀ D, V8.heap[D]? = some (.deferred (some [])) → D ≠ w.heap.size + 1 := fun D h e => by rw [e] at h; rw [show V8.heap[w.heap.size + 1]? = _ from k4] at h; cases h
            have x1 := (hb8.block D1 (by omega)).trans hHM.1
            have x2 := (hb8.block D2 (by omega)).trans hHM.2.2.2.1
            have x3 := (hb8.block D3 (by omega)).trans hHM.2.2.2.2.2.1
            refine leave_mark4 (v := .bool true) ?_ ?_ ?_ ?_ hHM.2.2.1 hHM.2.2.2.2.1 (by omega) ?_ ⟨rfl, ?_⟩
            · rw [Below.heap_setCell _ _ _ _ (ne _ hK4)]; exact hK4
            · rw [Below.heap_setCell _ _ _ _ (ne _ x3)]; exact x3
            · rw [Below.heap_setCell _ _ _ _ (ne _ x2)]; exact x2
            · rw [Below.heap_setCell _ _ _ _ (ne _ x1)]; exact x1
            · have q2 := (boxed_putObj (D := D1) (boxed_putObj (D := D2) (boxed_putObj (D := D3) (boxed_putObj (D := D4) q1 hd4.symm (.deferred none)) (ne _ x3).symm (.deferred none)) (ne _ x2).symm (.deferred none)) (ne _ x1).symm (.deferred none)).cell
              simp [results, Try.results5, go_sem, ht, q2]
            · refine below_putObj (below_putObj (below_putObj (below_putObj (Below.setCell (HB10.out.trans (hb8.mono HB10.out.size)) (Nat.le_succ _) _) (by omega) _) (by omega) _) (by omega) _) (by omega) _
          clear hb8 k4 k12 k13 k16 k17 hHM hz8 q1 hw1 hK4 hD4 hHZ hHX hzV hUN
          gi_wp2_with fail
          exact HEND.out _ rfl
end Go.Proofs.Ytcifoallahmjbaa
