/- Package norms: check of data that may be; Build. -/
import Derived.Test.YtlldoofclaokgaaGreatNs
namespace Go.Proofs.YtlldoofclaokgaaGreat
open Go.RowKit

theorem data_parts {c d : List T3} (h : dataOk c d = true) : c.length ≤ 4000 ∧ d.length ≤ 8000 ∧ clsFrom none c = true ∧ decFrom none d = true ∧ ∀ x ∈ d, decTwo c d x = true := by
  unfold dataOk at h
  simp only [Bool.and_eq_true, decide_eq_true_eq, List.all_eq_true] at h
  exact ⟨h.1.1.1.1, h.1.1.1.2, h.1.1.2, h.1.2, h.2⟩
set_option maxHeartbeats 1000000 in
set_option maxRecDepth 100000 in
theorem check_ok (R Rc : Nat → Prop) (c d : List T3) (u v : Value) (w : World) (hu : TrisIn Rc .i64 w u c) (hv : TrisIn R .i32 w v d) (h : dataOk c d = true) :
    Calls Tryz.prog 75 #[u, v] w fun e w' => e = .returned (.int .i64 0) ∧ Below w.heap.size w w' := by
  obtain ⟨hcl, hl, hc, hd, h2⟩ := data_parts h
  have HU := Lib.hid hu
  have HV := Lib.hid hv
  have h1 := checkClasses_ok Rc c u w hu hc hcl
  have H2 : Hid (∀ w', Below w.heap.size w w' → Calls Tryz.prog 113 #[u, v] w' fun e w'' => e = .returned (.int .i64 0) ∧ Below w'.heap.size w' w'') := fun w' hb =>
    checkDecomps_ok R Rc c d u v w' (hu.kept (Kept.below hb)) (hv.kept (Kept.below hb)) hc hcl hd hl h2
  obtain ⟨q, cq, rfl, hcq, _⟩ := hu
  obtain ⟨p, cp, rfl, hcp, _⟩ := hv
  have d1 : decide ((4000 : Int) < (c.length : Int)) = false := decide_eq_false (by omega)
  have d2 : decide (4000 < c.length) = false := decide_eq_false (by omega)
  have d3 : decide ((8000 : Int) < (d.length : Int)) = false := decide_eq_false (by omega)
  have d4 : decide (8000 < d.length) = false := decide_eq_false (by omega)
  clear h hc hd h2
  go_enter Tryz.func75, Tryz.ntmps75
  go_wp2_with fail
  refine h1.mono ?_
  rintro e w1 ⟨rfl, hb1⟩
  have HB1 := Lib.hid hb1
  clear h1 hb1
  go_wp2_with fail
  refine (H2.out _ HB1.out).mono ?_
  rintro e w2 ⟨rfl, hb2⟩
  have HB2 := Lib.hid hb2
  clear hb2
  go_wp2
  go_ret
  exact ⟨rfl, HB1.out.trans (HB2.out.mono HB1.out.size)⟩
end Go.Proofs.YtlldoofclaokgaaGreat
