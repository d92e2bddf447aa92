/- The small data: the reference's Small, the program's Small. -/
import Derived.Test.YtlldoofclaokgaaGreatNai
import Derived.Test.YtlldoofclaokgaaGreatNaf
namespace Go.Proofs.YtlldoofclaokgaaGreat
open Go.RowKit

theorem smallC_cells : (triVs .i64 smallC).toArray = #[.int .i32 768, .int .i32 788, .int .i64 230, .int .i32 803, .int .i32 806, .int .i64 220, .int .i32 807, .int .i32 808, .int .i64 202, .int .i32 824, .int .i32 824, .int .i64 1, .int .i32 837, .int .i32 837, .int .i64 240, .int .i32 1456, .int .i32 1456, .int .i64 10, .int .i32 2364, .int .i32 2364, .int .i64 7, .int .i32 2381, .int .i32 2381, .int .i64 9] := rfl
set_option maxHeartbeats 4000000 in
set_option maxRecDepth 100000 in
theorem rsmall_any (w : World) :
    Calls Tryz.prog 11 #[] w fun e w' => ∃ cv dv, e = .returned (.tuple #[cv, dv]) ∧ TrisIn (fun b => w.heap.size ≤ b) .i64 w' cv smallC ∧ TrisIn (fun b => w.heap.size ≤ b) .i32 w' dv smallD ∧ Below w.heap.size w w' := by
  go_enter Tryz.func11, Tryz.ntmps11
  go_wp2_with fail
  rw [← smallD_cells, ← smallC_cells]
  have HC0 : Hid (TrisIn (fun b => w.heap.size ≤ b) .i64 (w.alloc (.cells (triVs .i64 smallC).toArray 102)) (.slice (some ⟨w.heap.size, 0, none⟩) 8 8) smallC) := tris_lit smallC (World.alloc_heap_new _ _) (Nat.le_refl _) (by rw [smallC_len]; decide)
  have hb1 : Below (w.alloc (.cells (triVs .i64 smallC).toArray 102)).heap.size (w.alloc (.cells (triVs .i64 smallC).toArray 102)) ((w.alloc (.cells (triVs .i64 smallC).toArray 102)).alloc (.cells (triVs .i32 smallD).toArray 104)) := (Below.refl _ _).alloc (Nat.le_refl _) _
  have HC1 := Lib.hid (HC0.out.kept (Kept.below hb1))
  have HD1 : Hid (TrisIn (fun b => w.heap.size ≤ b) .i32 ((w.alloc (.cells (triVs .i64 smallC).toArray 102)).alloc (.cells (triVs .i32 smallD).toArray 104)) (.slice (some ⟨w.heap.size + 1, 0, none⟩) 46 46) smallD) := by
    have := tris_lit (R := fun b => w.heap.size ≤ b) (b := (w.alloc (.cells (triVs .i64 smallC).toArray 102)).heap.size) smallD (World.alloc_heap_new (w.alloc (.cells (triVs .i64 smallC).toArray 102)) (.cells (triVs .i32 smallD).toArray 104)) (by simp) (by rw [smallD_len]; decide)
    rwa [World.size_alloc] at this
  have HB : Hid (Below w.heap.size w ((w.alloc (.cells (triVs .i64 smallC).toArray 102)).alloc (.cells (triVs .i32 smallD).toArray 104))) := ((Below.refl _ w).alloc (Nat.le_refl _) _).alloc (by simp) _
  go_ret2
  exact ⟨_, _, rfl, HC1.out, HD1.out, HB.out⟩
set_option maxHeartbeats 4000000 in
set_option maxRecDepth 100000 in
theorem small_any (w : World) :
    Calls Tryz.prog 13 #[] w fun e w' => ∃ z, e = .returned z ∧ w'.ownsRow w.heap.size 5 1 z (frameOf (normBytes smallC smallD)).length ((frameOf (normBytes smallC smallD)).map (Value.int .u8)) ∧ Below w.heap.size w w' := by
  go_enter Tryz.func13, Tryz.ntmps13
  go_wp2_with fail
  rw [← smallC_cells]
  have HC0 : Hid (TrisIn (fun b => w.heap.size ≤ b) .i64 (w.alloc (.cells (triVs .i64 smallC).toArray 102)) (.slice (some ⟨w.heap.size, 0, none⟩) 8 8) smallC) := tris_lit smallC (World.alloc_heap_new _ _) (Nat.le_refl _) (by rw [smallC_len]; decide)
  have HB0 : Hid (Below w.heap.size w (w.alloc (.cells (triVs .i64 smallC).toArray 102))) := (Below.refl _ w).alloc (Nat.le_refl _) _
  generalize w.alloc (.cells (triVs .i64 smallC).toArray 102) = W0 at *
  refine (decomps_any _).mono ?_
  rintro e w1 ⟨v, rfl, hr1, hb1⟩
  have HB1 : Hid (Below w.heap.size w w1) := HB0.out.trans (hb1.mono HB0.out.size)
  have hbd := build_ok _ _ smallC smallD _ v w1 (HC0.out.kept (Kept.below hb1)) (tris_of_own hr1) small_ok
  clear hr1 hb1
  go_wp2_with fail
  refine hbd.mono ?_
  rintro e w2 ⟨z, rfl, hr2, hb2⟩
  have HR2 := Lib.hid hr2
  have HB2 := Lib.hid hb2
  clear hbd hr2 hb2
  go_wp2_with fail
  go_ret
  exact ⟨z, rfl, ownsRow_mono HR2.out HB1.out.size, HB1.out.trans (HB2.out.mono HB1.out.size)⟩
end Go.Proofs.YtlldoofclaokgaaGreat
