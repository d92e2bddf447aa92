/- The laws of chapter 7 on ranges and on texts, walked. -/
import Derived.Test.YtobblnpldphclaaWo
namespace Go.Proofs.Ytobblnpldphclaa
open Go.RowKit

set_option maxHeartbeats 4000000 in
set_option maxRecDepth 100000 in
theorem law_unified (i : Int) (w : World) (h0 : -9223372036854775808 ≤ i) (h1 : i ≤ 9223372036854775807) :
    Calls Try.prog 4 #[.int .i64 i] w fun e w' => e = .returned (.bool true) ∧ Below w.heap.size w w' := by
  have t0 : -4 < i.tmod 4 := by have := Int.lt_tmod_of_pos i (show (0 : Int) < 4 by decide); omega
  have t1 : i.tmod 4 < 4 := Int.tmod_lt_of_pos i (by decide)
  have hk : (i.tmod 4 + 4) % 4 = 0 ∨ (i.tmod 4 + 4) % 4 = 1 ∨ (i.tmod 4 + 4) % 4 = 2 ∨ (i.tmod 4 + 4) % 4 = 3 := by omega
  rcases hk with hk | hk | hk | hk
  all_goals
    go_enter Try.func4, Try.ntmps4
    go_wp2_with fail
    refine (awake_any _).mono ?_
    rintro e w1 ⟨rfl, hb1⟩
    have HB := Lib.hid hb1
    clear hb1
    go_wp2_with fail
    refine (unified_any _).mono ?_
    rintro e w' ⟨rfl, rfl⟩
    go_wp2_with fail
    refine (ranges_uni w1).mono ?_
    rintro e w2 ⟨rfl, hb2⟩
    have HB2 := Lib.hid hb2
    have c0 : w2.cell? ⟨w1.heap.size, 2, none⟩ = some (.int .i64 64384) := by rw [hb2.cell (p := ⟨w1.heap.size, 2, none⟩) (by simp)]; simp [go_sem, uniCells]
    have c1 : w2.cell? ⟨w1.heap.size, 6, none⟩ = some (.int .i64 64320) := by rw [hb2.cell (p := ⟨w1.heap.size, 6, none⟩) (by simp)]; simp [go_sem, uniCells]
    have c2 : w2.cell? ⟨w1.heap.size, 10, none⟩ = some (.int .i64 64256) := by rw [hb2.cell (p := ⟨w1.heap.size, 10, none⟩) (by simp)]; simp [go_sem, uniCells]
    have c3 : w2.cell? ⟨w1.heap.size, 14, none⟩ = some (.int .i64 64384) := by rw [hb2.cell (p := ⟨w1.heap.size, 14, none⟩) (by simp)]; simp [go_sem, uniCells]
    have f0 : ∀ o, w2.frozen? ⟨w1.heap.size, o, none⟩ = false := fun o => by rw [hb2.frozen (p := ⟨w1.heap.size, o, none⟩) (by simp)]; simp [go_sem]
    clear hb2
    go_wp2_with fail
    refine (unified_any _).mono ?_
    rintro e w' ⟨rfl, rfl⟩
    unfold uniCells
    go_wp2_with fail
    go_ret
    refine ⟨rfl, ?_⟩
    have hbb := HB.out.trans (((Below.refl _ w1).alloc (Nat.le_refl _) _).trans (HB2.out.mono (by omega)) |>.mono HB.out.size)
    have hs1 := HB.out.size
    have hs2 := HB2.out.size
    simp only [World.size_alloc] at hs2
    (repeat' (first | (with_reducible exact Below.refl _ _) | (with_reducible assumption) | (with_reducible refine Below.alloc ?_ ?_ _) | (with_reducible refine Below.drew ?_) | (with_reducible refine below_drewN ?_ _) | (with_reducible refine Below.setCell ?_ ?_ _) | (with_reducible refine Below.trans ?_ (Below.mono (by assumption) ?_)) | go_size))
end Go.Proofs.Ytobblnpldphclaa
