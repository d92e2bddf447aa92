/- The examples of chapter 7 come out. -/
import Derived.Test.YtobblnpldphclaaWb
import Derived.Test.YtobblnpldphclaaWe
import Derived.Test.YtobblnpldphclaaWl
namespace Go.Proofs.Ytobblnpldphclaa
open Go.RowKit

theorem show_ex : strOfNums (showL 7239 32 2 false) = ⟨#[91, 46, 49, 67, 52, 55, 46, 48, 48, 50, 48, 46, 48, 48, 48, 50, 93]⟩ := by decide +kernel
theorem read_ex : readV ⟨#[91, 46, 49, 67, 52, 55, 46, 48, 48, 50, 48, 46, 48, 48, 48, 50, 93]⟩ = .tuple #[.agg #[.int .i64 7239, .int .i64 32, .int .i64 2, .bool false], .int .i64 17, .int .i64 0] := by
  kernel_rfl

set_option maxHeartbeats 4000000 in
set_option maxRecDepth 100000 in
theorem awake_any (w : World) :
    Calls Try.prog 6 #[] w fun e w' => e = .returned (.bool true) ∧ Below w.heap.size w w' := by
  have hsh := Lib.hid show_ex
  have hrd := Lib.hid read_ex
  go_enter Try.func6, Try.ntmps6
  go_wp2_with fail
  refine (unified_any _).mono ?_
  rintro e w' ⟨rfl, rfl⟩
  go_wp2_with fail
  refine (implicit_uni w).mono ?_
  rintro e w1 ⟨b, hb, rfl, ⟨c0, c1, c2, c3, c4⟩, hb', hb1⟩
  go_wp2_with fail
  refine (show_any _ _ _ _ _).mono ?_
  rintro e w2 ⟨rfl, hb2⟩
  rw [hsh.out]
  have d0 : w2.cell? ⟨b, 0, none⟩ = some (.int .i64 64320) := by rw [hb2.cell (p := ⟨b, 0, none⟩) hb']; exact c0
  have d1 : w2.cell? ⟨b, 1, none⟩ = some (.int .i64 32) := by rw [hb2.cell (p := ⟨b, 1, none⟩) hb']; exact c1
  have d2 : w2.cell? ⟨b, 2, none⟩ = some (.int .i64 2) := by rw [hb2.cell (p := ⟨b, 2, none⟩) hb']; exact c2
  have d3 : w2.cell? ⟨b, 3, none⟩ = some (.bool false) := by rw [hb2.cell (p := ⟨b, 3, none⟩) hb']; exact c3
  have d4 : w2.cell? ⟨b, 4, none⟩ = some (.int .i64 52736) := by rw [hb2.cell (p := ⟨b, 4, none⟩) hb']; exact c4
  have hbs : b < w2.heap.size := Nat.lt_of_lt_of_le hb' hb2.size
  have hbw : Below w.heap.size w w2 := hb1.trans (hb2.mono hb1.size)
  have HBW := Lib.hid hbw
  clear c0 c1 c2 c3 c4 hb1 hb2 hbw hb'
  go_wp2_with fail
  refine (read_any _ _ (by decide)).mono ?_
  rintro e w3 ⟨rfl, hb3⟩
  rw [hrd.out]
  have e0 : w3.cell? ⟨b, 0, none⟩ = some (.int .i64 64320) := by rw [hb3.cell (p := ⟨b, 0, none⟩) hbs]; exact d0
  have e1 : w3.cell? ⟨b, 1, none⟩ = some (.int .i64 32) := by rw [hb3.cell (p := ⟨b, 1, none⟩) hbs]; exact d1
  have e2 : w3.cell? ⟨b, 2, none⟩ = some (.int .i64 2) := by rw [hb3.cell (p := ⟨b, 2, none⟩) hbs]; exact d2
  have e3 : w3.cell? ⟨b, 3, none⟩ = some (.bool false) := by rw [hb3.cell (p := ⟨b, 3, none⟩) hbs]; exact d3
  have e4 : w3.cell? ⟨b, 4, none⟩ = some (.int .i64 52736) := by rw [hb3.cell (p := ⟨b, 4, none⟩) hbs]; exact d4
  have hbs3 : b < w3.heap.size := Nat.lt_of_lt_of_le hbs hb3.size
  have hbw := HBW.out.trans (hb3.mono HBW.out.size)
  clear d0 d1 d2 d3 d4 hb3 hbs HBW
  go_wp2_with fail
  go_ret
  exact ⟨rfl, hbw.trans (by (repeat' (first | (with_reducible exact Below.refl _ _) | (with_reducible assumption) | (with_reducible refine Below.alloc ?_ ?_ _) | (with_reducible refine Below.drew ?_) | (with_reducible refine below_drewN ?_ _) | (with_reducible refine Below.setCell ?_ ?_ _) | (with_reducible refine Below.trans ?_ (Below.mono (by assumption) ?_)) | go_size)))⟩
end Go.Proofs.Ytobblnpldphclaa
