/- The law of chapter 7 on texts, walked. -/
import Derived.Test.YtobblnpldphclaaWo
import Derived.Test.YtobblnpldphclaaWr
namespace Go.Proofs.Ytobblnpldphclaa
open Go.RowKit

set_option maxHeartbeats 8000000 in
set_option maxRecDepth 100000 in
theorem law_texts (p s t : Int) (v : Bool) (r : ByteArray) (w : World) (hr : r.size ≤ 140737488351232) :
    Calls Try.prog 3 #[.agg #[.int .i64 p, .int .i64 s, .int .i64 t, .bool v], .string r] w fun e w' => e = .returned (.bool true) ∧ Below w.heap.size w w' := by
  have hlen : (strOfNums (showL p s t v)).size ≤ 17 := by
    rw [strOfNums_size]; unfold showL; split <;> simp [hex4]
  have HS : Hid (chk p s t v = 0 → readV (strOfNums (showL p s t v) ++ r) = .tuple #[.agg #[.int .i64 p, .int .i64 s, .int .i64 t, .bool v], .int .i64 17, .int .i64 0]) := read_show p s t v r
  generalize hS : strOfNums (showL p s t v) = S at hlen HS
  have HS0 := Lib.hid hS
  clear hS
  obtain ⟨P1, S1, T1, V1, N1, E1, hf⟩ := readV_form r
  obtain ⟨P2, S2, T2, V2, N2, E2, hf2⟩ := readV_form (S ++ r)
  have HF := Lib.hid hf
  have HF2 := Lib.hid hf2
  clear hf hf2
  have HM : Hid (r.size ≤ maxLen) := Nat.le_trans hr (by decide)
  have HM2 : Hid ((S ++ r).size ≤ maxLen) := by show _; rw [ByteArray.size_append]; exact Nat.le_trans (Nat.add_le_add hlen hr) (by decide)
  go_enter Try.func3, Try.ntmps3
  have HB0 : Hid (Below w.heap.size w w) := Below.refl _ _
  go_wp2_with fail
  refine (awake_any _).mono ?_
  rintro e w1 ⟨rfl, hb1⟩
  have hza1 : w.heap.size < w1.heap.size := by have := hb1.size; (try simp at this); omega
  have a10 : w1.cell? ⟨w.heap.size, 0, none⟩ = some (Value.int .i64 p) := by rw [(hb1).cell (p := ⟨w.heap.size, 0, none⟩) (by simp; try omega)]; simp [go_sem, *]
  have af10 : w1.frozen? ⟨w.heap.size, 0, none⟩ = false := by rw [(hb1).frozen (p := ⟨w.heap.size, 0, none⟩) (by simp; try omega)]; simp [go_sem, *]
  have a11 : w1.cell? ⟨w.heap.size, 1, none⟩ = some (Value.int .i64 s) := by rw [(hb1).cell (p := ⟨w.heap.size, 1, none⟩) (by simp; try omega)]; simp [go_sem, *]
  have af11 : w1.frozen? ⟨w.heap.size, 1, none⟩ = false := by rw [(hb1).frozen (p := ⟨w.heap.size, 1, none⟩) (by simp; try omega)]; simp [go_sem, *]
  have a12 : w1.cell? ⟨w.heap.size, 2, none⟩ = some (Value.int .i64 t) := by rw [(hb1).cell (p := ⟨w.heap.size, 2, none⟩) (by simp; try omega)]; simp [go_sem, *]
  have af12 : w1.frozen? ⟨w.heap.size, 2, none⟩ = false := by rw [(hb1).frozen (p := ⟨w.heap.size, 2, none⟩) (by simp; try omega)]; simp [go_sem, *]
  have a13 : w1.cell? ⟨w.heap.size, 3, none⟩ = some (Value.bool v) := by rw [(hb1).cell (p := ⟨w.heap.size, 3, none⟩) (by simp; try omega)]; simp [go_sem, *]
  have af13 : w1.frozen? ⟨w.heap.size, 3, none⟩ = false := by rw [(hb1).frozen (p := ⟨w.heap.size, 3, none⟩) (by simp; try omega)]; simp [go_sem, *]
  have HB1 : Hid (Below w.heap.size w w1) := by
    have hprev := HB0.out
    have hs := hprev.size
    show Below _ _ _; (repeat' (first | (with_reducible exact Below.refl _ _) | (with_reducible assumption) | (with_reducible refine Below.alloc ?_ ?_ _) | (with_reducible refine Below.drew ?_) | (with_reducible refine below_drewN ?_ _) | (with_reducible refine Below.setCell ?_ ?_ _) | (with_reducible refine Below.trans ?_ (Below.mono (by assumption) ?_)) | go_size))
  clear hb1
  go_wp2_with fail
  refine (show_any _ _ _ _ _).mono ?_
  rintro e w2 ⟨rfl, hb2⟩
  rw [HS0.out]
  have hza2 : w.heap.size < w2.heap.size := by have := hb2.size; (try simp at this); omega
  have a20 : w2.cell? ⟨w.heap.size, 0, none⟩ = some (Value.int .i64 p) := by rw [(hb2).cell (p := ⟨w.heap.size, 0, none⟩) (by simp; try omega)]; simp [go_sem, *]
  have af20 : w2.frozen? ⟨w.heap.size, 0, none⟩ = false := by rw [(hb2).frozen (p := ⟨w.heap.size, 0, none⟩) (by simp; try omega)]; simp [go_sem, *]
  have a21 : w2.cell? ⟨w.heap.size, 1, none⟩ = some (Value.int .i64 s) := by rw [(hb2).cell (p := ⟨w.heap.size, 1, none⟩) (by simp; try omega)]; simp [go_sem, *]
  have af21 : w2.frozen? ⟨w.heap.size, 1, none⟩ = false := by rw [(hb2).frozen (p := ⟨w.heap.size, 1, none⟩) (by simp; try omega)]; simp [go_sem, *]
  have a22 : w2.cell? ⟨w.heap.size, 2, none⟩ = some (Value.int .i64 t) := by rw [(hb2).cell (p := ⟨w.heap.size, 2, none⟩) (by simp; try omega)]; simp [go_sem, *]
  have af22 : w2.frozen? ⟨w.heap.size, 2, none⟩ = false := by rw [(hb2).frozen (p := ⟨w.heap.size, 2, none⟩) (by simp; try omega)]; simp [go_sem, *]
  have a23 : w2.cell? ⟨w.heap.size, 3, none⟩ = some (Value.bool v) := by rw [(hb2).cell (p := ⟨w.heap.size, 3, none⟩) (by simp; try omega)]; simp [go_sem, *]
  have af23 : w2.frozen? ⟨w.heap.size, 3, none⟩ = false := by rw [(hb2).frozen (p := ⟨w.heap.size, 3, none⟩) (by simp; try omega)]; simp [go_sem, *]
  have HB2 : Hid (Below w.heap.size w w2) := by
    have hprev := HB1.out
    have hs := hprev.size
    show Below _ _ _; (repeat' (first | (with_reducible exact Below.refl _ _) | (with_reducible assumption) | (with_reducible refine Below.alloc ?_ ?_ _) | (with_reducible refine Below.drew ?_) | (with_reducible refine below_drewN ?_ _) | (with_reducible refine Below.setCell ?_ ?_ _) | (with_reducible refine Below.trans ?_ (Below.mono (by assumption) ?_)) | go_size))
  clear hb2
  go_wp2_with fail
  refine (rshow_any _ _ _ _ _).mono ?_
  rintro e w3 ⟨rfl, hb3⟩
  rw [HS0.out]
  have hza3 : w.heap.size < w3.heap.size := by have := hb3.size; (try simp at this); omega
  have a30 : w3.cell? ⟨w.heap.size, 0, none⟩ = some (Value.int .i64 p) := by rw [(hb3).cell (p := ⟨w.heap.size, 0, none⟩) (by simp; try omega)]; simp [go_sem, *]
  have af30 : w3.frozen? ⟨w.heap.size, 0, none⟩ = false := by rw [(hb3).frozen (p := ⟨w.heap.size, 0, none⟩) (by simp; try omega)]; simp [go_sem, *]
  have a31 : w3.cell? ⟨w.heap.size, 1, none⟩ = some (Value.int .i64 s) := by rw [(hb3).cell (p := ⟨w.heap.size, 1, none⟩) (by simp; try omega)]; simp [go_sem, *]
  have af31 : w3.frozen? ⟨w.heap.size, 1, none⟩ = false := by rw [(hb3).frozen (p := ⟨w.heap.size, 1, none⟩) (by simp; try omega)]; simp [go_sem, *]
  have a32 : w3.cell? ⟨w.heap.size, 2, none⟩ = some (Value.int .i64 t) := by rw [(hb3).cell (p := ⟨w.heap.size, 2, none⟩) (by simp; try omega)]; simp [go_sem, *]
  have af32 : w3.frozen? ⟨w.heap.size, 2, none⟩ = false := by rw [(hb3).frozen (p := ⟨w.heap.size, 2, none⟩) (by simp; try omega)]; simp [go_sem, *]
  have a33 : w3.cell? ⟨w.heap.size, 3, none⟩ = some (Value.bool v) := by rw [(hb3).cell (p := ⟨w.heap.size, 3, none⟩) (by simp; try omega)]; simp [go_sem, *]
  have af33 : w3.frozen? ⟨w.heap.size, 3, none⟩ = false := by rw [(hb3).frozen (p := ⟨w.heap.size, 3, none⟩) (by simp; try omega)]; simp [go_sem, *]
  have HB3 : Hid (Below w.heap.size w w3) := by
    have hprev := HB2.out
    have hs := hprev.size
    show Below _ _ _; (repeat' (first | (with_reducible exact Below.refl _ _) | (with_reducible assumption) | (with_reducible refine Below.alloc ?_ ?_ _) | (with_reducible refine Below.drew ?_) | (with_reducible refine below_drewN ?_ _) | (with_reducible refine Below.setCell ?_ ?_ _) | (with_reducible refine Below.trans ?_ (Below.mono (by assumption) ?_)) | go_size))
  clear hb3
  clear a20 af20 a21 af21 a22 af22 a23 af23
  clear hza2
  clear HB2
  go_wp2_with fail
  refine (read_any _ _ HM.out).mono ?_
  rintro e w4 ⟨rfl, hb4⟩
  rw [HF.out]
  have hza4 : w.heap.size < w4.heap.size := by have := hb4.size; (try simp at this); omega
  have a40 : w4.cell? ⟨w.heap.size, 0, none⟩ = some (Value.int .i64 p) := by rw [(hb4).cell (p := ⟨w.heap.size, 0, none⟩) (by simp; try omega)]; simp [go_sem, *]
  have af40 : w4.frozen? ⟨w.heap.size, 0, none⟩ = false := by rw [(hb4).frozen (p := ⟨w.heap.size, 0, none⟩) (by simp; try omega)]; simp [go_sem, *]
  have a41 : w4.cell? ⟨w.heap.size, 1, none⟩ = some (Value.int .i64 s) := by rw [(hb4).cell (p := ⟨w.heap.size, 1, none⟩) (by simp; try omega)]; simp [go_sem, *]
  have af41 : w4.frozen? ⟨w.heap.size, 1, none⟩ = false := by rw [(hb4).frozen (p := ⟨w.heap.size, 1, none⟩) (by simp; try omega)]; simp [go_sem, *]
  have a42 : w4.cell? ⟨w.heap.size, 2, none⟩ = some (Value.int .i64 t) := by rw [(hb4).cell (p := ⟨w.heap.size, 2, none⟩) (by simp; try omega)]; simp [go_sem, *]
  have af42 : w4.frozen? ⟨w.heap.size, 2, none⟩ = false := by rw [(hb4).frozen (p := ⟨w.heap.size, 2, none⟩) (by simp; try omega)]; simp [go_sem, *]
  have a43 : w4.cell? ⟨w.heap.size, 3, none⟩ = some (Value.bool v) := by rw [(hb4).cell (p := ⟨w.heap.size, 3, none⟩) (by simp; try omega)]; simp [go_sem, *]
  have af43 : w4.frozen? ⟨w.heap.size, 3, none⟩ = false := by rw [(hb4).frozen (p := ⟨w.heap.size, 3, none⟩) (by simp; try omega)]; simp [go_sem, *]
  have HB4 : Hid (Below w.heap.size w w4) := by
    have hprev := HB3.out
    have hs := hprev.size
    show Below _ _ _; (repeat' (first | (with_reducible exact Below.refl _ _) | (with_reducible assumption) | (with_reducible refine Below.alloc ?_ ?_ _) | (with_reducible refine Below.drew ?_) | (with_reducible refine below_drewN ?_ _) | (with_reducible refine Below.setCell ?_ ?_ _) | (with_reducible refine Below.trans ?_ (Below.mono (by assumption) ?_)) | go_size))
  have le4 : w.heap.size ≤ w4.heap.size := by omega
  have hne1 : ¬ w4.heap.size = w.heap.size := by omega
  have hne2 : ¬ w.heap.size = w4.heap.size := by omega
  clear hb4
  clear a30 af30 a31 af31 a32 af32 a33 af33
  clear hza3
  clear HB3
  go_wp2_with fail
  refine (rread_any _ _ HM.out).mono ?_
  rintro e w5 ⟨rfl, hb5⟩
  rw [HF.out]
  have hza5 : w.heap.size < w5.heap.size := by have := hb5.size; (try simp at this); omega
  have a50 : w5.cell? ⟨w.heap.size, 0, none⟩ = some (Value.int .i64 p) := by rw [(hb5).cell (p := ⟨w.heap.size, 0, none⟩) (by simp; try omega)]; simp [go_sem, *]
  have af50 : w5.frozen? ⟨w.heap.size, 0, none⟩ = false := by rw [(hb5).frozen (p := ⟨w.heap.size, 0, none⟩) (by simp; try omega)]; simp [go_sem, *]
  have a51 : w5.cell? ⟨w.heap.size, 1, none⟩ = some (Value.int .i64 s) := by rw [(hb5).cell (p := ⟨w.heap.size, 1, none⟩) (by simp; try omega)]; simp [go_sem, *]
  have af51 : w5.frozen? ⟨w.heap.size, 1, none⟩ = false := by rw [(hb5).frozen (p := ⟨w.heap.size, 1, none⟩) (by simp; try omega)]; simp [go_sem, *]
  have a52 : w5.cell? ⟨w.heap.size, 2, none⟩ = some (Value.int .i64 t) := by rw [(hb5).cell (p := ⟨w.heap.size, 2, none⟩) (by simp; try omega)]; simp [go_sem, *]
  have af52 : w5.frozen? ⟨w.heap.size, 2, none⟩ = false := by rw [(hb5).frozen (p := ⟨w.heap.size, 2, none⟩) (by simp; try omega)]; simp [go_sem, *]
  have a53 : w5.cell? ⟨w.heap.size, 3, none⟩ = some (Value.bool v) := by rw [(hb5).cell (p := ⟨w.heap.size, 3, none⟩) (by simp; try omega)]; simp [go_sem, *]
  have af53 : w5.frozen? ⟨w.heap.size, 3, none⟩ = false := by rw [(hb5).frozen (p := ⟨w.heap.size, 3, none⟩) (by simp; try omega)]; simp [go_sem, *]
  have hzx5 : w4.heap.size < w5.heap.size := by have := hb5.size; (try simp at this); omega
  have x50 : w5.cell? ⟨w4.heap.size, 0, none⟩ = some (Value.int .i64 P1) := by rw [(hb5).cell (p := ⟨w4.heap.size, 0, none⟩) (by simp; try omega)]; simp [go_sem, *]
  have xf50 : w5.frozen? ⟨w4.heap.size, 0, none⟩ = false := by rw [(hb5).frozen (p := ⟨w4.heap.size, 0, none⟩) (by simp; try omega)]; simp [go_sem, *]
  have x51 : w5.cell? ⟨w4.heap.size, 1, none⟩ = some (Value.int .i64 S1) := by rw [(hb5).cell (p := ⟨w4.heap.size, 1, none⟩) (by simp; try omega)]; simp [go_sem, *]
  have xf51 : w5.frozen? ⟨w4.heap.size, 1, none⟩ = false := by rw [(hb5).frozen (p := ⟨w4.heap.size, 1, none⟩) (by simp; try omega)]; simp [go_sem, *]
  have x52 : w5.cell? ⟨w4.heap.size, 2, none⟩ = some (Value.int .i64 T1) := by rw [(hb5).cell (p := ⟨w4.heap.size, 2, none⟩) (by simp; try omega)]; simp [go_sem, *]
  have xf52 : w5.frozen? ⟨w4.heap.size, 2, none⟩ = false := by rw [(hb5).frozen (p := ⟨w4.heap.size, 2, none⟩) (by simp; try omega)]; simp [go_sem, *]
  have x53 : w5.cell? ⟨w4.heap.size, 3, none⟩ = some (Value.bool V1) := by rw [(hb5).cell (p := ⟨w4.heap.size, 3, none⟩) (by simp; try omega)]; simp [go_sem, *]
  have xf53 : w5.frozen? ⟨w4.heap.size, 3, none⟩ = false := by rw [(hb5).frozen (p := ⟨w4.heap.size, 3, none⟩) (by simp; try omega)]; simp [go_sem, *]
  have HB5 : Hid (Below w.heap.size w w5) := by
    have hprev := HB4.out
    have hs := hprev.size
    show Below _ _ _; (repeat' (first | (with_reducible exact Below.refl _ _) | (with_reducible assumption) | (with_reducible refine Below.alloc ?_ ?_ _) | (with_reducible refine Below.drew ?_) | (with_reducible refine below_drewN ?_ _) | (with_reducible refine Below.setCell ?_ ?_ _) | (with_reducible refine Below.trans ?_ (Below.mono (by assumption) ?_)) | go_size))
  have le5 : w.heap.size ≤ w5.heap.size := by omega
  clear hb5
  clear a40 af40 a41 af41 a42 af42 a43 af43
  clear hza4
  clear HB4
  go_wp2_with fail
  refine (read_any _ _ HM2.out).mono ?_
  rintro e w6 ⟨rfl, hb6⟩
  rw [HF2.out]
  have hza6 : w.heap.size < w6.heap.size := by have := hb6.size; (try simp at this); omega
  have a60 : w6.cell? ⟨w.heap.size, 0, none⟩ = some (Value.int .i64 p) := by rw [(hb6).cell (p := ⟨w.heap.size, 0, none⟩) (by simp; try omega)]; simp [go_sem, *]
  have af60 : w6.frozen? ⟨w.heap.size, 0, none⟩ = false := by rw [(hb6).frozen (p := ⟨w.heap.size, 0, none⟩) (by simp; try omega)]; simp [go_sem, *]
  have a61 : w6.cell? ⟨w.heap.size, 1, none⟩ = some (Value.int .i64 s) := by rw [(hb6).cell (p := ⟨w.heap.size, 1, none⟩) (by simp; try omega)]; simp [go_sem, *]
  have af61 : w6.frozen? ⟨w.heap.size, 1, none⟩ = false := by rw [(hb6).frozen (p := ⟨w.heap.size, 1, none⟩) (by simp; try omega)]; simp [go_sem, *]
  have a62 : w6.cell? ⟨w.heap.size, 2, none⟩ = some (Value.int .i64 t) := by rw [(hb6).cell (p := ⟨w.heap.size, 2, none⟩) (by simp; try omega)]; simp [go_sem, *]
  have af62 : w6.frozen? ⟨w.heap.size, 2, none⟩ = false := by rw [(hb6).frozen (p := ⟨w.heap.size, 2, none⟩) (by simp; try omega)]; simp [go_sem, *]
  have a63 : w6.cell? ⟨w.heap.size, 3, none⟩ = some (Value.bool v) := by rw [(hb6).cell (p := ⟨w.heap.size, 3, none⟩) (by simp; try omega)]; simp [go_sem, *]
  have af63 : w6.frozen? ⟨w.heap.size, 3, none⟩ = false := by rw [(hb6).frozen (p := ⟨w.heap.size, 3, none⟩) (by simp; try omega)]; simp [go_sem, *]
  have hzx6 : w4.heap.size < w6.heap.size := by have := hb6.size; (try simp at this); omega
  have x60 : w6.cell? ⟨w4.heap.size, 0, none⟩ = some (Value.int .i64 P1) := by rw [(hb6).cell (p := ⟨w4.heap.size, 0, none⟩) (by simp; try omega)]; simp [go_sem, *]
  have xf60 : w6.frozen? ⟨w4.heap.size, 0, none⟩ = false := by rw [(hb6).frozen (p := ⟨w4.heap.size, 0, none⟩) (by simp; try omega)]; simp [go_sem, *]
  have x61 : w6.cell? ⟨w4.heap.size, 1, none⟩ = some (Value.int .i64 S1) := by rw [(hb6).cell (p := ⟨w4.heap.size, 1, none⟩) (by simp; try omega)]; simp [go_sem, *]
  have xf61 : w6.frozen? ⟨w4.heap.size, 1, none⟩ = false := by rw [(hb6).frozen (p := ⟨w4.heap.size, 1, none⟩) (by simp; try omega)]; simp [go_sem, *]
  have x62 : w6.cell? ⟨w4.heap.size, 2, none⟩ = some (Value.int .i64 T1) := by rw [(hb6).cell (p := ⟨w4.heap.size, 2, none⟩) (by simp; try omega)]; simp [go_sem, *]
  have xf62 : w6.frozen? ⟨w4.heap.size, 2, none⟩ = false := by rw [(hb6).frozen (p := ⟨w4.heap.size, 2, none⟩) (by simp; try omega)]; simp [go_sem, *]
  have x63 : w6.cell? ⟨w4.heap.size, 3, none⟩ = some (Value.bool V1) := by rw [(hb6).cell (p := ⟨w4.heap.size, 3, none⟩) (by simp; try omega)]; simp [go_sem, *]
  have xf63 : w6.frozen? ⟨w4.heap.size, 3, none⟩ = false := by rw [(hb6).frozen (p := ⟨w4.heap.size, 3, none⟩) (by simp; try omega)]; simp [go_sem, *]
  have hzy6 : w5.heap.size < w6.heap.size := by have := hb6.size; (try simp at this); omega
  have y60 : w6.cell? ⟨w5.heap.size, 0, none⟩ = some (Value.int .i64 P1) := by rw [(hb6).cell (p := ⟨w5.heap.size, 0, none⟩) (by simp; try omega)]; simp [go_sem, *]
  have yf60 : w6.frozen? ⟨w5.heap.size, 0, none⟩ = false := by rw [(hb6).frozen (p := ⟨w5.heap.size, 0, none⟩) (by simp; try omega)]; simp [go_sem, *]
  have y61 : w6.cell? ⟨w5.heap.size, 1, none⟩ = some (Value.int .i64 S1) := by rw [(hb6).cell (p := ⟨w5.heap.size, 1, none⟩) (by simp; try omega)]; simp [go_sem, *]
  have yf61 : w6.frozen? ⟨w5.heap.size, 1, none⟩ = false := by rw [(hb6).frozen (p := ⟨w5.heap.size, 1, none⟩) (by simp; try omega)]; simp [go_sem, *]
  have y62 : w6.cell? ⟨w5.heap.size, 2, none⟩ = some (Value.int .i64 T1) := by rw [(hb6).cell (p := ⟨w5.heap.size, 2, none⟩) (by simp; try omega)]; simp [go_sem, *]
  have yf62 : w6.frozen? ⟨w5.heap.size, 2, none⟩ = false := by rw [(hb6).frozen (p := ⟨w5.heap.size, 2, none⟩) (by simp; try omega)]; simp [go_sem, *]
  have y63 : w6.cell? ⟨w5.heap.size, 3, none⟩ = some (Value.bool V1) := by rw [(hb6).cell (p := ⟨w5.heap.size, 3, none⟩) (by simp; try omega)]; simp [go_sem, *]
  have yf63 : w6.frozen? ⟨w5.heap.size, 3, none⟩ = false := by rw [(hb6).frozen (p := ⟨w5.heap.size, 3, none⟩) (by simp; try omega)]; simp [go_sem, *]
  have HB6 : Hid (Below w.heap.size w w6) := by
    have hprev := HB5.out
    have hs := hprev.size
    show Below _ _ _; (repeat' (first | (with_reducible exact Below.refl _ _) | (with_reducible assumption) | (with_reducible refine Below.alloc ?_ ?_ _) | (with_reducible refine Below.drew ?_) | (with_reducible refine below_drewN ?_ _) | (with_reducible refine Below.setCell ?_ ?_ _) | (with_reducible refine Below.trans ?_ (Below.mono (by assumption) ?_)) | go_size))
  clear hb6
  clear a50 af50 a51 af51 a52 af52 a53 af53
  clear hza5
  clear x50 xf50 x51 xf51 x52 xf52 x53 xf53
  clear hzx5
  clear HB5
  go_wp2_with fail
  refine (rcheck_any _ _ _ _ _).mono ?_
  rintro e w7 ⟨rfl, hb7⟩
  have hza7 : w.heap.size < w7.heap.size := by have := hb7.size; (try simp at this); omega
  have a70 : w7.cell? ⟨w.heap.size, 0, none⟩ = some (Value.int .i64 p) := by rw [(hb7).cell (p := ⟨w.heap.size, 0, none⟩) (by simp; try omega)]; simp [go_sem, *]
  have af70 : w7.frozen? ⟨w.heap.size, 0, none⟩ = false := by rw [(hb7).frozen (p := ⟨w.heap.size, 0, none⟩) (by simp; try omega)]; simp [go_sem, *]
  have a71 : w7.cell? ⟨w.heap.size, 1, none⟩ = some (Value.int .i64 s) := by rw [(hb7).cell (p := ⟨w.heap.size, 1, none⟩) (by simp; try omega)]; simp [go_sem, *]
  have af71 : w7.frozen? ⟨w.heap.size, 1, none⟩ = false := by rw [(hb7).frozen (p := ⟨w.heap.size, 1, none⟩) (by simp; try omega)]; simp [go_sem, *]
  have a72 : w7.cell? ⟨w.heap.size, 2, none⟩ = some (Value.int .i64 t) := by rw [(hb7).cell (p := ⟨w.heap.size, 2, none⟩) (by simp; try omega)]; simp [go_sem, *]
  have af72 : w7.frozen? ⟨w.heap.size, 2, none⟩ = false := by rw [(hb7).frozen (p := ⟨w.heap.size, 2, none⟩) (by simp; try omega)]; simp [go_sem, *]
  have a73 : w7.cell? ⟨w.heap.size, 3, none⟩ = some (Value.bool v) := by rw [(hb7).cell (p := ⟨w.heap.size, 3, none⟩) (by simp; try omega)]; simp [go_sem, *]
  have af73 : w7.frozen? ⟨w.heap.size, 3, none⟩ = false := by rw [(hb7).frozen (p := ⟨w.heap.size, 3, none⟩) (by simp; try omega)]; simp [go_sem, *]
  have hzx7 : w4.heap.size < w7.heap.size := by have := hb7.size; (try simp at this); omega
  have x70 : w7.cell? ⟨w4.heap.size, 0, none⟩ = some (Value.int .i64 P2) := by rw [(hb7).cell (p := ⟨w4.heap.size, 0, none⟩) (by simp; try omega)]; simp [go_sem, *]
  have xf70 : w7.frozen? ⟨w4.heap.size, 0, none⟩ = false := by rw [(hb7).frozen (p := ⟨w4.heap.size, 0, none⟩) (by simp; try omega)]; simp [go_sem, *]
  have x71 : w7.cell? ⟨w4.heap.size, 1, none⟩ = some (Value.int .i64 S2) := by rw [(hb7).cell (p := ⟨w4.heap.size, 1, none⟩) (by simp; try omega)]; simp [go_sem, *]
  have xf71 : w7.frozen? ⟨w4.heap.size, 1, none⟩ = false := by rw [(hb7).frozen (p := ⟨w4.heap.size, 1, none⟩) (by simp; try omega)]; simp [go_sem, *]
  have x72 : w7.cell? ⟨w4.heap.size, 2, none⟩ = some (Value.int .i64 T2) := by rw [(hb7).cell (p := ⟨w4.heap.size, 2, none⟩) (by simp; try omega)]; simp [go_sem, *]
  have xf72 : w7.frozen? ⟨w4.heap.size, 2, none⟩ = false := by rw [(hb7).frozen (p := ⟨w4.heap.size, 2, none⟩) (by simp; try omega)]; simp [go_sem, *]
  have x73 : w7.cell? ⟨w4.heap.size, 3, none⟩ = some (Value.bool V2) := by rw [(hb7).cell (p := ⟨w4.heap.size, 3, none⟩) (by simp; try omega)]; simp [go_sem, *]
  have xf73 : w7.frozen? ⟨w4.heap.size, 3, none⟩ = false := by rw [(hb7).frozen (p := ⟨w4.heap.size, 3, none⟩) (by simp; try omega)]; simp [go_sem, *]
  have HB7 : Hid (Below w.heap.size w w7) := by
    have hprev := HB6.out
    have hs := hprev.size
    show Below _ _ _; (repeat' (first | (with_reducible exact Below.refl _ _) | (with_reducible assumption) | (with_reducible refine Below.alloc ?_ ?_ _) | (with_reducible refine Below.drew ?_) | (with_reducible refine below_drewN ?_ _) | (with_reducible refine Below.setCell ?_ ?_ _) | (with_reducible refine Below.trans ?_ (Below.mono (by assumption) ?_)) | go_size))
  clear hb7
  clear a60 af60 a61 af61 a62 af62 a63 af63
  clear hza6
  clear x60 xf60 x61 xf61 x62 xf62 x63 xf63
  clear hzx6
  clear y60 yf60 y61 yf61 y62 yf62 y63 yf63
  clear hzy6
  clear HB6
  by_cases hk : chk p s t v = 0
  · have hk2 : (chk p s t v != 0) = false := by rw [hk]; rfl
    have e2 := HF2.out
    rw [HS.out hk] at e2
    simp only [Value.tuple.injEq, Array.mk.injEq, List.cons.injEq, Value.agg.injEq, Value.int.injEq, Value.bool.injEq, true_and, and_true] at e2
    obtain ⟨⟨rfl, rfl, rfl, rfl⟩, rfl, rfl⟩ := e2
    clear hk HS HF2 HF
    go_wp2_with fail
    go_ret
    exact ⟨rfl, HB7.out.trans (by (repeat' (first | (with_reducible exact Below.refl _ _) | (with_reducible assumption) | (with_reducible refine Below.alloc ?_ ?_ _) | (with_reducible refine Below.drew ?_) | (with_reducible refine below_drewN ?_ _) | (with_reducible refine Below.setCell ?_ ?_ _) | (with_reducible refine Below.trans ?_ (Below.mono (by assumption) ?_)) | go_size)))⟩
  · have hk2 : (chk p s t v != 0) = true := by rw [bne_iff_ne]; exact hk
    clear hk HS HF2 HF
    go_wp2_with fail
    go_ret
    exact ⟨rfl, HB7.out.trans (by (repeat' (first | (with_reducible exact Below.refl _ _) | (with_reducible assumption) | (with_reducible refine Below.alloc ?_ ?_ _) | (with_reducible refine Below.drew ?_) | (with_reducible refine below_drewN ?_ _) | (with_reducible refine Below.setCell ?_ ?_ _) | (with_reducible refine Below.trans ?_ (Below.mono (by assumption) ?_)) | go_size)))⟩
end Go.Proofs.Ytobblnpldphclaa
