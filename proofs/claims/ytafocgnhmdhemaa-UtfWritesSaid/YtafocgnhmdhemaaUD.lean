/- put of package utf: a scalar's form is appended. -/
import Derived.Test.YtafocgnhmdhemaaUt
import Derived.Test.YtafocgnhmdhemaaUy
namespace Go.Proofs.Ytafocgnhmdhemaa
open Go.RowKit
open PlainAid (bt)

theorem Try.info5 : (Try.prog.info? 5).map (fun i => (i.zero, i.size, i.bytes)) = some (some (.int .u8 0), 1, 1) := by kernel_rfl

theorem cells_new (w : World) (l : List Value) (t : TypeId) : ∀ (j : Nat) u, l[j]? = some u → (w.alloc (.cells l.toArray t)).cell? ((⟨w.heap.size, 0, none⟩ : Addr).add j) = some u := by
  intro j u hj
  have : ((⟨w.heap.size, 0, none⟩ : Addr).add j) = ⟨w.heap.size, j, none⟩ := by
    unfold Addr.add; split
    · rename_i h; rw [h]
    · simp
  rw [this]
  unfold World.cell?
  rw [World.alloc_heap_new]
  simpa using hj
/-- behind put -/
def PutEnd (B : Nat) (r : Int) (xs : List Int) (w : World) (e : Ending) (w' : World) : Prop :=
  ∃ v, e = .returned v ∧ w'.ownsRow B 5 1 v (xs ++ enc r).length ((xs ++ enc r).map (Value.int .u8)) ∧ Below B w w'

theorem and63_256 (x : Int) (h₀ : 0 ≤ x) (h₁ : x ≤ 2147483647) : bits .or .u8 128 (bits .and .i32 x 63 % 256) = 128 + x % 64 := by
  rw [show bits .and .i32 x 63 = x % 64 from and_i32 6 (by decide) x h₀ h₁, show x % 64 % 256 = x % 64 by omega]; exact u8_or128 _ (by omega) (by omega)
theorem and63_u8 (x : Int) (h₀ : 0 ≤ x) (h₁ : x ≤ 2147483647) : bits .or .u8 128 (IntKind.u8.wrap (bits .and .i32 x 63)) = 128 + x % 64 := by
  rw [show bits .and .i32 x 63 = x % 64 from and_i32 6 (by decide) x h₀ h₁, IntKind.wrap_u8, show x % 64 % 256 = x % 64 by omega]; exact u8_or128 _ (by omega) (by omega)

set_option maxHeartbeats 2000000 in
set_option maxRecDepth 100000 in
theorem put_1 (B : Nat) (r : Int) (v : Value) (xs : List Int) (w : World) (h0 : 0 ≤ r) (h1 : r < 128) (hB : B ≤ w.heap.size) (hv : w.ownsRow B 5 1 v xs.length (xs.map (Value.int .u8))) (hx : xs.length ≤ 35184372088000) :
    Calls Try.prog 36 #[v, .int .i32 r] w (PutEnd B r xs w) := by
  have HV := Lib.hid hv
  have HX := Lib.hid hx
  have HB := Lib.hid hB
  obtain ⟨i0, hi, hz0, hz1, hz2⟩ := info_parts Try.info5
  have hl : Calls Try.prog 39 #[.int .i32 r] w fun e w' => e = .returned (.int .i64 1) ∧ w = w' := by
    have := long_any r w; rwa [show lg r = 1 from by unfold lg; rw [if_pos h1]] at this
  have HE : Hid (enc r = [r]) := by show _ = _; unfold enc; rw [if_pos h1]
  clear hv hB
  go_enter Try.func36, Try.ntmps36
  go_wp2_with fail
  refine hl.mono ?_
  rintro e w1 ⟨rfl, rfl⟩
  clear hl
  go_wp2_with (at_builtin; refine wpList_append_own _ rfl _ _ 64 rfl B 5 i0 (.int .u8 0) 1 1 Try.underlying64 hi hz0 hz1 hz2 rfl (by decide) _ _ _ rfl (HV.out.alloc _) ⟨w.heap.size, 0, none⟩ 1 1 _ rfl (by rfl) (cells_new _ _ _) (by simp [Value.oneCell']) (by unfold maxLen; have := HX.out; omega) (by have := HX.out; omega) (by have := HB.out; simp; omega) ?_; intro v' w1 hown' hgrow _)
  refine bodyPost_ret (v := v') (by simp [results, Try.results36, go_sem]) rfl ⟨v', rfl, ?_, ?_⟩
  · rw [HE.out]
    simpa [List.map_append] using hown'
  · exact (Below.alloc (Below.refl _ _) HB.out _).grown hgrow (by have := HB.out; simp; omega) (fun j hj => (HV.out.lt j hj).1)

set_option maxHeartbeats 2000000 in
set_option maxRecDepth 100000 in
theorem put_2 (B : Nat) (r : Int) (v : Value) (xs : List Int) (w : World) (h0 : 128 ≤ r) (h1 : r < 2048) (hB : B ≤ w.heap.size) (hv : w.ownsRow B 5 1 v xs.length (xs.map (Value.int .u8))) (hx : xs.length ≤ 35184372088000) :
    Calls Try.prog 36 #[v, .int .i32 r] w (PutEnd B r xs w) := by
  have HV := Lib.hid hv
  have HX := Lib.hid hx
  have HB := Lib.hid hB
  obtain ⟨i0, hi, hz0, hz1, hz2⟩ := info_parts Try.info5
  have hl : Calls Try.prog 39 #[.int .i32 r] w fun e w' => e = .returned (.int .i64 2) ∧ w = w' := by
    have := long_any r w; rwa [show lg r = 2 from by unfold lg; rw [if_neg (by omega), if_pos h1]] at this
  have HE : Hid (enc r = [192 + r / 64, 128 + r % 64]) := by show _ = _; unfold enc; rw [if_neg (by omega), if_pos h1]
  clear hv hB
  go_enter Try.func36, Try.ntmps36
  go_wp2_with fail
  refine hl.mono ?_
  rintro e w1 ⟨rfl, rfl⟩
  clear hl
  go_wp2_with (at_builtin; refine wpList_append_own _ rfl _ _ 64 rfl B 5 i0 (.int .u8 0) 1 1 Try.underlying64 hi hz0 hz1 hz2 rfl (by decide) _ _ _ rfl (HV.out.alloc _) ⟨w.heap.size, 0, none⟩ 2 2 _ rfl (by rfl) (cells_new _ _ _) (by simp [Value.oneCell']) (by unfold maxLen; have := HX.out; omega) (by have := HX.out; omega) (by have := HB.out; simp; omega) ?_; intro v' w1 hown' hgrow _)
  refine bodyPost_ret (v := v') (by simp [results, Try.results36, go_sem]) rfl ⟨v', rfl, ?_, ?_⟩
  · rw [HE.out]
    try rw [and63_256 (r) (by omega) (by omega)] at hown'
    try rw [and63_u8 (r) (by omega) (by omega)] at hown'
    simpa [List.map_append] using hown'
  · exact (Below.alloc (Below.refl _ _) HB.out _).grown hgrow (by have := HB.out; simp; omega) (fun j hj => (HV.out.lt j hj).1)

set_option maxHeartbeats 2000000 in
set_option maxRecDepth 100000 in
theorem put_3 (B : Nat) (r : Int) (v : Value) (xs : List Int) (w : World) (h0 : 2048 ≤ r) (h1 : r < 65536) (hB : B ≤ w.heap.size) (hv : w.ownsRow B 5 1 v xs.length (xs.map (Value.int .u8))) (hx : xs.length ≤ 35184372088000) :
    Calls Try.prog 36 #[v, .int .i32 r] w (PutEnd B r xs w) := by
  have HV := Lib.hid hv
  have HX := Lib.hid hx
  have HB := Lib.hid hB
  obtain ⟨i0, hi, hz0, hz1, hz2⟩ := info_parts Try.info5
  have hl : Calls Try.prog 39 #[.int .i32 r] w fun e w' => e = .returned (.int .i64 3) ∧ w = w' := by
    have := long_any r w; rwa [show lg r = 3 from by unfold lg; rw [if_neg (by omega), if_neg (by omega), if_pos h1]] at this
  have HE : Hid (enc r = [224 + r / 4096, 128 + r / 64 % 64, 128 + r % 64]) := by show _ = _; unfold enc; rw [if_neg (by omega), if_neg (by omega), if_pos h1]
  clear hv hB
  go_enter Try.func36, Try.ntmps36
  go_wp2_with fail
  refine hl.mono ?_
  rintro e w1 ⟨rfl, rfl⟩
  clear hl
  go_wp2_with (at_builtin; refine wpList_append_own _ rfl _ _ 64 rfl B 5 i0 (.int .u8 0) 1 1 Try.underlying64 hi hz0 hz1 hz2 rfl (by decide) _ _ _ rfl (HV.out.alloc _) ⟨w.heap.size, 0, none⟩ 3 3 _ rfl (by rfl) (cells_new _ _ _) (by simp [Value.oneCell']) (by unfold maxLen; have := HX.out; omega) (by have := HX.out; omega) (by have := HB.out; simp; omega) ?_; intro v' w1 hown' hgrow _)
  refine bodyPost_ret (v := v') (by simp [results, Try.results36, go_sem]) rfl ⟨v', rfl, ?_, ?_⟩
  · rw [HE.out]
    try rw [and63_256 (r / 64) (by omega) (by omega)] at hown'
    try rw [and63_u8 (r / 64) (by omega) (by omega)] at hown'
    try rw [and63_256 (r) (by omega) (by omega)] at hown'
    try rw [and63_u8 (r) (by omega) (by omega)] at hown'
    simpa [List.map_append] using hown'
  · exact (Below.alloc (Below.refl _ _) HB.out _).grown hgrow (by have := HB.out; simp; omega) (fun j hj => (HV.out.lt j hj).1)

set_option maxHeartbeats 2000000 in
set_option maxRecDepth 100000 in
theorem put_4 (B : Nat) (r : Int) (v : Value) (xs : List Int) (w : World) (h0 : 65536 ≤ r) (h1 : r ≤ 1114111) (hB : B ≤ w.heap.size) (hv : w.ownsRow B 5 1 v xs.length (xs.map (Value.int .u8))) (hx : xs.length ≤ 35184372088000) :
    Calls Try.prog 36 #[v, .int .i32 r] w (PutEnd B r xs w) := by
  have HV := Lib.hid hv
  have HX := Lib.hid hx
  have HB := Lib.hid hB
  obtain ⟨i0, hi, hz0, hz1, hz2⟩ := info_parts Try.info5
  have hl : Calls Try.prog 39 #[.int .i32 r] w fun e w' => e = .returned (.int .i64 4) ∧ w = w' := by
    have := long_any r w; rwa [show lg r = 4 from by unfold lg; rw [if_neg (by omega), if_neg (by omega), if_neg (by omega)]] at this
  have HE : Hid (enc r = [240 + r / 262144, 128 + r / 4096 % 64, 128 + r / 64 % 64, 128 + r % 64]) := by show _ = _; unfold enc; rw [if_neg (by omega), if_neg (by omega), if_neg (by omega)]
  clear hv hB
  go_enter Try.func36, Try.ntmps36
  go_wp2_with fail
  refine hl.mono ?_
  rintro e w1 ⟨rfl, rfl⟩
  clear hl
  go_wp2_with (at_builtin; refine wpList_append_own _ rfl _ _ 64 rfl B 5 i0 (.int .u8 0) 1 1 Try.underlying64 hi hz0 hz1 hz2 rfl (by decide) _ _ _ rfl (HV.out.alloc _) ⟨w.heap.size, 0, none⟩ 4 4 _ rfl (by rfl) (cells_new _ _ _) (by simp [Value.oneCell']) (by unfold maxLen; have := HX.out; omega) (by have := HX.out; omega) (by have := HB.out; simp; omega) ?_; intro v' w1 hown' hgrow _)
  refine bodyPost_ret (v := v') (by simp [results, Try.results36, go_sem]) rfl ⟨v', rfl, ?_, ?_⟩
  · rw [HE.out]
    try rw [and63_256 (r / 4096) (by omega) (by omega)] at hown'
    try rw [and63_u8 (r / 4096) (by omega) (by omega)] at hown'
    try rw [and63_256 (r / 64) (by omega) (by omega)] at hown'
    try rw [and63_u8 (r / 64) (by omega) (by omega)] at hown'
    try rw [and63_256 (r) (by omega) (by omega)] at hown'
    try rw [and63_u8 (r) (by omega) (by omega)] at hown'
    simpa [List.map_append] using hown'
  · exact (Below.alloc (Below.refl _ _) HB.out _).grown hgrow (by have := HB.out; simp; omega) (fun j hj => (HV.out.lt j hj).1)

theorem put_any (B : Nat) (r : Int) (v : Value) (xs : List Int) (w : World) (h : sc r = true) (hB : B ≤ w.heap.size) (hv : w.ownsRow B 5 1 v xs.length (xs.map (Value.int .u8))) (hx : xs.length ≤ 35184372088000) :
    Calls Try.prog 36 #[v, .int .i32 r] w (PutEnd B r xs w) := by
  have hb := sc_bd h
  by_cases h1 : r < 128
  · exact put_1 B r v xs w hb.1 h1 hB hv hx
  by_cases h2 : r < 2048
  · exact put_2 B r v xs w (by omega) h2 hB hv hx
  by_cases h3 : r < 65536
  · exact put_3 B r v xs w (by omega) h3 hB hv hx
  exact put_4 B r v xs w (by omega) hb.2 hB hv hx
end Go.Proofs.Ytafocgnhmdhemaa
