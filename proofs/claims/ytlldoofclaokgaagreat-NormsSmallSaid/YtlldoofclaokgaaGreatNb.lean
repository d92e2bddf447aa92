/- codec.Uint and the reference's: a number's bytes. -/
import Derived.Test.YtlldoofclaokgaaGreatOwn
import Derived.Test.YtlldoofclaokgaaGreatNa
namespace Go.Proofs.YtlldoofclaokgaaGreat
open Go.RowKit

theorem Tryz.infoU8 : (Tryz.prog.info? 5).map (fun i => (i.zero, i.size, i.bytes)) = some (some (.int .u8 0), 1, 1) := by kernel_rfl
/-- new bytes of our own -/
def NewBytes (B : Nat) (xs : List Int) (e : Ending) (w' : World) : Prop :=
  ∃ v, e = .returned v ∧ w'.ownsRow B 5 1 v xs.length (xs.map (Value.int .u8))

set_option maxHeartbeats 2000000 in
set_option maxRecDepth 100000 in
theorem uint_any (n : Nat) (hn : n < 18446744073709551616) (w : World) :
    Calls Tryz.prog 84 #[.int .u64 n] w fun e w' => NewBytes w.heap.size (vint n) e w' ∧ Below w.heap.size w w' := by
  obtain ⟨i0, hi, hz0, hz1, hz2⟩ := info_parts Tryz.infoU8
  go_enter Tryz.func84, Tryz.ntmps84
  go_wp2
  go_loopw [0, 3] (fun nv bv wr => ∃ (m : Nat) (xs : List Int), nv = .int .u64 m ∧ m ≤ n ∧ vint n = xs ++ vint m ∧ wr.ownsRow w.heap.size 5 1 bv xs.length (xs.map (Value.int .u8)) ∧ Below w.heap.size w wr) (fun nv _ _ => (intOf nv).toNat)
  case atStart => exact ⟨n, [], rfl, Nat.le_refl _, rfl, ⟨rfl, .inl ⟨rfl, rfl⟩⟩, Below.refl _ _⟩
  case round =>
    obtain ⟨m, xs, rfl, hm, hs, hrow, hb⟩ := hrel
    have hxl : xs.length ≤ 10 := by
      have h1 := vint_length n 10 (by omega) (by decide)
      rw [hs, List.length_append] at h1; omega
    have HR := Lib.hid hrow
    have HB := Lib.hid hb
    have HS := Lib.hid hs
    have hu3 : wr.ownsRow w.heap.size 5 1 u3 xs.length (xs.map (Value.int .u8)) := HR.out
    clear hrow
    by_cases h : 128 ≤ m
    · have d1 : decide ((128 : Int) ≤ (m : Int)) = true := decide_eq_true (by omega)
      have d2 : decide (128 ≤ m) = true := decide_eq_true h
      have HM := Lib.hid h
      obtain ⟨x, hx⟩ : ∃ x : Int, x = ((m % 128 + 128 : Nat) : Int) := ⟨_, rfl⟩
      have hor : bits .or .u8 ((m : Int) % 256) 128 = x := by rw [hx]; exact or128_mod m
      have HX := Lib.hid hx
      clear hb hs h hu3 hx
      go_wp2_with (at_builtin; refine wpList_append_own _ rfl _ _ 27 rfl (w.heap.size) 5 i0 (.int .u8 0) 1 1 Tryz.underlying27 hi hz0 hz1 hz2 rfl (by decide) _ _ _ rfl (HR.out.alloc _) ⟨wr.heap.size, 0, none⟩ 1 1 [.int .u8 x] rfl (by rfl) (row_new _ _ _) (by simp [Value.oneCell']) (by unfold maxLen; omega) (by omega) (by have := HB.out.size; simp; omega) ?_; intro v' w1 hown' hgrow _)
      refine ⟨⟨m / 128, xs ++ [x], congrArg (Value.int .u64) (by omega), by omega, ?_, by simpa using hown', ?_⟩, ?_⟩
      · rw [HS.out, vint_ge (n := m) (by have := HM.out; omega), HX.out, List.append_assoc]; rfl
      · exact (HB.out.alloc HB.out.size _).grown hgrow (by have := HB.out.size; simp; omega) (fun j hj => (HR.out.lt j hj).1)
      · have := HM.out; show ((m : Int) / 128).toNat < (m : Int).toNat; omega
    · have d1 : decide ((128 : Int) ≤ (m : Int)) = false := decide_eq_false (by omega)
      have d2 : decide (128 ≤ m) = false := decide_eq_false h
      have HM := Lib.hid h
      obtain ⟨y, hy⟩ : ∃ y : Int, (m : Int) % 256 = y := ⟨_, rfl⟩
      have HY := Lib.hid hy
      clear hb hs h hu3
      go_wp2_with (at_builtin; refine wpList_append_own _ rfl _ _ 27 rfl (w.heap.size) 5 i0 (.int .u8 0) 1 1 Tryz.underlying27 hi hz0 hz1 hz2 rfl (by decide) _ _ _ rfl (HR.out.alloc _) ⟨wr.heap.size, 0, none⟩ 1 1 [.int .u8 y] rfl (by rfl) (row_new _ _ _) (by simp [Value.oneCell']) (by unfold maxLen; omega) (by omega) (by have := HB.out.size; simp; omega) ?_; intro v' w1 hown' hgrow _)
      refine bodyPost_ret (v := v') (by simp [results, Tryz.results84, go_sem]) rfl ⟨⟨v', rfl, ?_⟩, ?_⟩
      · rw [HS.out, vint_lt (n := m) (by have := HM.out; omega)]
        have : y = m := by have := HM.out; have := HY.out; omega
        rw [this] at hown'
        simpa using hown'
      · exact (HB.out.alloc HB.out.size _).grown hgrow (by have := HB.out.size; simp; omega) (fun j hj => (HR.out.lt j hj).1)
set_option maxHeartbeats 2000000 in
set_option maxRecDepth 100000 in
theorem ruint_any (n : Nat) (hn : n < 18446744073709551616) (w : World) :
    Calls Tryz.prog 43 #[.int .u64 n] w fun e w' => NewBytes w.heap.size (vint n) e w' ∧ Below w.heap.size w w' := by
  obtain ⟨i0, hi, hz0, hz1, hz2⟩ := info_parts Tryz.infoU8
  go_enter Tryz.func43, Tryz.ntmps43
  go_wp2
  go_loopw [0, 3] (fun nv bv wr => ∃ (m : Nat) (xs : List Int), nv = .int .u64 m ∧ m ≤ n ∧ vint n = xs ++ vint m ∧ wr.ownsRow w.heap.size 5 1 bv xs.length (xs.map (Value.int .u8)) ∧ Below w.heap.size w wr) (fun nv _ _ => (intOf nv).toNat)
  case atStart => exact ⟨n, [], rfl, Nat.le_refl _, rfl, ⟨rfl, .inl ⟨rfl, rfl⟩⟩, Below.refl _ _⟩
  case round =>
    obtain ⟨m, xs, rfl, hm, hs, hrow, hb⟩ := hrel
    have hxl : xs.length ≤ 10 := by
      have h1 := vint_length n 10 (by omega) (by decide)
      rw [hs, List.length_append] at h1; omega
    have HR := Lib.hid hrow
    have HB := Lib.hid hb
    have HS := Lib.hid hs
    have hu3 : wr.ownsRow w.heap.size 5 1 u3 xs.length (xs.map (Value.int .u8)) := HR.out
    clear hrow
    by_cases h : 128 ≤ m
    · have d1 : decide ((128 : Int) ≤ (m : Int)) = true := decide_eq_true (by omega)
      have d2 : decide (128 ≤ m) = true := decide_eq_true h
      have HM := Lib.hid h
      obtain ⟨x, hx⟩ : ∃ x : Int, x = ((m % 128 + 128 : Nat) : Int) := ⟨_, rfl⟩
      have hor : (m : Int) % 128 + 128 = x := by omega
      have HX := Lib.hid hx
      clear hb hs h hu3 hx
      go_wp2_with (at_builtin; refine wpList_append_own _ rfl _ _ 27 rfl (w.heap.size) 5 i0 (.int .u8 0) 1 1 Tryz.underlying27 hi hz0 hz1 hz2 rfl (by decide) _ _ _ rfl (HR.out.alloc _) ⟨wr.heap.size, 0, none⟩ 1 1 [.int .u8 x] rfl (by rfl) (row_new _ _ _) (by simp [Value.oneCell']) (by unfold maxLen; omega) (by omega) (by have := HB.out.size; simp; omega) ?_; intro v' w1 hown' hgrow _)
      refine ⟨⟨m / 128, xs ++ [x], congrArg (Value.int .u64) (by omega), by omega, ?_, by simpa using hown', ?_⟩, ?_⟩
      · rw [HS.out, vint_ge (n := m) (by have := HM.out; omega), HX.out, List.append_assoc]; rfl
      · exact (HB.out.alloc HB.out.size _).grown hgrow (by have := HB.out.size; simp; omega) (fun j hj => (HR.out.lt j hj).1)
      · have := HM.out; show ((m : Int) / 128).toNat < (m : Int).toNat; omega
    · have d1 : decide ((128 : Int) ≤ (m : Int)) = false := decide_eq_false (by omega)
      have d2 : decide (128 ≤ m) = false := decide_eq_false h
      have HM := Lib.hid h
      obtain ⟨y, hy⟩ : ∃ y : Int, (m : Int) % 256 = y := ⟨_, rfl⟩
      have HY := Lib.hid hy
      clear hb hs h hu3
      go_wp2_with (at_builtin; refine wpList_append_own _ rfl _ _ 27 rfl (w.heap.size) 5 i0 (.int .u8 0) 1 1 Tryz.underlying27 hi hz0 hz1 hz2 rfl (by decide) _ _ _ rfl (HR.out.alloc _) ⟨wr.heap.size, 0, none⟩ 1 1 [.int .u8 y] rfl (by rfl) (row_new _ _ _) (by simp [Value.oneCell']) (by unfold maxLen; omega) (by omega) (by have := HB.out.size; simp; omega) ?_; intro v' w1 hown' hgrow _)
      refine bodyPost_ret (v := v') (by simp [results, Tryz.results43, go_sem]) rfl ⟨⟨v', rfl, ?_⟩, ?_⟩
      · rw [HS.out, vint_lt (n := m) (by have := HM.out; omega)]
        have : y = m := by have := HM.out; have := HY.out; omega
        rw [this] at hown'
        simpa using hown'
      · exact (HB.out.alloc HB.out.size _).grown hgrow (by have := HB.out.size; simp; omega) (fun j hj => (HR.out.lt j hj).1)
end Go.Proofs.YtlldoofclaokgaaGreat
