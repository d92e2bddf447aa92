/- Package strconv: ParseUint at base 16, 32 bits: walked (turned from XPi). Package valid: Small's text and table, in plain words. Read of package weight. Read of package weight: the walk. -/
import Derived.Test.YtnglhgogkemgbaaGreatDoorG03
import Derived.Test.YtnglhgogkemgbaaGreatDoorG05
import Derived.Test.YtnglhgogkemgbaaGreatDoorG02
import Derived.Lib.IndexAny
import Derived.Lib.OthersKept
/-! Package strconv: hexadecimal digits are read. -/
namespace Go.Proofs.YtnglhgogkemgbaaGreatDoor
open Go.RowKit
open PlainAid (bt)

/-- a letter's small form -/
def lowV (c : Int) : Int := bits .or .u8 c 32
/-- a hexadecimal digit -/
def hexOk (c : Int) : Prop := (48 ≤ c ∧ c ≤ 57) ∨ (65 ≤ c ∧ c ≤ 70) ∨ (97 ≤ c ∧ c ≤ 102)
instance (c : Int) : Decidable (hexOk c) := by unfold hexOk; infer_instance
def hexV (c : Int) : Int := if c ≤ 57 then c - 48 else if c ≤ 70 then c - 55 else c - 87
/-- the number that the first digits say -/
def hxF (d : ByteArray) : Nat → Int
  | 0 => 0
  | k + 1 => hxF d k * 16 + hexV (bt d k)
theorem low_all : (List.range 256).all (fun n => decide ((48 ≤ n ∧ n ≤ 57 → lowV (n : Int) = n) ∧ (65 ≤ n ∧ n ≤ 70 → lowV (n : Int) = n + 32) ∧ (97 ≤ n ∧ n ≤ 102 → lowV (n : Int) = n) ∧
    (¬ (65 ≤ n ∧ n ≤ 70) → ¬ (97 ≤ n ∧ n ≤ 102) → lowV (n : Int) < 97 ∨ 102 < lowV (n : Int)) ∧ 0 ≤ lowV (n : Int) ∧ lowV (n : Int) ≤ 255)) = true := by kernel_rfl
theorem low_is (c : Int) (h0 : 0 ≤ c) (h1 : c ≤ 255) : (48 ≤ c ∧ c ≤ 57 → lowV c = c) ∧ (65 ≤ c ∧ c ≤ 70 → lowV c = c + 32) ∧ (97 ≤ c ∧ c ≤ 102 → lowV c = c) ∧
    (¬ (65 ≤ c ∧ c ≤ 70) → ¬ (97 ≤ c ∧ c ≤ 102) → lowV c < 97 ∨ 102 < lowV c) ∧ 0 ≤ lowV c ∧ lowV c ≤ 255 := by
  obtain ⟨n, rfl⟩ : ∃ n : Nat, c = n := ⟨c.toNat, by omega⟩
  have h := of_decide_eq_true (List.all_eq_true.1 low_all n (by simp; omega))
  refine ⟨fun a => h.1 (by omega), fun a => h.2.1 (by omega), fun a => h.2.2.1 (by omega), fun a b => h.2.2.2.1 (by omega) (by omega), h.2.2.2.2⟩
theorem hexV_le (c : Int) (h : hexOk c) : 0 ≤ hexV c ∧ hexV c ≤ 15 := by
  unfold hexV hexOk at *
  split
  · omega
  · split <;> omega
theorem hxF_le (d : ByteArray) : ∀ (k : Nat), (∀ j, j < k → hexOk (bt d j)) → 0 ≤ hxF d k ∧ hxF d k < 16 ^ k
  | 0, _ => by simp [hxF]
  | k + 1, h => by
    have h1 := hxF_le d k (fun j hj => h j (by omega))
    have h2 := hexV_le _ (h k (by omega))
    rw [hxF, Int.pow_succ]
    omega
set_option maxRecDepth 100000 in
theorem lower_any (c : Int) (w : World) : Calls Tryz.prog 116 #[.int .u8 c] w fun x w' => x = .returned (.int .u8 (lowV c)) ∧ w = w' := by
  go_enter Tryz.func116, Tryz.ntmps116
  go_wp2
  go_ret
  exact ⟨rfl, rfl⟩
set_option maxHeartbeats 2000000 in
set_option maxRecDepth 100000 in
theorem parseUintIn_any (d : ByteArray) (h0 : 0 < d.size) (h6 : d.size ≤ 6) (hx : ∀ j, j < d.size → hexOk (bt d j)) (w : World) :
    Calls Tryz.prog 72 #[.string d, .int .i64 16, .int .i64 32] w fun e w' => e = .returned (.tuple #[.int .u64 (hxF d d.size), .nilIface]) ∧ Below w.heap.size w w' := by
  have hemp : d.toList.isEmpty = false := by
    rw [Lib.toList_data]
    cases h : d.data.toList with
    | nil => have := Lib.size_eq d; rw [h, List.length_nil] at this; omega
    | cons _ _ => rfl
  have HX := Lib.hid hx
  clear hx
  obtain ⟨cap, w1, hcv, hcell, hb1, hz1⟩ := bytes_of (P := Tryz.prog) w 9 51 5 d Tryz.underlying9 Tryz.underlying51 Tryz.underlying5
  have HC := Lib.hid hcell
  clear hcell
  have HB := Lib.hid hb1
  clear hb1
  go_enter Tryz.func72, Tryz.ntmps72
  go_wp2
  go_loopw [101, 13, 12] (fun iv nv uv wr => ∃ j : Nat, iv = .int .i64 j ∧ nv = .int .u64 (hxF d j) ∧ uv = .bool false ∧ j ≤ d.size ∧ w1 = wr) (fun iv _ _ _ => d.size - (intOf iv).toNat)
  case atStart => exact ⟨0, rfl, rfl, rfl, by omega, rfl⟩
  case round =>
    obtain ⟨j, rfl, rfl, rfl, hj, rfl⟩ := hrel
    by_cases hlt : j < d.size
    · have hlz : (j : Int) < (d.size : Int) := by omega
      have cc := HC.out j hlt
      have hok := HX.out j hlt
      have hb0 := hxF_le d j (fun k hk => HX.out k (by omega))
      have hp : (16 : Int) ^ j ≤ 16 ^ 5 := by
        have : (16 : Nat) ^ j ≤ 16 ^ 5 := Nat.pow_le_pow_right (by decide) (by omega)
        exact_mod_cast this
      have hE : Hid (hxF d (j + 1) = hxF d j * 16 + hexV (bt d j)) := rfl
      have g0 : 0 ≤ hxF d j := hb0.1
      have g1 : hxF d j ≤ 1048575 := by have := hb0.2; omega
      clear hb0 hp
      generalize hxF d j = n at *
      generalize bt d j = c at *
      have hlow := low_is c (by unfold hexOk at hok; omega) (by unfold hexOk at hok; omega)
      rcases hok with ⟨k1, k2⟩ | ⟨k1, k2⟩ | ⟨k1, k2⟩
      · have hv : Hid (hexV c = c - 48) := by show _ = _; unfold hexV; rw [if_pos (by omega)]
        clear hlow
        go_wp2_with (go_at_call 116; refine (lower_any _ _).mono ?_; rintro e w' ⟨rfl, rfl⟩)
        go_roundw
        case rel => exact ⟨j + 1, by go_num, by rw [hE.out, hv.out], by first | trivial | rfl, by omega, by first | trivial | rfl⟩
        case measure => (simp [intOf]; omega)
      · have hv : Hid (hexV c = c - 55) := by show _ = _; unfold hexV; rw [if_neg (by omega), if_pos (by omega)]
        have hl : Hid (lowV c = c + 32) := hlow.2.1 ⟨k1, k2⟩
        have l1 : 97 ≤ lowV c := by rw [hl.out]; omega
        have l2 : lowV c ≤ 102 := by rw [hl.out]; omega
        clear hlow
        go_wp2_with (go_at_call 116; refine (lower_any _ _).mono ?_; rintro e w' ⟨rfl, rfl⟩)
        go_roundw
        case rel => exact ⟨j + 1, by go_num, by rw [hE.out, hv.out, hl.out]; congr 1; omega, by first | trivial | rfl, by omega, by first | trivial | rfl⟩
        case measure => (simp [intOf]; omega)
      · have hv : Hid (hexV c = c - 87) := by show _ = _; unfold hexV; rw [if_neg (by omega), if_neg (by omega)]
        have hl : Hid (lowV c = c) := hlow.2.2.1 ⟨k1, k2⟩
        have l1 : 97 ≤ lowV c := by rw [hl.out]; omega
        have l2 : lowV c ≤ 102 := by rw [hl.out]; omega
        clear hlow
        go_wp2_with (go_at_call 116; refine (lower_any _ _).mono ?_; rintro e w' ⟨rfl, rfl⟩)
        go_roundw
        case rel => exact ⟨j + 1, by go_num, by rw [hE.out, hv.out, hl.out]; congr 1; omega, by first | trivial | rfl, by omega, by first | trivial | rfl⟩
        case measure => (simp [intOf]; omega)
    · have hlz : ¬ (j : Int) < (d.size : Int) := by omega
      obtain rfl : j = d.size := by omega
      go_wp2
      go_ret2
      exact ⟨rfl, HB.out⟩
set_option maxHeartbeats 1000000 in
set_option maxRecDepth 100000 in
theorem parseUint_any (d : ByteArray) (h0 : 0 < d.size) (h6 : d.size ≤ 6) (hx : ∀ j, j < d.size → hexOk (bt d j)) (w : World) :
    Calls Tryz.prog 36 #[.string d, .int .i64 16, .int .i64 32] w fun e w' => e = .returned (.tuple #[.int .u64 (hxF d d.size), .nilIface]) ∧ Below w.heap.size w w' := by
  have H := Lib.hid (parseUintIn_any d h0 h6 hx w)
  clear hx
  go_enter Tryz.func36, Tryz.ntmps36
  go_wp2_with fail
  refine H.out.mono ?_
  rintro e w' ⟨rfl, hb⟩
  have HB := Lib.hid hb
  clear hb
  go_wp2_with fail
  go_ret2
  exact ⟨rfl, HB.out⟩
end Go.Proofs.YtnglhgogkemgbaaGreatDoor
namespace Go.Proofs.YtnglhgogkemgbaaGreatDoor
open Go.RowKit

set_option maxRecDepth 100000 in
def smallB : ByteArray :=
  { data := (((((([10, 48, 48, 48, 48, 32, 59, 32, 91, 46, 48, 48, 48, 48, 46, 48, 48, 48, 48, 46, 48, 48, 48, 48, 93, 10, 50, 48, 48, 68, 32, 59, 32, 91, 46, 48, 48, 48, 48,
   46].append [48, 48, 48, 48, 46, 48, 48, 48, 48, 93, 10, 48, 48, 50, 48, 32, 59, 32, 91, 42, 48, 50, 48, 49, 46, 48, 48, 50, 48, 46, 48, 48, 48, 50, 93, 10, 48, 48, 53,
   70]).append ([32, 59, 32, 91, 42, 48, 50, 48, 50, 46, 48, 48, 50, 48, 46, 48, 48, 48, 50, 93, 10, 48, 48, 50, 68, 32, 59, 32, 91, 42, 48, 50, 48, 51, 46, 48, 48, 50, 48,
   46].append [48, 48, 48, 50, 93, 10, 48, 48, 50, 67, 32, 59, 32, 91, 42, 48, 50, 48, 52, 46, 48, 48, 50, 48, 46, 48, 48, 48, 50, 93, 10, 48, 48, 51, 66, 32, 59, 32, 91, 42,
   48])).append (([50, 48, 53, 46, 48, 48, 50, 48, 46, 48, 48, 48, 50, 93, 10, 48, 48, 51, 65, 32, 59, 32, 91, 42, 48, 50, 48, 54, 46, 48, 48, 50, 48, 46, 48, 48, 48, 50, 93,
   10].append [48, 48, 50, 49, 32, 59, 32, 91, 42, 48, 50, 48, 55, 46, 48, 48, 50, 48, 46, 48, 48, 48, 50, 93, 10, 48, 48, 51, 70, 32, 59, 32, 91, 42, 48, 50, 48, 56, 46,
   48]).append ([48, 50, 48, 46, 48, 48, 48, 50, 93, 10, 48, 48, 50, 69, 32, 59, 32, 91, 42, 48, 50, 48, 57, 46, 48, 48, 50, 48, 46, 48, 48, 48, 50, 93, 10, 48, 48, 50, 55,
   32].append [59, 32, 91, 42, 48, 50, 48, 65, 46, 48, 48, 50, 48, 46, 48, 48, 48, 50, 93, 10, 48, 48, 50, 50, 32, 59, 32, 91, 42, 48, 50, 48, 66, 46, 48, 48, 50, 48, 46, 48,
   48]))).append ((([48, 50, 93, 10, 48, 48, 50, 56, 32, 59, 32, 91, 42, 48, 50, 48, 67, 46, 48, 48, 50, 48, 46, 48, 48, 48, 50, 93, 10, 48, 48, 50, 57, 32, 59, 32, 91, 42, 48,
   50].append [48, 68, 46, 48, 48, 50, 48, 46, 48, 48, 48, 50, 93, 10, 48, 48, 50, 52, 32, 59, 32, 91, 46, 48, 51, 48, 49, 46, 48, 48, 50, 48, 46, 48, 48, 48, 50, 93, 10,
   48]).append ([48, 50, 66, 32, 59, 32, 91, 46, 48, 51, 48, 50, 46, 48, 48, 50, 48, 46, 48, 48, 48, 50, 93, 10, 48, 48, 51, 67, 32, 59, 32, 91, 46, 48, 51, 48, 51, 46, 48,
   48].append [50, 48, 46, 48, 48, 48, 50, 93, 10, 48, 48, 51, 68, 32, 59, 32, 91, 46, 48, 51, 48, 52, 46, 48, 48, 50, 48, 46, 48, 48, 48, 50, 93, 10, 48, 48, 51, 69, 32, 59,
   32])).append (([91, 46, 48, 51, 48, 53, 46, 48, 48, 50, 48, 46, 48, 48, 48, 50, 93, 10, 48, 48, 51, 48, 32, 59, 32, 91, 46, 48, 52, 48, 50, 46, 48, 48, 50, 48, 46, 48, 48,
   48].append [50, 93, 10, 48, 48, 51, 49, 32, 59, 32, 91, 46, 48, 52, 48, 52, 46, 48, 48, 50, 48, 46, 48, 48, 48, 50, 93, 10, 48, 48, 51, 50, 32, 59, 32, 91, 46, 48, 52, 48,
   54]).append ([46, 48, 48, 50, 48, 46, 48, 48, 48, 50, 93, 10, 48, 48, 51, 51, 32, 59, 32, 91, 46, 48, 52, 48, 56, 46, 48, 48, 50, 48, 46, 48, 48, 48, 50, 93, 10, 48, 48,
   51].append [52, 32, 59, 32, 91, 46, 48, 52, 48, 65, 46, 48, 48, 50, 48, 46, 48, 48, 48, 50, 93, 10, 48, 48, 51, 53, 32, 59, 32, 91, 46, 48, 52, 48, 67, 46, 48, 48, 50, 48,
   46])))).append (((([48, 48, 48, 50, 93, 10, 48, 48, 51, 54, 32, 59, 32, 91, 46, 48, 52, 48, 69, 46, 48, 48, 50, 48, 46, 48, 48, 48, 50, 93, 10, 48, 48, 51, 55, 32, 59, 32, 91,
   46].append [48, 52, 49, 48, 46, 48, 48, 50, 48, 46, 48, 48, 48, 50, 93, 10, 48, 48, 51, 56, 32, 59, 32, 91, 46, 48, 52, 49, 50, 46, 48, 48, 50, 48, 46, 48, 48, 48, 50,
   93]).append ([10, 48, 48, 51, 57, 32, 59, 32, 91, 46, 48, 52, 49, 52, 46, 48, 48, 50, 48, 46, 48, 48, 48, 50, 93, 10, 48, 48, 54, 49, 32, 59, 32, 91, 46, 48, 53, 49, 48,
   46].append [48, 48, 50, 48, 46, 48, 48, 48, 50, 93, 10, 48, 48, 52, 49, 32, 59, 32, 91, 46, 48, 53, 49, 48, 46, 48, 48, 50, 48, 46, 48, 48, 48, 56, 93, 10, 48, 48, 54, 50,
   32])).append (([59, 32, 91, 46, 48, 53, 50, 48, 46, 48, 48, 50, 48, 46, 48, 48, 48, 50, 93, 10, 48, 48, 52, 50, 32, 59, 32, 91, 46, 48, 53, 50, 48, 46, 48, 48, 50, 48, 46,
   48].append [48, 48, 56, 93, 10, 48, 48, 54, 51, 32, 59, 32, 91, 46, 48, 53, 51, 48, 46, 48, 48, 50, 48, 46, 48, 48, 48, 50, 93, 10, 48, 48, 52, 51, 32, 59, 32, 91, 46, 48,
   53]).append ([51, 48, 46, 48, 48, 50, 48, 46, 48, 48, 48, 56, 93, 10, 48, 48, 54, 52, 32, 59, 32, 91, 46, 48, 53, 52, 48, 46, 48, 48, 50, 48, 46, 48, 48, 48, 50, 93, 10,
   48].append [48, 52, 52, 32, 59, 32, 91, 46, 48, 53, 52, 48, 46, 48, 48, 50, 48, 46, 48, 48, 48, 56, 93, 10, 48, 48, 54, 53, 32, 59, 32, 91, 46, 48, 53, 53, 48, 46, 48, 48,
   50]))).append ((([48, 46, 48, 48, 48, 50, 93, 10, 48, 48, 52, 53, 32, 59, 32, 91, 46, 48, 53, 53, 48, 46, 48, 48, 50, 48, 46, 48, 48, 48, 56, 93, 10, 48, 48, 54, 54, 32, 59,
   32].append [91, 46, 48, 53, 54, 48, 46, 48, 48, 50, 48, 46, 48, 48, 48, 50, 93, 10, 48, 48, 52, 54, 32, 59, 32, 91, 46, 48, 53, 54, 48, 46, 48, 48, 50, 48, 46, 48, 48,
   48]).append ([56, 93, 10, 48, 48, 54, 55, 32, 59, 32, 91, 46, 48, 53, 55, 48, 46, 48, 48, 50, 48, 46, 48, 48, 48, 50, 93, 10, 48, 48, 52, 55, 32, 59, 32, 91, 46, 48, 53,
   55].append [48, 46, 48, 48, 50, 48, 46, 48, 48, 48, 56, 93, 10, 48, 48, 54, 56, 32, 59, 32, 91, 46, 48, 53, 56, 48, 46, 48, 48, 50, 48, 46, 48, 48, 48, 50, 93, 10, 48, 48,
   52])).append (([56, 32, 59, 32, 91, 46, 48, 53, 56, 48, 46, 48, 48, 50, 48, 46, 48, 48, 48, 56, 93, 10, 48, 48, 54, 57, 32, 59, 32, 91, 46, 48, 53, 57, 48, 46, 48, 48, 50,
   48].append [46, 48, 48, 48, 50, 93, 10, 48, 48, 52, 57, 32, 59, 32, 91, 46, 48, 53, 57, 48, 46, 48, 48, 50, 48, 46, 48, 48, 48, 56, 93, 10, 48, 48, 54, 65, 32, 59, 32, 91,
   46]).append ([48, 53, 65, 48, 46, 48, 48, 50, 48, 46, 48, 48, 48, 50, 93, 10, 48, 48, 52, 65, 32, 59, 32, 91, 46, 48, 53, 65, 48, 46, 48, 48, 50, 48, 46, 48, 48, 48, 56,
   93].append [10, 48, 48, 54, 66, 32, 59, 32, 91, 46, 48, 53, 66, 48, 46, 48, 48, 50, 48, 46, 48, 48, 48, 50, 93, 10, 48, 48, 52, 66, 32, 59, 32, 91, 46, 48, 53, 66, 48, 46,
   48]))))).append ((((([48, 50, 48, 46, 48, 48, 48, 56, 93, 10, 48, 48, 54, 67, 32, 59, 32, 91, 46, 48, 53, 67, 48, 46, 48, 48, 50, 48, 46, 48, 48, 48, 50, 93, 10, 48, 48, 52, 67,
   32].append [59, 32, 91, 46, 48, 53, 67, 48, 46, 48, 48, 50, 48, 46, 48, 48, 48, 56, 93, 10, 48, 48, 54, 68, 32, 59, 32, 91, 46, 48, 53, 68, 48, 46, 48, 48, 50, 48, 46,
   48]).append ([48, 48, 50, 93, 10, 48, 48, 52, 68, 32, 59, 32, 91, 46, 48, 53, 68, 48, 46, 48, 48, 50, 48, 46, 48, 48, 48, 56, 93, 10, 48, 48, 54, 69, 32, 59, 32, 91, 46,
   48].append [53, 69, 48, 46, 48, 48, 50, 48, 46, 48, 48, 48, 50, 93, 10, 48, 48, 52, 69, 32, 59, 32, 91, 46, 48, 53, 69, 48, 46, 48, 48, 50, 48, 46, 48, 48, 48, 56, 93, 10,
   48])).append (([48, 54, 70, 32, 59, 32, 91, 46, 48, 53, 70, 48, 46, 48, 48, 50, 48, 46, 48, 48, 48, 50, 93, 10, 48, 48, 52, 70, 32, 59, 32, 91, 46, 48, 53, 70, 48, 46, 48,
   48].append [50, 48, 46, 48, 48, 48, 56, 93, 10, 48, 48, 55, 48, 32, 59, 32, 91, 46, 48, 54, 48, 48, 46, 48, 48, 50, 48, 46, 48, 48, 48, 50, 93, 10, 48, 48, 53, 48, 32,
   59]).append ([32, 91, 46, 48, 54, 48, 48, 46, 48, 48, 50, 48, 46, 48, 48, 48, 56, 93, 10, 48, 48, 55, 49, 32, 59, 32, 91, 46, 48, 54, 49, 48, 46, 48, 48, 50, 48, 46, 48,
   48].append [48, 50, 93, 10, 48, 48, 53, 49, 32, 59, 32, 91, 46, 48, 54, 49, 48, 46, 48, 48, 50, 48, 46, 48, 48, 48, 56, 93, 10, 48, 48, 55, 50, 32, 59, 32, 91, 46, 48, 54,
   50]))).append ((([48, 46, 48, 48, 50, 48, 46, 48, 48, 48, 50, 93, 10, 48, 48, 53, 50, 32, 59, 32, 91, 46, 48, 54, 50, 48, 46, 48, 48, 50, 48, 46, 48, 48, 48, 56, 93, 10, 48,
   48].append [55, 51, 32, 59, 32, 91, 46, 48, 54, 51, 48, 46, 48, 48, 50, 48, 46, 48, 48, 48, 50, 93, 10, 48, 48, 53, 51, 32, 59, 32, 91, 46, 48, 54, 51, 48, 46, 48, 48,
   50]).append ([48, 46, 48, 48, 48, 56, 93, 10, 48, 48, 55, 52, 32, 59, 32, 91, 46, 48, 54, 52, 48, 46, 48, 48, 50, 48, 46, 48, 48, 48, 50, 93, 10, 48, 48, 53, 52, 32, 59,
   32].append [91, 46, 48, 54, 52, 48, 46, 48, 48, 50, 48, 46, 48, 48, 48, 56, 93, 10, 48, 48, 55, 53, 32, 59, 32, 91, 46, 48, 54, 53, 48, 46, 48, 48, 50, 48, 46, 48, 48, 48,
   50])).append (([93, 10, 48, 48, 53, 53, 32, 59, 32, 91, 46, 48, 54, 53, 48, 46, 48, 48, 50, 48, 46, 48, 48, 48, 56, 93, 10, 48, 48, 55, 54, 32, 59, 32, 91, 46, 48, 54, 54,
   48].append [46, 48, 48, 50, 48, 46, 48, 48, 48, 50, 93, 10, 48, 48, 53, 54, 32, 59, 32, 91, 46, 48, 54, 54, 48, 46, 48, 48, 50, 48, 46, 48, 48, 48, 56, 93, 10, 48, 48, 55,
   55]).append ([32, 59, 32, 91, 46, 48, 54, 55, 48, 46, 48, 48, 50, 48, 46, 48, 48, 48, 50, 93, 10, 48, 48, 53, 55, 32, 59, 32, 91, 46, 48, 54, 55, 48, 46, 48, 48, 50, 48,
   46].append [48, 48, 48, 56, 93, 10, 48, 48, 55, 56, 32, 59, 32, 91, 46, 48, 54, 56, 48, 46, 48, 48, 50, 48, 46, 48, 48, 48, 50, 93, 10, 48, 48, 53, 56, 32, 59, 32, 91, 46,
   48])))).append (((([54, 56, 48, 46, 48, 48, 50, 48, 46, 48, 48, 48, 56, 93, 10, 48, 48, 55, 57, 32, 59, 32, 91, 46, 48, 54, 57, 48, 46, 48, 48, 50, 48, 46, 48, 48, 48, 50, 93,
   10].append [48, 48, 53, 57, 32, 59, 32, 91, 46, 48, 54, 57, 48, 46, 48, 48, 50, 48, 46, 48, 48, 48, 56, 93, 10, 48, 48, 55, 65, 32, 59, 32, 91, 46, 48, 54, 65, 48, 46,
   48]).append ([48, 50, 48, 46, 48, 48, 48, 50, 93, 10, 48, 48, 53, 65, 32, 59, 32, 91, 46, 48, 54, 65, 48, 46, 48, 48, 50, 48, 46, 48, 48, 48, 56, 93, 10, 48, 51, 48, 48,
   32].append [59, 32, 91, 46, 48, 48, 48, 48, 46, 48, 48, 50, 53, 46, 48, 48, 48, 50, 93, 10, 48, 51, 48, 49, 32, 59, 32, 91, 46, 48, 48, 48, 48, 46, 48, 48, 50, 52, 46, 48,
   48])).append (([48, 50, 93, 10, 48, 51, 48, 50, 32, 59, 32, 91, 46, 48, 48, 48, 48, 46, 48, 48, 50, 55, 46, 48, 48, 48, 50, 93, 10, 48, 51, 48, 51, 32, 59, 32, 91, 46, 48,
   48].append [48, 48, 46, 48, 48, 50, 68, 46, 48, 48, 48, 50, 93, 10, 48, 51, 48, 52, 32, 59, 32, 91, 46, 48, 48, 48, 48, 46, 48, 48, 51, 50, 46, 48, 48, 48, 50, 93, 10, 48,
   51]).append ([48, 55, 32, 59, 32, 91, 46, 48, 48, 48, 48, 46, 48, 48, 50, 69, 46, 48, 48, 48, 50, 93, 10, 48, 51, 48, 56, 32, 59, 32, 91, 46, 48, 48, 48, 48, 46, 48, 48,
   50].append [66, 46, 48, 48, 48, 50, 93, 10, 48, 51, 50, 51, 32, 59, 32, 91, 46, 48, 48, 48, 48, 46, 48, 48, 52, 50, 46, 48, 48, 48, 50, 93, 10, 48, 51, 50, 55, 32, 59, 32,
   91]))).append ((([46, 48, 48, 48, 48, 46, 48, 48, 51, 48, 46, 48, 48, 48, 50, 93, 10, 48, 51, 50, 56, 32, 59, 32, 91, 46, 48, 48, 48, 48, 46, 48, 48, 51, 49, 46, 48, 48, 48,
   50].append [93, 10, 48, 51, 51, 56, 32, 59, 32, 91, 46, 48, 48, 48, 48, 46, 48, 48, 50, 70, 46, 48, 48, 48, 50, 93, 10, 48, 51, 52, 53, 32, 59, 32, 91, 46, 48, 48, 48,
   48]).append ([46, 48, 48, 51, 52, 46, 48, 48, 48, 50, 93, 10, 48, 51, 48, 65, 32, 59, 32, 91, 46, 48, 48, 48, 48, 46, 48, 48, 50, 57, 46, 48, 48, 48, 50, 93, 10, 48, 48,
   69].append [54, 32, 59, 32, 91, 46, 48, 53, 49, 48, 46, 48, 48, 50, 48, 46, 48, 48, 48, 52, 93, 91, 46, 48, 48, 48, 48, 46, 48, 49, 49, 48, 46, 48, 48, 48, 52, 93, 91, 46,
   48])).append (([53, 53, 48, 46, 48, 48, 50, 48, 46, 48, 48, 48, 52, 93, 10, 48, 48, 68, 70, 32, 59, 32, 91, 46, 48, 54, 51, 48, 46, 48, 48, 50, 48, 46, 48, 48, 48, 52, 93,
   91].append [46, 48, 54, 51, 48, 46, 48, 48, 50, 48, 46, 48, 48, 49, 70, 93, 10, 48, 51, 66, 49, 32, 59, 32, 91, 46, 48, 56, 48, 49, 46, 48, 48, 50, 48, 46, 48, 48, 48, 50,
   93]).append ([10, 48, 51, 65, 57, 32, 59, 32, 91, 46, 48, 56, 49, 56, 46, 48, 48, 50, 48, 46, 48, 48, 48, 56, 93, 10, 48, 51, 67, 57, 32, 59, 32, 91, 46, 48, 56, 49, 56,
   46].append [48, 48, 50, 48, 46, 48, 48, 48, 50, 93, 10, 48, 51, 66, 49, 32, 48, 51, 48, 49, 32, 59, 32, 91, 46, 48, 56, 48, 50, 46, 48, 48, 50, 48, 46, 48, 48, 48, 50, 93,
   10])))))).toArray }
open PlainAid (bt)
/-- a text's elements, one behind the other, those of level 0 left out -/
def elsS : Nat → Bs → List El
  | 0, _ => []
  | n + 1, l => if l = [] then [] else (if 0 < lvS (mkB l) then [elS (mkB l)] else []) ++ elsS n (l.drop 17)
def okElsS : Nat → Bs → Bool
  | 0, l => decide (l = [])
  | n + 1, l => decide (l = []) || (goodB (mkB l) && decide (chkS (mkB l) = 0) && okElsS n (l.drop 17))
def hexS (f : Bs) : Int := hxF (mkB f) (mkB f).size
def okHexS (f : Bs) : Bool := decide (1 ≤ f.length) && decide (f.length ≤ 6) && (List.range f.length).all fun j => decide (hexOk (bt (mkB f) j))
def sepS : Bs := [32, 59, 32]
def cutL (l : Bs) : Bs × Bs × Bool := Lib.cut (Lib.trimSpace l) sepS
/-- a line's entry -/
def lineEnt (l : Bs) : Option Ent := if (cutL l).2.2 = true then some ((Lib.fields (cutL l).1).map hexS, elsS 8 (cutL l).2.1) else none
def okLine (l : Bs) : Bool := decide (l.length ≤ 1000) && decide (l.getLast? = some 10) && l.dropLast.all (fun b => b != 10) && l.all (fun b => decide (b.toNat < 128)) &&
  (!(cutL l).2.2 || (decide ((Lib.fields (cutL l).1).length ≤ 8) && (Lib.fields (cutL l).1).all okHexS && okElsS 8 (cutL l).2.1))
/-- lines, each with its end -/
def linesN : Bs → List Bs
  | [] => []
  | b :: t => if b = 10 then [10] :: linesN t else match linesN t with
    | [] => [[b]]
    | p :: ps => (b :: p) :: ps
theorem linesN_flat : ∀ l : Bs, (linesN l).flatten = l
  | [] => rfl
  | b :: t => by
    have ih := linesN_flat t
    rw [linesN]
    split
    · rename_i h; rw [List.flatten_cons, ih, h]; rfl
    · split
      · rename_i h; rw [h] at ih; simp at ih; simp [← ih]
      · rename_i p ps h; rw [h] at ih; rw [List.flatten_cons] at ih ⊢; rw [List.cons_append, ih]
def smallL : List Bs := linesN smallB.data.toList
def smallE : List Ent := smallL.filterMap lineEnt
set_option maxRecDepth 1000000 in
theorem smallL_ok : smallL.all okLine = true := by decide +kernel
theorem smallL_len : smallL.length ≤ 200 ∧ smallB.size ≤ 10000 := by decide +kernel
end Go.Proofs.YtnglhgogkemgbaaGreatDoor
/-! Read of package weight. -/
namespace Go.Proofs.YtnglhgogkemgbaaGreatDoor
open Go.RowKit
open PlainAid (bt)

def formS : ByteArray := ⟨#[91, 46, 80, 80, 80, 80, 46, 83, 83, 83, 83, 46, 84, 84, 84, 84, 93]⟩
/-- what stands in the element behind k letters -/
def pAt (s : ByteArray) (k : Nat) : Int := acc s 2 (min (k - 2) 4)
def sAt (s : ByteArray) (k : Nat) : Int := acc s 7 (min (k - 7) 4)
def tAt (s : ByteArray) (k : Nat) : Int := acc s 12 (min (k - 12) 4)
def vAt (s : ByteArray) (k : Nat) : Bool := decide (2 ≤ k) && starB s
/-- whether letter i is as it must be -/
def okAt (s : ByteArray) (i : Nat) : Bool :=
  if i = 0 then decide (bt s 0 = 91) else if i = 1 then decide (bt s 1 = 46) || decide (bt s 1 = 42)
  else if i = 6 then decide (bt s 6 = 46) else if i = 11 then decide (bt s 11 = 46) else if i = 16 then decide (bt s 16 = 93) else hvB (bt s i)
theorem okAt_good (s : ByteArray) (h : 17 ≤ s.size) : goodB s = true ↔ ∀ i, i < 17 → okAt s i = true := by
  constructor
  · intro hg i hi
    simp only [goodB, headB, digB, accB, Bool.and_eq_true] at hg
    obtain ⟨⟨_, ⟨⟨⟨h0, h1⟩, h6⟩, h11⟩, h16⟩, ⟨d2, d7⟩, d12⟩ := hg
    rw [List.all_eq_true] at d2 d7 d12
    have e2 := fun k (hk : k < 4) => d2 k (List.mem_range.2 hk)
    have e7 := fun k (hk : k < 4) => d7 k (List.mem_range.2 hk)
    have e12 := fun k (hk : k < 4) => d12 k (List.mem_range.2 hk)
    unfold okAt
    by_cases a0 : i = 0
    · rw [if_pos a0]; exact h0
    rw [if_neg a0]
    by_cases a1 : i = 1
    · rw [if_pos a1]; exact h1
    rw [if_neg a1]
    by_cases a6 : i = 6
    · rw [if_pos a6]; exact h6
    rw [if_neg a6]
    by_cases a11 : i = 11
    · rw [if_pos a11]; exact h11
    rw [if_neg a11]
    by_cases a16 : i = 16
    · rw [if_pos a16]; exact h16
    rw [if_neg a16]
    by_cases b : i < 6
    · have := e2 (i - 2) (by omega); rwa [show 2 + (i - 2) = i from by omega] at this
    · by_cases c : i < 11
      · have := e7 (i - 7) (by omega); rwa [show 7 + (i - 7) = i from by omega] at this
      · have := e12 (i - 12) (by omega); rwa [show 12 + (i - 12) = i from by omega] at this
  · intro hk
    have g : ∀ a n, (∀ i, i < n → hvB (bt s (a + i)) = true) → accB s a n = true := fun a n hh => by
      unfold accB; rw [List.all_eq_true]; intro x hx; exact hh x (List.mem_range.1 hx)
    have d : ∀ i, i < 17 → i ≠ 0 → i ≠ 1 → i ≠ 6 → i ≠ 11 → i ≠ 16 → hvB (bt s i) = true := fun i hi a b c d e => by
      have := hk i hi; unfold okAt at this; rwa [if_neg a, if_neg b, if_neg c, if_neg d, if_neg e] at this
    have h0 := hk 0 (by omega)
    have h1 := hk 1 (by omega)
    have h6 := hk 6 (by omega)
    have h11 := hk 11 (by omega)
    have h16 := hk 16 (by omega)
    simp only [goodB, headB, digB, Bool.and_eq_true]
    refine ⟨⟨decide_eq_true h, ⟨⟨⟨h0, h1⟩, h6⟩, h11⟩, h16⟩, ⟨g 2 4 fun i hi => ?_, g 7 4 fun i hi => ?_⟩, g 12 4 fun i hi => ?_⟩
    all_goals exact d _ (by omega) (by omega) (by omega) (by omega) (by omega) (by omega)
theorem okAt_bad (s : ByteArray) (i : Nat) (hi : i < 17) (h : okAt s i = false) : goodB s = false := by
  by_cases hl : 17 ≤ s.size
  · cases hg : goodB s
    · rfl
    · have := (okAt_good s hl).1 hg i hi; rw [h] at this; cases this
  · unfold goodB; rw [decide_eq_false hl]; rfl
theorem pAt_step (s : ByteArray) (k : Nat) (h0 : 2 ≤ k) (h1 : k < 6) : pAt s (k + 1) = 16 * pAt s k + hv (bt s k) := by
  unfold pAt; rw [show min (k + 1 - 2) 4 = min (k - 2) 4 + 1 from by omega]; simp only [acc]; rw [show 2 + min (k - 2) 4 = k from by omega]
theorem pAt_same (s : ByteArray) (k : Nat) (h : k < 2 ∨ 6 ≤ k) : pAt s (k + 1) = pAt s k := by
  unfold pAt; rw [show min (k + 1 - 2) 4 = min (k - 2) 4 from by omega]
theorem sAt_step (s : ByteArray) (k : Nat) (h0 : 7 ≤ k) (h1 : k < 11) : sAt s (k + 1) = 16 * sAt s k + hv (bt s k) := by
  unfold sAt; rw [show min (k + 1 - 7) 4 = min (k - 7) 4 + 1 from by omega]; simp only [acc]; rw [show 7 + min (k - 7) 4 = k from by omega]
theorem sAt_same (s : ByteArray) (k : Nat) (h : k < 7 ∨ 11 ≤ k) : sAt s (k + 1) = sAt s k := by
  unfold sAt; rw [show min (k + 1 - 7) 4 = min (k - 7) 4 from by omega]
theorem tAt_step (s : ByteArray) (k : Nat) (h0 : 12 ≤ k) (h1 : k < 16) : tAt s (k + 1) = 16 * tAt s k + hv (bt s k) := by
  unfold tAt; rw [show min (k + 1 - 12) 4 = min (k - 12) 4 + 1 from by omega]; simp only [acc]; rw [show 12 + min (k - 12) 4 = k from by omega]
theorem tAt_same (s : ByteArray) (k : Nat) (h : k < 12 ∨ 16 ≤ k) : tAt s (k + 1) = tAt s k := by
  unfold tAt; rw [show min (k + 1 - 12) 4 = min (k - 12) 4 from by omega]
theorem pow_bd (n : Nat) (h : n ≤ 4) : (16 : Int) ^ n ≤ 65536 := by
  have : n = 0 ∨ n = 1 ∨ n = 2 ∨ n = 3 ∨ n = 4 := by omega
  rcases this with rfl | rfl | rfl | rfl | rfl <;> decide
theorem acc_bd4 (s : ByteArray) (a n : Nat) (h : n ≤ 4) : 0 ≤ acc s a n ∧ acc s a n < 65536 := by
  have := acc_bd s a n; have := pow_bd n h; omega
end Go.Proofs.YtnglhgogkemgbaaGreatDoor
/-! Read of package weight: the walk. -/
namespace Go.Proofs.YtnglhgogkemgbaaGreatDoor
open Go.RowKit
open PlainAid (bt)

/-- what the loop's world holds: the iterator stands at k, the element is that behind j letters -/
structure RdWk (s : ByteArray) (w : World) (k j : Nat) (wr : World) : Prop where
  below : Below w.heap.size w wr
  size : w.heap.size + 2 < wr.heap.size
  iter : wr.heap[w.heap.size + 2]? = some (.stringIter formS k)
  r0 : wr.cell? ⟨w.heap.size, 0, none⟩ = some (.int .i64 0)
  r1 : wr.cell? ⟨w.heap.size, 1, none⟩ = some (.int .i64 0)
  r2 : wr.cell? ⟨w.heap.size, 2, none⟩ = some (.int .i64 0)
  r3 : wr.cell? ⟨w.heap.size, 3, none⟩ = some (.bool false)
  f0 : ∀ o, wr.frozen? ⟨w.heap.size, o, none⟩ = false
  e0 : wr.cell? ⟨w.heap.size + 1, 0, none⟩ = some (.int .i64 (pAt s j))
  e1 : wr.cell? ⟨w.heap.size + 1, 1, none⟩ = some (.int .i64 (sAt s j))
  e2 : wr.cell? ⟨w.heap.size + 1, 2, none⟩ = some (.int .i64 (tAt s j))
  e3 : wr.cell? ⟨w.heap.size + 1, 3, none⟩ = some (.bool (vAt s j))
  f1 : ∀ o, wr.frozen? ⟨w.heap.size + 1, o, none⟩ = false

theorem cell_of_heap {w w' : World} {b o : Nat} (h : w'.heap[b]? = w.heap[b]?) : w'.cell? ⟨b, o, none⟩ = w.cell? ⟨b, o, none⟩ := World.cell?_of_block (w := w) (w' := w') (a := ⟨b, o, none⟩) h
theorem frozen_of_heap {w w' : World} {b o : Nat} (h : w'.heap[b]? = w.heap[b]?) : w'.frozen? ⟨b, o, none⟩ = w.frozen? ⟨b, o, none⟩ := World.frozen?_of_block (w := w) (w' := w') (a := ⟨b, o, none⟩) h
theorem RdWk.next {s : ByteArray} {w wr : World} {k j : Nat} (h : RdWk s w k j wr) (p : Nat) : RdWk s w p j (wr.iterAt (w.heap.size + 2) formS p) := by
  have o0 := Lib.iterAt_other wr (w.heap.size + 2) w.heap.size formS p (by omega)
  have o1 := Lib.iterAt_other wr (w.heap.size + 2) (w.heap.size + 1) formS p (by omega)
  exact ⟨Lib.below_iterAt h.below (by omega) _ _, by rw [Lib.iterAt_size]; exact h.size, Lib.iterAt_heap _ _ _ _ _ h.iter,
    by rw [cell_of_heap o0]; exact h.r0, by rw [cell_of_heap o0]; exact h.r1, by rw [cell_of_heap o0]; exact h.r2, by rw [cell_of_heap o0]; exact h.r3, fun o => by rw [frozen_of_heap o0]; exact h.f0 o,
    by rw [cell_of_heap o1]; exact h.e0, by rw [cell_of_heap o1]; exact h.e1, by rw [cell_of_heap o1]; exact h.e2, by rw [cell_of_heap o1]; exact h.e3, fun o => by rw [frozen_of_heap o1]; exact h.f1 o⟩
theorem RdWk.up {s : ByteArray} {w wr w' : World} {k j : Nat} (h : RdWk s w k j wr) (hb : Below wr.heap.size wr w') : RdWk s w k j w' := by
  have hs := h.size
  have o0 := hb.block w.heap.size (by omega)
  have o1 := hb.block (w.heap.size + 1) (by omega)
  exact ⟨h.below.trans (hb.mono (by omega)), by have := hb.size; omega, by rw [hb.block _ hs]; exact h.iter,
    by rw [cell_of_heap o0]; exact h.r0, by rw [cell_of_heap o0]; exact h.r1, by rw [cell_of_heap o0]; exact h.r2, by rw [cell_of_heap o0]; exact h.r3, fun o => by rw [frozen_of_heap o0]; exact h.f0 o,
    by rw [cell_of_heap o1]; exact h.e0, by rw [cell_of_heap o1]; exact h.e1, by rw [cell_of_heap o1]; exact h.e2, by rw [cell_of_heap o1]; exact h.e3, fun o => by rw [frozen_of_heap o1]; exact h.f1 o⟩
theorem RdWk.same {s : ByteArray} {w wr : World} {k j i : Nat} (h : RdWk s w k j wr) (hp : pAt s i = pAt s j) (hs : sAt s i = sAt s j) (ht : tAt s i = tAt s j) (hv : vAt s i = vAt s j) : RdWk s w k i wr :=
  ⟨h.below, h.size, h.iter, h.r0, h.r1, h.r2, h.r3, h.f0, by rw [hp]; exact h.e0, by rw [hs]; exact h.e1, by rw [ht]; exact h.e2, by rw [hv]; exact h.e3, h.f1⟩
theorem RdWk.set {s : ByteArray} {w wr : World} {k j i o : Nat} (h : RdWk s w k j wr) (v : Value) (ho : o < 4)
    (hp : (if o = 0 then v else .int .i64 (pAt s j)) = .int .i64 (pAt s i)) (hs : (if o = 1 then v else .int .i64 (sAt s j)) = .int .i64 (sAt s i)) (ht : (if o = 2 then v else .int .i64 (tAt s j)) = .int .i64 (tAt s i)) (hv : (if o = 3 then v else .bool (vAt s j)) = .bool (vAt s i)) :
    RdWk s w k i (wr.setCell ⟨w.heap.size + 1, o, none⟩ v) := by
  have c : ∀ (q : Nat) (u x : Value), wr.cell? ⟨w.heap.size + 1, q, none⟩ = some u → (if o = q then v else u) = x → (wr.setCell ⟨w.heap.size + 1, o, none⟩ v).cell? ⟨w.heap.size + 1, q, none⟩ = some x := fun q u x hq hx => by
    by_cases e : o = q
    · subst e; rw [World.cell?_setCell_same _ _ _ hq, ← hx, if_pos rfl]
    · rw [World.cell?_setCell_other _ _ _ _ (by simp <;> omega), hq, ← hx, if_neg e]
  have d : ∀ (b q : Nat), b ≠ w.heap.size + 1 → (wr.setCell ⟨w.heap.size + 1, o, none⟩ v).cell? ⟨b, q, none⟩ = wr.cell? ⟨b, q, none⟩ := fun b q hq => World.cell?_setCell_other _ _ _ _ (by simp <;> omega)
  exact ⟨h.below.setCell (by simp) _, by rw [World.size_setCell]; exact h.size, by rw [Below.heap_setCell _ _ _ _ (by simp)]; exact h.iter,
    by rw [d _ _ (by omega)]; exact h.r0, by rw [d _ _ (by omega)]; exact h.r1, by rw [d _ _ (by omega)]; exact h.r2, by rw [d _ _ (by omega)]; exact h.r3, fun q => by rw [World.frozen?_setCell]; exact h.f0 q,
    c 0 _ _ h.e0 hp, c 1 _ _ h.e1 hs, c 2 _ _ h.e2 ht, c 3 _ _ h.e3 hv, fun q => by rw [World.frozen?_setCell]; exact h.f1 q⟩
def RdRel (s : ByteArray) (w : World) (k : Nat) (wr : World) : Prop := (∀ i, i < k → okAt s i = true) ∧ RdWk s w k k wr
theorem RdWk.begin (s : ByteArray) (w : World) (e : TypeId) : RdWk s w 0 0 (((w.alloc (.cells #[.int .i64 0, .int .i64 0, .int .i64 0, .bool false] e)).alloc (.cells #[.int .i64 0, .int .i64 0, .int .i64 0, .bool false] e)).iter formS 0) := by
  have hi := World.iter_heap ((w.alloc (.cells #[.int .i64 0, .int .i64 0, .int .i64 0, .bool false] e)).alloc (.cells #[.int .i64 0, .int .i64 0, .int .i64 0, .bool false] e)) formS 0
  simp only [World.size_alloc] at hi
  refine ⟨by unfold World.iter; (repeat' (first | (with_reducible exact Below.refl _ _) | (with_reducible assumption) | (with_reducible refine Below.alloc ?_ ?_ _) | (with_reducible refine Below.drew ?_) | (with_reducible refine below_drewN ?_ _) | (with_reducible refine Below.setCell ?_ ?_ _) | (with_reducible refine Below.trans ?_ (Below.mono (by assumption) ?_)) | go_size)), by unfold World.iter; simp, hi, ?_, ?_, ?_, ?_, ?_, ?_, ?_, ?_, ?_, ?_⟩
  all_goals unfold World.iter
  all_goals first | (intro o; simp [go_sem]; done) | (simp [go_sem]; done) | (simp [go_sem, pAt, sAt, tAt, acc, vAt]; done)
end Go.Proofs.YtnglhgogkemgbaaGreatDoor
