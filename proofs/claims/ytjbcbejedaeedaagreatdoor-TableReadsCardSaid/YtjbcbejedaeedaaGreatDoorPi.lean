/- Package strconv: ParseInt at base 16 (the same as in XGe, for seats without package tailor). -/
import Derived.Test.YtjbcbejedaeedaaGreatDoorGa
import Derived.Lib.IndexAny
/-! Package strconv: hexadecimal digits are read. -/
namespace Go.Proofs.YtjbcbejedaeedaaGreatDoor
open Go.RowKit
open PlainAid (bt)

theorem bt_list (s : ByteArray) (k : Nat) (h : k < s.size) : (s.data.toList.drop k)[0]? = some (UInt8.ofNat (bt s k).toNat) := by
  have hl : k < s.data.toList.length := by simpa using h
  rw [List.getElem?_drop, Nat.add_zero, List.getElem?_eq_getElem hl]
  unfold bt
  rw [dif_pos h]
  simp
  rfl
theorem drop_bt (s : ByteArray) (i : Nat) (hi : i < s.size) : s.data.toList.drop i = UInt8.ofNat (bt s i).toNat :: s.data.toList.drop (i + 1) := by
  have h0 := bt_list s i hi
  have hl : i < s.data.toList.length := by simpa using hi
  rw [List.drop_eq_getElem_cons hl]
  rw [List.getElem?_drop, Nat.add_zero, List.getElem?_eq_getElem hl] at h0
  rw [Option.some.inj h0]
theorem byte_eq (c : UInt8) (x : Int) (h0 : 0 ≤ x) (h1 : x ≤ 255) : (c == UInt8.ofNat x.toNat) = decide (x = (c.toNat : Int)) := by
  obtain ⟨n, rfl⟩ : ∃ n : Nat, x = n := ⟨x.toNat, by omega⟩
  have hm : n % 2 ^ 8 = n := Nat.mod_eq_of_lt (by omega)
  rw [Int.toNat_natCast]
  by_cases hc : (n : Int) = (c.toNat : Int)
  · rw [decide_eq_true hc]
    have h2 : n = c.toNat := by omega
    rw [h2]
    simp
  · rw [decide_eq_false hc]
    apply beq_eq_false_iff_ne.2
    intro e
    apply hc
    rw [e, UInt8.toNat_ofNat', hm]

/-- a letter's small form -/
def lowV (c : Int) : Int := bits .or .u8 c 32
/-- a hexadecimal digit -/
def hexOk (c : Int) : Prop := (48 ≤ c ∧ c ≤ 57) ∨ (65 ≤ c ∧ c ≤ 70) ∨ (97 ≤ c ∧ c ≤ 102)
instance (c : Int) : Decidable (hexOk c) := by unfold hexOk; infer_instance
def hexV (c : Int) : Int := if c ≤ 57 then c - 48 else if c ≤ 70 then c - 55 else c - 87
/-- the number that the first digits say -/
def hxF (d : ByteArray) : Nat → Int
  | 0 => 0
  | k + 1 => hxF d k * 16 + hexV (bt d k)
theorem low_all : (List.range 256).all (fun n => decide ((48 ≤ n ∧ n ≤ 57 → lowV (n : Int) = n) ∧ (65 ≤ n ∧ n ≤ 70 → lowV (n : Int) = n + 32) ∧ (97 ≤ n ∧ n ≤ 102 → lowV (n : Int) = n) ∧
    (¬ (65 ≤ n ∧ n ≤ 70) → ¬ (97 ≤ n ∧ n ≤ 102) → lowV (n : Int) < 97 ∨ 102 < lowV (n : Int)) ∧ 0 ≤ lowV (n : Int) ∧ lowV (n : Int) ≤ 255)) = true := by kernel_rfl
theorem low_is (c : Int) (h0 : 0 ≤ c) (h1 : c ≤ 255) : (48 ≤ c ∧ c ≤ 57 → lowV c = c) ∧ (65 ≤ c ∧ c ≤ 70 → lowV c = c + 32) ∧ (97 ≤ c ∧ c ≤ 102 → lowV c = c) ∧
    (¬ (65 ≤ c ∧ c ≤ 70) → ¬ (97 ≤ c ∧ c ≤ 102) → lowV c < 97 ∨ 102 < lowV c) ∧ 0 ≤ lowV c ∧ lowV c ≤ 255 := by
  obtain ⟨n, rfl⟩ : ∃ n : Nat, c = n := ⟨c.toNat, by omega⟩
  have h := of_decide_eq_true (List.all_eq_true.1 low_all n (by simp; omega))
  refine ⟨fun a => h.1 (by omega), fun a => h.2.1 (by omega), fun a => h.2.2.1 (by omega), fun a b => h.2.2.2.1 (by omega) (by omega), h.2.2.2.2⟩
theorem hexV_le (c : Int) (h : hexOk c) : 0 ≤ hexV c ∧ hexV c ≤ 15 := by
  unfold hexV hexOk at *
  split
  · omega
  · split <;> omega
theorem hxF_le (d : ByteArray) : ∀ (k : Nat), (∀ j, j < k → hexOk (bt d j)) → 0 ≤ hxF d k ∧ hxF d k < 16 ^ k
  | 0, _ => by simp [hxF]
  | k + 1, h => by
    have h1 := hxF_le d k (fun j hj => h j (by omega))
    have h2 := hexV_le _ (h k (by omega))
    rw [hxF, Int.pow_succ]
    omega
set_option maxRecDepth 100000 in
theorem lower_any (c : Int) (w : World) : Calls Tryz.prog 181 #[.int .u8 c] w fun x w' => x = .returned (.int .u8 (lowV c)) ∧ w = w' := by
  go_enter Tryz.func181, Tryz.ntmps181
  go_wp2
  go_ret
  exact ⟨rfl, rfl⟩
set_option maxHeartbeats 2000000 in
set_option maxRecDepth 100000 in
theorem parseUintIn_any (d : ByteArray) (h0 : 0 < d.size) (h6 : d.size ≤ 6) (hx : ∀ j, j < d.size → hexOk (bt d j)) (w : World) :
    Calls Tryz.prog 176 #[.string d, .int .i64 16, .int .i64 64] w fun e w' => e = .returned (.tuple #[.int .u64 (hxF d d.size), .nilIface]) ∧ Below w.heap.size w w' := by
  have hemp : d.toList.isEmpty = false := by
    rw [Lib.toList_data]
    cases h : d.data.toList with
    | nil => have := Lib.size_eq d; rw [h, List.length_nil] at this; omega
    | cons _ _ => rfl
  have HX := Lib.hid hx
  clear hx
  have hw64 : IntKind.u64.wrap (IntKind.u64.wrap 18446744073709551616 - 1) = 18446744073709551615 := by kernel_rfl
  obtain ⟨cap, w1, hcv, hcell, hb1, hz1⟩ := bytes_of (P := Tryz.prog) w 9 85 5 d Tryz.underlying9 Tryz.underlying85 Tryz.underlying5
  have HC := Lib.hid hcell
  clear hcell
  have HB := Lib.hid hb1
  clear hb1
  go_enter Tryz.func176, Tryz.ntmps176
  go_wp2
  go_loopw [101, 13, 12] (fun iv nv uv wr => ∃ j : Nat, iv = .int .i64 j ∧ nv = .int .u64 (hxF d j) ∧ uv = .bool false ∧ j ≤ d.size ∧ w1 = wr) (fun iv _ _ _ => d.size - (intOf iv).toNat)
  case atStart => exact ⟨0, rfl, rfl, rfl, by omega, rfl⟩
  case round =>
    obtain ⟨j, rfl, rfl, rfl, hj, rfl⟩ := hrel
    by_cases hlt : j < d.size
    · have hlz : (j : Int) < (d.size : Int) := by omega
      have cc := HC.out j hlt
      have hok := HX.out j hlt
      have hb0 := hxF_le d j (fun k hk => HX.out k (by omega))
      have hp : (16 : Int) ^ j ≤ 16 ^ 5 := by
        have : (16 : Nat) ^ j ≤ 16 ^ 5 := Nat.pow_le_pow_right (by decide) (by omega)
        exact_mod_cast this
      have hE : Hid (hxF d (j + 1) = hxF d j * 16 + hexV (bt d j)) := rfl
      have g0 : 0 ≤ hxF d j := hb0.1
      have g1 : hxF d j ≤ 1048575 := by have := hb0.2; omega
      clear hb0 hp
      generalize hxF d j = n at *
      generalize bt d j = c at *
      have hlow := low_is c (by unfold hexOk at hok; omega) (by unfold hexOk at hok; omega)
      rcases hok with ⟨k1, k2⟩ | ⟨k1, k2⟩ | ⟨k1, k2⟩
      · have hv : Hid (hexV c = c - 48) := by show _ = _; unfold hexV; rw [if_pos (by omega)]
        clear hlow
        go_wp2_with (go_at_call 181; refine (lower_any _ _).mono ?_; rintro e w' ⟨rfl, rfl⟩)
        go_roundw
        case rel => exact ⟨j + 1, by go_num, by rw [hE.out, hv.out], by first | trivial | rfl, by omega, by first | trivial | rfl⟩
        case measure => (simp [intOf]; omega)
      · have hv : Hid (hexV c = c - 55) := by show _ = _; unfold hexV; rw [if_neg (by omega), if_pos (by omega)]
        have hl : Hid (lowV c = c + 32) := hlow.2.1 ⟨k1, k2⟩
        have l1 : 97 ≤ lowV c := by rw [hl.out]; omega
        have l2 : lowV c ≤ 102 := by rw [hl.out]; omega
        clear hlow
        go_wp2_with (go_at_call 181; refine (lower_any _ _).mono ?_; rintro e w' ⟨rfl, rfl⟩)
        go_roundw
        case rel => exact ⟨j + 1, by go_num, by rw [hE.out, hv.out, hl.out]; congr 1; omega, by first | trivial | rfl, by omega, by first | trivial | rfl⟩
        case measure => (simp [intOf]; omega)
      · have hv : Hid (hexV c = c - 87) := by show _ = _; unfold hexV; rw [if_neg (by omega), if_neg (by omega)]
        have hl : Hid (lowV c = c) := hlow.2.2.1 ⟨k1, k2⟩
        have l1 : 97 ≤ lowV c := by rw [hl.out]; omega
        have l2 : lowV c ≤ 102 := by rw [hl.out]; omega
        clear hlow
        go_wp2_with (go_at_call 181; refine (lower_any _ _).mono ?_; rintro e w' ⟨rfl, rfl⟩)
        go_roundw
        case rel => exact ⟨j + 1, by go_num, by rw [hE.out, hv.out, hl.out]; congr 1; omega, by first | trivial | rfl, by omega, by first | trivial | rfl⟩
        case measure => (simp [intOf]; omega)
    · have hlz : ¬ (j : Int) < (d.size : Int) := by omega
      obtain rfl : j = d.size := by omega
      go_wp2
      go_ret2
      exact ⟨rfl, HB.out⟩
set_option maxHeartbeats 2000000 in
set_option maxRecDepth 100000 in
theorem parseIntIn_any (d : ByteArray) (h0 : 0 < d.size) (h6 : d.size ≤ 6) (hx : ∀ j, j < d.size → hexOk (bt d j)) (w : World) :
    Calls Tryz.prog 169 #[.string d, .int .i64 16, .int .i64 64] w fun e w' => e = .returned (.tuple #[.int .i64 (hxF d d.size), .nilIface]) ∧ Below w.heap.size w w' := by
  have hemp : d.toList.isEmpty = false := by
    rw [Lib.toList_data]
    cases h : d.data.toList with
    | nil => have := Lib.size_eq d; rw [h, List.length_nil] at this; omega
    | cons _ _ => rfl
  have hbt := PlainAid.get_bt d
  have hok := hx 0 h0
  have hb0 := hxF_le d d.size hx
  have hp : (16 : Int) ^ d.size ≤ 16 ^ 6 := by
    have : (16 : Nat) ^ d.size ≤ 16 ^ 6 := Nat.pow_le_pow_right (by decide) h6
    exact_mod_cast this
  have g0 : 0 ≤ hxF d d.size := hb0.1
  have g1 : hxF d d.size ≤ 16777215 := by have := hb0.2; omega
  have hc := parseUintIn_any d h0 h6 hx
  clear hb0 hp hx
  generalize hxF d d.size = n at *
  have n1 : ¬ bt d 0 = 43 := by unfold hexOk at hok; omega
  have n2 : ¬ bt d 0 = 45 := by unfold hexOk at hok; omega
  clear hok
  have hw64 : IntKind.u64.wrap 9223372036854775808 = 9223372036854775808 := by kernel_rfl
  go_enter Tryz.func169, Tryz.ntmps169
  go_wp2_with (go_at_call 176; refine (hc _).mono ?_; rintro e w' ⟨rfl, hb⟩)
  go_ret2
  exact ⟨rfl, hb⟩
set_option maxRecDepth 100000 in
theorem parseInt_any (d : ByteArray) (h0 : 0 < d.size) (h6 : d.size ≤ 6) (hx : ∀ j, j < d.size → hexOk (bt d j)) (w : World) :
    Calls Tryz.prog 155 #[.string d, .int .i64 16, .int .i64 64] w fun e w' => ∃ m, e = .returned (.tuple #[.int .i64 (hxF d d.size), m]) ∧ Below w.heap.size w w' := by
  have hc := parseIntIn_any d h0 h6 hx
  go_enter Tryz.func155, Tryz.ntmps155
  go_wp2_with (go_at_call 169; refine (hc _).mono ?_; rintro e w' ⟨rfl, hb⟩)
  go_ret2
  exact ⟨_, rfl, hb⟩
end Go.Proofs.YtjbcbejedaeedaaGreatDoor
