/- Package strconv: hexadecimal digits are read. Package tailor: an escape is read. The parser in plain words: where the forms of a text stand, what stands in quotes, texts, rules; no program in sight. -/
import Derived.Test.YtchjjfjjcdjjcaaGreatDoorGa
import Derived.Test.YtchjjfjjcdjjcaaGreatDoorGb
import Derived.Test.YtchjjfjjcdjjcaaGreatDoorVa
import Derived.Lib.IndexAny
/-! Package strconv: hexadecimal digits are read. -/
namespace Go.Proofs.YtchjjfjjcdjjcaaGreatDoor
open Go.RowKit
open PlainAid (bt)

/-- a letter's small form -/
def lowV (c : Int) : Int := bits .or .u8 c 32
/-- a hexadecimal digit -/
def hexOk (c : Int) : Prop := (48 ≤ c ∧ c ≤ 57) ∨ (65 ≤ c ∧ c ≤ 70) ∨ (97 ≤ c ∧ c ≤ 102)
instance (c : Int) : Decidable (hexOk c) := by unfold hexOk; infer_instance
def hexV (c : Int) : Int := if c ≤ 57 then c - 48 else if c ≤ 70 then c - 55 else c - 87
/-- the number that the first digits say -/
def hxF (d : ByteArray) : Nat → Int
  | 0 => 0
  | k + 1 => hxF d k * 16 + hexV (bt d k)
theorem low_all : (List.range 256).all (fun n => decide ((48 ≤ n ∧ n ≤ 57 → lowV (n : Int) = n) ∧ (65 ≤ n ∧ n ≤ 70 → lowV (n : Int) = n + 32) ∧ (97 ≤ n ∧ n ≤ 102 → lowV (n : Int) = n) ∧
    (¬ (65 ≤ n ∧ n ≤ 70) → ¬ (97 ≤ n ∧ n ≤ 102) → lowV (n : Int) < 97 ∨ 102 < lowV (n : Int)) ∧ 0 ≤ lowV (n : Int) ∧ lowV (n : Int) ≤ 255)) = true := by kernel_rfl
theorem low_is (c : Int) (h0 : 0 ≤ c) (h1 : c ≤ 255) : (48 ≤ c ∧ c ≤ 57 → lowV c = c) ∧ (65 ≤ c ∧ c ≤ 70 → lowV c = c + 32) ∧ (97 ≤ c ∧ c ≤ 102 → lowV c = c) ∧
    (¬ (65 ≤ c ∧ c ≤ 70) → ¬ (97 ≤ c ∧ c ≤ 102) → lowV c < 97 ∨ 102 < lowV c) ∧ 0 ≤ lowV c ∧ lowV c ≤ 255 := by
  obtain ⟨n, rfl⟩ : ∃ n : Nat, c = n := ⟨c.toNat, by omega⟩
  have h := of_decide_eq_true (List.all_eq_true.1 low_all n (by simp; omega))
  refine ⟨fun a => h.1 (by omega), fun a => h.2.1 (by omega), fun a => h.2.2.1 (by omega), fun a b => h.2.2.2.1 (by omega) (by omega), h.2.2.2.2⟩
theorem hexV_le (c : Int) (h : hexOk c) : 0 ≤ hexV c ∧ hexV c ≤ 15 := by
  unfold hexV hexOk at *
  split
  · omega
  · split <;> omega
theorem hxF_le (d : ByteArray) : ∀ (k : Nat), (∀ j, j < k → hexOk (bt d j)) → 0 ≤ hxF d k ∧ hxF d k < 16 ^ k
  | 0, _ => by simp [hxF]
  | k + 1, h => by
    have h1 := hxF_le d k (fun j hj => h j (by omega))
    have h2 := hexV_le _ (h k (by omega))
    rw [hxF, Int.pow_succ]
    omega
set_option maxRecDepth 100000 in
theorem lower_any (c : Int) (w : World) : Calls Tryz.prog 107 #[.int .u8 c] w fun x w' => x = .returned (.int .u8 (lowV c)) ∧ w = w' := by
  go_enter Tryz.func107, Tryz.ntmps107
  go_wp2
  go_ret
  exact ⟨rfl, rfl⟩
set_option maxHeartbeats 2000000 in
set_option maxRecDepth 100000 in
theorem parseUintIn_any (d : ByteArray) (h0 : 0 < d.size) (h6 : d.size ≤ 6) (hx : ∀ j, j < d.size → hexOk (bt d j)) (w : World) :
    Calls Tryz.prog 102 #[.string d, .int .i64 16, .int .i64 64] w fun e w' => e = .returned (.tuple #[.int .u64 (hxF d d.size), .nilIface]) ∧ Below w.heap.size w w' := by
  have hemp : d.toList.isEmpty = false := by
    rw [Lib.toList_data]
    cases h : d.data.toList with
    | nil => have := Lib.size_eq d; rw [h, List.length_nil] at this; omega
    | cons _ _ => rfl
  have HX := Lib.hid hx
  clear hx
  have hw64 : IntKind.u64.wrap (IntKind.u64.wrap 18446744073709551616 - 1) = 18446744073709551615 := by kernel_rfl
  obtain ⟨cap, w1, hcv, hcell, hb1, hz1⟩ := bytes_of (P := Tryz.prog) w 9 54 5 d Tryz.underlying9 Tryz.underlying54 Tryz.underlying5
  have HC := Lib.hid hcell
  clear hcell
  have HB := Lib.hid hb1
  clear hb1
  go_enter Tryz.func102, Tryz.ntmps102
  go_wp2
  go_loopw [101, 13, 12] (fun iv nv uv wr => ∃ j : Nat, iv = .int .i64 j ∧ nv = .int .u64 (hxF d j) ∧ uv = .bool false ∧ j ≤ d.size ∧ w1 = wr) (fun iv _ _ _ => d.size - (intOf iv).toNat)
  case atStart => exact ⟨0, rfl, rfl, rfl, by omega, rfl⟩
  case round =>
    obtain ⟨j, rfl, rfl, rfl, hj, rfl⟩ := hrel
    by_cases hlt : j < d.size
    · have hlz : (j : Int) < (d.size : Int) := by omega
      have cc := HC.out j hlt
      have hok := HX.out j hlt
      have hb0 := hxF_le d j (fun k hk => HX.out k (by omega))
      have hp : (16 : Int) ^ j ≤ 16 ^ 5 := by
        have : (16 : Nat) ^ j ≤ 16 ^ 5 := Nat.pow_le_pow_right (by decide) (by omega)
        exact_mod_cast this
      have hE : Hid (hxF d (j + 1) = hxF d j * 16 + hexV (bt d j)) := rfl
      have g0 : 0 ≤ hxF d j := hb0.1
      have g1 : hxF d j ≤ 1048575 := by have := hb0.2; omega
      clear hb0 hp
      generalize hxF d j = n at *
      generalize bt d j = c at *
      have hlow := low_is c (by unfold hexOk at hok; omega) (by unfold hexOk at hok; omega)
      rcases hok with ⟨k1, k2⟩ | ⟨k1, k2⟩ | ⟨k1, k2⟩
      · have hv : Hid (hexV c = c - 48) := by show _ = _; unfold hexV; rw [if_pos (by omega)]
        clear hlow
        go_wp2_with (go_at_call 107; refine (lower_any _ _).mono ?_; rintro e w' ⟨rfl, rfl⟩)
        go_roundw
        case rel => exact ⟨j + 1, by go_num, by rw [hE.out, hv.out], by first | trivial | rfl, by omega, by first | trivial | rfl⟩
        case measure => (simp [intOf]; omega)
      · have hv : Hid (hexV c = c - 55) := by show _ = _; unfold hexV; rw [if_neg (by omega), if_pos (by omega)]
        have hl : Hid (lowV c = c + 32) := hlow.2.1 ⟨k1, k2⟩
        have l1 : 97 ≤ lowV c := by rw [hl.out]; omega
        have l2 : lowV c ≤ 102 := by rw [hl.out]; omega
        clear hlow
        go_wp2_with (go_at_call 107; refine (lower_any _ _).mono ?_; rintro e w' ⟨rfl, rfl⟩)
        go_roundw
        case rel => exact ⟨j + 1, by go_num, by rw [hE.out, hv.out, hl.out]; congr 1; omega, by first | trivial | rfl, by omega, by first | trivial | rfl⟩
        case measure => (simp [intOf]; omega)
      · have hv : Hid (hexV c = c - 87) := by show _ = _; unfold hexV; rw [if_neg (by omega), if_neg (by omega)]
        have hl : Hid (lowV c = c) := hlow.2.2.1 ⟨k1, k2⟩
        have l1 : 97 ≤ lowV c := by rw [hl.out]; omega
        have l2 : lowV c ≤ 102 := by rw [hl.out]; omega
        clear hlow
        go_wp2_with (go_at_call 107; refine (lower_any _ _).mono ?_; rintro e w' ⟨rfl, rfl⟩)
        go_roundw
        case rel => exact ⟨j + 1, by go_num, by rw [hE.out, hv.out, hl.out]; congr 1; omega, by first | trivial | rfl, by omega, by first | trivial | rfl⟩
        case measure => (simp [intOf]; omega)
    · have hlz : ¬ (j : Int) < (d.size : Int) := by omega
      obtain rfl : j = d.size := by omega
      go_wp2
      go_ret2
      exact ⟨rfl, HB.out⟩
set_option maxHeartbeats 2000000 in
set_option maxRecDepth 100000 in
theorem parseIntIn_any (d : ByteArray) (h0 : 0 < d.size) (h6 : d.size ≤ 6) (hx : ∀ j, j < d.size → hexOk (bt d j)) (w : World) :
    Calls Tryz.prog 99 #[.string d, .int .i64 16, .int .i64 64] w fun e w' => e = .returned (.tuple #[.int .i64 (hxF d d.size), .nilIface]) ∧ Below w.heap.size w w' := by
  have hemp : d.toList.isEmpty = false := by
    rw [Lib.toList_data]
    cases h : d.data.toList with
    | nil => have := Lib.size_eq d; rw [h, List.length_nil] at this; omega
    | cons _ _ => rfl
  have hbt := PlainAid.get_bt d
  have hok := hx 0 h0
  have hb0 := hxF_le d d.size hx
  have hp : (16 : Int) ^ d.size ≤ 16 ^ 6 := by
    have : (16 : Nat) ^ d.size ≤ 16 ^ 6 := Nat.pow_le_pow_right (by decide) h6
    exact_mod_cast this
  have g0 : 0 ≤ hxF d d.size := hb0.1
  have g1 : hxF d d.size ≤ 16777215 := by have := hb0.2; omega
  have hc := parseUintIn_any d h0 h6 hx
  clear hb0 hp hx
  generalize hxF d d.size = n at *
  have n1 : ¬ bt d 0 = 43 := by unfold hexOk at hok; omega
  have n2 : ¬ bt d 0 = 45 := by unfold hexOk at hok; omega
  clear hok
  have hw64 : IntKind.u64.wrap 9223372036854775808 = 9223372036854775808 := by kernel_rfl
  go_enter Tryz.func99, Tryz.ntmps99
  go_wp2_with (go_at_call 102; refine (hc _).mono ?_; rintro e w' ⟨rfl, hb⟩)
  go_ret2
  exact ⟨rfl, hb⟩
set_option maxRecDepth 100000 in
theorem parseInt_any (d : ByteArray) (h0 : 0 < d.size) (h6 : d.size ≤ 6) (hx : ∀ j, j < d.size → hexOk (bt d j)) (w : World) :
    Calls Tryz.prog 90 #[.string d, .int .i64 16, .int .i64 64] w fun e w' => ∃ m, e = .returned (.tuple #[.int .i64 (hxF d d.size), m]) ∧ Below w.heap.size w w' := by
  have hc := parseIntIn_any d h0 h6 hx
  go_enter Tryz.func90, Tryz.ntmps90
  go_wp2_with (go_at_call 99; refine (hc _).mono ?_; rintro e w' ⟨rfl, hb⟩)
  go_ret2
  exact ⟨_, rfl, hb⟩
end Go.Proofs.YtchjjfjjcdjjcaaGreatDoor
/-! Package tailor: an escape is read. -/
namespace Go.Proofs.YtchjjfjjcdjjcaaGreatDoor
open Go.RowKit
open PlainAid (bt)

/-- how many digits an escape has -/
def escN (s : ByteArray) (i : Nat) : Nat := if i + 1 < s.size ∧ bt s (i + 1) = 117 then 4 else if i + 1 < s.size ∧ bt s (i + 1) = 85 then 6 else 0
/-- the number that digits from a place on say -/
def hxG (s : ByteArray) (a : Nat) : Nat → Int
  | 0 => 0
  | k + 1 => hxG s a k * 16 + hexV (bt s (a + k))
/-- are so many bytes digits? -/
def hexAll (s : ByteArray) (a n : Nat) : Bool := (List.range n).all (fun k => decide (hexOk (bt s (a + k))))
/-- an escape's number and length -/
def escT (s : ByteArray) (i : Nat) : Option (Int × Nat) :=
  if 0 < escN s i ∧ i + 2 + escN s i ≤ s.size ∧ hexAll s (i + 2) (escN s i) = true ∧ sc (hxG s (i + 2) (escN s i)) = true then some (hxG s (i + 2) (escN s i), 2 + escN s i) else none
theorem hxF_extract (s : ByteArray) (a b : Nat) (hb : b ≤ s.size) : ∀ (k : Nat), a + k ≤ b → hxF (s.extract a b) k = hxG s a k
  | 0, _ => rfl
  | k + 1, h => by rw [hxF, hxG, hxF_extract s a b hb k (by omega), bt_extract s a b k hb (by omega)]
theorem hexAll_iff (s : ByteArray) (a n : Nat) : hexAll s a n = true ↔ ∀ k, k < n → hexOk (bt s (a + k)) := by
  unfold hexAll
  rw [List.all_eq_true]
  constructor
  · intro h k hk
    exact of_decide_eq_true (h k (List.mem_range.2 hk))
  · intro h k hk
    exact decide_eq_true (h k (List.mem_range.1 hk))
theorem pre2 (a b x y : UInt8) (l : List UInt8) : Lib.hasPrefix (x :: y :: l) [a, b] = (a == x && b == y) := by
  simp [Lib.hasPrefix, List.isPrefixOf]
theorem pre1 (a b x : UInt8) : Lib.hasPrefix [x] [a, b] = false := by
  simp [Lib.hasPrefix, List.isPrefixOf]
theorem drop_bt (s : ByteArray) (i : Nat) (hi : i < s.size) : s.data.toList.drop i = UInt8.ofNat (bt s i).toNat :: s.data.toList.drop (i + 1) := by
  have h0 := bt_list s i hi
  have hl : i < s.data.toList.length := by simpa using hi
  rw [List.drop_eq_getElem_cons hl]
  rw [List.getElem?_drop, Nat.add_zero, List.getElem?_eq_getElem hl] at h0
  rw [Option.some.inj h0]
theorem byte_eq (c : UInt8) (x : Int) (h0 : 0 ≤ x) (h1 : x ≤ 255) : (c == UInt8.ofNat x.toNat) = decide (x = (c.toNat : Int)) := by
  obtain ⟨n, rfl⟩ : ∃ n : Nat, x = n := ⟨x.toNat, by omega⟩
  have hm : n % 2 ^ 8 = n := Nat.mod_eq_of_lt (by omega)
  rw [Int.toNat_natCast]
  by_cases hc : (n : Int) = (c.toNat : Int)
  · rw [decide_eq_true hc]
    have h2 : n = c.toNat := by omega
    rw [h2]
    simp
  · rw [decide_eq_false hc]
    apply beq_eq_false_iff_ne.2
    intro e
    apply hc
    rw [e, UInt8.toNat_ofNat', hm]
theorem prefix_two (s : ByteArray) (i : Nat) (c : UInt8) (hi : i < s.size) (h : bt s i = 92) :
    Lib.hasPrefix (s.extract i s.size).data.toList [92, c] = decide (i + 1 < s.size ∧ bt s (i + 1) = (c.toNat : Int)) := by
  rw [Lib.extract_to_end, drop_bt s i hi, h]
  by_cases h1 : i + 1 < s.size
  · rw [drop_bt s (i + 1) h1, pre2, byte_eq c _ (PlainAid.bt_nonneg s _) (PlainAid.bt_le s _)]
    have : ((92 : UInt8) == UInt8.ofNat (92 : Int).toNat) = true := by decide
    rw [this, Bool.true_and]
    simp only [h1, true_and]
  · rw [List.drop_eq_nil_of_le (by simp; omega), pre1, decide_eq_false (fun h => h1 h.1)]
set_option maxHeartbeats 4000000 in
set_option maxRecDepth 100000 in
theorem escape_4 (s : ByteArray) (pb i : Nat) (lv : Value) (w : World) (h : PsAt w pb s i lv) (hi : i < s.size) (hs : s.size ≤ 1000000) (h92 : bt s i = 92) (hn : escN s i = 4) :
    Calls Tryz.prog 77 #[.pointer (some ⟨pb, 0, none⟩)] w fun e w' => Only (fun k => k = pb) w w' ∧
      ((∃ x m, escT s i = some (x, m) ∧ e = .returned (.int .i32 x) ∧ PsAt w' pb s (i + m) lv) ∨ (escT s i = none ∧ e = .panicked (chainT i 100))) := by
  have hu := prefix_two s i 117 hi h92
  have hU := prefix_two s i 85 hi h92
  have HET : Hid (escT s i = if 0 < escN s i ∧ i + 2 + escN s i ≤ s.size ∧ hexAll s (i + 2) (escN s i) = true ∧ sc (hxG s (i + 2) (escN s i)) = true then some (hxG s (i + 2) (escN s i), 2 + escN s i) else none) := rfl
  rw [hn] at HET
  obtain ⟨c0, c1, c2, cf, hpl⟩ := h.cells
  have f1 := cf 1
  have HP := Lib.hid h
  clear h cf h92
  have hy : i + 1 < s.size ∧ bt s (i + 1) = 117 := by
    unfold escN at hn
    by_cases hy : i + 1 < s.size ∧ bt s (i + 1) = 117
    · exact hy
    · rw [if_neg hy] at hn; split at hn <;> omega
  rw [decide_eq_true (by exact_mod_cast hy)] at hu
  clear hU hy
  clear hn
  by_cases hlen : i + 2 + 4 ≤ s.size
  · have hlz : (2 : Int) + 4 ≤ (s.size : Int) - (i : Int) := by omega
    have hlz2 : (6 : Int) ≤ (s.size : Int) - (i : Int) := by omega
    obtain ⟨a, ha⟩ : ∃ a, a = i + 2 := ⟨_, rfl⟩
    obtain ⟨b, hb⟩ : ∃ b, b = a + 4 := ⟨_, rfl⟩
    have a1 : (i : Int) + 2 = (a : Int) := by omega
    have a2 : (a : Int) + 4 = (b : Int) := by omega
    have hbs : b ≤ s.size := by omega
    have hab : a ≤ b := by omega
    have HA := Lib.hid ha
    have HBB := Lib.hid hb
    rw [← ha] at HET
    have hds : (s.extract a b).size = 4 := by rw [size_extract' s a b hbs hab]; omega
    clear ha hb
    have hbd : ∀ k, k < 4 → bt (s.extract a b) k = bt s (a + k) := fun k hk => bt_extract s a b k hbs (by have := HBB.out; omega)
    have hxe : hxF (s.extract a b) 4 = hxG s a 4 := hxF_extract s a b hbs 4 (by have := HBB.out; omega)
    go_enter Tryz.func77, Tryz.ntmps77
    go_wp2_with (first | (go_at_call 89; refine (hasPrefix_any _ _ _).mono ?_; rintro e w' ⟨rfl, rfl⟩; rw [hu]) | (go_at_call 57; refine (must_ok _ _ _).mono ?_; rintro e w' ⟨rfl, rfl⟩))
    clear a1 a2
    generalize s.extract a b = d at *
    have HBD := Lib.hid hbd
    have HXE := Lib.hid hxe
    clear hbd hxe
    have hbt := PlainAid.get_bt d
    go_loopw [58] (fun iv wr => ∃ j : Nat, iv = .int .i64 j ∧ j ≤ 4 ∧ (∀ k, k < j → hexOk (bt d k)) ∧ w = wr) (fun iv _ => 4 - (intOf iv).toNat)
    case atStart => exact ⟨0, rfl, by omega, fun k hk => absurd hk (by omega), rfl⟩
    case round =>
      obtain ⟨j, rfl, hj, hx, rfl⟩ := hrel
      have HX := Lib.hid hx
      clear hx
      by_cases hlt : j < 4
      · have hjd : j < d.size := by omega
        have hjz : (j : Int) < 4 := by omega
        obtain ⟨c, hc⟩ : ∃ c, bt d j = c := ⟨_, rfl⟩
        have HC := Lib.hid hc
        have b0 := PlainAid.bt_nonneg d j
        have b1 := PlainAid.bt_le d j
        rw [hc] at b0 b1
        have hlow := low_is c b0 b1
        unfold lowV at hlow
        by_cases hok : hexOk c
        · have HOK := Lib.hid hok
          have hmk : ∀ k, k < j + 1 → hexOk (bt d k) := fun k hk => by
            rcases Nat.lt_succ_iff_lt_or_eq.1 hk with hk | rfl
            · exact HX.out k hk
            · rw [HC.out]; exact HOK.out
          have HMK := Lib.hid hmk
          clear hmk
          rcases hok with ⟨k1, k2⟩ | ⟨k1, k2⟩ | ⟨k1, k2⟩
          · clear hlow
            go_wp2_with (go_at_call 57; refine (must_ok _ _ _).mono ?_; rintro e w' ⟨rfl, rfl⟩)
            go_roundw
            case rel => exact ⟨j + 1, by go_num, by omega, HMK.out, by first | trivial | rfl⟩
            case measure => (simp [intOf]; omega)
          · have hl := hlow.2.1 ⟨k1, k2⟩
            have l1 : 97 ≤ bits .or .u8 c 32 := by omega
            have l2 : bits .or .u8 c 32 ≤ 102 := by omega
            have k3 : ¬ c ≤ 57 := by omega
            clear hlow hl
            generalize hbo : bits .or .u8 c 32 = lc at *
            go_wp2_with (go_at_call 57; refine (must_ok _ _ _).mono ?_; rintro e w' ⟨rfl, rfl⟩)
            go_roundw
            case rel => exact ⟨j + 1, by go_num, by omega, HMK.out, by first | trivial | rfl⟩
            case measure => (simp [intOf]; omega)
          · have hl := hlow.2.2.1 ⟨k1, k2⟩
            have l1 : 97 ≤ bits .or .u8 c 32 := by omega
            have l2 : bits .or .u8 c 32 ≤ 102 := by omega
            have k3 : ¬ c ≤ 57 := by omega
            clear hlow hl
            generalize hbo : bits .or .u8 c 32 = lc at *
            go_wp2_with (go_at_call 57; refine (must_ok _ _ _).mono ?_; rintro e w' ⟨rfl, rfl⟩)
            go_roundw
            case rel => exact ⟨j + 1, by go_num, by omega, HMK.out, by first | trivial | rfl⟩
            case measure => (simp [intOf]; omega)
        · have hnone : escT s i = none := by
            rw [HET.out, if_neg]
            rintro ⟨_, _, ha, _⟩
            apply hok
            have := (hexAll_iff s a 4).1 ha j hlt
            rw [← HBD.out j hlt, HC.out] at this
            exact this
          have HN := Lib.hid hnone
          clear hnone
          have q1 : ¬ (48 ≤ c ∧ c ≤ 57) := fun h => hok (.inl h)
          have q2 := hlow.2.2.2.1 (fun h => hok (.inr (.inl h))) (fun h => hok (.inr (.inr h)))
          have d1 : (decide (48 ≤ c) && decide (c ≤ 57)) = false := by simp; omega
          have d2 : (decide (97 ≤ bits .or .u8 c 32) && decide (bits .or .u8 c 32 ≤ 102)) = false := by simp; omega
          have HD1 := Lib.hid d1
          have HD2 := Lib.hid d2
          clear hlow d1 d2
          generalize hbo : bits .or .u8 c 32 = lc at *
          by_cases r1 : 48 ≤ c
          · have r2 : ¬ c ≤ 57 := by omega
            by_cases r3 : 97 ≤ lc
            · have r4 : ¬ lc ≤ 102 := by omega
              clear q1 q2 hok
              go_wp2_with (go_at_call 57; refine (must_no _ _ _).mono ?_; rintro e w' ⟨rfl, rfl⟩)
              exact ⟨rfl, Only.refl _ _, .inr ⟨HN.out, rfl⟩⟩
            · clear q1 q2 hok
              go_wp2_with (go_at_call 57; refine (must_no _ _ _).mono ?_; rintro e w' ⟨rfl, rfl⟩)
              exact ⟨rfl, Only.refl _ _, .inr ⟨HN.out, rfl⟩⟩
          · by_cases r3 : 97 ≤ lc
            · have r4 : ¬ lc ≤ 102 := by omega
              clear q1 q2 hok
              go_wp2_with (go_at_call 57; refine (must_no _ _ _).mono ?_; rintro e w' ⟨rfl, rfl⟩)
              exact ⟨rfl, Only.refl _ _, .inr ⟨HN.out, rfl⟩⟩
            · clear q1 q2 hok
              go_wp2_with (go_at_call 57; refine (must_no _ _ _).mono ?_; rintro e w' ⟨rfl, rfl⟩)
              exact ⟨rfl, Only.refl _ _, .inr ⟨HN.out, rfl⟩⟩
      · obtain rfl : j = 4 := by omega
        have hall : hexAll s a 4 = true := (hexAll_iff s a 4).2 (fun k hk => by rw [← HBD.out k hk]; exact HX.out k hk)
        have hg := hxF_le d 4 HX.out
        have hc := parseInt_any d (by omega) (by omega) (by rw [hds]; exact HX.out)
        rw [hds, HXE.out] at hc
        rw [HXE.out] at hg
        rw [hall] at HET
        obtain ⟨g0, g1⟩ := hg
        generalize hxG s a 4 = x at *
        have g2 : x ≤ 16777215 := by omega
        clear hall g1 hj hlt
        cases hsc : sc x with
        | true =>
          rw [hsc] at HET
          have HES : Hid (escT s i = some (x, 2 + 4)) := by
            show _ = _; rw [HET.out, if_pos ⟨by omega, by have := HA.out; omega, rfl, rfl⟩]
          have HKP : Hid (∀ V : World, Below w.heap.size w V → V.cell? ⟨pb, 1, none⟩ = some (.int .i64 (i : Nat)) ∧ V.frozen? ⟨pb, 1, none⟩ = false) := fun V hV => ⟨(hV.cell (p := ⟨pb, 1, none⟩) hpl).trans c1, (hV.frozen (p := ⟨pb, 1, none⟩) hpl).trans f1⟩
          go_wp2_with (first | (go_at_call 90; refine (hc _).mono ?_; rintro e w5 ⟨m, rfl, hb5⟩; obtain ⟨v1, v2⟩ := HKP.out w5 hb5) | (go_at_call 39; refine (scalar_any _ _).mono ?_; rintro e w' ⟨rfl, rfl⟩; rw [hsc]) | (go_at_call 57; refine (must_ok _ _ _).mono ?_; rintro e w' ⟨rfl, rfl⟩))
          go_ret
          refine ⟨((Only.refl (fun k => k = pb) w).below hb5).setCell rfl _, .inl ⟨_, _, HES.out, rfl, ?_⟩⟩
          rw [show (i : Int) + 6 = ((i + (2 + 4) : Nat) : Int) from by omega]
          exact (HP.out.below hb5).go _
        | false =>
          rw [hsc] at HET
          have HES : Hid (escT s i = none) := by
            show _ = _; rw [HET.out, if_neg (by simp)]
          go_wp2_with (first | (go_at_call 90; refine (hc _).mono ?_; rintro e w5 ⟨m, rfl, hb5⟩) | (go_at_call 39; refine (scalar_any _ _).mono ?_; rintro e w' ⟨rfl, rfl⟩; rw [hsc]) | (go_at_call 57; refine (must_no _ _ _).mono ?_; rintro e w' ⟨rfl, rfl⟩))
          exact ⟨rfl, (Only.refl _ w).below hb5, .inr ⟨HES.out, rfl⟩⟩
  · have HES : Hid (escT s i = none) := by
      show _ = _; rw [HET.out, if_neg (by omega)]
    obtain ⟨q, hq⟩ : ∃ q : Int, (s.size : Int) - (i : Int) = q := ⟨_, rfl⟩
    have hq1 : q < 6 := by omega
    have hd : decide ((6 : Int) ≤ q) = false := decide_eq_false (by omega)
    clear hlen HET
    go_enter Tryz.func77, Tryz.ntmps77
    go_wp2_with (first | (go_at_call 89; refine (hasPrefix_any _ _ _).mono ?_; rintro e w' ⟨rfl, rfl⟩; rw [hu]) | (go_at_call 57; refine (must_no _ _ _).mono ?_; rintro e w' ⟨rfl, rfl⟩))
    exact ⟨rfl, Only.refl _ _, .inr ⟨HES.out, rfl⟩⟩
set_option maxHeartbeats 4000000 in
set_option maxRecDepth 100000 in
theorem escape_6 (s : ByteArray) (pb i : Nat) (lv : Value) (w : World) (h : PsAt w pb s i lv) (hi : i < s.size) (hs : s.size ≤ 1000000) (h92 : bt s i = 92) (hn : escN s i = 6) :
    Calls Tryz.prog 77 #[.pointer (some ⟨pb, 0, none⟩)] w fun e w' => Only (fun k => k = pb) w w' ∧
      ((∃ x m, escT s i = some (x, m) ∧ e = .returned (.int .i32 x) ∧ PsAt w' pb s (i + m) lv) ∨ (escT s i = none ∧ e = .panicked (chainT i 100))) := by
  have hu := prefix_two s i 117 hi h92
  have hU := prefix_two s i 85 hi h92
  have HET : Hid (escT s i = if 0 < escN s i ∧ i + 2 + escN s i ≤ s.size ∧ hexAll s (i + 2) (escN s i) = true ∧ sc (hxG s (i + 2) (escN s i)) = true then some (hxG s (i + 2) (escN s i), 2 + escN s i) else none) := rfl
  rw [hn] at HET
  obtain ⟨c0, c1, c2, cf, hpl⟩ := h.cells
  have f1 := cf 1
  have HP := Lib.hid h
  clear h cf h92
  have hy : i + 1 < s.size ∧ bt s (i + 1) = 85 := by
    unfold escN at hn
    by_cases hy : i + 1 < s.size ∧ bt s (i + 1) = 117
    · rw [if_pos hy] at hn; omega
    · rw [if_neg hy] at hn
      by_cases hz : i + 1 < s.size ∧ bt s (i + 1) = 85
      · exact hz
      · rw [if_neg hz] at hn; omega
  rw [decide_eq_true (by exact_mod_cast hy)] at hU
  rw [decide_eq_false (by rintro ⟨_, h2⟩; rw [hy.2] at h2; revert h2; decide)] at hu
  clear hy
  clear hn
  by_cases hlen : i + 2 + 6 ≤ s.size
  · have hlz : (2 : Int) + 6 ≤ (s.size : Int) - (i : Int) := by omega
    have hlz2 : (8 : Int) ≤ (s.size : Int) - (i : Int) := by omega
    obtain ⟨a, ha⟩ : ∃ a, a = i + 2 := ⟨_, rfl⟩
    obtain ⟨b, hb⟩ : ∃ b, b = a + 6 := ⟨_, rfl⟩
    have a1 : (i : Int) + 2 = (a : Int) := by omega
    have a2 : (a : Int) + 6 = (b : Int) := by omega
    have hbs : b ≤ s.size := by omega
    have hab : a ≤ b := by omega
    have HA := Lib.hid ha
    have HBB := Lib.hid hb
    rw [← ha] at HET
    have hds : (s.extract a b).size = 6 := by rw [size_extract' s a b hbs hab]; omega
    clear ha hb
    have hbd : ∀ k, k < 6 → bt (s.extract a b) k = bt s (a + k) := fun k hk => bt_extract s a b k hbs (by have := HBB.out; omega)
    have hxe : hxF (s.extract a b) 6 = hxG s a 6 := hxF_extract s a b hbs 6 (by have := HBB.out; omega)
    go_enter Tryz.func77, Tryz.ntmps77
    go_wp2_with (first | (go_at_call 89; refine (hasPrefix_any _ _ _).mono ?_; rintro e w' ⟨rfl, rfl⟩; first | rw [hu] | rw [hU]) | (go_at_call 57; refine (must_ok _ _ _).mono ?_; rintro e w' ⟨rfl, rfl⟩))
    clear a1 a2
    generalize s.extract a b = d at *
    have HBD := Lib.hid hbd
    have HXE := Lib.hid hxe
    clear hbd hxe
    have hbt := PlainAid.get_bt d
    go_loopw [58] (fun iv wr => ∃ j : Nat, iv = .int .i64 j ∧ j ≤ 6 ∧ (∀ k, k < j → hexOk (bt d k)) ∧ w = wr) (fun iv _ => 6 - (intOf iv).toNat)
    case atStart => exact ⟨0, rfl, by omega, fun k hk => absurd hk (by omega), rfl⟩
    case round =>
      obtain ⟨j, rfl, hj, hx, rfl⟩ := hrel
      have HX := Lib.hid hx
      clear hx
      by_cases hlt : j < 6
      · have hjd : j < d.size := by omega
        have hjz : (j : Int) < 6 := by omega
        obtain ⟨c, hc⟩ : ∃ c, bt d j = c := ⟨_, rfl⟩
        have HC := Lib.hid hc
        have b0 := PlainAid.bt_nonneg d j
        have b1 := PlainAid.bt_le d j
        rw [hc] at b0 b1
        have hlow := low_is c b0 b1
        unfold lowV at hlow
        by_cases hok : hexOk c
        · have HOK := Lib.hid hok
          have hmk : ∀ k, k < j + 1 → hexOk (bt d k) := fun k hk => by
            rcases Nat.lt_succ_iff_lt_or_eq.1 hk with hk | rfl
            · exact HX.out k hk
            · rw [HC.out]; exact HOK.out
          have HMK := Lib.hid hmk
          clear hmk
          rcases hok with ⟨k1, k2⟩ | ⟨k1, k2⟩ | ⟨k1, k2⟩
          · clear hlow
            go_wp2_with (go_at_call 57; refine (must_ok _ _ _).mono ?_; rintro e w' ⟨rfl, rfl⟩)
            go_roundw
            case rel => exact ⟨j + 1, by go_num, by omega, HMK.out, by first | trivial | rfl⟩
            case measure => (simp [intOf]; omega)
          · have hl := hlow.2.1 ⟨k1, k2⟩
            have l1 : 97 ≤ bits .or .u8 c 32 := by omega
            have l2 : bits .or .u8 c 32 ≤ 102 := by omega
            have k3 : ¬ c ≤ 57 := by omega
            clear hlow hl
            generalize hbo : bits .or .u8 c 32 = lc at *
            go_wp2_with (go_at_call 57; refine (must_ok _ _ _).mono ?_; rintro e w' ⟨rfl, rfl⟩)
            go_roundw
            case rel => exact ⟨j + 1, by go_num, by omega, HMK.out, by first | trivial | rfl⟩
            case measure => (simp [intOf]; omega)
          · have hl := hlow.2.2.1 ⟨k1, k2⟩
            have l1 : 97 ≤ bits .or .u8 c 32 := by omega
            have l2 : bits .or .u8 c 32 ≤ 102 := by omega
            have k3 : ¬ c ≤ 57 := by omega
            clear hlow hl
            generalize hbo : bits .or .u8 c 32 = lc at *
            go_wp2_with (go_at_call 57; refine (must_ok _ _ _).mono ?_; rintro e w' ⟨rfl, rfl⟩)
            go_roundw
            case rel => exact ⟨j + 1, by go_num, by omega, HMK.out, by first | trivial | rfl⟩
            case measure => (simp [intOf]; omega)
        · have hnone : escT s i = none := by
            rw [HET.out, if_neg]
            rintro ⟨_, _, ha, _⟩
            apply hok
            have := (hexAll_iff s a 6).1 ha j hlt
            rw [← HBD.out j hlt, HC.out] at this
            exact this
          have HN := Lib.hid hnone
          clear hnone
          have q1 : ¬ (48 ≤ c ∧ c ≤ 57) := fun h => hok (.inl h)
          have q2 := hlow.2.2.2.1 (fun h => hok (.inr (.inl h))) (fun h => hok (.inr (.inr h)))
          have d1 : (decide (48 ≤ c) && decide (c ≤ 57)) = false := by simp; omega
          have d2 : (decide (97 ≤ bits .or .u8 c 32) && decide (bits .or .u8 c 32 ≤ 102)) = false := by simp; omega
          have HD1 := Lib.hid d1
          have HD2 := Lib.hid d2
          clear hlow d1 d2
          generalize hbo : bits .or .u8 c 32 = lc at *
          by_cases r1 : 48 ≤ c
          · have r2 : ¬ c ≤ 57 := by omega
            by_cases r3 : 97 ≤ lc
            · have r4 : ¬ lc ≤ 102 := by omega
              clear q1 q2 hok
              go_wp2_with (go_at_call 57; refine (must_no _ _ _).mono ?_; rintro e w' ⟨rfl, rfl⟩)
              exact ⟨rfl, Only.refl _ _, .inr ⟨HN.out, rfl⟩⟩
            · clear q1 q2 hok
              go_wp2_with (go_at_call 57; refine (must_no _ _ _).mono ?_; rintro e w' ⟨rfl, rfl⟩)
              exact ⟨rfl, Only.refl _ _, .inr ⟨HN.out, rfl⟩⟩
          · by_cases r3 : 97 ≤ lc
            · have r4 : ¬ lc ≤ 102 := by omega
              clear q1 q2 hok
              go_wp2_with (go_at_call 57; refine (must_no _ _ _).mono ?_; rintro e w' ⟨rfl, rfl⟩)
              exact ⟨rfl, Only.refl _ _, .inr ⟨HN.out, rfl⟩⟩
            · clear q1 q2 hok
              go_wp2_with (go_at_call 57; refine (must_no _ _ _).mono ?_; rintro e w' ⟨rfl, rfl⟩)
              exact ⟨rfl, Only.refl _ _, .inr ⟨HN.out, rfl⟩⟩
      · obtain rfl : j = 6 := by omega
        have hall : hexAll s a 6 = true := (hexAll_iff s a 6).2 (fun k hk => by rw [← HBD.out k hk]; exact HX.out k hk)
        have hg := hxF_le d 6 HX.out
        have hc := parseInt_any d (by omega) (by omega) (by rw [hds]; exact HX.out)
        rw [hds, HXE.out] at hc
        rw [HXE.out] at hg
        rw [hall] at HET
        obtain ⟨g0, g1⟩ := hg
        generalize hxG s a 6 = x at *
        have g2 : x ≤ 16777215 := by omega
        clear hall g1 hj hlt
        cases hsc : sc x with
        | true =>
          rw [hsc] at HET
          have HES : Hid (escT s i = some (x, 2 + 6)) := by
            show _ = _; rw [HET.out, if_pos ⟨by omega, by have := HA.out; omega, rfl, rfl⟩]
          have HKP : Hid (∀ V : World, Below w.heap.size w V → V.cell? ⟨pb, 1, none⟩ = some (.int .i64 (i : Nat)) ∧ V.frozen? ⟨pb, 1, none⟩ = false) := fun V hV => ⟨(hV.cell (p := ⟨pb, 1, none⟩) hpl).trans c1, (hV.frozen (p := ⟨pb, 1, none⟩) hpl).trans f1⟩
          go_wp2_with (first | (go_at_call 90; refine (hc _).mono ?_; rintro e w5 ⟨m, rfl, hb5⟩; obtain ⟨v1, v2⟩ := HKP.out w5 hb5) | (go_at_call 39; refine (scalar_any _ _).mono ?_; rintro e w' ⟨rfl, rfl⟩; rw [hsc]) | (go_at_call 57; refine (must_ok _ _ _).mono ?_; rintro e w' ⟨rfl, rfl⟩))
          go_ret
          refine ⟨((Only.refl (fun k => k = pb) w).below hb5).setCell rfl _, .inl ⟨_, _, HES.out, rfl, ?_⟩⟩
          rw [show (i : Int) + 8 = ((i + (2 + 6) : Nat) : Int) from by omega]
          exact (HP.out.below hb5).go _
        | false =>
          rw [hsc] at HET
          have HES : Hid (escT s i = none) := by
            show _ = _; rw [HET.out, if_neg (by simp)]
          go_wp2_with (first | (go_at_call 90; refine (hc _).mono ?_; rintro e w5 ⟨m, rfl, hb5⟩) | (go_at_call 39; refine (scalar_any _ _).mono ?_; rintro e w' ⟨rfl, rfl⟩; rw [hsc]) | (go_at_call 57; refine (must_no _ _ _).mono ?_; rintro e w' ⟨rfl, rfl⟩))
          exact ⟨rfl, (Only.refl _ w).below hb5, .inr ⟨HES.out, rfl⟩⟩
  · have HES : Hid (escT s i = none) := by
      show _ = _; rw [HET.out, if_neg (by omega)]
    obtain ⟨q, hq⟩ : ∃ q : Int, (s.size : Int) - (i : Int) = q := ⟨_, rfl⟩
    have hq1 : q < 8 := by omega
    have hd : decide ((8 : Int) ≤ q) = false := decide_eq_false (by omega)
    clear hlen HET
    go_enter Tryz.func77, Tryz.ntmps77
    go_wp2_with (first | (go_at_call 89; refine (hasPrefix_any _ _ _).mono ?_; rintro e w' ⟨rfl, rfl⟩; first | rw [hu] | rw [hU]) | (go_at_call 57; refine (must_no _ _ _).mono ?_; rintro e w' ⟨rfl, rfl⟩))
    exact ⟨rfl, Only.refl _ _, .inr ⟨HES.out, rfl⟩⟩
set_option maxHeartbeats 1000000 in
set_option maxRecDepth 100000 in
theorem escape_0 (s : ByteArray) (pb i : Nat) (lv : Value) (w : World) (h : PsAt w pb s i lv) (hi : i < s.size) (hs : s.size ≤ 1000000) (h92 : bt s i = 92) (hn : escN s i = 0) :
    Calls Tryz.prog 77 #[.pointer (some ⟨pb, 0, none⟩)] w fun e w' => w = w' ∧ e = .panicked (chainT i 100) := by
  have hu := prefix_two s i 117 hi h92
  have hU := prefix_two s i 85 hi h92
  have n1 : ¬ (i + 1 < s.size ∧ bt s (i + 1) = 117) := by
    intro h; unfold escN at hn; rw [if_pos h] at hn; omega
  have n2 : ¬ (i + 1 < s.size ∧ bt s (i + 1) = 85) := by
    intro h; unfold escN at hn; rw [if_neg n1, if_pos h] at hn; omega
  rw [decide_eq_false (by exact_mod_cast n1)] at hu
  rw [decide_eq_false (by exact_mod_cast n2)] at hU
  obtain ⟨c0, c1, c2, cf, hpl⟩ := h.cells
  clear h cf h92 n1 n2 hn
  go_enter Tryz.func77, Tryz.ntmps77
  go_wp2_with (first | (go_at_call 89; refine (hasPrefix_any _ _ _).mono ?_; rintro e w' ⟨rfl, rfl⟩; first | rw [hu] | rw [hU]) | (go_at_call 57; refine (must_no _ _ _).mono ?_; rintro e w' ⟨rfl, rfl⟩))
  exact ⟨rfl, rfl, rfl⟩
theorem escN_cases (s : ByteArray) (i : Nat) : escN s i = 0 ∨ escN s i = 4 ∨ escN s i = 6 := by
  unfold escN
  split
  · exact .inr (.inl rfl)
  · split
    · exact .inr (.inr rfl)
    · exact .inl rfl
theorem escape_any (s : ByteArray) (pb i : Nat) (lv : Value) (w : World) (h : PsAt w pb s i lv) (hi : i < s.size) (hs : s.size ≤ 1000000) (h92 : bt s i = 92) :
    Calls Tryz.prog 77 #[.pointer (some ⟨pb, 0, none⟩)] w fun e w' => Only (fun k => k = pb) w w' ∧
      ((∃ x m, escT s i = some (x, m) ∧ e = .returned (.int .i32 x) ∧ PsAt w' pb s (i + m) lv) ∨ (escT s i = none ∧ e = .panicked (chainT i 100))) := by
  rcases escN_cases s i with hn | hn | hn
  · refine (escape_0 s pb i lv w h hi hs h92 hn).mono ?_
    rintro e w' ⟨rfl, rfl⟩
    exact ⟨Only.refl _ _, .inr ⟨by unfold escT; rw [if_neg (by omega)], rfl⟩⟩
  · exact escape_4 s pb i lv w h hi hs h92 hn
  · exact escape_6 s pb i lv w h hi hs h92 hn
end Go.Proofs.YtchjjfjjcdjjcaaGreatDoor
/-! The parser in plain words: where the forms of a text stand, what stands in quotes, texts, rules; no program in sight. -/
namespace Go.Proofs.YtchjjfjjcdjjcaaGreatDoor
open Go.RowKit
open PlainAid (bt)

theorem form_tail (s : ByteArray) (a k : Nat) (h1 : 1 ≤ k) (h2 : k < fmN s a) : 128 ≤ bt s (a + k) := by
  unfold fmN at h2
  cases e1 : is1 s a
  · rw [e1] at h2
    cases e2 : is2 s a
    · rw [e2] at h2
      cases e3 : is3 s a
      · rw [e3] at h2
        cases e4 : is4 s a
        · rw [e4] at h2; simp at h2
        · rw [e4] at h2; simp at h2
          unfold is4 co at e4; simp only [Bool.and_eq_true, decide_eq_true_eq] at e4
          have : k = 1 ∨ k = 2 ∨ k = 3 := by omega
          rcases this with rfl | rfl | rfl <;> omega
      · rw [e3] at h2; simp at h2
        unfold is3 co at e3; simp only [Bool.and_eq_true, decide_eq_true_eq] at e3
        have : k = 1 ∨ k = 2 := by omega
        rcases this with rfl | rfl <;> omega
    · rw [e2] at h2; simp at h2
      unfold is2 co at e2; simp only [Bool.and_eq_true, decide_eq_true_eq] at e2
      have : k = 1 := by omega
      subst this; omega
  · rw [e1] at h2; simp at h2; omega
theorem bd_step {s : ByteArray} {i : Nat} (h : BD s i = none) (hi : i < s.size) : fmN s i ≠ 0 ∧ BD s (i + fmN s i) = none ∧ i + fmN s i ≤ s.size := by
  rw [BD_eq, if_neg (by omega)] at h
  by_cases hz : fmN s i = 0
  · rw [if_pos hz] at h; cases h
  · rw [if_neg hz] at h; exact ⟨hz, h, fmN_size s i hz⟩
/-- a plain byte, and the end, are where a form begins -/
theorem bd_ascii {s : ByteArray} : ∀ (n i j : Nat), s.size - i ≤ n → BD s i = none → i ≤ j → j ≤ s.size → (j < s.size → bt s j < 128) → BD s j = none
  | n, i, j, hn, h, hij, hj, ha => by
    by_cases he : i = j
    · subst he; exact h
    · have hi : i < s.size := by omega
      obtain ⟨h1, h2, h3⟩ := bd_step h hi
      by_cases hle : i + fmN s i ≤ j
      · cases n with
        | zero => omega
        | succ n => exact bd_ascii n (i + fmN s i) j (by omega) h2 hle hj ha
      · exfalso
        have := form_tail s i (j - i) (by omega) (by omega)
        rw [show i + (j - i) = j by omega] at this
        have := ha (by omega)
        omega
theorem fm_ascii {s : ByteArray} {j : Nat} (hj : j < s.size) (ha : bt s j < 128) : fmN s j = 1 ∧ fmR s j = bt s j := by
  have h : is1 s j = true := by unfold is1; rw [decide_eq_true hj, decide_eq_true ha]; rfl
  unfold fmN fmR
  rw [if_pos h, if_pos h]; exact ⟨rfl, rfl⟩
theorem bd_next {s : ByteArray} {j : Nat} (h : BD s j = none) (hj : j < s.size) (ha : bt s j < 128) : BD s (j + 1) = none := by
  have := (bd_step h hj).2.1
  rwa [(fm_ascii hj ha).1] at this
theorem bd_run {s : ByteArray} {i : Nat} (h : BD s i = none) : ∀ (m : Nat), i + m ≤ s.size → (∀ k, k < m → bt s (i + k) < 128) → BD s (i + m) = none
  | 0, _, _ => h
  | m + 1, hm, ha => by
    have h1 := bd_run h m (by omega) (fun k hk => ha k (by omega))
    have := bd_next h1 (by omega) (ha m (by omega))
    rwa [Nat.add_assoc] at this
/-- the scalars from a place up to another one -/
def dT (s : ByteArray) : Nat → Nat → Nat → List Int
  | 0, _, _ => []
  | n + 1, a, j => if a < j then fmR s a :: dT s n (a + fmN s a) j else []
theorem dT_more (s : ByteArray) (j : Nat) : ∀ (n a : Nat), BD s a = none → j ≤ s.size → j - a ≤ n → ∀ m, n ≤ m → dT s m a j = dT s n a j
  | 0, a, _, _, h, m, _ => by
    cases m with
    | zero => rfl
    | succ m => show dT s (m + 1) a j = []; unfold dT; rw [if_neg (by omega)]
  | n + 1, a, hb, hj, h, m, hm => by
    obtain ⟨m, rfl⟩ : ∃ k, m = k + 1 := ⟨m - 1, by omega⟩
    rw [dT, dT]
    split
    · rename_i hlt
      obtain ⟨h1, h2, h3⟩ := bd_step hb (by omega)
      rw [dT_more s j n (a + fmN s a) h2 hj (by omega) m (by omega)]
    · rfl
def dTo (s : ByteArray) (a j : Nat) : List Int := dT s (j - a) a j
theorem dTo_end (s : ByteArray) (j : Nat) : dTo s j j = [] := by unfold dTo; rw [Nat.sub_self]; rfl
theorem dTo_step {s : ByteArray} {a j : Nat} (hb : BD s a = none) (hj : j ≤ s.size) (h : a < j) : dTo s a j = fmR s a :: dTo s (a + fmN s a) j := by
  obtain ⟨h1, h2, h3⟩ := bd_step hb (by omega)
  unfold dTo
  rw [show j - a = (j - a - 1) + 1 by omega, dT, if_pos h, dT_more s j (j - (a + fmN s a)) (a + fmN s a) h2 hj (Nat.le_refl _) (j - a - 1) (by omega)]
theorem fm_inner (s : ByteArray) (lo hi k : Nat) (hh : hi ≤ s.size) (hk : lo + k < hi) (hf : lo + k + fmN s (lo + k) ≤ hi) : fmR (s.extract lo hi) k = fmR s (lo + k) ∧ fmN (s.extract lo hi) k = fmN s (lo + k) := by
  have hsz : (s.extract lo hi).size = hi - lo := size_extract' s lo hi hh (by omega)
  have h1 := fm_suffix (s.extract lo hi) k (by omega)
  have h2 : (s.extract lo hi).extract k (s.extract lo hi).size = s.extract (lo + k) hi := by
    rw [hsz, ByteArray.extract_extract]; congr 1; omega
  rw [h2] at h1
  have h3 := (fm_piece s (lo + k) hi hh (by omega)).1 hf
  exact ⟨h1.1.symm.trans h3.1, h1.2.symm.trans h3.2⟩
theorem piece_all (s : ByteArray) (lo hi : Nat) (hh : hi ≤ s.size) (hl : lo ≤ hi) (ha : hi < s.size → bt s hi < 128) :
    ∀ (n k : Nat), hi - (lo + k) ≤ n → lo + k ≤ hi → BD s (lo + k) = none → BD (s.extract lo hi) k = none ∧ DC (s.extract lo hi) k = dTo s (lo + k) hi
  | n, k, hn, hk, hb => by
    have hsz : (s.extract lo hi).size = hi - lo := size_extract' s lo hi hh hl
    by_cases he : lo + k = hi
    · rw [BD_eq, DC_eq, if_pos (by omega), if_pos (by omega), he, dTo_end]; exact ⟨rfl, rfl⟩
    · obtain ⟨h1, h2, h3⟩ := bd_step hb (by omega)
      have hle : lo + k + fmN s (lo + k) ≤ hi := by
        refine Nat.le_of_not_lt fun hlt => ?_
        have := form_tail s (lo + k) (hi - (lo + k)) (by omega) (by omega)
        rw [show lo + k + (hi - (lo + k)) = hi by omega] at this
        have := ha (by omega)
        omega
      obtain ⟨f1, f2⟩ := fm_inner s lo hi k hh (by omega) hle
      have hsk : ¬ (s.extract lo hi).size ≤ k := by omega
      rw [BD_eq, DC_eq, f1, f2, if_neg hsk, if_neg hsk, if_neg h1, if_neg h1, dTo_step hb hh (by omega)]
      cases n with
      | zero => omega
      | succ n =>
        have := piece_all s lo hi hh hl ha n (k + fmN s (lo + k)) (by omega) (by omega) (by rw [← Nat.add_assoc]; exact h2)
        rw [← Nat.add_assoc] at this
        exact ⟨this.1, by rw [this.2]⟩
theorem piece_is (s : ByteArray) (lo hi : Nat) (hh : hi ≤ s.size) (hl : lo ≤ hi) (hb : BD s lo = none) (ha : hi < s.size → bt s hi < 128) :
    BD (s.extract lo hi) 0 = none ∧ dcV (s.extract lo hi) = dTo s lo hi := by
  have := piece_all s lo hi hh hl ha (hi - lo) 0 (by omega) (by omega) hb
  rw [Nat.add_zero] at this
  unfold dcV
  rw [this.1]
  exact ⟨rfl, this.2⟩
/-- where a quote ends, or a line does, or all -/
def qE (s : ByteArray) (a : Nat) : Nat := if Lib.indexAny (s.data.toList.drop a) [39, 10] < 0 then s.size else a + (Lib.indexAny (s.data.toList.drop a) [39, 10]).toNat
/-- what stands in quotes, and how far it goes -/
def quoT (s : ByteArray) (i : Nat) : Option (List Int × Nat) :=
  if qE s (i + 1) < s.size ∧ bt s (qE s (i + 1)) = 39 then some (if qE s (i + 1) = i + 1 then [39] else dTo s (i + 1) (qE s (i + 1)), qE s (i + 1) + 1 - i) else none
theorem any_cases (s chars : List UInt8) : (Lib.NoAny s chars s.length ∧ Lib.indexAny s chars = -1) ∨ ∃ (n : Nat) (x : UInt8), Lib.NoAny s chars n ∧ s[n]? = some x ∧ chars.contains x = true ∧ Lib.indexAny s chars = n := by
  have h : ∀ m, m ≤ s.length → Lib.NoAny s chars m ∨ ∃ (n : Nat) (x : UInt8), Lib.NoAny s chars n ∧ s[n]? = some x ∧ chars.contains x = true := by
    intro m
    induction m with
    | zero => exact fun _ => .inl (Lib.NoAny.zero _ _)
    | succ m ih =>
      intro hm
      rcases ih (by omega) with h | h
      · have hx : s[m]? = some (s[m]'(by omega)) := List.getElem?_eq_getElem _
        cases hc : chars.contains (s[m]'(by omega)) with
        | false => exact .inl (h.succ hx hc)
        | true => exact .inr ⟨m, _, h, hx, hc⟩
      · exact .inr h
  rcases h s.length (Nat.le_refl _) with h | ⟨n, x, h1, h2, h3⟩
  · exact .inl ⟨h, Lib.indexAny_none h⟩
  · exact .inr ⟨n, x, h1, h2, h3, Lib.indexAny_hit h1 h2 h3⟩
theorem qe_no {s chars : List UInt8} {m : Nat} (h : Lib.indexAny s chars < 0) (hm : m ≤ s.length) : Lib.NoAny s chars m := by
  rcases any_cases s chars with ⟨h1, _⟩ | ⟨n, x, _, _, _, h4⟩
  · exact fun j b hj hb => h1 j b (by omega) hb
  · omega
theorem qe_yes {s chars : List UInt8} {n : Nat} (h : Lib.indexAny s chars = n) : Lib.NoAny s chars n ∧ ∃ x, s[n]? = some x ∧ chars.contains x = true := by
  rcases any_cases s chars with ⟨_, h2⟩ | ⟨m, x, h1, h2, h3, h4⟩
  · omega
  · obtain rfl : m = n := by omega
    exact ⟨h1, x, h2, h3⟩
theorem list_bt (s : ByteArray) (a k : Nat) : (s.data.toList.drop a)[k]? = if a + k < s.size then some (UInt8.ofNat (bt s (a + k)).toNat) else none := by
  by_cases h : a + k < s.size
  · rw [if_pos h, ← bt_list s (a + k) h, List.getElem?_drop, List.getElem?_drop, Nat.add_zero]
  · rw [if_neg h, List.getElem?_drop, List.getElem?_eq_none (by simp; omega)]
theorem qb_iff (x : Int) (h0 : 0 ≤ x) (h1 : x ≤ 255) : ([39, 10] : List UInt8).contains (UInt8.ofNat x.toNat) = decide (x = 39 ∨ x = 10) := by
  obtain ⟨n, rfl⟩ : ∃ n : Nat, x = n := ⟨x.toNat, by omega⟩
  have h := List.all_eq_true.1 (show (List.range 256).all (fun n => ([39, 10] : List UInt8).contains (UInt8.ofNat n) == decide ((n : Int) = 39 ∨ (n : Int) = 10)) = true by kernel_rfl) n (by simp; omega)
  simpa using h
theorem qE_is (s : ByteArray) (a : Nat) (ha : a ≤ s.size) : a ≤ qE s a ∧ qE s a ≤ s.size ∧ (∀ k, a ≤ k → k < qE s a → bt s k ≠ 39 ∧ bt s k ≠ 10) ∧ (qE s a < s.size → bt s (qE s a) = 39 ∨ bt s (qE s a) = 10) := by
  have hno : ∀ m, Lib.NoAny (s.data.toList.drop a) [39, 10] m → ∀ k, a ≤ k → k < a + m → k < s.size → bt s k ≠ 39 ∧ bt s k ≠ 10 := by
    intro m hm k hk hk2 hks
    have h1 := hm (k - a) (UInt8.ofNat (bt s k).toNat) (by omega) (by rw [list_bt, show a + (k - a) = k by omega, if_pos hks])
    rw [qb_iff _ (PlainAid.bt_nonneg s k) (PlainAid.bt_le s k)] at h1
    have := of_decide_eq_false h1
    exact ⟨fun e => this (.inl e), fun e => this (.inr e)⟩
  unfold qE
  by_cases hq : Lib.indexAny (s.data.toList.drop a) [39, 10] < 0
  · rw [if_pos hq]
    refine ⟨ha, Nat.le_refl _, fun k h1 h2 => ?_, fun h => absurd h (Nat.lt_irrefl _)⟩
    exact hno (s.size - a) (qe_no hq (by simp)) k h1 (by omega) h2
  · rw [if_neg hq]
    obtain ⟨n, hn⟩ : ∃ n : Nat, Lib.indexAny (s.data.toList.drop a) [39, 10] = n := ⟨_, (Int.toNat_of_nonneg (by omega)).symm⟩
    rw [hn, Int.toNat_natCast]
    obtain ⟨h1, x, h2, h3⟩ := qe_yes hn
    rw [list_bt] at h2
    by_cases hlt : a + n < s.size
    · rw [if_pos hlt] at h2
      refine ⟨by omega, by omega, fun k k1 k2 => hno n h1 k k1 k2 (by omega), fun _ => ?_⟩
      rw [← Option.some.inj h2, qb_iff _ (PlainAid.bt_nonneg s _) (PlainAid.bt_le s _)] at h3
      exact of_decide_eq_true h3
    · rw [if_neg hlt] at h2; cases h2
/-- bytes at which a text ends -/
def stopB (c : Int) : Bool := c == 32 || c == 9 || c == 10 || c == 38 || c == 60 || c == 61 || c == 47 || c == 35
/-- a text, from a place on, behind some numbers; or the place that is wrong -/
def textF (s : ByteArray) : Nat → Nat → List Int → Option (List Int) × Nat
  | 0, i, l => (some l, i)
  | n + 1, i, l => if i < s.size then
      if bt s i = 92 then (match escT s i with | none => (none, i) | some x => textF s n (i + x.2) (l ++ [x.1]))
      else if bt s i = 39 then (match quoT s i with | none => (none, i) | some x => textF s n (i + x.2) (l ++ x.1))
      else if stopB (bt s i) = true then (some l, i) else textF s n (i + fmN s i) (l ++ [fmR s i])
    else (some l, i)
/-- what none makes an error -/
def someT : Option (List Int) × Nat → Option (List Int) × Nat
  | (none, a) => (none, a)
  | (some l, a) => if l = [] then (none, a) else (some l, a)
def textT (s : ByteArray) (i : Nat) : Option (List Int) × Nat := someT (textF s (s.size - skipT s i) (skipT s i) [])
/-- a rule: kind, text, what is added -/
abbrev Rul := Int × List Int × List Int
/-- a rule from a place on, behind so many; or the place that is wrong and the error -/
def ruleT (s : ByteArray) (i n : Nat) : (Rul × Nat) ⊕ (Nat × Int) :=
  if sgnOk s i (n == 0) = true then
    if n < 2000 then
      match textT s (endS s i) with
      | (none, a) => .inr (a, 100)
      | (some l, j) =>
        if (sgnT s i).getD 0 ≠ 0 ∧ skipT s j < s.size ∧ bt s (skipT s j) = 47 then
          match textT s (skipT s j + 1) with
          | (none, a) => .inr (a, 100)
          | (some x, k) => .inl (((sgnT s i).getD 0, l, x), skipT s k)
        else .inl (((sgnT s i).getD 0, l, []), skipT s j)
    else .inr (i, 2)
  else .inr (i, 100)
def parseF (s : ByteArray) : Nat → Nat → List Rul → List Rul ⊕ (Nat × Int)
  | 0, _, l => .inl l
  | n + 1, i, l => if i < s.size then (match ruleT s i l.length with | .inr e => .inr e | .inl x => parseF s n x.2 (l ++ [x.1])) else .inl l
def parseT (s : ByteArray) : List Rul ⊕ (Nat × Int) := match BD s 0 with | some a => .inr (a, 40) | none => parseF s (s.size - skipT s 0) (skipT s 0) []
end Go.Proofs.YtchjjfjjcdjjcaaGreatDoor
