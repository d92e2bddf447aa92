/- Package tailor: an escape is read. -/
import Derived.Test.YtchjjfjjcdjjcaaDoorGd
import Derived.Test.YtchjjfjjcdjjcaaDoorGe
import Derived.Test.YtchjjfjjcdjjcaaDoorVa
namespace Go.Proofs.YtchjjfjjcdjjcaaDoor
open Go.RowKit
open PlainAid (bt)

/-- how many digits an escape has -/
def escN (s : ByteArray) (i : Nat) : Nat := if i + 1 < s.size ∧ bt s (i + 1) = 117 then 4 else if i + 1 < s.size ∧ bt s (i + 1) = 85 then 6 else 0
/-- the number that digits from a place on say -/
def hxG (s : ByteArray) (a : Nat) : Nat → Int
  | 0 => 0
  | k + 1 => hxG s a k * 16 + hexV (bt s (a + k))
/-- are so many bytes digits? -/
def hexAll (s : ByteArray) (a n : Nat) : Bool := (List.range n).all (fun k => decide (hexOk (bt s (a + k))))
/-- an escape's number and length -/
def escT (s : ByteArray) (i : Nat) : Option (Int × Nat) :=
  if 0 < escN s i ∧ i + 2 + escN s i ≤ s.size ∧ hexAll s (i + 2) (escN s i) = true ∧ sc (hxG s (i + 2) (escN s i)) = true then some (hxG s (i + 2) (escN s i), 2 + escN s i) else none
theorem hxF_extract (s : ByteArray) (a b : Nat) (hb : b ≤ s.size) : ∀ (k : Nat), a + k ≤ b → hxF (s.extract a b) k = hxG s a k
  | 0, _ => rfl
  | k + 1, h => by rw [hxF, hxG, hxF_extract s a b hb k (by omega), bt_extract s a b k hb (by omega)]
theorem hexAll_iff (s : ByteArray) (a n : Nat) : hexAll s a n = true ↔ ∀ k, k < n → hexOk (bt s (a + k)) := by
  unfold hexAll
  rw [List.all_eq_true]
  constructor
  · intro h k hk
    exact of_decide_eq_true (h k (List.mem_range.2 hk))
  · intro h k hk
    exact decide_eq_true (h k (List.mem_range.1 hk))
theorem pre2 (a b x y : UInt8) (l : List UInt8) : Lib.hasPrefix (x :: y :: l) [a, b] = (a == x && b == y) := by
  simp [Lib.hasPrefix, List.isPrefixOf]
theorem pre1 (a b x : UInt8) : Lib.hasPrefix [x] [a, b] = false := by
  simp [Lib.hasPrefix, List.isPrefixOf]
theorem drop_bt (s : ByteArray) (i : Nat) (hi : i < s.size) : s.data.toList.drop i = UInt8.ofNat (bt s i).toNat :: s.data.toList.drop (i + 1) := by
  have h0 := bt_list s i hi
  have hl : i < s.data.toList.length := by simpa using hi
  rw [List.drop_eq_getElem_cons hl]
  rw [List.getElem?_drop, Nat.add_zero, List.getElem?_eq_getElem hl] at h0
  rw [Option.some.inj h0]
theorem byte_eq (c : UInt8) (x : Int) (h0 : 0 ≤ x) (h1 : x ≤ 255) : (c == UInt8.ofNat x.toNat) = decide (x = (c.toNat : Int)) := by
  obtain ⟨n, rfl⟩ : ∃ n : Nat, x = n := ⟨x.toNat, by omega⟩
  have hm : n % 2 ^ 8 = n := Nat.mod_eq_of_lt (by omega)
  rw [Int.toNat_natCast]
  by_cases hc : (n : Int) = (c.toNat : Int)
  · rw [decide_eq_true hc]
    have h2 : n = c.toNat := by omega
    rw [h2]
    simp
  · rw [decide_eq_false hc]
    apply beq_eq_false_iff_ne.2
    intro e
    apply hc
    rw [e, UInt8.toNat_ofNat', hm]
theorem prefix_two (s : ByteArray) (i : Nat) (c : UInt8) (hi : i < s.size) (h : bt s i = 92) :
    Lib.hasPrefix (s.extract i s.size).data.toList [92, c] = decide (i + 1 < s.size ∧ bt s (i + 1) = (c.toNat : Int)) := by
  rw [Lib.extract_to_end, drop_bt s i hi, h]
  by_cases h1 : i + 1 < s.size
  · rw [drop_bt s (i + 1) h1, pre2, byte_eq c _ (PlainAid.bt_nonneg s _) (PlainAid.bt_le s _)]
    have : ((92 : UInt8) == UInt8.ofNat (92 : Int).toNat) = true := by decide
    rw [this, Bool.true_and]
    simp only [h1, true_and]
  · rw [List.drop_eq_nil_of_le (by simp; omega), pre1, decide_eq_false (fun h => h1 h.1)]
set_option maxHeartbeats 4000000 in
set_option maxRecDepth 100000 in
theorem escape_4 (s : ByteArray) (pb i : Nat) (lv : Value) (w : World) (h : PsAt w pb s i lv) (hi : i < s.size) (hs : s.size ≤ 1000000) (h92 : bt s i = 92) (hn : escN s i = 4) :
    Calls Tryd.prog 55 #[.pointer (some ⟨pb, 0, none⟩)] w fun e w' => Only (fun k => k = pb) w w' ∧
      ((∃ x m, escT s i = some (x, m) ∧ e = .returned (.int .i32 x) ∧ PsAt w' pb s (i + m) lv) ∨ (escT s i = none ∧ e = .panicked (chainT i 100))) := by
  have hu := prefix_two s i 117 hi h92
  have hU := prefix_two s i 85 hi h92
  have HET : Hid (escT s i = if 0 < escN s i ∧ i + 2 + escN s i ≤ s.size ∧ hexAll s (i + 2) (escN s i) = true ∧ sc (hxG s (i + 2) (escN s i)) = true then some (hxG s (i + 2) (escN s i), 2 + escN s i) else none) := rfl
  rw [hn] at HET
  obtain ⟨c0, c1, c2, cf, hpl⟩ := h.cells
  have f1 := cf 1
  have HP := Lib.hid h
  clear h cf h92
  have hy : i + 1 < s.size ∧ bt s (i + 1) = 117 := by
    unfold escN at hn
    by_cases hy : i + 1 < s.size ∧ bt s (i + 1) = 117
    · exact hy
    · rw [if_neg hy] at hn; split at hn <;> omega
  rw [decide_eq_true (by exact_mod_cast hy)] at hu
  clear hU hy
  clear hn
  by_cases hlen : i + 2 + 4 ≤ s.size
  · have hlz : (2 : Int) + 4 ≤ (s.size : Int) - (i : Int) := by omega
    have hlz2 : (6 : Int) ≤ (s.size : Int) - (i : Int) := by omega
    obtain ⟨a, ha⟩ : ∃ a, a = i + 2 := ⟨_, rfl⟩
    obtain ⟨b, hb⟩ : ∃ b, b = a + 4 := ⟨_, rfl⟩
    have a1 : (i : Int) + 2 = (a : Int) := by omega
    have a2 : (a : Int) + 4 = (b : Int) := by omega
    have hbs : b ≤ s.size := by omega
    have hab : a ≤ b := by omega
    have HA := Lib.hid ha
    have HBB := Lib.hid hb
    rw [← ha] at HET
    have hds : (s.extract a b).size = 4 := by rw [size_extract' s a b hbs hab]; omega
    clear ha hb
    have hbd : ∀ k, k < 4 → bt (s.extract a b) k = bt s (a + k) := fun k hk => bt_extract s a b k hbs (by have := HBB.out; omega)
    have hxe : hxF (s.extract a b) 4 = hxG s a 4 := hxF_extract s a b hbs 4 (by have := HBB.out; omega)
    go_enter Tryd.func55, Tryd.ntmps55
    go_wp2_with (first | (go_at_call 66; refine (hasPrefix_any _ _ _).mono ?_; rintro e w' ⟨rfl, rfl⟩; rw [hu]) | (go_at_call 36; refine (must_ok _ _ _).mono ?_; rintro e w' ⟨rfl, rfl⟩))
    clear a1 a2
    generalize s.extract a b = d at *
    have HBD := Lib.hid hbd
    have HXE := Lib.hid hxe
    clear hbd hxe
    have hbt := PlainAid.get_bt d
    go_loopw [58] (fun iv wr => ∃ j : Nat, iv = .int .i64 j ∧ j ≤ 4 ∧ (∀ k, k < j → hexOk (bt d k)) ∧ w = wr) (fun iv _ => 4 - (intOf iv).toNat)
    case atStart => exact ⟨0, rfl, by omega, fun k hk => absurd hk (by omega), rfl⟩
    case round =>
      obtain ⟨j, rfl, hj, hx, rfl⟩ := hrel
      have HX := Lib.hid hx
      clear hx
      by_cases hlt : j < 4
      · have hjd : j < d.size := by omega
        have hjz : (j : Int) < 4 := by omega
        obtain ⟨c, hc⟩ : ∃ c, bt d j = c := ⟨_, rfl⟩
        have HC := Lib.hid hc
        have b0 := PlainAid.bt_nonneg d j
        have b1 := PlainAid.bt_le d j
        rw [hc] at b0 b1
        have hlow := low_is c b0 b1
        unfold lowV at hlow
        by_cases hok : hexOk c
        · have HOK := Lib.hid hok
          have hmk : ∀ k, k < j + 1 → hexOk (bt d k) := fun k hk => by
            rcases Nat.lt_succ_iff_lt_or_eq.1 hk with hk | rfl
            · exact HX.out k hk
            · rw [HC.out]; exact HOK.out
          have HMK := Lib.hid hmk
          clear hmk
          rcases hok with ⟨k1, k2⟩ | ⟨k1, k2⟩ | ⟨k1, k2⟩
          · clear hlow
            go_wp2_with (go_at_call 36; refine (must_ok _ _ _).mono ?_; rintro e w' ⟨rfl, rfl⟩)
            go_roundw
            case rel => exact ⟨j + 1, by go_num, by omega, HMK.out, by first | trivial | rfl⟩
            case measure => (simp [intOf]; omega)
          · have hl := hlow.2.1 ⟨k1, k2⟩
            have l1 : 97 ≤ bits .or .u8 c 32 := by omega
            have l2 : bits .or .u8 c 32 ≤ 102 := by omega
            have k3 : ¬ c ≤ 57 := by omega
            clear hlow hl
            generalize hbo : bits .or .u8 c 32 = lc at *
            go_wp2_with (go_at_call 36; refine (must_ok _ _ _).mono ?_; rintro e w' ⟨rfl, rfl⟩)
            go_roundw
            case rel => exact ⟨j + 1, by go_num, by omega, HMK.out, by first | trivial | rfl⟩
            case measure => (simp [intOf]; omega)
          · have hl := hlow.2.2.1 ⟨k1, k2⟩
            have l1 : 97 ≤ bits .or .u8 c 32 := by omega
            have l2 : bits .or .u8 c 32 ≤ 102 := by omega
            have k3 : ¬ c ≤ 57 := by omega
            clear hlow hl
            generalize hbo : bits .or .u8 c 32 = lc at *
            go_wp2_with (go_at_call 36; refine (must_ok _ _ _).mono ?_; rintro e w' ⟨rfl, rfl⟩)
            go_roundw
            case rel => exact ⟨j + 1, by go_num, by omega, HMK.out, by first | trivial | rfl⟩
            case measure => (simp [intOf]; omega)
        · have hnone : escT s i = none := by
            rw [HET.out, if_neg]
            rintro ⟨_, _, ha, _⟩
            apply hok
            have := (hexAll_iff s a 4).1 ha j hlt
            rw [← HBD.out j hlt, HC.out] at this
            exact this
          have HN := Lib.hid hnone
          clear hnone
          have q1 : ¬ (48 ≤ c ∧ c ≤ 57) := fun h => hok (.inl h)
          have q2 := hlow.2.2.2.1 (fun h => hok (.inr (.inl h))) (fun h => hok (.inr (.inr h)))
          have d1 : (decide (48 ≤ c) && decide (c ≤ 57)) = false := by simp; omega
          have d2 : (decide (97 ≤ bits .or .u8 c 32) && decide (bits .or .u8 c 32 ≤ 102)) = false := by simp; omega
          have HD1 := Lib.hid d1
          have HD2 := Lib.hid d2
          clear hlow d1 d2
          generalize hbo : bits .or .u8 c 32 = lc at *
          by_cases r1 : 48 ≤ c
          · have r2 : ¬ c ≤ 57 := by omega
            by_cases r3 : 97 ≤ lc
            · have r4 : ¬ lc ≤ 102 := by omega
              clear q1 q2 hok
              go_wp2_with (go_at_call 36; refine (must_no _ _ _).mono ?_; rintro e w' ⟨rfl, rfl⟩)
              exact ⟨rfl, Only.refl _ _, .inr ⟨HN.out, rfl⟩⟩
            · clear q1 q2 hok
              go_wp2_with (go_at_call 36; refine (must_no _ _ _).mono ?_; rintro e w' ⟨rfl, rfl⟩)
              exact ⟨rfl, Only.refl _ _, .inr ⟨HN.out, rfl⟩⟩
          · by_cases r3 : 97 ≤ lc
            · have r4 : ¬ lc ≤ 102 := by omega
              clear q1 q2 hok
              go_wp2_with (go_at_call 36; refine (must_no _ _ _).mono ?_; rintro e w' ⟨rfl, rfl⟩)
              exact ⟨rfl, Only.refl _ _, .inr ⟨HN.out, rfl⟩⟩
            · clear q1 q2 hok
              go_wp2_with (go_at_call 36; refine (must_no _ _ _).mono ?_; rintro e w' ⟨rfl, rfl⟩)
              exact ⟨rfl, Only.refl _ _, .inr ⟨HN.out, rfl⟩⟩
      · obtain rfl : j = 4 := by omega
        have hall : hexAll s a 4 = true := (hexAll_iff s a 4).2 (fun k hk => by rw [← HBD.out k hk]; exact HX.out k hk)
        have hg := hxF_le d 4 HX.out
        have hc := parseInt_any d (by omega) (by omega) (by rw [hds]; exact HX.out)
        rw [hds, HXE.out] at hc
        rw [HXE.out] at hg
        rw [hall] at HET
        obtain ⟨g0, g1⟩ := hg
        generalize hxG s a 4 = x at *
        have g2 : x ≤ 16777215 := by omega
        clear hall g1 hj hlt
        cases hsc : sc x with
        | true =>
          rw [hsc] at HET
          have HES : Hid (escT s i = some (x, 2 + 4)) := by
            show _ = _; rw [HET.out, if_pos ⟨by omega, by have := HA.out; omega, rfl, rfl⟩]
          have HKP : Hid (∀ V : World, Below w.heap.size w V → V.cell? ⟨pb, 1, none⟩ = some (.int .i64 (i : Nat)) ∧ V.frozen? ⟨pb, 1, none⟩ = false) := fun V hV => ⟨(hV.cell (p := ⟨pb, 1, none⟩) hpl).trans c1, (hV.frozen (p := ⟨pb, 1, none⟩) hpl).trans f1⟩
          go_wp2_with (first | (go_at_call 67; refine (hc _).mono ?_; rintro e w5 ⟨m, rfl, hb5⟩; obtain ⟨v1, v2⟩ := HKP.out w5 hb5) | (go_at_call 63; refine (scalar_any _ _).mono ?_; rintro e w' ⟨rfl, rfl⟩; rw [hsc]) | (go_at_call 36; refine (must_ok _ _ _).mono ?_; rintro e w' ⟨rfl, rfl⟩))
          go_ret
          refine ⟨((Only.refl (fun k => k = pb) w).below hb5).setCell rfl _, .inl ⟨_, _, HES.out, rfl, ?_⟩⟩
          rw [show (i : Int) + 6 = ((i + (2 + 4) : Nat) : Int) from by omega]
          exact (HP.out.below hb5).go _
        | false =>
          rw [hsc] at HET
          have HES : Hid (escT s i = none) := by
            show _ = _; rw [HET.out, if_neg (by simp)]
          go_wp2_with (first | (go_at_call 67; refine (hc _).mono ?_; rintro e w5 ⟨m, rfl, hb5⟩) | (go_at_call 63; refine (scalar_any _ _).mono ?_; rintro e w' ⟨rfl, rfl⟩; rw [hsc]) | (go_at_call 36; refine (must_no _ _ _).mono ?_; rintro e w' ⟨rfl, rfl⟩))
          exact ⟨rfl, (Only.refl _ w).below hb5, .inr ⟨HES.out, rfl⟩⟩
  · have HES : Hid (escT s i = none) := by
      show _ = _; rw [HET.out, if_neg (by omega)]
    obtain ⟨q, hq⟩ : ∃ q : Int, (s.size : Int) - (i : Int) = q := ⟨_, rfl⟩
    have hq1 : q < 6 := by omega
    have hd : decide ((6 : Int) ≤ q) = false := decide_eq_false (by omega)
    clear hlen HET
    go_enter Tryd.func55, Tryd.ntmps55
    go_wp2_with (first | (go_at_call 66; refine (hasPrefix_any _ _ _).mono ?_; rintro e w' ⟨rfl, rfl⟩; rw [hu]) | (go_at_call 36; refine (must_no _ _ _).mono ?_; rintro e w' ⟨rfl, rfl⟩))
    exact ⟨rfl, Only.refl _ _, .inr ⟨HES.out, rfl⟩⟩
set_option maxHeartbeats 4000000 in
set_option maxRecDepth 100000 in
theorem escape_6 (s : ByteArray) (pb i : Nat) (lv : Value) (w : World) (h : PsAt w pb s i lv) (hi : i < s.size) (hs : s.size ≤ 1000000) (h92 : bt s i = 92) (hn : escN s i = 6) :
    Calls Tryd.prog 55 #[.pointer (some ⟨pb, 0, none⟩)] w fun e w' => Only (fun k => k = pb) w w' ∧
      ((∃ x m, escT s i = some (x, m) ∧ e = .returned (.int .i32 x) ∧ PsAt w' pb s (i + m) lv) ∨ (escT s i = none ∧ e = .panicked (chainT i 100))) := by
  have hu := prefix_two s i 117 hi h92
  have hU := prefix_two s i 85 hi h92
  have HET : Hid (escT s i = if 0 < escN s i ∧ i + 2 + escN s i ≤ s.size ∧ hexAll s (i + 2) (escN s i) = true ∧ sc (hxG s (i + 2) (escN s i)) = true then some (hxG s (i + 2) (escN s i), 2 + escN s i) else none) := rfl
  rw [hn] at HET
  obtain ⟨c0, c1, c2, cf, hpl⟩ := h.cells
  have f1 := cf 1
  have HP := Lib.hid h
  clear h cf h92
  have hy : i + 1 < s.size ∧ bt s (i + 1) = 85 := by
    unfold escN at hn
    by_cases hy : i + 1 < s.size ∧ bt s (i + 1) = 117
    · rw [if_pos hy] at hn; omega
    · rw [if_neg hy] at hn
      by_cases hz : i + 1 < s.size ∧ bt s (i + 1) = 85
      · exact hz
      · rw [if_neg hz] at hn; omega
  rw [decide_eq_true (by exact_mod_cast hy)] at hU
  rw [decide_eq_false (by rintro ⟨_, h2⟩; rw [hy.2] at h2; revert h2; decide)] at hu
  clear hy
  clear hn
  by_cases hlen : i + 2 + 6 ≤ s.size
  · have hlz : (2 : Int) + 6 ≤ (s.size : Int) - (i : Int) := by omega
    have hlz2 : (8 : Int) ≤ (s.size : Int) - (i : Int) := by omega
    obtain ⟨a, ha⟩ : ∃ a, a = i + 2 := ⟨_, rfl⟩
    obtain ⟨b, hb⟩ : ∃ b, b = a + 6 := ⟨_, rfl⟩
    have a1 : (i : Int) + 2 = (a : Int) := by omega
    have a2 : (a : Int) + 6 = (b : Int) := by omega
    have hbs : b ≤ s.size := by omega
    have hab : a ≤ b := by omega
    have HA := Lib.hid ha
    have HBB := Lib.hid hb
    rw [← ha] at HET
    have hds : (s.extract a b).size = 6 := by rw [size_extract' s a b hbs hab]; omega
    clear ha hb
    have hbd : ∀ k, k < 6 → bt (s.extract a b) k = bt s (a + k) := fun k hk => bt_extract s a b k hbs (by have := HBB.out; omega)
    have hxe : hxF (s.extract a b) 6 = hxG s a 6 := hxF_extract s a b hbs 6 (by have := HBB.out; omega)
    go_enter Tryd.func55, Tryd.ntmps55
    go_wp2_with (first | (go_at_call 66; refine (hasPrefix_any _ _ _).mono ?_; rintro e w' ⟨rfl, rfl⟩; first | rw [hu] | rw [hU]) | (go_at_call 36; refine (must_ok _ _ _).mono ?_; rintro e w' ⟨rfl, rfl⟩))
    clear a1 a2
    generalize s.extract a b = d at *
    have HBD := Lib.hid hbd
    have HXE := Lib.hid hxe
    clear hbd hxe
    have hbt := PlainAid.get_bt d
    go_loopw [58] (fun iv wr => ∃ j : Nat, iv = .int .i64 j ∧ j ≤ 6 ∧ (∀ k, k < j → hexOk (bt d k)) ∧ w = wr) (fun iv _ => 6 - (intOf iv).toNat)
    case atStart => exact ⟨0, rfl, by omega, fun k hk => absurd hk (by omega), rfl⟩
    case round =>
      obtain ⟨j, rfl, hj, hx, rfl⟩ := hrel
      have HX := Lib.hid hx
      clear hx
      by_cases hlt : j < 6
      · have hjd : j < d.size := by omega
        have hjz : (j : Int) < 6 := by omega
        obtain ⟨c, hc⟩ : ∃ c, bt d j = c := ⟨_, rfl⟩
        have HC := Lib.hid hc
        have b0 := PlainAid.bt_nonneg d j
        have b1 := PlainAid.bt_le d j
        rw [hc] at b0 b1
        have hlow := low_is c b0 b1
        unfold lowV at hlow
        by_cases hok : hexOk c
        · have HOK := Lib.hid hok
          have hmk : ∀ k, k < j + 1 → hexOk (bt d k) := fun k hk => by
            rcases Nat.lt_succ_iff_lt_or_eq.1 hk with hk | rfl
            · exact HX.out k hk
            · rw [HC.out]; exact HOK.out
          have HMK := Lib.hid hmk
          clear hmk
          rcases hok with ⟨k1, k2⟩ | ⟨k1, k2⟩ | ⟨k1, k2⟩
          · clear hlow
            go_wp2_with (go_at_call 36; refine (must_ok _ _ _).mono ?_; rintro e w' ⟨rfl, rfl⟩)
            go_roundw
            case rel => exact ⟨j + 1, by go_num, by omega, HMK.out, by first | trivial | rfl⟩
            case measure => (simp [intOf]; omega)
          · have hl := hlow.2.1 ⟨k1, k2⟩
            have l1 : 97 ≤ bits .or .u8 c 32 := by omega
            have l2 : bits .or .u8 c 32 ≤ 102 := by omega
            have k3 : ¬ c ≤ 57 := by omega
            clear hlow hl
            generalize hbo : bits .or .u8 c 32 = lc at *
            go_wp2_with (go_at_call 36; refine (must_ok _ _ _).mono ?_; rintro e w' ⟨rfl, rfl⟩)
            go_roundw
            case rel => exact ⟨j + 1, by go_num, by omega, HMK.out, by first | trivial | rfl⟩
            case measure => (simp [intOf]; omega)
          · have hl := hlow.2.2.1 ⟨k1, k2⟩
            have l1 : 97 ≤ bits .or .u8 c 32 := by omega
            have l2 : bits .or .u8 c 32 ≤ 102 := by omega
            have k3 : ¬ c ≤ 57 := by omega
            clear hlow hl
            generalize hbo : bits .or .u8 c 32 = lc at *
            go_wp2_with (go_at_call 36; refine (must_ok _ _ _).mono ?_; rintro e w' ⟨rfl, rfl⟩)
            go_roundw
            case rel => exact ⟨j + 1, by go_num, by omega, HMK.out, by first | trivial | rfl⟩
            case measure => (simp [intOf]; omega)
        · have hnone : escT s i = none := by
            rw [HET.out, if_neg]
            rintro ⟨_, _, ha, _⟩
            apply hok
            have := (hexAll_iff s a 6).1 ha j hlt
            rw [← HBD.out j hlt, HC.out] at this
            exact this
          have HN := Lib.hid hnone
          clear hnone
          have q1 : ¬ (48 ≤ c ∧ c ≤ 57) := fun h => hok (.inl h)
          have q2 := hlow.2.2.2.1 (fun h => hok (.inr (.inl h))) (fun h => hok (.inr (.inr h)))
          have d1 : (decide (48 ≤ c) && decide (c ≤ 57)) = false := by simp; omega
          have d2 : (decide (97 ≤ bits .or .u8 c 32) && decide (bits .or .u8 c 32 ≤ 102)) = false := by simp; omega
          have HD1 := Lib.hid d1
          have HD2 := Lib.hid d2
          clear hlow d1 d2
          generalize hbo : bits .or .u8 c 32 = lc at *
          by_cases r1 : 48 ≤ c
          · have r2 : ¬ c ≤ 57 := by omega
            by_cases r3 : 97 ≤ lc
            · have r4 : ¬ lc ≤ 102 := by omega
              clear q1 q2 hok
              go_wp2_with (go_at_call 36; refine (must_no _ _ _).mono ?_; rintro e w' ⟨rfl, rfl⟩)
              exact ⟨rfl, Only.refl _ _, .inr ⟨HN.out, rfl⟩⟩
            · clear q1 q2 hok
              go_wp2_with (go_at_call 36; refine (must_no _ _ _).mono ?_; rintro e w' ⟨rfl, rfl⟩)
              exact ⟨rfl, Only.refl _ _, .inr ⟨HN.out, rfl⟩⟩
          · by_cases r3 : 97 ≤ lc
            · have r4 : ¬ lc ≤ 102 := by omega
              clear q1 q2 hok
              go_wp2_with (go_at_call 36; refine (must_no _ _ _).mono ?_; rintro e w' ⟨rfl, rfl⟩)
              exact ⟨rfl, Only.refl _ _, .inr ⟨HN.out, rfl⟩⟩
            · clear q1 q2 hok
              go_wp2_with (go_at_call 36; refine (must_no _ _ _).mono ?_; rintro e w' ⟨rfl, rfl⟩)
              exact ⟨rfl, Only.refl _ _, .inr ⟨HN.out, rfl⟩⟩
      · obtain rfl : j = 6 := by omega
        have hall : hexAll s a 6 = true := (hexAll_iff s a 6).2 (fun k hk => by rw [← HBD.out k hk]; exact HX.out k hk)
        have hg := hxF_le d 6 HX.out
        have hc := parseInt_any d (by omega) (by omega) (by rw [hds]; exact HX.out)
        rw [hds, HXE.out] at hc
        rw [HXE.out] at hg
        rw [hall] at HET
        obtain ⟨g0, g1⟩ := hg
        generalize hxG s a 6 = x at *
        have g2 : x ≤ 16777215 := by omega
        clear hall g1 hj hlt
        cases hsc : sc x with
        | true =>
          rw [hsc] at HET
          have HES : Hid (escT s i = some (x, 2 + 6)) := by
            show _ = _; rw [HET.out, if_pos ⟨by omega, by have := HA.out; omega, rfl, rfl⟩]
          have HKP : Hid (∀ V : World, Below w.heap.size w V → V.cell? ⟨pb, 1, none⟩ = some (.int .i64 (i : Nat)) ∧ V.frozen? ⟨pb, 1, none⟩ = false) := fun V hV => ⟨(hV.cell (p := ⟨pb, 1, none⟩) hpl).trans c1, (hV.frozen (p := ⟨pb, 1, none⟩) hpl).trans f1⟩
          go_wp2_with (first | (go_at_call 67; refine (hc _).mono ?_; rintro e w5 ⟨m, rfl, hb5⟩; obtain ⟨v1, v2⟩ := HKP.out w5 hb5) | (go_at_call 63; refine (scalar_any _ _).mono ?_; rintro e w' ⟨rfl, rfl⟩; rw [hsc]) | (go_at_call 36; refine (must_ok _ _ _).mono ?_; rintro e w' ⟨rfl, rfl⟩))
          go_ret
          refine ⟨((Only.refl (fun k => k = pb) w).below hb5).setCell rfl _, .inl ⟨_, _, HES.out, rfl, ?_⟩⟩
          rw [show (i : Int) + 8 = ((i + (2 + 6) : Nat) : Int) from by omega]
          exact (HP.out.below hb5).go _
        | false =>
          rw [hsc] at HET
          have HES : Hid (escT s i = none) := by
            show _ = _; rw [HET.out, if_neg (by simp)]
          go_wp2_with (first | (go_at_call 67; refine (hc _).mono ?_; rintro e w5 ⟨m, rfl, hb5⟩) | (go_at_call 63; refine (scalar_any _ _).mono ?_; rintro e w' ⟨rfl, rfl⟩; rw [hsc]) | (go_at_call 36; refine (must_no _ _ _).mono ?_; rintro e w' ⟨rfl, rfl⟩))
          exact ⟨rfl, (Only.refl _ w).below hb5, .inr ⟨HES.out, rfl⟩⟩
  · have HES : Hid (escT s i = none) := by
      show _ = _; rw [HET.out, if_neg (by omega)]
    obtain ⟨q, hq⟩ : ∃ q : Int, (s.size : Int) - (i : Int) = q := ⟨_, rfl⟩
    have hq1 : q < 8 := by omega
    have hd : decide ((8 : Int) ≤ q) = false := decide_eq_false (by omega)
    clear hlen HET
    go_enter Tryd.func55, Tryd.ntmps55
    go_wp2_with (first | (go_at_call 66; refine (hasPrefix_any _ _ _).mono ?_; rintro e w' ⟨rfl, rfl⟩; first | rw [hu] | rw [hU]) | (go_at_call 36; refine (must_no _ _ _).mono ?_; rintro e w' ⟨rfl, rfl⟩))
    exact ⟨rfl, Only.refl _ _, .inr ⟨HES.out, rfl⟩⟩
set_option maxHeartbeats 1000000 in
set_option maxRecDepth 100000 in
theorem escape_0 (s : ByteArray) (pb i : Nat) (lv : Value) (w : World) (h : PsAt w pb s i lv) (hi : i < s.size) (hs : s.size ≤ 1000000) (h92 : bt s i = 92) (hn : escN s i = 0) :
    Calls Tryd.prog 55 #[.pointer (some ⟨pb, 0, none⟩)] w fun e w' => w = w' ∧ e = .panicked (chainT i 100) := by
  have hu := prefix_two s i 117 hi h92
  have hU := prefix_two s i 85 hi h92
  have n1 : ¬ (i + 1 < s.size ∧ bt s (i + 1) = 117) := by
    intro h; unfold escN at hn; rw [if_pos h] at hn; omega
  have n2 : ¬ (i + 1 < s.size ∧ bt s (i + 1) = 85) := by
    intro h; unfold escN at hn; rw [if_neg n1, if_pos h] at hn; omega
  rw [decide_eq_false (by exact_mod_cast n1)] at hu
  rw [decide_eq_false (by exact_mod_cast n2)] at hU
  obtain ⟨c0, c1, c2, cf, hpl⟩ := h.cells
  clear h cf h92 n1 n2 hn
  go_enter Tryd.func55, Tryd.ntmps55
  go_wp2_with (first | (go_at_call 66; refine (hasPrefix_any _ _ _).mono ?_; rintro e w' ⟨rfl, rfl⟩; first | rw [hu] | rw [hU]) | (go_at_call 36; refine (must_no _ _ _).mono ?_; rintro e w' ⟨rfl, rfl⟩))
  exact ⟨rfl, rfl, rfl⟩
theorem escN_cases (s : ByteArray) (i : Nat) : escN s i = 0 ∨ escN s i = 4 ∨ escN s i = 6 := by
  unfold escN
  split
  · exact .inr (.inl rfl)
  · split
    · exact .inr (.inr rfl)
    · exact .inl rfl
theorem escape_any (s : ByteArray) (pb i : Nat) (lv : Value) (w : World) (h : PsAt w pb s i lv) (hi : i < s.size) (hs : s.size ≤ 1000000) (h92 : bt s i = 92) :
    Calls Tryd.prog 55 #[.pointer (some ⟨pb, 0, none⟩)] w fun e w' => Only (fun k => k = pb) w w' ∧
      ((∃ x m, escT s i = some (x, m) ∧ e = .returned (.int .i32 x) ∧ PsAt w' pb s (i + m) lv) ∨ (escT s i = none ∧ e = .panicked (chainT i 100))) := by
  rcases escN_cases s i with hn | hn | hn
  · refine (escape_0 s pb i lv w h hi hs h92 hn).mono ?_
    rintro e w' ⟨rfl, rfl⟩
    exact ⟨Only.refl _ _, .inr ⟨by unfold escT; rw [if_neg (by omega)], rfl⟩⟩
  · exact escape_4 s pb i lv w h hi hs h92 hn
  · exact escape_6 s pb i lv w h hi hs h92 hn
end Go.Proofs.YtchjjfjjcdjjcaaDoor
