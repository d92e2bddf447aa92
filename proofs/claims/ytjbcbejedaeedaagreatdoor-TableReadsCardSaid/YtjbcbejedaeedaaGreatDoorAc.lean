/- Package table: must, guarded, scalar, version, hex: walked. -/
import Derived.Test.YtjbcbejedaeedaaGreatDoorAb
import Derived.Test.YtjbcbejedaeedaaGreatDoorPi
namespace Go.Proofs.YtjbcbejedaeedaaGreatDoor
open Go.RowKit
open PlainAid (bt)

theorem bt_at (s : ByteArray) (j : Nat) (b : UInt8) (h : s.data.toList[j]? = some b) : bt s j = (b.toNat : Int) := by
  obtain ⟨hj, rfl⟩ := List.getElem?_eq_some_iff.1 h
  unfold bt
  rw [dif_pos (by simpa using hj)]
  simp
  rfl
theorem at_bt (s : ByteArray) (j : Nat) (h : j < s.size) : ∃ b, s.data.toList[j]? = some b ∧ bt s j = (b.toNat : Int) :=
  ⟨s.data.toList[j]'(by simpa using h), List.getElem?_eq_getElem _, bt_at s j _ (List.getElem?_eq_getElem _)⟩
theorem size_data (s : ByteArray) : s.data.toList.length = s.size := (Lib.size_eq s).symm
/-- what is thrown -/
def chainE (e : Int) : List PanicEntry := [{ v := .iface 100 (.agg #[.int .i64 e]), recovered := false }]
def chainER (e : Int) : List PanicEntry := [{ v := .iface 100 (.agg #[.int .i64 e]), recovered := true }]
theorem must_ok (e : Int) (w : World) : Calls Tryz.prog 49 #[.bool true, .int .i64 e] w fun x w' => x = .returned (.tuple #[]) ∧ w = w' := by
  go_enter Tryz.func49, Tryz.ntmps49
  go_wp2
  go_end0
  exact ⟨rfl, rfl⟩
theorem must_no (e : Int) (w : World) : Calls Tryz.prog 49 #[.bool false, .int .i64 e] w fun x w' => x = .panicked (chainE e) ∧ w = w' := by
  go_enter Tryz.func49, Tryz.ntmps49
  go_wp2
  exact ⟨rfl, rfl, rfl⟩
theorem must_any (b : Bool) (e : Int) (w : World) : Calls Tryz.prog 49 #[.bool b, .int .i64 e] w fun x w' => (if b then x = .returned (.tuple #[]) else x = .panicked (chainE e)) ∧ w = w' := by
  cases b
  · exact must_no e w
  · exact must_ok e w
set_option maxHeartbeats 400000 in
theorem scalarT_any (r : Int) (w : World) :
    Calls Tryz.prog 110 #[.int .i32 r] w fun e w' => e = .returned (.bool (pt r)) ∧ w = w' := by
  go_enter Tryz.func110, Tryz.ntmps110
  go_wp2
  all_goals go_ret
  all_goals refine ⟨congrArg (fun b => Ending.returned (.bool b)) ?_, rfl⟩
  all_goals (rw [Bool.eq_iff_iff]; simp [pt]; omega)

theorem hexN_snoc (l : Bs) (b : UInt8) : hexN (l ++ [b]) = hexN l * 16 + hv (b.toNat : Int) := by unfold hexN; rw [List.foldl_append]; rfl
theorem hexV_hv (c : Int) (h : hvB c = true) : hexV c = hv c ∧ hexOk c := by
  unfold hvB at h
  unfold hexV hv hexOk
  simp at h
  rcases h with ⟨h1, h2⟩ | ⟨h1, h2⟩
  · rw [if_pos h2, if_pos ⟨h1, h2⟩]; exact ⟨rfl, .inl ⟨h1, h2⟩⟩
  · rw [if_neg (by omega), if_pos h2, if_neg (by omega), if_pos ⟨h1, h2⟩]; exact ⟨rfl, .inr (.inl ⟨h1, h2⟩)⟩
theorem hxF_hexN (s : ByteArray) : ∀ (k : Nat), k ≤ s.size → (∀ j, j < k → hvB (bt s j) = true) → hxF s k = hexN (s.data.toList.take k)
  | 0, _, _ => rfl
  | k + 1, h, hx => by
    obtain ⟨b, h1, h2⟩ := at_bt s k (by omega)
    rw [hxF, hxF_hexN s k (by omega) (fun j hj => hx j (by omega)), take_snocR h1, hexN_snoc, ← h2, (hexV_hv _ (hx k (by omega))).1]
theorem hexB_all (s : ByteArray) : s.data.toList.all hexB = true ↔ ∀ j, j < s.size → hvB (bt s j) = true := by
  rw [List.all_eq_true]
  constructor
  · intro h j hj
    obtain ⟨b, h1, h2⟩ := at_bt s j hj
    rw [h2]; exact h b (List.mem_of_getElem? h1)
  · intro h b hb
    obtain ⟨j, hj⟩ := List.mem_iff_getElem?.1 hb
    have := h j (by have := (List.getElem?_eq_some_iff.1 hj).1; rwa [size_data] at this)
    rw [bt_at s j b hj] at this; exact this
/-- what hex answers -/
def hexR (s : ByteArray) (lo hi : Nat) : Value := match numX s.data.toList lo hi with
  | some n => .tuple #[.int .i64 n, .bool true]
  | none => .tuple #[.int .i64 0, .bool false]
set_option maxHeartbeats 2000000 in
set_option maxRecDepth 100000 in
theorem hex_any (s : ByteArray) (lo hi : Nat) (h1 : 1 ≤ lo) (h6 : hi ≤ 6) (hs : s.size ≤ 1000000) (w : World) :
    Calls Tryz.prog 127 #[.string s, .int .i64 (lo : Int), .int .i64 (hi : Int)] w fun e w' => e = .returned (hexR s lo hi) ∧ Below w.heap.size w w' := by
  have hbt := PlainAid.get_bt s
  have l1 : (lo : Int) ≤ 1000000000 ∨ 1000000000 < (lo : Int) := by omega
  by_cases ha : s.size < lo
  · have e0 : hexR s lo hi = .tuple #[.int .i64 0, .bool false] := by
      unfold hexR numX; rw [if_neg (by rw [size_data]; omega)]
    rw [e0]
    have g1 : (s.size : Int) < (lo : Int) := by omega
    clear l1 e0
    go_enter Tryz.func127, Tryz.ntmps127
    go_wp2
    go_ret2
    exact ⟨rfl, Below.refl _ _⟩
  · by_cases hc : hi < s.size
    · have e0 : hexR s lo hi = .tuple #[.int .i64 0, .bool false] := by
        unfold hexR numX; rw [if_neg (by rw [size_data]; omega)]
      rw [e0]
      have g1 : ¬ (s.size : Int) < (lo : Int) := by omega
      have g2 : (s.size : Int) > (hi : Int) := by omega
      clear l1 e0
      go_enter Tryz.func127, Tryz.ntmps127
      go_wp2
      go_ret2
      exact ⟨rfl, Below.refl _ _⟩
    · have g1 : ¬ (s.size : Int) < (lo : Int) := by omega
      have g2 : ¬ (s.size : Int) > (hi : Int) := by omega
      have HS : Hid (lo ≤ s.size ∧ s.size ≤ hi ∧ 0 < s.size ∧ s.size ≤ 6) := by show _ ∧ _; omega
      clear l1 ha hc h1 h6
      go_enter Tryz.func127, Tryz.ntmps127
      go_wp2_with fail
      go_loop [23] (fun i => ∃ k : Nat, k ≤ s.size ∧ i = .int .i64 (k : Nat) ∧ ∀ j, j < k → hvB (bt s j) = true) (fun i => s.size - (intOf i).toNat)
      case atStart => exact ⟨0, Nat.zero_le _, rfl, fun j hj => absurd hj (Nat.not_lt_zero _)⟩
      case round =>
        obtain ⟨k, hk, rfl, hd⟩ := hrel
        have HD := Lib.hid hd
        clear hd
        by_cases hlt : k < s.size
        · have b0 := PlainAid.bt_nonneg s k
          have b1 := PlainAid.bt_le s k
          have q1 : (k : Int) < (s.size : Int) := by omega
          by_cases hd1 : 48 ≤ bt s k ∧ bt s k ≤ 57
          · have HN : Hid (hvB (bt s k) = true) := by show _ = _; unfold hvB; simp [hd1]
            obtain ⟨d0, d1⟩ := hd1
            go_wp2_with fail
            go_round
            case rel =>
              refine ⟨k + 1, by omega, by go_num, fun j hj => ?_⟩
              rcases Nat.lt_succ_iff_lt_or_eq.1 hj with h | h
              · exact HD.out j h
              · rw [h]; exact HN.out
            case measure => simp [intOf]; omega
          · by_cases hd2 : 65 ≤ bt s k ∧ bt s k ≤ 70
            · have HN : Hid (hvB (bt s k) = true) := by show _ = _; unfold hvB; simp [hd2]
              obtain ⟨d0, d1⟩ := hd2
              have d2 : ¬ bt s k ≤ 57 := by omega
              clear hd1
              go_wp2_with fail
              go_round
              case rel =>
                refine ⟨k + 1, by omega, by go_num, fun j hj => ?_⟩
                rcases Nat.lt_succ_iff_lt_or_eq.1 hj with h | h
                · exact HD.out j h
                · rw [h]; exact HN.out
              case measure => simp [intOf]; omega
            · have HE : Hid (hexR s lo hi = .tuple #[.int .i64 0, .bool false]) := by
                show _ = _
                unfold hexR numX; rw [if_neg ?_]
                rintro ⟨_, _, hall⟩
                have := (hexB_all s).1 hall k hlt
                unfold hvB at this; simp at this; omega
              have hd3 : bt s k < 48 ∨ (57 < bt s k ∧ bt s k < 65) ∨ 70 < bt s k := by omega
              clear hd1 hd2
              rcases hd3 with d0 | ⟨d0, d1⟩ | d0
              · have d1 : ¬ 48 ≤ bt s k := by omega
                have d2 : ¬ 65 ≤ bt s k := by omega
                go_wp2_with fail
                go_ret2
                exact ⟨by rw [HE.out] <;> rfl, Below.refl _ _⟩
              · have d2 : ¬ 65 ≤ bt s k := by omega
                have d3 : ¬ bt s k ≤ 57 := by omega
                have d4 : 48 ≤ bt s k := by omega
                go_wp2_with fail
                go_ret2
                exact ⟨by rw [HE.out] <;> rfl, Below.refl _ _⟩
              · have d2 : decide (bt s k ≤ 57) = false := decide_eq_false (by omega)
                have d3 : decide (bt s k ≤ 70) = false := decide_eq_false (by omega)
                have d4 : 48 ≤ bt s k := by omega
                have d5 : 65 ≤ bt s k := by omega
                have d6 : ¬ bt s k ≤ 57 := by omega
                have d7 : ¬ bt s k ≤ 70 := by omega
                go_wp2_with fail
                go_ret2
                exact ⟨by rw [HE.out] <;> rfl, Below.refl _ _⟩
        · have q1 : ¬ (k : Int) < (s.size : Int) := by omega
          obtain rfl : k = s.size := by omega
          have HE : Hid (hexR s lo hi = .tuple #[.int .i64 (hxF s s.size), .bool true]) := by
            show _ = _
            unfold hexR numX
            rw [if_pos ⟨by rw [size_data]; exact HS.out.1, by rw [size_data]; exact HS.out.2.1, (hexB_all s).2 HD.out⟩, hxF_hexN s _ (Nat.le_refl _) HD.out, List.take_of_length_le (by rw [size_data]; exact Nat.le_refl _)]
          have hp := fun w => parseInt_any s HS.out.2.2.1 HS.out.2.2.2 (fun j hj => (hexV_hv _ (HD.out j hj)).2) w
          clear hlt
          go_wp2_with fail
          refine (hp _).mono ?_
          rintro e w1 ⟨m, rfl, hb⟩
          have HB := Lib.hid hb
          clear hb hp
          go_wp2_with fail
          go_ret2
          exact ⟨by rw [HE.out] <;> rfl, HB.out⟩
end Go.Proofs.YtjbcbejedaeedaaGreatDoor
