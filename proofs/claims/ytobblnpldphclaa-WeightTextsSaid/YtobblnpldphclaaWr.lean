/- What is shown is read back: plain. -/
import Derived.Test.YtobblnpldphclaaWk
import Derived.Test.YtobblnpldphclaaWe
namespace Go.Proofs.Ytobblnpldphclaa
open Go.RowKit
open PlainAid (bt)

theorem bt_app (a b : ByteArray) (k : Nat) (h : k < a.size) : bt (a ++ b) k = bt a k := by
  unfold bt
  rw [dif_pos (by rw [ByteArray.size_append]; omega), dif_pos h, ByteArray.getElem_append_left h]
theorem bt_str (l : List Int) (k : Nat) (x : Int) (h : l[k]? = some x) (h0 : 0 ≤ x) (h1 : x < 256) : bt (strOfNums l) k = x := by
  have hk : k < l.length := (List.getElem?_eq_some_iff.1 h).1
  have hx : l[k] = x := (List.getElem?_eq_some_iff.1 h).2
  unfold bt
  rw [dif_pos (by rw [strOfNums_size]; exact hk)]
  have e1 : (strOfNums l).data[k]? = some (UInt8.ofNat x.toNat) := by
    rw [← Array.getElem?_toList, strOfNums_data, List.getElem?_map, h]; rfl
  have e2 : (strOfNums l).data[k]'(by rw [← Array.length_toList, strOfNums_data, List.length_map]; exact hk) = UInt8.ofNat x.toNat := (Array.getElem?_eq_some_iff.1 e1).2
  show (((strOfNums l).data[k]'_).toNat : Int) = x
  rw [e2, UInt8.toNat_ofNat']
  omega
theorem hex_join (p : Int) (h0 : 0 ≤ p) (h1 : p ≤ 65535) : 16 * (16 * (16 * (16 * 0 + p / 4096 % 16) + p / 256 % 16) + p / 16 % 16) + p % 16 = p := by omega
theorem hex_digit (q : Int) : (((q % 16).toNat % 16 : Nat) : Int) = q % 16 := by omega
theorem hexd_bd (n : Nat) : 0 ≤ hexd n ∧ hexd n < 256 := by unfold hexd; split <;> omega
theorem hv_hexd (n : Nat) : hv (hexd n) = ((n % 16 : Nat) : Int) ∧ hvB (hexd n) = true := by
  unfold hexd hv hvB
  split
  · constructor
    · rw [if_pos (by omega)]; omega
    · simp; omega
  · constructor
    · rw [if_neg (by omega), if_pos (by omega)]; omega
    · simp; omega
theorem read_show (p s t : Int) (v : Bool) (r : ByteArray) (h : chk p s t v = 0) :
    readV (strOfNums (showL p s t v) ++ r) = .tuple #[.agg #[.int .i64 p, .int .i64 s, .int .i64 t, .bool v], .int .i64 17, .int .i64 0] := by
  have hok : okB p s t v = true := by
    unfold chk at h; by_cases h' : okB p s t v = true
    · exact h'
    · rw [if_neg h'] at h; cases h
  have hbd : (0 ≤ p ∧ p ≤ 65535) ∧ (0 ≤ s ∧ s ≤ 511) ∧ (0 ≤ t ∧ t ≤ 63) := by
    simp only [okB, inB, Bool.and_eq_true, decide_eq_true_eq] at hok
    obtain ⟨⟨⟨⟨⟨⟨a, b⟩, c⟩, _⟩, _⟩, _⟩, _⟩ := hok
    exact ⟨a, b, c⟩
  obtain ⟨⟨p0, p1⟩, ⟨s0, s1⟩, ⟨t0, t1⟩⟩ := hbd
  have hL : showL p s t v = 91 :: (if v then 42 else 46) :: (hex4 p ++ 46 :: (hex4 s ++ 46 :: (hex4 t ++ [93]))) := by
    unfold showL
    have a : inB p 0 65535 = true := by simp [inB]; omega
    have b : inB s 0 65535 = true := by simp [inB]; omega
    have c : inB t 0 65535 = true := by simp [inB]; omega
    rw [a, b, c]; rfl
  have hlen : (strOfNums (showL p s t v)).size = 17 := by rw [strOfNums_size, hL]; simp [hex4]
  have B : ∀ (k : Nat) (x : Int), k < 17 → (showL p s t v)[k]? = some x → 0 ≤ x → x < 256 → bt (strOfNums (showL p s t v) ++ r) k = x := fun k x hk hx a b => by
    rw [bt_app _ _ _ (by omega)]; exact bt_str _ _ _ hx a b
  rw [hL] at B
  have D : ∀ (k n : Nat), k < 17 → (91 :: (if v then 42 else 46) :: (hex4 p ++ 46 :: (hex4 s ++ 46 :: (hex4 t ++ [93]))))[k]? = some (hexd n) → hv (bt (strOfNums (91 :: (if v then 42 else 46) :: (hex4 p ++ 46 :: (hex4 s ++ 46 :: (hex4 t ++ [93]))) ) ++ r) k) = ((n % 16 : Nat) : Int) ∧ hvB (bt (strOfNums (91 :: (if v then 42 else 46) :: (hex4 p ++ 46 :: (hex4 s ++ 46 :: (hex4 t ++ [93])))) ++ r) k) = true := fun k n hk hx => by
    rw [B k _ hk hx (hexd_bd n).1 (hexd_bd n).2]; exact hv_hexd n
  rw [hL]
  generalize hS : strOfNums (91 :: (if v then 42 else 46) :: (hex4 p ++ 46 :: (hex4 s ++ 46 :: (hex4 t ++ [93])))) ++ r = S at B D
  have size : 17 ≤ S.size := by rw [← hS, ByteArray.size_append, ← hL, hlen]; omega
  have b0 := B 0 91 (by omega) rfl (by omega) (by omega)
  have b1 := B 1 (if v then 42 else 46) (by omega) rfl (by cases v <;> decide) (by cases v <;> decide)
  have b6 := B 6 46 (by omega) rfl (by omega) (by omega)
  have b11 := B 11 46 (by omega) rfl (by omega) (by omega)
  have b16 := B 16 93 (by omega) rfl (by omega) (by omega)
  have d2 := D 2 _ (by omega) rfl
  have d3 := D 3 _ (by omega) rfl
  have d4 := D 4 _ (by omega) rfl
  have d5 := D 5 _ (by omega) rfl
  have d7 := D 7 _ (by omega) rfl
  have d8 := D 8 _ (by omega) rfl
  have d9 := D 9 _ (by omega) rfl
  have d10 := D 10 _ (by omega) rfl
  have d12 := D 12 _ (by omega) rfl
  have d13 := D 13 _ (by omega) rfl
  have d14 := D 14 _ (by omega) rfl
  have d15 := D 15 _ (by omega) rfl
  have eP : acc S 2 4 = p := by
    simp only [acc, Nat.add_zero]; rw [d2.1, d3.1, d4.1, d5.1, hex_digit, hex_digit, hex_digit, hex_digit]; exact hex_join p (by omega) (by omega)
  have eS : acc S 7 4 = s := by
    simp only [acc, Nat.add_zero]; rw [d7.1, d8.1, d9.1, d10.1, hex_digit, hex_digit, hex_digit, hex_digit]; exact hex_join s (by omega) (by omega)
  have eT : acc S 12 4 = t := by
    simp only [acc, Nat.add_zero]; rw [d12.1, d13.1, d14.1, d15.1, hex_digit, hex_digit, hex_digit, hex_digit]; exact hex_join t (by omega) (by omega)
  have eV : starB S = v := by unfold starB; rw [b1]; cases v <;> rfl
  have hg : goodB S = true := by
    have a2 : accB S 2 4 = true := by
      show (hvB (bt S 2) && (hvB (bt S 3) && (hvB (bt S 4) && (hvB (bt S 5) && true)))) = true
      rw [d2.2, d3.2, d4.2, d5.2]; rfl
    have a7 : accB S 7 4 = true := by
      show (hvB (bt S 7) && (hvB (bt S 8) && (hvB (bt S 9) && (hvB (bt S 10) && true)))) = true
      rw [d7.2, d8.2, d9.2, d10.2]; rfl
    have a12 : accB S 12 4 = true := by
      show (hvB (bt S 12) && (hvB (bt S 13) && (hvB (bt S 14) && (hvB (bt S 15) && true)))) = true
      rw [d12.2, d13.2, d14.2, d15.2]; rfl
    unfold goodB headB digB
    rw [a2, a7, a12, b0, b1, b6, b11, b16, decide_eq_true size]
    cases v <;> rfl
  unfold readV
  rw [hg, if_pos rfl]
  unfold chkS elemS
  rw [eP, eS, eT, eV, if_pos h]
theorem readV_form (s : ByteArray) : ∃ (p q t : Int) (v : Bool) (n k : Int), readV s = .tuple #[.agg #[.int .i64 p, .int .i64 q, .int .i64 t, .bool v], .int .i64 n, .int .i64 k] := by
  unfold readV elemS zeroE
  split
  · split
    · exact ⟨_, _, _, _, _, _, rfl⟩
    · exact ⟨_, _, _, _, _, _, rfl⟩
  · exact ⟨_, _, _, _, _, _, rfl⟩
end Go.Proofs.Ytobblnpldphclaa
