/- The reference's reader of rules: whether a text comes; digits; bytes that stand for themselves. -/
import Derived.Test.YtchjjfjjcdjjcaaDoorHa
namespace Go.Proofs.YtchjjfjjcdjjcaaDoor
open Go.RowKit
open PlainAid (bt)

/-- does a text come at a place? -/
def hasT (s : ByteArray) (i : Nat) (t : ByteArray) : Bool := decide (i + t.size ≤ s.size) && ((s.extract i (i + t.size)).toList == t.toList)
set_option maxHeartbeats 2000000 in
set_option maxRecDepth 100000 in
theorem rhas_any (s t : ByteArray) (pb i : Nat) (a x : Int) (w : World) (h : RdAt w pb s i a x) (hi : i ≤ s.size) (hs : s.size ≤ 1000000) (ht : t.size ≤ 1000) :
    Calls Tryd.prog 23 #[.pointer (some ⟨pb, 0, none⟩), .string t] w fun e w' => e = .returned (.bool (hasT s i t)) ∧ Below w.heap.size w w' := by
  obtain ⟨c0, c1, c2, c3, cf, cpl⟩ := h.cells
  have HH : Hid (hasT s i t = (decide (i + t.size ≤ s.size) && ((s.extract i (i + t.size)).toList == t.toList))) := rfl
  obtain ⟨n, hn⟩ : ∃ n, t.size = n := ⟨_, rfl⟩
  rw [hn] at HH ht
  clear h cf
  by_cases hc : i + n ≤ s.size
  · rw [decide_eq_true hc, Bool.true_and] at HH
    obtain ⟨b, hb⟩ : ∃ b, b = i + n := ⟨_, rfl⟩
    rw [← hb] at HH hc
    have e1 : (i : Int) + (n : Int) = (b : Int) := by omega
    have g1 : decide ((n : Int) ≤ (s.size : Int) - (i : Int)) = true := decide_eq_true (by omega)
    have g1' : (n : Int) ≤ (s.size : Int) - (i : Int) := by omega
    have sl1 : (0 : Int) ≤ (i : Int) ∧ (i : Int) ≤ (b : Int) := by omega
    have sl2 : (i : Int) ≤ (b : Int) := by omega
    have sl3 : (0 : Int) ≤ (b : Int) ∧ (b : Int) ≤ (s.size : Int) := by omega
    have hib : i ≤ b := by omega
    clear hb
    go_enter Tryd.func23, Tryd.ntmps23
    go_wp2_with fail
    refine wp_region_over (by kernel_rfl) (by kernel_rfl) ?_; (repeat (go_big_quiet_step ((fail)))); refine wpQuiet_nil ?_; intro w1 hb1
    go_wp2_with fail
    go_ret
    exact ⟨by rw [HH.out]; rfl, hb1⟩
  · rw [decide_eq_false hc, Bool.false_and] at HH
    have g1 : decide ((n : Int) ≤ (s.size : Int) - (i : Int)) = false := decide_eq_false (by omega)
    have g1' : ¬ (n : Int) ≤ (s.size : Int) - (i : Int) := by omega
    clear hc
    go_enter Tryd.func23, Tryd.ntmps23
    go_wp2_with fail
    refine wp_region_over (by kernel_rfl) (by kernel_rfl) ?_; (repeat (go_big_quiet_step ((fail)))); refine wpQuiet_nil ?_; intro w1 hb1
    go_wp2_with fail
    go_ret
    exact ⟨by rw [HH.out]; rfl, hb1⟩
/-- a digit's value, or -1 -/
def digV (c : Int) : Int := if hexOk c then hexV c else -1
set_option maxHeartbeats 2000000 in
set_option maxRecDepth 100000 in
theorem rdigit_any (c : Int) (w : World) (h0 : 0 ≤ c) (h1 : c ≤ 255) :
    Calls Tryd.prog 60 #[.int .u8 c] w fun e w' => e = .returned (.int .i64 (digV c)) ∧ w = w' := by
  have HV : Hid ((48 ≤ c ∧ c ≤ 57 → digV c = c - 48) ∧ (65 ≤ c ∧ c ≤ 70 → digV c = c - 65 + 10) ∧ (97 ≤ c ∧ c ≤ 102 → digV c = c - 97 + 10) ∧ (¬ hexOk c → digV c = -1)) := by
    show _ ∧ _
    unfold digV hexV
    refine ⟨fun h => ?_, fun h => ?_, fun h => ?_, fun h => by rw [if_neg h]⟩
    · rw [if_pos (.inl h), if_pos h.2]
    · rw [if_pos (.inr (.inl h)), if_neg (by omega), if_pos h.2]; omega
    · rw [if_pos (.inr (.inr h)), if_neg (by omega), if_neg (by omega)]; omega
  have hc : c < 48 ∨ (48 ≤ c ∧ c ≤ 57) ∨ (58 ≤ c ∧ c < 65) ∨ (65 ≤ c ∧ c ≤ 70) ∨ (71 ≤ c ∧ c < 97) ∨ (97 ≤ c ∧ c ≤ 102) ∨ 103 ≤ c := by omega
  rcases hc with k | ⟨k1, k2⟩ | ⟨k1, k2⟩ | ⟨k1, k2⟩ | ⟨k1, k2⟩ | ⟨k1, k2⟩ | k
  · have HE : Hid (digV c = -1) := HV.out.2.2.2 (by unfold hexOk; omega)
    clear HV
    go_enter Tryd.func60, Tryd.ntmps60
    go_wp2
    go_ret
    exact ⟨by rw [HE.out]; rfl, rfl⟩
  · have HE : Hid (digV c = c - 48) := HV.out.1 ⟨k1, k2⟩
    clear HV
    go_enter Tryd.func60, Tryd.ntmps60
    go_wp2
    go_ret
    exact ⟨by rw [HE.out]; rfl, rfl⟩
  · have HE : Hid (digV c = -1) := HV.out.2.2.2 (by unfold hexOk; omega)
    clear HV
    go_enter Tryd.func60, Tryd.ntmps60
    go_wp2
    go_ret
    exact ⟨by rw [HE.out]; rfl, rfl⟩
  · have HE : Hid (digV c = c - 65 + 10) := HV.out.2.1 ⟨k1, k2⟩
    clear HV
    go_enter Tryd.func60, Tryd.ntmps60
    go_wp2
    go_ret
    exact ⟨by rw [HE.out]; rfl, rfl⟩
  · have HE : Hid (digV c = -1) := HV.out.2.2.2 (by unfold hexOk; omega)
    clear HV
    go_enter Tryd.func60, Tryd.ntmps60
    go_wp2
    go_ret
    exact ⟨by rw [HE.out]; rfl, rfl⟩
  · have HE : Hid (digV c = c - 97 + 10) := HV.out.2.2.1 ⟨k1, k2⟩
    clear HV
    go_enter Tryd.func60, Tryd.ntmps60
    go_wp2
    go_ret
    exact ⟨by rw [HE.out]; rfl, rfl⟩
  · have HE : Hid (digV c = -1) := HV.out.2.2.2 (by unfold hexOk; omega)
    clear HV
    go_enter Tryd.func60, Tryd.ntmps60
    go_wp2
    go_ret
    exact ⟨by rw [HE.out]; rfl, rfl⟩
/-- the bytes that don't stand for themselves -/
def specL : List Int := [32, 9, 10, 38, 60, 61, 47, 35, 39, 92]
theorem spec_all : (List.range 256).all (fun n => specL.contains (n : Int) == (stopB (n : Int) || (n : Int) == 39 || (n : Int) == 92)) = true := by kernel_rfl
theorem spec_is (c : Int) (h0 : 0 ≤ c) (h1 : c ≤ 255) : (!specL.contains c) = !(stopB c || c == 39 || c == 92) := by
  obtain ⟨n, rfl⟩ : ∃ n : Nat, c = n := ⟨c.toNat, by omega⟩
  have h := List.all_eq_true.1 spec_all n (by simp; omega)
  rw [eq_of_beq h]
set_option maxHeartbeats 2000000 in
set_option maxRecDepth 100000 in
theorem rplain_any (c : Int) (w : World) :
    Calls Tryd.prog 42 #[.int .u8 c] w fun e w' => e = .returned (.bool (!specL.contains c)) ∧ w = w' := by
  have hg : ∀ k : Nat, k < 10 → ∃ x, specL[k]? = some x := fun k hk => ⟨specL[k]'hk, List.getElem?_eq_getElem _⟩
  have HB : Hid (∀ (k : Nat) x, specL[k]? = some x → bt (⟨#[32, 9, 10, 38, 60, 61, 47, 35, 39, 92]⟩ : ByteArray) k = x) := by
    intro k x h
    have hk : k < 10 := (List.getElem?_eq_some_iff.1 h).1
    have : k = 0 ∨ k = 1 ∨ k = 2 ∨ k = 3 ∨ k = 4 ∨ k = 5 ∨ k = 6 ∨ k = 7 ∨ k = 8 ∨ k = 9 := by omega
    rcases this with rfl | rfl | rfl | rfl | rfl | rfl | rfl | rfl | rfl | rfl <;> (cases h; rfl)
  have HZ : Hid ((⟨#[32, 9, 10, 38, 60, 61, 47, 35, 39, 92]⟩ : ByteArray).size = 10) := rfl
  have HGB := Lib.hid (PlainAid.get_bt (⟨#[32, 9, 10, 38, 60, 61, 47, 35, 39, 92]⟩ : ByteArray))
  obtain ⟨S, hS⟩ : ∃ S : ByteArray, S = ⟨#[32, 9, 10, 38, 60, 61, 47, 35, 39, 92]⟩ := ⟨_, rfl⟩
  rw [← hS] at HB HZ HGB
  have hw : ∀ (k : Nat), k < 10 → ∃ x, specL[k]? = some x ∧ bt S k = x := fun k hk => by
    obtain ⟨x, hx⟩ := hg k hk
    exact ⟨x, hx, HB.out k x hx⟩
  have HW := Lib.hid hw
  clear hg hw
  go_enter Tryd.func42, Tryd.ntmps42
  go_wp2_with fail
  rw [← hS]
  have HS := Lib.hid hS
  clear hS
  go_loopw [4] (fun iv wr => ∃ i : Nat, iv = .int .i64 i ∧ i ≤ 10 ∧ (∀ (k : Nat) x, k < i → specL[k]? = some x → x ≠ c) ∧ w = wr) (fun iv _ => 10 - (intOf iv).toNat)
  case atStart => exact ⟨0, rfl, by omega, fun k x hk => absurd hk (by omega), rfl⟩
  case round =>
    obtain ⟨i, rfl, hi, hno, rfl⟩ := hrel
    have HNO := Lib.hid hno
    have hbt := HGB.out
    have hsz := HZ.out
    clear hno
    by_cases hlt : i < 10
    · obtain ⟨x, hx, hbx⟩ := HW.out i hlt
      have HX := Lib.hid hx
      have g1 : (i : Int) < 10 := by omega
      have his : i < S.size := by omega
      have hiz : (0 : Int) ≤ (i : Int) ∧ (i : Int) < (S.size : Int) := by omega
      clear hx
      by_cases hxc : x = c
      · have HF : Hid ((!specL.contains c) = false) := by
          show _ = _
          have : c ∈ specL := List.mem_iff_getElem?.2 ⟨i, by rw [← hxc]; exact HX.out⟩
          simpa using this
        have e1 : (x == c) = true := by simpa using hxc
        clear hxc
        go_wp2_with fail
        go_ret
        exact ⟨by rw [HF.out]; rfl, rfl⟩
      · have e1 : (x == c) = false := by simpa using hxc
        have HXC := Lib.hid hxc
        clear hxc
        go_wp2_with fail
        go_roundw
        case rel => exact ⟨i + 1, by go_num, by omega, fun k y hk hy => by
          rcases Nat.lt_succ_iff_lt_or_eq.1 hk with h | rfl
          · exact HNO.out k y h hy
          · have := HX.out.symm.trans hy; cases this; exact HXC.out, by first | trivial | rfl⟩
        case measure => (show 10 - ((i : Int) + 1).toNat < 10 - (i : Int).toNat; omega)
    · obtain rfl : i = 10 := by omega
      have HF : Hid ((!specL.contains c) = true) := by
        show _ = _
        have : ¬ c ∈ specL := fun hm => by
          obtain ⟨k, hk⟩ := List.mem_iff_getElem?.1 hm
          exact HNO.out k c (List.getElem?_eq_some_iff.1 hk).1 hk rfl
        simpa using this
      go_wp2_with fail
      go_ret
      exact ⟨by rw [HF.out]; rfl, rfl⟩
end Go.Proofs.YtchjjfjjcdjjcaaDoor
