/- Compare of package utf and of the reference, and the law UtfOrder, walked. -/
import Derived.Test.YtafocgnhmdhemaaUx
import Derived.Test.YtafocgnhmdhemaaUy
import Derived.Test.YtafocgnhmdhemaaUo
namespace Go.Proofs.Ytafocgnhmdhemaa
open Go.RowKit
open PlainAid (bt)

def cmpE (a b : ByteArray) : Int := match BD a 0 with | some _ => 40 | none => bdE b
def cmpV (a b : ByteArray) : Int := match BD a 0 with | some _ => 0 | none => (match BD b 0 with | some _ => 0 | none => Lib.compareBytes a.data.toList b.data.toList)
theorem cmp_some {a b : ByteArray} {x : Nat} (h : BD a 0 = some x) : cmpV a b = 0 ∧ cmpE a b = 40 := by unfold cmpV cmpE; rw [h]; exact ⟨rfl, rfl⟩
theorem cmp_none {a b : ByteArray} {x : Nat} (h : BD a 0 = none) (k : BD b 0 = some x) : cmpV a b = 0 ∧ cmpE a b = 40 := by unfold cmpV cmpE; rw [h]; simp [k, (bd_some k).2]
theorem cmp_both {a b : ByteArray} (h : BD a 0 = none) (k : BD b 0 = none) : cmpV a b = Lib.compareBytes a.data.toList b.data.toList ∧ cmpE a b = 0 := by unfold cmpV cmpE; rw [h]; simp [k, (bd_none k).2]
theorem less_cb (a b : List UInt8) : Op.bytesLess a b = decide (Lib.compareBytes a b < 0) := by
  induction a generalizing b with
  | nil => cases b <;> rfl
  | cons x xs ih =>
    cases b with
    | nil => rfl
    | cons y ys =>
      simp only [Op.bytesLess, Lib.compareBytes]
      by_cases h : x < y
      · simp [h]
      · by_cases h' : y < x
        · have hne : (x == y) = false := by rw [beq_eq_false_iff_ne]; intro e; subst e; exact h h'
          simp [h, h', hne]
        · have he : x = y := by
            rw [UInt8.lt_iff_toNat_lt] at h h'
            exact UInt8.toNat_inj.1 (by omega)
          simp [h, h', he, ih]
theorem eq_cb (a b : List UInt8) : (a == b) = decide (Lib.compareBytes a b = 0) := by
  induction a generalizing b with
  | nil => cases b <;> rfl
  | cons x xs ih =>
    cases b with
    | nil => rfl
    | cons y ys =>
      simp only [Lib.compareBytes]
      have hc : ((x :: xs) == (y :: ys)) = ((x == y) && (xs == ys)) := rfl
      rw [hc, ih]
      by_cases h : x < y
      · have hne : (x == y) = false := by rw [beq_eq_false_iff_ne]; intro e; subst e; rw [UInt8.lt_iff_toNat_lt] at h; omega
        simp [h, hne]
      · by_cases h' : y < x
        · have hne : (x == y) = false := by rw [beq_eq_false_iff_ne]; intro e; subst e; exact h h'
          simp [h, h', hne]
        · have he : x = y := by
            rw [UInt8.lt_iff_toNat_lt] at h h'
            exact UInt8.toNat_inj.1 (by omega)
          simp [h, h', he]

set_option maxHeartbeats 1000000 in
set_option maxRecDepth 100000 in
theorem scompare_any (a b : ByteArray) (w : World) :
    Calls Try.prog 34 #[.string a, .string b] w fun e w' => e = .returned (.int .i64 (Lib.compareBytes a.data.toList b.data.toList)) ∧ w = w' := by
  go_enter Try.func34, Try.ntmps34
  go_wp2_with fail
  have h : Calls Try.prog 42 #[.string a, .string b] w fun e w' => e = .returned (.int .i64 (Lib.compareBytes a.data.toList b.data.toList)) ∧ w = w' := by
    go_enter Try.func42, Try.ntmps42
    go_wp2
    rw [run_callFunc_extern Try.func43 (by kernel_rfl) (by kernel_rfl) (by kernel_rfl) (e := Extern.BytealgCompare.compare) (by kernel_rfl), Lib.run_compareString]
    simp only [Result.andThen]
    rw [Oper.upon_value]
    go_wp2
    go_ret
    exact ⟨rfl, rfl⟩
  refine h.mono ?_
  rintro e w' ⟨rfl, rfl⟩
  go_wp2
  go_ret
  exact ⟨rfl, rfl⟩

set_option maxHeartbeats 2000000 in
set_option maxRecDepth 100000 in
theorem uCompare_any (a b : ByteArray) (w : World) (ha : a.size ≤ 140737488351232) (hb : b.size ≤ 140737488351232) :
    Calls Try.prog 14 #[.string a, .string b] w fun e w' => e = .returned (.tuple #[.int .i64 (cmpV a b), .int .i64 (cmpE a b)]) ∧ Below w.heap.size w w' := by
  have HA := Lib.hid ha
  have HB := Lib.hid hb
  cases hA : BD a 0 with
  | some x =>
    have HV : Hid (cmpV a b = 0 ∧ cmpE a b = 40) := cmp_some hA
    have HE := Lib.hid (bd_some hA)
    clear hA ha hb
    go_enter Try.func14, Try.ntmps14
    go_wp2
    go_loopw [14] (fun i wr => i = .int .i64 0 ∧ wr = w.alloc (.cells #[.string a, .string b] 9)) (fun i _ => 2 - (intOf i).toNat)
    case atStart => exact ⟨rfl, rfl⟩
    case round =>
      obtain ⟨rfl, rfl⟩ := hrel
      go_wp2_with fail
      refine (uCheck_any _ _ HA.out).mono ?_
      rintro e w1 ⟨rfl, hb1⟩
      rw [HE.out.1, HE.out.2]
      go_wp2_with fail
      go_ret2
      exact ⟨by rw [HV.out.1, HV.out.2]; rfl, ((Below.refl _ _).alloc (Nat.le_refl _) _).trans (hb1.mono (by simp))⟩
  | none =>
    cases hB : BD b 0 with
    | some x =>
      have HV : Hid (cmpV a b = 0 ∧ cmpE a b = 40) := cmp_none hA hB
      have HE := Lib.hid (bd_none hA)
      have HF := Lib.hid (bd_some hB)
      clear hA hB ha hb
      go_enter Try.func14, Try.ntmps14
      go_wp2
      go_loopw [14] (fun i wr => ∃ k : Nat, k ≤ 1 ∧ i = .int .i64 k ∧ Below (w.heap.size + 1) (w.alloc (.cells #[.string a, .string b] 9)) wr) (fun i _ => 2 - (intOf i).toNat)
      case atStart => exact ⟨0, by omega, rfl, Below.refl _ _⟩
      case round =>
        obtain ⟨k, hk, rfl, hbr⟩ := hrel
        have c0 : wr.cell? ⟨w.heap.size, 0, none⟩ = some (.string a) := by rw [hbr.cell (p := ⟨w.heap.size, 0, none⟩) (by simp)]; simp [go_sem]
        have c1 : wr.cell? ⟨w.heap.size, 1, none⟩ = some (.string b) := by rw [hbr.cell (p := ⟨w.heap.size, 1, none⟩) (by simp)]; simp [go_sem]
        have HL := Lib.hid hbr
        clear hbr
        by_cases h0 : k = 0
        · subst h0
          go_wp2_with fail
          refine (uCheck_any _ _ HA.out).mono ?_
          rintro e w1 ⟨rfl, hb1⟩
          rw [HE.out.1, HE.out.2]
          go_wp2_with fail
          go_roundw
          case rel => exact ⟨1, by omega, rfl, HL.out.trans (hb1.mono (by have := HL.out.size; simpa using this))⟩
          case measure => simp [intOf]
        · obtain rfl : k = 1 := by omega
          clear h0
          go_wp2_with fail
          refine (uCheck_any _ _ HB.out).mono ?_
          rintro e w1 ⟨rfl, hb1⟩
          rw [HF.out.1, HF.out.2]
          go_wp2_with fail
          go_ret2
          exact ⟨by rw [HV.out.1, HV.out.2]; rfl, ((Below.refl _ _).alloc (Nat.le_refl _) _).trans ((HL.out.trans (hb1.mono (by have := HL.out.size; simpa using this))).mono (by omega))⟩
    | none =>
      have HV : Hid (cmpV a b = Lib.compareBytes a.data.toList b.data.toList ∧ cmpE a b = 0) := cmp_both hA hB
      have HE := Lib.hid (bd_none hA)
      have HF := Lib.hid (bd_none hB)
      clear hA hB ha hb
      go_enter Try.func14, Try.ntmps14
      go_wp2
      go_loopw [14] (fun i wr => ∃ k : Nat, k ≤ 2 ∧ i = .int .i64 k ∧ Below (w.heap.size + 1) (w.alloc (.cells #[.string a, .string b] 9)) wr) (fun i _ => 2 - (intOf i).toNat)
      case atStart => exact ⟨0, by omega, rfl, Below.refl _ _⟩
      case round =>
        obtain ⟨k, hk, rfl, hbr⟩ := hrel
        have c0 : wr.cell? ⟨w.heap.size, 0, none⟩ = some (.string a) := by rw [hbr.cell (p := ⟨w.heap.size, 0, none⟩) (by simp)]; simp [go_sem]
        have c1 : wr.cell? ⟨w.heap.size, 1, none⟩ = some (.string b) := by rw [hbr.cell (p := ⟨w.heap.size, 1, none⟩) (by simp)]; simp [go_sem]
        have HL := Lib.hid hbr
        clear hbr
        by_cases h0 : k = 0
        · subst h0
          go_wp2_with fail
          refine (uCheck_any _ _ HA.out).mono ?_
          rintro e w1 ⟨rfl, hb1⟩
          rw [HE.out.1, HE.out.2]
          go_wp2_with fail
          go_roundw
          case rel => exact ⟨1, by omega, rfl, HL.out.trans (hb1.mono (by have := HL.out.size; simpa using this))⟩
          case measure => simp [intOf]
        · by_cases h1 : k = 1
          · subst h1
            clear h0
            go_wp2_with fail
            refine (uCheck_any _ _ HB.out).mono ?_
            rintro e w1 ⟨rfl, hb1⟩
            rw [HF.out.1, HF.out.2]
            go_wp2_with fail
            go_roundw
            case rel => exact ⟨2, by omega, rfl, HL.out.trans (hb1.mono (by have := HL.out.size; simpa using this))⟩
            case measure => simp [intOf]
          · obtain rfl : k = 2 := by omega
            clear h0 h1
            go_wp2_with fail
            refine (scompare_any _ _ _).mono ?_
            rintro e w1 ⟨rfl, rfl⟩
            go_wp2_with fail
            go_ret2
            exact ⟨by rw [HV.out.1, HV.out.2]; rfl, ((Below.refl _ _).alloc (Nat.le_refl _) _).trans (HL.out.mono (by omega))⟩

set_option maxHeartbeats 2000000 in
set_option maxRecDepth 100000 in
theorem rCompare_any (a b : ByteArray) (w : World) (ha : a.size ≤ 35184372088000) (hb : b.size ≤ 35184372088000) :
    Calls Try.prog 15 #[.string a, .string b] w fun e w' => e = .returned (.tuple #[.int .i64 (cmpV a b), .int .i64 (cmpE a b)]) ∧ Below w.heap.size w w' := by
  have HA := Lib.hid ha
  have HB := Lib.hid hb
  have len : ∀ s : ByteArray, s.size ≤ 35184372088000 → (dcV s).length ≤ maxLen := by
    intro s h
    have : ∀ n p, (dc s n p).length ≤ n := by
      intro n
      induction n with
      | zero => intro p; simp [dc]
      | succ n ih =>
        intro p; unfold dc
        split
        · simp
        · split
          · simp
          · have := ih (p + fmN s p); simp; omega
    unfold dcV maxLen
    split
    · have := this (s.size + 1) 0; unfold DC; omega
    · simp
  have HNA := Lib.hid (len a ha)
  have HNB := Lib.hid (len b hb)
  clear len
  cases hA : BD a 0 with
  | some x =>
    have HV : Hid (cmpV a b = 0 ∧ cmpE a b = 40) := cmp_some hA
    have HE := Lib.hid (bd_some hA)
    clear hA ha hb
    go_enter Try.func15, Try.ntmps15
    go_wp2_with fail
    refine (rDecode_any _ _ HA.out).mono ?_
    rintro e w1 ⟨v, rfl, hv, hb1⟩
    rw [HE.out.1, HE.out.2]
    clear hv
    go_wp2_with fail
    go_ret2
    exact ⟨by rw [HV.out.1, HV.out.2]; rfl, hb1⟩
  | none =>
    cases hB : BD b 0 with
    | some x =>
      have HV : Hid (cmpV a b = 0 ∧ cmpE a b = 40) := cmp_none hA hB
      have HE := Lib.hid (bd_none hA)
      have HF := Lib.hid (bd_some hB)
      clear hA hB ha hb
      go_enter Try.func15, Try.ntmps15
      go_wp2_with fail
      refine (rDecode_any _ _ HA.out).mono ?_
      rintro e w1 ⟨v, rfl, hv, hb1⟩
      rw [HE.out.1, HE.out.2]
      clear hv
      go_wp2_with fail
      refine (rDecode_any _ _ HB.out).mono ?_
      rintro e w2 ⟨u, rfl, hu, hb2⟩
      rw [HF.out.1, HF.out.2]
      clear hu
      go_wp2_with fail
      go_ret2
      exact ⟨by rw [HV.out.1, HV.out.2]; rfl, hb1.trans (hb2.mono hb1.size)⟩
    | none =>
      have HV : Hid (cmpV a b = Lib.compareBytes a.data.toList b.data.toList ∧ cmpE a b = 0) := cmp_both hA hB
      have HO := Lib.hid (ord_whole a b hA hB)
      have HE := Lib.hid (bd_none hA)
      have HF := Lib.hid (bd_none hB)
      clear hA hB ha hb
      go_enter Try.func15, Try.ntmps15
      go_wp2_with fail
      refine (rDecode_any _ _ HA.out).mono ?_
      rintro e w1 ⟨v, rfl, hv, hb1⟩
      rw [HE.out.1, HE.out.2]
      have HV1 := Lib.hid hv
      have HB1 := Lib.hid hb1
      clear hv hb1
      go_wp2_with fail
      refine (rDecode_any _ _ HB.out).mono ?_
      rintro e w2 ⟨u, rfl, hu, hb2⟩
      rw [HF.out.1, HF.out.2]
      have HU1 := Lib.hid hu
      have HB2 := Lib.hid hb2
      clear hu hb2
      go_wp2_with fail
      refine (order_any _ _ _ _ _ ((HV1.out.ints.below HB2.out).mono (Nat.zero_le _)) (HU1.out.ints.mono (Nat.zero_le _)) HNA.out HNB.out).mono ?_
      rintro e w3 ⟨rfl, hb3⟩
      go_wp2_with fail
      go_ret2
      exact ⟨by rw [HV.out.1, HV.out.2, HO.out]; rfl, (HB1.out.trans (HB2.out.mono HB1.out.size)).trans (hb3.mono (by have := HB1.out.size; have := HB2.out.size; omega))⟩

set_option maxHeartbeats 2000000 in
set_option maxRecDepth 100000 in
theorem law_order (a b : ByteArray) (w : World) (ha : a.size ≤ 140737488351232) (hb : b.size ≤ 140737488351232) :
    Calls Try.prog 5 #[.string a, .string b] w fun e w' => e = .returned (.bool true) ∧ Below w.heap.size w w' := by
  by_cases hlen : 3000 < a.size + b.size
  · have hl1 : decide ((3000 : Int) < (a.size : Int) + (b.size : Int)) = true := decide_eq_true (by omega)
    clear hlen
    go_enter Try.func5, Try.ntmps5
    go_wp2_with fail
    refine (awake_any _).mono ?_
    rintro e w1 ⟨rfl, hb1⟩
    go_wp2_with fail
    go_ret
    exact ⟨rfl, hb1⟩
  · have hl1 : decide ((3000 : Int) < (a.size : Int) + (b.size : Int)) = false := decide_eq_false (by omega)
    have HA2 : Hid (a.size ≤ 35184372088000) := (show a.size ≤ 35184372088000 by omega)
    have HB2 : Hid (b.size ≤ 35184372088000) := (show b.size ≤ 35184372088000 by omega)
    have HA := Lib.hid ha
    have HB := Lib.hid hb
    clear hlen
    have hcmp : (cmpE a b = 40) ∨ (cmpE a b = 0 ∧ cmpV a b = Lib.compareBytes a.data.toList b.data.toList) := by
      cases hA : BD a 0 with
      | some x => exact .inl (cmp_some hA).2
      | none =>
        cases hB : BD b 0 with
        | some x => exact .inl (cmp_none hA hB).2
        | none => exact .inr ⟨(cmp_both hA hB).2, (cmp_both hA hB).1⟩
    rcases hcmp with hE | ⟨hE, hV⟩
    · have HE := Lib.hid hE
      clear hE
      go_enter Try.func5, Try.ntmps5
      go_wp2_with fail
      refine (awake_any _).mono ?_
      rintro e w1 ⟨rfl, hb1⟩
      go_wp2_with fail
      refine (uCompare_any _ _ _ HA.out HB.out).mono ?_
      rintro e w2 ⟨rfl, hb2⟩
      rw [HE.out]
      go_wp2_with fail
      refine (rCompare_any _ _ _ HA2.out HB2.out).mono ?_
      rintro e w3 ⟨rfl, hb3⟩
      rw [HE.out]
      go_wp2_with fail
      go_ret
      exact ⟨rfl, (hb1.trans (hb2.mono hb1.size)).trans (hb3.mono (by have := hb1.size; have := hb2.size; omega))⟩
    · have HE := Lib.hid hE
      have hx : ((decide (cmpV a b < 0)) == Op.bytesLess a.toList b.toList) = true := by
        rw [Lib.toList_data, Lib.toList_data, less_cb, hV]; exact beq_self_eq_true _
      have hy : ((decide (0 < cmpV a b)) == (!Op.bytesLess a.toList b.toList && !(a.toList == b.toList))) = true := by
        rw [Lib.toList_data, Lib.toList_data, less_cb, eq_cb, hV]
        generalize Lib.compareBytes a.data.toList b.data.toList = c
        rw [beq_iff_eq, Bool.eq_iff_iff]
        simp; omega
      clear hE hV
      go_enter Try.func5, Try.ntmps5
      go_wp2_with fail
      refine (awake_any _).mono ?_
      rintro e w1 ⟨rfl, hb1⟩
      go_wp2_with fail
      refine (uCompare_any _ _ _ HA.out HB.out).mono ?_
      rintro e w2 ⟨rfl, hb2⟩
      rw [HE.out]
      go_wp2_with fail
      refine (rCompare_any _ _ _ HA2.out HB2.out).mono ?_
      rintro e w3 ⟨rfl, hb3⟩
      rw [HE.out]
      have HL := Lib.hid ((hb1.trans (hb2.mono hb1.size)).trans (hb3.mono (by have := hb1.size; have := hb2.size; omega)))
      clear hb1 hb2 hb3
      go_wp2_with fail
      go_ret
      exact ⟨rfl, HL.out⟩
end Go.Proofs.Ytafocgnhmdhemaa
