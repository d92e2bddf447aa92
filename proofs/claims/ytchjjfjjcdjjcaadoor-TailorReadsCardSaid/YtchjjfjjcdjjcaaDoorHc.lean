/- The reference's reader of rules in plain words: signs. -/
import Derived.Test.YtchjjfjjcdjjcaaDoorHb
namespace Go.Proofs.YtchjjfjjcdjjcaaDoor
open Go.RowKit
open PlainAid (bt)

theorem beq_byte (c : UInt8) (x : Int) (h0 : 0 ≤ x) (h1 : x ≤ 255) : (UInt8.ofNat x.toNat == c) = decide (x = (c.toNat : Int)) := by
  rw [← byte_eq c x h0 h1]
  exact Bool.eq_iff_iff.2 ⟨fun h => by rw [eq_of_beq h]; exact beq_self_eq_true _, fun h => by rw [eq_of_beq h]; exact beq_self_eq_true _⟩
theorem hasT1 (s : ByteArray) (i : Nat) (c : UInt8) : hasT s i ⟨#[c]⟩ = decide (i + 1 ≤ s.size ∧ bt s i = (c.toNat : Int)) := by
  unfold hasT
  rw [Lib.extract_toList]
  have e : (⟨#[c]⟩ : ByteArray).size = 1 := rfl
  have e2 : (⟨#[c]⟩ : ByteArray).toList = [c] := by rw [Lib.toList_data]
  rw [e, e2]
  by_cases h : i + 1 ≤ s.size
  · rw [decide_eq_true h, Bool.true_and, drop_bt s i h, show i + 1 - i = 1 by omega]
    simp only [List.take_succ_cons, List.take_zero]
    have := beq_byte c (bt s i) (PlainAid.bt_nonneg s i) (PlainAid.bt_le s i)
    simp only [h, true_and, ← this]
    simp
  · rw [decide_eq_false h, decide_eq_false (fun hh => h hh.1)]; rfl
theorem hasT2 (s : ByteArray) (i : Nat) (c d : UInt8) : hasT s i ⟨#[c, d]⟩ = decide (i + 2 ≤ s.size ∧ bt s i = (c.toNat : Int) ∧ bt s (i + 1) = (d.toNat : Int)) := by
  unfold hasT
  rw [Lib.extract_toList]
  have e : (⟨#[c, d]⟩ : ByteArray).size = 2 := rfl
  have e2 : (⟨#[c, d]⟩ : ByteArray).toList = [c, d] := by rw [Lib.toList_data]
  rw [e, e2]
  by_cases h : i + 2 ≤ s.size
  · rw [decide_eq_true h, Bool.true_and, drop_bt s i (by omega), drop_bt s (i + 1) (by omega), show i + 2 - i = 2 by omega]
    simp only [List.take_succ_cons, List.take_zero]
    have h1 := beq_byte c (bt s i) (PlainAid.bt_nonneg s i) (PlainAid.bt_le s i)
    have h2 := beq_byte d (bt s (i + 1)) (PlainAid.bt_nonneg s _) (PlainAid.bt_le s _)
    simp only [h, true_and, Bool.decide_and, ← h1, ← h2]
    simp
  · rw [decide_eq_false h, decide_eq_false (fun hh => h hh.1)]; rfl
theorem hasT3 (s : ByteArray) (i : Nat) (c d f : UInt8) : hasT s i ⟨#[c, d, f]⟩ = decide (i + 3 ≤ s.size ∧ bt s i = (c.toNat : Int) ∧ bt s (i + 1) = (d.toNat : Int) ∧ bt s (i + 2) = (f.toNat : Int)) := by
  unfold hasT
  rw [Lib.extract_toList]
  have e : (⟨#[c, d, f]⟩ : ByteArray).size = 3 := rfl
  have e2 : (⟨#[c, d, f]⟩ : ByteArray).toList = [c, d, f] := by rw [Lib.toList_data]
  rw [e, e2]
  by_cases h : i + 3 ≤ s.size
  · rw [decide_eq_true h, Bool.true_and, drop_bt s i (by omega), drop_bt s (i + 1) (by omega), drop_bt s (i + 2) (by omega), show i + 3 - i = 3 by omega]
    simp only [List.take_succ_cons, List.take_zero]
    have h1 := beq_byte c (bt s i) (PlainAid.bt_nonneg s i) (PlainAid.bt_le s i)
    have h2 := beq_byte d (bt s (i + 1)) (PlainAid.bt_nonneg s _) (PlainAid.bt_le s _)
    have h3 := beq_byte f (bt s (i + 2)) (PlainAid.bt_nonneg s _) (PlainAid.bt_le s _)
    simp only [h, true_and, Bool.decide_and, ← h1, ← h2, ← h3]
    simp
  · rw [decide_eq_false h, decide_eq_false (fun hh => h hh.1)]; rfl
/-- the sign that comes, as the reference looks for it -/
def rSgn (s : ByteArray) (i : Nat) : Int :=
  if hasT s i ⟨#[60, 60, 60]⟩ = true then 3 else if hasT s i ⟨#[60, 60]⟩ = true then 2 else if hasT s i ⟨#[60]⟩ = true then 1 else if hasT s i ⟨#[61]⟩ = true then 4 else if hasT s i ⟨#[38]⟩ = true then 0 else -1
def sgL (k : Int) : Nat := if k = 3 then 3 else if k = 2 then 2 else 1
theorem ext1 (s : ByteArray) (i : Nat) (h : i + 1 ≤ s.size) : (s.extract i (i + 1)).data.toList = [UInt8.ofNat (bt s i).toNat] := by
  rw [Lib.extract_data, drop_bt s i h, show i + 1 - i = 1 by omega]; rfl
theorem ext2 (s : ByteArray) (i : Nat) (h : i + 2 ≤ s.size) : (s.extract i (i + 2)).data.toList = [UInt8.ofNat (bt s i).toNat, UInt8.ofNat (bt s (i + 1)).toNat] := by
  rw [Lib.extract_data, drop_bt s i (by omega), drop_bt s (i + 1) (by omega), show i + 2 - i = 2 by omega]; rfl
theorem ext3 (s : ByteArray) (i : Nat) (h : i + 3 ≤ s.size) : (s.extract i (i + 3)).data.toList = [UInt8.ofNat (bt s i).toNat, UInt8.ofNat (bt s (i + 1)).toNat, UInt8.ofNat (bt s (i + 2)).toNat] := by
  rw [Lib.extract_data, drop_bt s i (by omega), drop_bt s (i + 1) (by omega), drop_bt s (i + 2) (by omega), show i + 3 - i = 3 by omega]; rfl
theorem lts_one (s : ByteArray) (n e : Nat) (h : e < s.size ∧ bt s e = 60) : ltsF s (n + 1) e = ltsF s n (e + 1) := by rw [ltsF, if_pos h]
theorem lts_no (s : ByteArray) (n e : Nat) (h : ¬ (e < s.size ∧ bt s e = 60)) : ltsF s n e = e := by
  cases n with
  | zero => rfl
  | succ n => rw [ltsF, if_neg h]
/-- the two ways to find a sign -/
theorem sgn_rel (s : ByteArray) (i : Nat) (hi : i < s.size) : (rSgn s i < 0 ∧ sgnT s i = none) ∨ (0 ≤ rSgn s i ∧ sgnT s i = some (rSgn s i) ∧ endS s i = i + sgL (rSgn s i) ∧ i + sgL (rSgn s i) ≤ s.size) := by
  unfold rSgn
  simp only [hasT1, hasT2, hasT3, decide_eq_true_eq]
  have e60 : ((60 : UInt8).toNat : Int) = 60 := rfl
  have e61 : ((61 : UInt8).toNat : Int) = 61 := rfl
  have e38 : ((38 : UInt8).toNat : Int) = 38 := rfl
  rw [e60, e61, e38]
  by_cases h0 : bt s i = 60
  · right
    by_cases h1 : i + 1 < s.size ∧ bt s (i + 1) = 60
    · by_cases h2 : i + 2 < s.size ∧ bt s (i + 2) = 60
      · have he : endS s i = i + 3 := by
          unfold endS
          rw [lts_one s 2 i ⟨hi, h0⟩, lts_one s 1 (i + 1) h1, lts_one s 0 (i + 2) h2]
          rw [if_neg (by unfold ltsF; omega)]; rfl
        rw [if_pos ⟨by omega, h0, h1.2, h2.2⟩]
        refine ⟨by decide, ?_, he, by show i + 3 ≤ _; omega⟩
        unfold sgnT
        rw [he, ext3 s i (by omega), h0, h1.2, h2.2]; rfl
      · have he : endS s i = i + 2 := by
          unfold endS
          rw [lts_one s 2 i ⟨hi, h0⟩, lts_one s 1 (i + 1) h1, lts_no s 1 (i + 2) h2]
          rw [if_neg (by omega)]
        rw [if_neg (fun h => h2 ⟨by omega, h.2.2.2⟩), if_pos ⟨by omega, h0, h1.2⟩]
        refine ⟨by decide, ?_, he, by show i + 2 ≤ _; omega⟩
        unfold sgnT
        rw [he, ext2 s i (by omega), h0, h1.2]; rfl
    · have he : endS s i = i + 1 := by
        unfold endS
        rw [lts_one s 2 i ⟨hi, h0⟩, lts_no s 2 (i + 1) h1]
        rw [if_neg (by omega)]
      rw [if_neg (fun h => h1 ⟨by omega, h.2.2.1⟩), if_neg (fun h => h1 ⟨by omega, h.2.2⟩), if_pos ⟨by omega, h0⟩]
      refine ⟨by decide, ?_, he, by show i + 1 ≤ _; omega⟩
      unfold sgnT
      rw [he, ext1 s i (by omega), h0]; rfl
  · have he : endS s i = i + 1 := by
      unfold endS
      rw [lts_no s 3 i (fun h => h0 h.2), if_pos ⟨rfl, hi⟩]
    have hs : sgnT s i = signK [UInt8.ofNat (bt s i).toNat] := by unfold sgnT; rw [he, ext1 s i (by omega)]
    rw [if_neg (fun h => h0 h.2.1), if_neg (fun h => h0 h.2.1), if_neg (fun h => h0 h.2)]
    by_cases h1 : bt s i = 61
    · right
      rw [if_pos ⟨by omega, h1⟩, hs, h1]
      exact ⟨by decide, rfl, he, by show i + 1 ≤ _; omega⟩
    · rw [if_neg (fun h => h1 h.2)]
      by_cases h2 : bt s i = 38
      · right
        rw [if_pos ⟨by omega, h2⟩, hs, h2]
        exact ⟨by decide, rfl, he, by show i + 1 ≤ _; omega⟩
      · left
        rw [if_neg (fun h => h2 h.2), hs]
        refine ⟨by decide, ?_⟩
        have b0 := PlainAid.bt_nonneg s i
        have b1 := PlainAid.bt_le s i
        obtain ⟨n, hn⟩ : ∃ n : Nat, bt s i = n := ⟨(bt s i).toNat, by omega⟩
        rw [hn] at h0 h1 h2 b1 ⊢
        rw [Int.toNat_natCast]
        have := List.all_eq_true.1 (show (List.range 256).all (fun n => n == 60 || n == 61 || n == 38 || (signK [UInt8.ofNat n]).isNone) = true by kernel_rfl) n (by simp; omega)
        have k0 : (n == 60) = false := by simp; omega
        have k1 : (n == 61) = false := by simp; omega
        have k2 : (n == 38) = false := by simp; omega
        rw [k0, k1, k2] at this
        simpa using this
end Go.Proofs.YtchjjfjjcdjjcaaDoor
