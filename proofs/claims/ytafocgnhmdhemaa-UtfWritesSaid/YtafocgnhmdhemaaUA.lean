/- Cut and Count of package utf, Cut of the reference: walked. -/
import Derived.Test.YtafocgnhmdhemaaUs
import Derived.Test.YtafocgnhmdhemaaRange2
import Derived.Test.YtafocgnhmdhemaaUy
import Derived.Sort.QuietIn
namespace Go.Proofs.Ytafocgnhmdhemaa
open Go.RowKit
open PlainAid (bt)
attribute [local go_sem] Oper.semAt_some

/-- the last place up to m that going from a by whole forms comes to -/
def cp (s : ByteArray) (m : Int) : Nat → Nat → Nat
  | 0, a => a
  | k + 1, a => if s.size ≤ a ∨ fmN s a = 0 then a else if m < (a : Int) + fmN s a then a else cp s m k (a + fmN s a)
theorem cp_more (s : ByteArray) (m : Int) : ∀ (k a : Nat), s.size < k + a → ∀ j, cp s m (k + j) a = cp s m k a := by
  intro k
  induction k with
  | zero =>
    intro a h j
    cases j with
    | zero => rfl
    | succ j => rw [Nat.zero_add]; unfold cp; rw [if_pos (.inl (by omega))]
  | succ k ih =>
    intro a h j
    rw [show k + 1 + j = (k + j) + 1 from by omega]
    unfold cp
    split
    · rfl
    · split
      · rfl
      · exact ih _ (by omega) j
def CP (s : ByteArray) (m : Int) (a : Nat) : Nat := cp s m (s.size + 1) a
theorem CP_eq (s : ByteArray) (m : Int) (a : Nat) : CP s m a = if s.size ≤ a ∨ fmN s a = 0 then a else if m < (a : Int) + fmN s a then a else CP s m (a + fmN s a) := by
  by_cases h : s.size ≤ a ∨ fmN s a = 0
  · rw [if_pos h]; unfold CP cp; rw [if_pos h]
  · rw [if_neg h]
    by_cases hz : m < (a : Int) + fmN s a
    · rw [if_pos hz]; unfold CP cp; rw [if_neg h, if_pos hz]
    · rw [if_neg hz]
      have e : CP s m a = cp s m s.size (a + fmN s a) := by
        unfold CP; show cp s m (s.size + 1) a = _
        rw [cp, if_neg h, if_neg hz]
      rw [e]; exact (cp_more s m s.size (a + fmN s a) (by omega) 1).symm
theorem CP_le (s : ByteArray) (m : Int) : ∀ (n a : Nat), s.size - a ≤ n → a ≤ s.size → CP s m a ≤ s.size := by
  intro n
  induction n with
  | zero => intro a h1 h2; rw [CP_eq, if_pos (.inl (by omega))]; exact h2
  | succ n ih =>
    intro a h1 h2
    rw [CP_eq]
    split
    · exact h2
    · rename_i hn
      split
      · exact h2
      · have := fmN_size s a (fun e => hn (.inr e))
        have : fmN s a ≠ 0 := fun e => hn (.inr e)
        exact ih _ (by omega) (by omega)
def cutS (s : ByteArray) (m : Int) : ByteArray := if m < 0 then ⟨#[]⟩ else match BD s 0 with | some _ => ⟨#[]⟩ | none => s.extract 0 (CP s m 0)
def cutE (s : ByteArray) (m : Int) : Int := if m < 0 then 1 else match BD s 0 with | some _ => 40 | none => 0
theorem cut_neg {s : ByteArray} {m : Int} (h : m < 0) : cutS s m = ⟨#[]⟩ ∧ cutE s m = 1 := ⟨if_pos h, if_pos h⟩
theorem cut_bad {s : ByteArray} {m : Int} (h : ¬ m < 0) {x : Nat} (k : BD s 0 = some x) : cutS s m = ⟨#[]⟩ ∧ cutE s m = 40 := by unfold cutS cutE; rw [if_neg h, if_neg h, k]; exact ⟨rfl, rfl⟩
theorem cut_ok {s : ByteArray} {m : Int} (h : ¬ m < 0) (k : BD s 0 = none) : cutS s m = s.extract 0 (CP s m 0) ∧ cutE s m = 0 := by unfold cutS cutE; rw [if_neg h, if_neg h, k]; exact ⟨rfl, rfl⟩

/-- between two rounds of Cut: e is what has been kept -/
def CutAt (s : ByteArray) (m : Int) (a e : Nat) : Prop := ((a : Int) ≤ m ∧ e = a ∧ CP s m a = CP s m 0 ∨ m < (a : Int) ∧ e = CP s m 0) ∧ BD s a = none ∧ a ≤ s.size ∧ e ≤ s.size
theorem cutAt_hit {s : ByteArray} {m : Int} {a e : Nat} (h : CutAt s m a e) (h1 : a < s.size) (h2 : fmN s a ≠ 0) (h3 : (a : Int) + fmN s a ≤ m) : CutAt s m (a + fmN s a) (a + fmN s a) := by
  obtain ⟨h4, h5, h6, h7⟩ := h
  have hz := fmN_size s a h2
  refine ⟨.inl ⟨by omega, rfl, ?_⟩, ?_, hz, hz⟩
  · rcases h4 with ⟨k1, k2, k3⟩ | ⟨k1, k2⟩
    · rw [← k3, CP_eq s m a, if_neg (by rintro (h | h) <;> omega), if_neg (by omega)]
    · omega
  · rw [BD_eq, if_neg (by omega), if_neg h2] at h5; exact h5
theorem cutAt_miss {s : ByteArray} {m : Int} {a e : Nat} (h : CutAt s m a e) (h1 : a < s.size) (h2 : fmN s a ≠ 0) (h3 : m < (a : Int) + fmN s a) : CutAt s m (a + fmN s a) e := by
  obtain ⟨h4, h5, h6, h7⟩ := h
  have hz := fmN_size s a h2
  refine ⟨.inr ⟨by omega, ?_⟩, ?_, hz, h7⟩
  · rcases h4 with ⟨k1, k2, k3⟩ | ⟨k1, k2⟩
    · rw [k2, ← k3, CP_eq s m a, if_neg (by rintro (h | h) <;> omega), if_pos h3]
    · exact k2
  · rw [BD_eq, if_neg (by omega), if_neg h2] at h5; exact h5
theorem cutAt_end {s : ByteArray} {m : Int} {a e : Nat} (h : CutAt s m a e) (h1 : s.size ≤ a) : e = CP s m 0 := by
  obtain ⟨⟨k1, k2, k3⟩ | ⟨k1, k2⟩, h5, h6, h7⟩ := h
  · rw [← k3, CP_eq s m a, if_pos (.inl h1), k2]
  · exact k2

set_option maxHeartbeats 1000000 in
set_option maxRecDepth 100000 in
theorem uCount_any (s : ByteArray) (w : World) (hs : s.size ≤ 35184372088000) :
    Calls Try.prog 27 #[.string s] w fun e w' => e = .returned (.tuple #[.int .i64 (dcV s).length, .int .i64 (bdE s)]) ∧ Below w.heap.size w w' := by
  have HS := Lib.hid hs
  clear hs
  go_enter Try.func27, Try.ntmps27
  go_wp2_with fail
  refine (uDecode_any _ _ HS.out).mono ?_
  rintro e w1 ⟨v, rfl, hv, hb1⟩
  obtain ⟨p, cap, rfl, _⟩ := hv.ints
  clear hv
  go_wp2_with fail
  go_ret2
  exact ⟨rfl, hb1⟩

set_option maxHeartbeats 2000000 in
set_option maxRecDepth 100000 in
theorem rCut_any (s : ByteArray) (m : Int) (w : World) (hs : s.size ≤ 140737488351232) (hm : m ≤ 9223372036854775807) :
    Calls Try.prog 26 #[.string s, .int .i64 m] w fun e w' => e = .returned (.tuple #[.string (cutS s m), .int .i64 (cutE s m)]) ∧ Below w.heap.size w w' := by
  have HS := Lib.hid hs
  by_cases hneg : m < 0
  · have HV := Lib.hid (cut_neg (s := s) hneg)
    go_enter Try.func26, Try.ntmps26
    go_wp2_with fail
    go_ret2
    exact ⟨by rw [HV.out.1, HV.out.2]; rfl, Below.refl _ _⟩
  · cases hB : BD s 0 with
    | some x =>
      have HV := Lib.hid (cut_bad hneg hB)
      have HE := Lib.hid (bd_some hB)
      clear hB
      go_enter Try.func26, Try.ntmps26
      go_wp2_with fail
      refine (rCheck_any _ _ HS.out).mono ?_
      rintro e w1 ⟨rfl, hb1⟩
      rw [HE.out.1, HE.out.2]
      go_wp2_with fail
      go_ret2
      exact ⟨by rw [HV.out.1, HV.out.2]; rfl, hb1⟩
    | none =>
      have HV := Lib.hid (cut_ok hneg hB)
      have HE := Lib.hid (bd_none hB)
      have HBD := Lib.hid hB
      have hm0 : 0 ≤ m := by omega
      clear hB hneg
      go_enter Try.func26, Try.ntmps26
      go_wp2_with fail
      refine (rCheck_any _ _ HS.out).mono ?_
      rintro e w1 ⟨rfl, hb1⟩
      rw [HE.out.1, HE.out.2]
      have HB1 := Lib.hid hb1
      clear hb1
      go_wp2_with fail
      go_loopw [8] (fun i wr => ∃ a : Nat, i = .int .i64 a ∧ (CP s m a = CP s m 0 ∧ BD s a = none ∧ a ≤ s.size ∧ (a : Int) ≤ m) ∧ Below w.heap.size w wr) (fun i _ => s.size - (intOf i).toNat)
      case atStart => exact ⟨0, rfl, ⟨rfl, HBD.out, Nat.zero_le _, hm0⟩, HB1.out⟩
      case round =>
        obtain ⟨a, rfl, hr, hbr⟩ := hrel
        have HR := Lib.hid hr
        have HBR := Lib.hid hbr
        clear hr hbr
        by_cases hlt : a < s.size
        · have hlt' : decide (a < s.size) = true := decide_eq_true hlt
          have HA : Hid (a ≤ s.size) := HR.out.2.2.1
          have hz : fmN s a ≠ 0 := by
            intro e
            have := HR.out.2.1
            rw [BD_eq, if_neg (by omega), if_pos e] at this; cases this
          have hle := fmN_size s a hz
          have hma := HR.out.2.2.2
          have HZ := Lib.hid hz
          have HLT := Lib.hid hlt
          by_cases hg : m < (a : Int) + fmN s a
          · have hg' : decide (m - (a : Int) < (fmN s a : Int)) = true := decide_eq_true (by omega)
            have HC : Hid (CP s m 0 = a) := by show _ = _; rw [← HR.out.1, CP_eq, if_neg (by rintro (h | h) <;> omega), if_pos hg]
            clear hz hlt hg
            go_wp2_with fail
            refine (at_any _ _ _ HS.out HA.out).mono ?_
            rintro e w2 ⟨rfl, hb2⟩
            go_wp2_with fail
            go_ret2
            exact ⟨by rw [HV.out.1, HV.out.2, HC.out]; rfl, HBR.out.trans (hb2.mono HBR.out.size)⟩
          · have hg' : decide (m - (a : Int) < (fmN s a : Int)) = false := decide_eq_false (by omega)
            have HC : Hid (CP s m (a + fmN s a) = CP s m 0) := by show _ = _; rw [← HR.out.1, CP_eq s m a, if_neg (by rintro (h | h) <;> omega), if_neg hg]
            have HD : Hid (BD s (a + fmN s a) = none) := by
              have := HR.out.2.1
              rw [BD_eq, if_neg (by omega), if_neg hz] at this; exact this
            have HG := Lib.hid hg
            clear hz hlt hg
            go_wp2_with fail
            refine (at_any _ _ _ HS.out HA.out).mono ?_
            rintro e w2 ⟨rfl, hb2⟩
            go_wp2_with fail
            go_roundw
            case rel => exact ⟨a + fmN s a, by go_num, ⟨HC.out, HD.out, hle, by have := HG.out; push_cast; omega⟩, HBR.out.trans (hb2.mono HBR.out.size)⟩
            case measure => (have hp := HZ.out; have hq := HLT.out; simp [intOf]; omega)
        · have hlt' : decide (a < s.size) = false := decide_eq_false hlt
          have HC : Hid (CP s m 0 = a) := by show _ = _; rw [← HR.out.1, CP_eq, if_pos (.inl (by omega))]
          have hle : a ≤ s.size := HR.out.2.2.1
          clear hlt
          go_wp2_with fail
          go_ret2
          exact ⟨by rw [HV.out.1, HV.out.2, HC.out]; rfl, HBR.out⟩
end Go.Proofs.Ytafocgnhmdhemaa
