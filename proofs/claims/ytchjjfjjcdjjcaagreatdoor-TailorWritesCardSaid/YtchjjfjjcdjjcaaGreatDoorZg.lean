/- Package tailor: what Write writes, in plain words; whether rules are few. -/
import Derived.Test.YtchjjfjjcdjjcaaGreatDoorZe
import Derived.Test.YtchjjfjjcdjjcaaGreatDoorZc
import Derived.Test.YtchjjfjjcdjjcaaGreatDoorHeldS
namespace Go.Proofs.YtchjjfjjcdjjcaaGreatDoor
open Go.RowKit

/-- a sign -/
def signW (k : Int) : List Int := if k = 0 then [38] else if k = 1 then [60] else if k = 2 then [60, 60] else if k = 3 then [60, 60, 60] else [61]
def ruleW (x : Rul) : List Int := signW x.1 ++ shortT x.2.1 ++ (if x.2.2 = [] then [] else 47 :: shortT x.2.2)
def writeT (l : List Rul) : List Int := l.flatMap ruleW
/-- how much rules hold -/
def sumR (l : List Rul) : Nat := (l.map fun x => x.2.1.length + x.2.2.length).sum
theorem take_snocZ {α : Type} {l : List α} {i : Nat} {x : α} (h : l[i]? = some x) : l.take (i + 1) = l.take i ++ [x] := by rw [List.take_add_one, h]; rfl
theorem sumR_step {l : List Rul} {k : Nat} {x : Rul} (hx : l[k]? = some x) : sumR (l.take (k + 1)) = sumR (l.take k) + (x.2.1.length + x.2.2.length) := by
  unfold sumR; rw [take_snocZ hx]; simp
theorem sumR_mem {l : List Rul} {x : Rul} (h : x ∈ l) : x.2.1.length + x.2.2.length ≤ sumR l := by
  induction l with
  | nil => cases h
  | cons y ys ih =>
    unfold sumR at *
    simp only [List.map_cons, List.sum_cons]
    rcases List.mem_cons.1 h with rfl | h
    · omega
    · have := ih h; omega
/-- what is known of each rule of an argument -/
def RulWf (x : Rul) : Prop := x.2.1.length * 4 ≤ 140737488351232 ∧ x.2.2.length * 4 ≤ 140737488351232
theorem sumR_le (l : List Rul) (h : ∀ x ∈ l, RulWf x) : sumR l ≤ l.length * 70368744175616 := by
  induction l with
  | nil => simp [sumR]
  | cons x xs ih =>
    have h1 := h x (List.mem_cons_self ..)
    have h2 := ih (fun y hy => h y (List.mem_cons_of_mem _ hy))
    have := h1.1; have := h1.2
    unfold sumR at *
    simp only [List.map_cons, List.sum_cons, List.length_cons]
    omega
theorem shortT_len (l : List Int) : (shortT l).length ≤ 6 * l.length := by
  have h := (mixT_len l).2
  unfold shortT
  split
  · rename_i hc; have := hc.2; rw [List.length_cons, List.length_append]; simp only [List.length_cons, List.length_nil]; omega
  · exact h
theorem signW_len (k : Int) : (signW k).length ≤ 3 ∧ 1 ≤ (signW k).length := by
  unfold signW
  by_cases h0 : k = 0
  · rw [if_pos h0]; simp
  by_cases h1 : k = 1
  · rw [if_neg h0, if_pos h1]; simp
  by_cases h2 : k = 2
  · rw [if_neg h0, if_neg h1, if_pos h2]; simp
  by_cases h3 : k = 3
  · rw [if_neg h0, if_neg h1, if_neg h2, if_pos h3]; simp
  · rw [if_neg h0, if_neg h1, if_neg h2, if_neg h3]; simp
theorem ruleW_len (x : Rul) : (ruleW x).length ≤ 4 + 6 * (x.2.1.length + x.2.2.length) := by
  have h1 := shortT_len x.2.1
  have h2 := shortT_len x.2.2
  have h3 := signW_len x.1
  unfold ruleW
  split
  · simp; omega
  · simp; omega
theorem writeT_len (l : List Rul) : (writeT l).length ≤ 4 * l.length + 6 * sumR l := by
  induction l with
  | nil => simp [writeT]
  | cons x xs ih =>
    have := ruleW_len x
    unfold writeT sumR at *
    simp only [List.flatMap_cons, List.length_append, List.map_cons, List.sum_cons, List.length_cons]
    omega
theorem writeT_snoc {l : List Rul} {k : Nat} {x : Rul} (h : l[k]? = some x) : writeT (l.take (k + 1)) = writeT (l.take k) ++ ruleW x := by
  unfold writeT; rw [take_snocZ h]; simp
set_option maxHeartbeats 4000000 in
set_option maxRecDepth 100000 in
theorem light_small (R : Nat → Prop) (l : List Rul) (v : Value) (w : World) (hv : RulsIn R w v l) (hok : ∀ x ∈ l, RulWf x) (hl : l.length ≤ 2000) :
    Calls Tryz.prog 5 #[v] w fun e w' => e = .returned (.bool (decide (l.length + sumR l ≤ 600))) ∧ Below w.heap.size w w' := by
  have HV := Lib.hid hv
  obtain ⟨p, cp, rfl, _⟩ := hv
  have HOK := Lib.hid hok
  clear hok
  go_enter Tryz.func5, Tryz.ntmps5
  go_wp2
  go_loopw [3, 10] (fun nv i wr => ∃ k : Nat, i = .int .i64 k ∧ k ≤ l.length ∧ nv = .int .i64 ((l.length + sumR (l.take k) : Nat) : Int) ∧ Below w.heap.size w wr) (fun _ i _ => l.length - (intOf i).toNat)
  case atStart => exact ⟨0, rfl, Nat.zero_le _, by simp [sumR], by (repeat' (first | (with_reducible exact Below.refl _ _) | (with_reducible assumption) | (with_reducible refine Below.alloc ?_ ?_ _) | (with_reducible refine Below.drew ?_) | (with_reducible refine below_drewN ?_ _) | (with_reducible refine Below.setCell ?_ ?_ _) | (with_reducible refine Below.trans ?_ (Below.mono (by assumption) ?_)) | go_size))⟩
  case round =>
    obtain ⟨k, rfl, hk, rfl, hbr⟩ := hrel
    have HB := Lib.hid hbr
    by_cases hlt : k < l.length
    · have hlt' : decide (k < l.length) = true := decide_eq_true hlt
      obtain ⟨x, hx⟩ : ∃ x, l[k]? = some x := ⟨l[k], List.getElem?_eq_getElem hlt⟩
      obtain ⟨b, o, tv, xv, rfl, hbR, hbl, hc0, hc1, hc2, hci, hue⟩ := (HV.out.kept (Kept.below hbr)).at' k x hx
      obtain ⟨pc, cc, rfl, _⟩ := hci
      obtain ⟨pu, cu, rfl, _⟩ := hue
      have HL := Lib.hid hlt
      have hst := sumR_step hx
      have hox := HOK.out x (List.mem_of_getElem? hx)
      have hb1 := hox.1
      have hb2 := hox.2
      have hs := sumR_le (l.take k) (fun y hy => HOK.out y (List.mem_of_mem_take hy))
      have htl : (l.take k).length ≤ 2000 := by rw [List.length_take]; omega
      obtain ⟨m, hm⟩ : ∃ m, m = sumR (l.take k) := ⟨_, rfl⟩
      rw [← hm] at hst hs
      rw [← hm]
      have hx1 : x.2.1.length ≤ 35184372087808 := by omega
      have hx2 : x.2.2.length ≤ 35184372087808 := by omega
      have hmm : m ≤ 140737488351232000 := by omega
      have HST := Lib.hid hst
      clear hx hlt hbr hm hst hox hb1 hb2 hs htl
      go_wp2
      go_roundw
      case rel => exact ⟨k + 1, by go_num, HL.out, by rw [HST.out]; push_cast; congr 1; omega, HB.out.trans (((Below.refl _ wr).alloc (Nat.le_refl _) _).mono HB.out.size)⟩
      case measure => (have hq := HL.out; simp [intOf]; omega)
    · have hlt' : decide (k < l.length) = false := decide_eq_false hlt
      have HE : Hid (l.take k = l) := List.take_of_length_le (by omega)
      obtain ⟨m, hm⟩ : ∃ m, m = sumR (l.take k) := ⟨_, rfl⟩
      rw [← hm]
      rw [HE.out] at hm
      have HM := Lib.hid hm
      clear hlt hbr hm
      go_wp2
      go_ret
      exact ⟨by rw [← HM.out]; (have e : ((l.length + m : Nat) : Int) ≤ 600 ↔ l.length + m ≤ 600 := by omega); simp only [Ending.returned.injEq]; show Value.bool _ = _; simp only [Value.bool.injEq]; first | rfl | (rw [Bool.eq_iff_iff]; simp; omega), HB.out⟩
set_option maxHeartbeats 4000000 in
set_option maxRecDepth 100000 in
theorem light_any (R : Nat → Prop) (l : List Rul) (v : Value) (w : World) (hv : RulsIn R w v l) (hl : l.length ≤ 140737488351232) :
    Calls Tryz.prog 5 #[v] w fun e w' => ∃ b, e = .returned (.bool b) ∧ Below w.heap.size w w' := by
  have HV := Lib.hid hv
  obtain ⟨p, cp, rfl, _⟩ := hv
  go_enter Tryz.func5, Tryz.ntmps5
  go_wp2
  go_loopw [3, 10] (fun nv i wr => ∃ (k : Nat) (z : Int), i = .int .i64 k ∧ k ≤ l.length ∧ nv = .int .i64 z ∧ Below w.heap.size w wr) (fun _ i _ => l.length - (intOf i).toNat)
  case atStart => exact ⟨0, _, rfl, Nat.zero_le _, rfl, by (repeat' (first | (with_reducible exact Below.refl _ _) | (with_reducible assumption) | (with_reducible refine Below.alloc ?_ ?_ _) | (with_reducible refine Below.drew ?_) | (with_reducible refine below_drewN ?_ _) | (with_reducible refine Below.setCell ?_ ?_ _) | (with_reducible refine Below.trans ?_ (Below.mono (by assumption) ?_)) | go_size))⟩
  case round =>
    obtain ⟨k, z, rfl, hk, rfl, hbr⟩ := hrel
    have HB := Lib.hid hbr
    by_cases hlt : k < l.length
    · have hlt' : decide (k < l.length) = true := decide_eq_true hlt
      obtain ⟨x, hx⟩ : ∃ x, l[k]? = some x := ⟨l[k], List.getElem?_eq_getElem hlt⟩
      obtain ⟨b, o, tv, xv, rfl, hbR, hbl, hc0, hc1, hc2, hci, hue⟩ := (HV.out.kept (Kept.below hbr)).at' k x hx
      obtain ⟨pc, cc, rfl, _⟩ := hci
      obtain ⟨pu, cu, rfl, _⟩ := hue
      have HL := Lib.hid hlt
      clear hx hlt hbr
      go_wp2
      go_roundw
      case rel => exact ⟨k + 1, _, by go_num, HL.out, rfl, HB.out.trans (((Below.refl _ wr).alloc (Nat.le_refl _) _).mono HB.out.size)⟩
      case measure => (have hq := HL.out; simp [intOf]; omega)
    · have hlt' : decide (k < l.length) = false := decide_eq_false hlt
      clear hlt hbr
      go_wp2
      go_ret
      exact ⟨_, rfl, HB.out⟩
end Go.Proofs.YtchjjfjjcdjjcaaGreatDoor
