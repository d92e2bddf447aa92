/- Whether entries are few; the reference's test of entries. -/
import Derived.Test.YtcifoallahmjbaaTt
import Derived.Test.YtcifoallahmjbaaEnc
namespace Go.Proofs.Ytcifoallahmjbaa
open Go.RowKit

def sumE (es : List Ent) : Nat := (es.map fun x => x.1.length + x.2.length).sum
theorem sumE_step {es : List Ent} {k : Nat} {x : Ent} (hx : es[k]? = some x) : sumE (es.take (k + 1)) = sumE (es.take k) + (x.1.length + x.2.length) := by
  unfold sumE; rw [take_snocE hx]; simp
theorem sumE_le (es : List Ent) (h : ∀ x ∈ es, EntOk x) : sumE es ≤ es.length * 39582418599936 := by
  induction es with
  | nil => simp [sumE]
  | cons x xs ih =>
    have h1 := h x (List.mem_cons_self ..)
    have h2 := ih (fun y hy => h y (List.mem_cons_of_mem _ hy))
    have := h1.1; have := h1.2.1
    unfold sumE at *
    simp only [List.map_cons, List.sum_cons, List.length_cons]
    omega
def fewE (es : List Ent) : Bool := decide (es.length + sumE es ≤ 1500)

set_option maxHeartbeats 4000000 in
set_option maxRecDepth 100000 in
theorem few_small (R : Nat → Prop) (es : List Ent) (v : Value) (w : World) (hv : EntsIn R w v es) (hok : ∀ x ∈ es, EntOk x) (hl : es.length ≤ 4000) :
    Calls Try.prog 8 #[v] w fun e w' => e = .returned (.bool (fewE es)) ∧ Below w.heap.size w w' := by
  have HV := Lib.hid hv
  obtain ⟨p, cp, rfl, _⟩ := hv
  have HOK := Lib.hid hok
  clear hok
  go_enter Try.func8, Try.ntmps8
  go_wp2
  go_loopw [3, 10] (fun nv i wr => ∃ k : Nat, i = .int .i64 k ∧ k ≤ es.length ∧ nv = .int .i64 ((es.length + sumE (es.take k) : Nat) : Int) ∧ Below w.heap.size w wr) (fun _ i _ => es.length - (intOf i).toNat)
  case atStart => exact ⟨0, rfl, Nat.zero_le _, by simp [sumE], Below.refl _ _⟩
  case round =>
    obtain ⟨k, rfl, hk, rfl, hbr⟩ := hrel
    have HB := Lib.hid hbr
    by_cases hlt : k < es.length
    · have hlt' : decide (k < es.length) = true := decide_eq_true hlt
      obtain ⟨x, hx⟩ : ∃ x, es[k]? = some x := ⟨es[k], List.getElem?_eq_getElem hlt⟩
      obtain ⟨b, o, c, el, rfl, hbR, hbl, hc0, hc1, hci, hue⟩ := (HV.out.kept (Kept.below hbr)).at k x hx
      obtain ⟨pc, cc, rfl, _⟩ := hci
      obtain ⟨pu, cu, rfl, _⟩ := hue
      have HL := Lib.hid hlt
      have hst := sumE_step hx
      have hox := HOK.out x (List.mem_of_getElem? hx)
      have hb1 := hox.1
      have hb2 := hox.2.1
      have hs := sumE_le (es.take k) (fun y hy => HOK.out y (List.mem_of_mem_take hy))
      have htl : (es.take k).length ≤ 4000 := by rw [List.length_take]; omega
      obtain ⟨m, hm⟩ : ∃ m, m = sumE (es.take k) := ⟨_, rfl⟩
      rw [← hm] at hst hs
      rw [← hm]
      have hx1 : x.1.length ≤ 35184372087808 := by omega
      have hx2 : x.2.length ≤ 4398046510976 := by omega
      have hmm : m ≤ 158329674399744000 := by omega
      have HST := Lib.hid hst
      clear hx hlt hbr hm hst hox hb1 hb2 hs htl
      go_wp2
      go_roundw
      case rel => exact ⟨k + 1, by go_num, HL.out, by rw [HST.out]; push_cast; congr 1; omega, HB.out.trans (((Below.refl _ wr).alloc (Nat.le_refl _) _).mono HB.out.size)⟩
      case measure => (have hq := HL.out; simp [intOf]; omega)
    · have hlt' : decide (k < es.length) = false := decide_eq_false hlt
      have HE : Hid (es.take k = es) := List.take_of_length_le (by omega)
      obtain ⟨m, hm⟩ : ∃ m, m = sumE (es.take k) := ⟨_, rfl⟩
      rw [← hm]
      rw [HE.out] at hm
      have HM := Lib.hid hm
      clear hlt hbr hm
      go_wp2
      go_ret
      exact ⟨by unfold fewE; rw [← HM.out]; (have e : ((es.length + m : Nat) : Int) ≤ 1500 ↔ es.length + m ≤ 1500 := by omega); simp only [Ending.returned.injEq]; show Value.bool _ = _; simp only [Value.bool.injEq]; first | rfl | (rw [Bool.eq_iff_iff]; simp; omega), HB.out⟩
set_option maxHeartbeats 4000000 in
set_option maxRecDepth 100000 in
theorem few_any (R : Nat → Prop) (es : List Ent) (v : Value) (w : World) (hv : EntsIn R w v es) (hok : ∀ x ∈ es, EntOk x) (hl : es.length ≤ 140737488351232) :
    Calls Try.prog 8 #[v] w fun e w' => ∃ b, e = .returned (.bool b) ∧ Below w.heap.size w w' := by
  have HV := Lib.hid hv
  obtain ⟨p, cp, rfl, _⟩ := hv
  have HOK := Lib.hid hok
  clear hok
  go_enter Try.func8, Try.ntmps8
  go_wp2
  go_loopw [3, 10] (fun nv i wr => ∃ (k : Nat) (z : Int), i = .int .i64 k ∧ k ≤ es.length ∧ nv = .int .i64 z ∧ Below w.heap.size w wr) (fun _ i _ => es.length - (intOf i).toNat)
  case atStart => exact ⟨0, _, rfl, Nat.zero_le _, rfl, Below.refl _ _⟩
  case round =>
    obtain ⟨k, z, rfl, hk, rfl, hbr⟩ := hrel
    have HB := Lib.hid hbr
    by_cases hlt : k < es.length
    · have hlt' : decide (k < es.length) = true := decide_eq_true hlt
      obtain ⟨x, hx⟩ : ∃ x, es[k]? = some x := ⟨es[k], List.getElem?_eq_getElem hlt⟩
      obtain ⟨b, o, c, el, rfl, hbR, hbl, hc0, hc1, hci, hue⟩ := (HV.out.kept (Kept.below hbr)).at k x hx
      obtain ⟨pc, cc, rfl, _⟩ := hci
      obtain ⟨pu, cu, rfl, _⟩ := hue
      have HL := Lib.hid hlt
      clear hx hlt hbr
      go_wp2
      go_roundw
      case rel => exact ⟨k + 1, _, by go_num, HL.out, rfl, HB.out.trans (((Below.refl _ wr).alloc (Nat.le_refl _) _).mono HB.out.size)⟩
      case measure => (have hq := HL.out; simp [intOf]; omega)
    · have hlt' : decide (k < es.length) = false := decide_eq_false hlt
      clear hlt hbr
      go_wp2
      go_ret
      exact ⟨_, rfl, HB.out⟩
end Go.Proofs.Ytcifoallahmjbaa
