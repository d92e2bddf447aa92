/- The reference: what begins, what is found, the longest match; whether entries are few. -/
import Derived.Test.YtcifoallahmjbaaTs
namespace Go.Proofs.Ytcifoallahmjbaa
open Go.RowKit

theorem any_take_step {es : List Ent} {k : Nat} {x : Ent} {f : Ent → Bool} (hx : es[k]? = some x) (h : (es.take k).any f = false) (hf : f x = false) : (es.take (k + 1)).any f = false := by
  rw [take_snocE hx, List.any_append, h]; simp [hf]
theorem any_hit {es : List Ent} {k : Nat} {x : Ent} {f : Ent → Bool} (hx : es[k]? = some x) (hf : f x = true) : es.any f = true := List.any_eq_true.2 ⟨x, List.mem_of_getElem? hx, hf⟩
theorem any_end {es : List Ent} {k : Nat} {f : Ent → Bool} (hk : es.length ≤ k) (h : (es.take k).any f = false) : es.any f = false := by rwa [List.take_of_length_le hk] at h
/-- an entry more exceeds the given one and begins with it -/
def moreB (codes : List Int) (x : Ent) : Bool := decide (codes.length < x.1.length) && decide (codes <+: x.1)

set_option maxHeartbeats 4000000 in
set_option maxRecDepth 100000 in
theorem rBegins_any (R Q : Nat → Prop) (es : List Ent) (codes : List Int) (v u : Value) (w : World) (hv : EntsIn R w v es) (hu : IntsIn Q .i32 w u codes) (hok : ∀ x ∈ es, EntOk x) (hl : es.length ≤ 140737488351232) (hc : codes.length ≤ 140737488351232) :
    Calls Try.prog 19 #[v, u] w fun e w' => e = .returned (.bool (es.any (moreB codes))) ∧ Below w.heap.size w w' := by
  have HV := Lib.hid hv
  have HU := Lib.hid hu
  obtain ⟨p, cp, rfl, _⟩ := hv
  obtain ⟨q, cq, rfl, _⟩ := hu
  have HOK := Lib.hid hok
  have HCL := Lib.hid hc
  clear hok
  go_enter Try.func19, Try.ntmps19
  go_wp2
  go_loopw [9] (fun i wr => ∃ k : Nat, i = .int .i64 k ∧ (k ≤ es.length ∧ (es.take k).any (moreB codes) = false) ∧ Below w.heap.size w wr) (fun i _ => es.length - (intOf i).toNat)
  case atStart => exact ⟨0, rfl, ⟨Nat.zero_le _, by simp⟩, Below.refl _ _⟩
  case round =>
    obtain ⟨k, rfl, hr, hbr⟩ := hrel
    have HR := Lib.hid hr
    have HB := Lib.hid hbr
    clear hr
    by_cases hlt : k < es.length
    · have hlt' : decide (k < es.length) = true := decide_eq_true hlt
      obtain ⟨x, hx⟩ : ∃ x, es[k]? = some x := ⟨es[k], List.getElem?_eq_getElem hlt⟩
      obtain ⟨b, o, c, el, rfl, hbR, hbl, hc0, hc1, hci, hue⟩ := (HV.out.kept (Kept.below hbr)).at k x hx
      have HCI := Lib.hid hci
      obtain ⟨pc, cc, rfl, _⟩ := hci
      obtain ⟨pu, cu, rfl, _⟩ := hue
      have HX := Lib.hid hx
      have HL := Lib.hid hlt
      have hx1 := (HOK.out x (List.mem_of_getElem? hx)).1
      have hx2 : x.1.length ≤ 35184372087808 := (by omega)
      have HBW : Hid (Below wr.heap.size wr (wr.alloc (.cells #[.slice pc x.1.length cc, .slice pu x.2.length cu] 35))) := (Below.refl _ _).alloc (Nat.le_refl _) _
      clear hx hlt hbr hx1
      by_cases hm : codes.length < x.1.length
      · have hm1 : decide ((codes.length : Int) < (x.1.length : Int)) = true := decide_eq_true (by omega)
        have hm2 : decide (codes.length < x.1.length) = true := decide_eq_true hm
        have HMB : Hid (moreB codes x = decide (codes <+: x.1)) := by show _ = _; unfold moreB; rw [decide_eq_true hm, Bool.true_and]
        clear hm
        go_wp2_with fail
        refine (rbegins_any R Q x.1 codes _ _ _ (HCI.out.kept (Kept.below HBW.out)) (HU.out.kept (Kept.below (HB.out.trans (HBW.out.mono HB.out.size)))) (by omega) HCL.out).mono ?_
        rw [← HMB.out]
        rintro e w2 ⟨rfl, hb2⟩
        have HB2 : Hid (Below w.heap.size w w2) := (HB.out.trans (HBW.out.mono HB.out.size)).trans (hb2.mono (Nat.le_trans HB.out.size HBW.out.size))
        clear hb2
        cases hp : moreB codes x
        · have HT := Lib.hid (any_take_step HX.out HR.out.2 hp)
          clear hp
          go_wp2_with fail
          go_roundw
          case rel => exact ⟨k + 1, by go_num, ⟨HL.out, HT.out⟩, HB2.out⟩
          case measure => (have hq := HL.out; simp [intOf]; omega)
        · have HT := Lib.hid (any_hit HX.out hp)
          clear hp
          go_wp2_with fail
          go_ret
          exact ⟨by rw [HT.out]; rfl, HB2.out⟩
      · have hm1 : decide ((codes.length : Int) < (x.1.length : Int)) = false := decide_eq_false (by omega)
        have hm2 : decide (codes.length < x.1.length) = false := decide_eq_false hm
        have HT := Lib.hid (any_take_step HX.out HR.out.2 (show moreB codes x = false by unfold moreB; rw [decide_eq_false hm, Bool.false_and]))
        clear hm
        go_wp2
        go_roundw
        case rel => exact ⟨k + 1, by go_num, ⟨HL.out, HT.out⟩, HB.out.trans (HBW.out.mono HB.out.size)⟩
        case measure => (have hq := HL.out; simp [intOf]; omega)
    · have hlt' : decide (k < es.length) = false := decide_eq_false hlt
      have HT := Lib.hid (any_end (by omega) HR.out.2)
      clear hlt hbr
      go_wp2
      go_ret
      exact ⟨by rw [HT.out]; rfl, HB.out⟩

theorem idx_here {es : List Ent} {k : Nat} {x : Ent} {codes : List Int} (hx : es[k]? = some x) (h : ∀ y ∈ es.take k, y.1 ≠ codes) (hc : x.1 = codes) : idx es codes = some k := by
  unfold idx
  rw [List.findIdx?_eq_some_iff_getElem]
  obtain ⟨hk, rfl⟩ := List.getElem?_eq_some_iff.1 hx
  refine ⟨hk, by simpa using hc, fun j hj => ?_⟩
  have : es[j] ∈ es.take k := by rw [List.mem_take_iff_getElem]; exact ⟨j, by omega, rfl⟩
  simpa using h _ this
theorem idx_nowhere {es : List Ent} {codes : List Int} (h : ∀ y ∈ es, y.1 ≠ codes) : idx es codes = none := by
  unfold idx
  rw [List.findIdx?_eq_none_iff]
  intro y hy; simpa using h y hy
theorem all_take_stepE {es : List Ent} {k : Nat} {x : Ent} {f : Ent → Prop} (hx : es[k]? = some x) (h : ∀ y ∈ es.take k, f y) (hf : f x) : ∀ y ∈ es.take (k + 1), f y := by
  rw [take_snocE hx]
  intro y hy
  rcases List.mem_append.1 hy with hy | hy
  · exact h y hy
  · simp only [List.mem_singleton] at hy; rw [hy]; exact hf

set_option maxHeartbeats 4000000 in
set_option maxRecDepth 100000 in
theorem rGet_any (R Q : Nat → Prop) (es : List Ent) (codes : List Int) (v u : Value) (w : World) (hv : EntsIn R w v es) (hu : IntsIn Q .i32 w u codes) (hok : ∀ x ∈ es, EntOk x) (hl : es.length ≤ 140737488351232) (hc : codes.length ≤ 140737488351232) :
    Calls Try.prog 16 #[v, u] w fun e w' => ∃ z, e = .returned (.tuple #[z, .bool (idx es codes).isSome]) ∧ ElsIn R w' z (elsOf es (idx es codes)) ∧ Below w.heap.size w w' := by
  have HV := Lib.hid hv
  have HU := Lib.hid hu
  obtain ⟨p, cp, rfl, _⟩ := hv
  obtain ⟨q, cq, rfl, _⟩ := hu
  have HOK := Lib.hid hok
  have HCL := Lib.hid hc
  clear hok hc
  go_enter Try.func16, Try.ntmps16
  go_wp2
  go_loopw [10] (fun i wr => ∃ k : Nat, i = .int .i64 k ∧ (k ≤ es.length ∧ ∀ y ∈ es.take k, y.1 ≠ codes) ∧ Below w.heap.size w wr) (fun i _ => es.length - (intOf i).toNat)
  case atStart => exact ⟨0, rfl, ⟨Nat.zero_le _, by simp⟩, Below.refl _ _⟩
  case round =>
    obtain ⟨k, rfl, hr, hbr⟩ := hrel
    have HR := Lib.hid hr
    have HB := Lib.hid hbr
    clear hr
    by_cases hlt : k < es.length
    · have hlt' : decide (k < es.length) = true := decide_eq_true hlt
      obtain ⟨x, hx⟩ : ∃ x, es[k]? = some x := ⟨es[k], List.getElem?_eq_getElem hlt⟩
      obtain ⟨b, o, c, el, rfl, hbR, hbl, hc0, hc1, hci, hue⟩ := (HV.out.kept (Kept.below hbr)).at k x hx
      have HCI := Lib.hid hci
      have HUE := Lib.hid hue
      obtain ⟨pc, cc, rfl, _⟩ := hci
      obtain ⟨pu, cu, rfl, _⟩ := hue
      have HX := Lib.hid hx
      have HL := Lib.hid hlt
      have HX1 := Lib.hid (HOK.out x (List.mem_of_getElem? hx)).1
      have HBW : Hid (Below wr.heap.size wr (wr.alloc (.cells #[.slice pc x.1.length cc, .slice pu x.2.length cu] 35))) := (Below.refl _ _).alloc (Nat.le_refl _) _
      clear hx hlt hbr
      go_wp2_with fail
      refine (runes_any R Q x.1 codes _ _ _ (HCI.out.kept (Kept.below HBW.out)) (HU.out.kept (Kept.below (HB.out.trans (HBW.out.mono HB.out.size)))) (by have := HX1.out; unfold maxLen; omega) (by have := HCL.out; unfold maxLen; omega)).mono ?_
      rintro e w2 ⟨rfl, hb2⟩
      have k1 : w2.cell? ⟨wr.heap.size, 1, none⟩ = some (.slice pu x.2.length cu) := by rw [hb2.cell (p := ⟨wr.heap.size, 1, none⟩) (by simp)]; simp [go_sem]
      have HB2 : Hid (Below w.heap.size w w2) := (HB.out.trans (HBW.out.mono HB.out.size)).trans (hb2.mono (Nat.le_trans HB.out.size HBW.out.size))
      have HU2 := Lib.hid (HUE.out.kept (Kept.below (HBW.out.trans (hb2.mono HBW.out.size))))
      clear hb2
      by_cases hp : x.1 = codes
      · have HI := Lib.hid (idx_here HX.out HR.out.2 hp)
        rw [decide_eq_true hp]
        clear hp
        go_wp2_with fail
        go_ret2
        refine ⟨_, by rw [HI.out]; rfl, ?_, HB2.out⟩
        rw [HI.out]
        have := HU2.out
        unfold elsOf
        simp only [HX.out]; exact this
      · have HT := Lib.hid (all_take_stepE (f := fun y => y.1 ≠ codes) HX.out HR.out.2 hp)
        rw [decide_eq_false hp]
        clear hp
        go_wp2_with fail
        go_roundw
        case rel => exact ⟨k + 1, by go_num, ⟨HL.out, HT.out⟩, HB2.out⟩
        case measure => (have hq := HL.out; simp [intOf]; omega)
    · have hlt' : decide (k < es.length) = false := decide_eq_false hlt
      have HT : Hid (idx es codes = none) := idx_nowhere (by have := HR.out.2; rwa [List.take_of_length_le (by omega)] at this)
      clear hlt hbr
      go_wp2
      go_ret2
      exact ⟨_, by rw [HT.out]; rfl, by rw [HT.out]; exact .nil _ _, HB.out⟩

/-- the reference's way, over the first k -/
def rlgK (es : List Ent) (codes : List Int) (k : Nat) : Nat × List El := rlg (es.take k) codes
theorem rlgK_step {es : List Ent} {codes : List Int} {k : Nat} {x : Ent} (hx : es[k]? = some x) : rlgK es codes (k + 1) = if x.1 <+: codes ∧ (rlgK es codes k).1 < x.1.length then (x.1.length, x.2) else rlgK es codes k := by
  unfold rlgK rlg
  rw [take_snocE hx, List.foldl_append]; rfl
theorem rlgK_le (es : List Ent) (codes : List Int) : ∀ k, (rlgK es codes k).1 ≤ codes.length := by
  intro k
  obtain ⟨_, _, h⟩ := rlg_is codes (es.take k) 0 []
  unfold rlgK rlg
  rcases h with h | ⟨a, _, hp, h, _⟩
  · rw [h]; exact Nat.zero_le _
  · rw [h]; exact hp.length_le

set_option maxHeartbeats 4000000 in
set_option maxRecDepth 100000 in
theorem rLongest_any (R Q : Nat → Prop) (es : List Ent) (codes : List Int) (v u : Value) (w : World) (hv : EntsIn R w v es) (hu : IntsIn Q .i32 w u codes) (hok : ∀ x ∈ es, EntOk x) (hl : es.length ≤ 140737488351232) (hc : codes.length ≤ 140737488351232) :
    Calls Try.prog 17 #[v, u] w fun e w' => ∃ z, e = .returned (.tuple #[.int .i64 (rlg es codes).1, z]) ∧ ElsIn R w' z (rlg es codes).2 ∧ Below w.heap.size w w' := by
  have HV := Lib.hid hv
  have HU := Lib.hid hu
  obtain ⟨p, cp, rfl, _⟩ := hv
  obtain ⟨q, cq, rfl, _⟩ := hu
  have HOK := Lib.hid hok
  have HCL := Lib.hid hc
  clear hok hc
  go_enter Try.func17, Try.ntmps17
  go_wp2
  go_loopw [6, 7, 12] (fun nv zv i wr => ∃ (k : Nat), i = .int .i64 k ∧ k ≤ es.length ∧ nv = .int .i64 (rlgK es codes k).1 ∧ ElsIn R wr zv (rlgK es codes k).2 ∧ Below w.heap.size w wr) (fun _ _ i _ => es.length - (intOf i).toNat)
  case atStart => exact ⟨0, rfl, Nat.zero_le _, rfl, .nil _ _, Below.refl _ _⟩
  case round =>
    obtain ⟨k, rfl, hk, rfl, hz, hbr⟩ := hrel
    have HZ := Lib.hid hz
    obtain ⟨pz, cz, rfl, _⟩ := hz
    have HB := Lib.hid hbr
    by_cases hlt : k < es.length
    · have hlt' : decide (k < es.length) = true := decide_eq_true hlt
      obtain ⟨x, hx⟩ : ∃ x, es[k]? = some x := ⟨es[k], List.getElem?_eq_getElem hlt⟩
      obtain ⟨b, o, c, el, rfl, hbR, hbl, hc0, hc1, hci, hue⟩ := (HV.out.kept (Kept.below hbr)).at k x hx
      have HCI := Lib.hid hci
      have HUE := Lib.hid hue
      obtain ⟨pc, cc, rfl, _⟩ := hci
      obtain ⟨pu, cu, rfl, _⟩ := hue
      have HX := Lib.hid hx
      have HL := Lib.hid hlt
      have HX1 := Lib.hid (HOK.out x (List.mem_of_getElem? hx)).1
      have hx2 : x.1.length ≤ 35184372087808 := (by have := HX1.out; omega)
      have HBW : Hid (Below wr.heap.size wr (wr.alloc (.cells #[.slice pc x.1.length cc, .slice pu x.2.length cu] 35))) := (Below.refl _ _).alloc (Nat.le_refl _) _
      have HST := Lib.hid (rlgK_step (codes := codes) hx)
      have hnl : (rlgK es codes k).1 ≤ 140737488351232 := Nat.le_trans (rlgK_le es codes k) HCL.out
      obtain ⟨m, hm⟩ : ∃ m, m = (rlgK es codes k).1 := ⟨_, rfl⟩
      rw [← hm] at HST hnl
      rw [← hm]
      have HM := Lib.hid hm
      clear hx hlt hbr hm
      go_wp2_with fail
      refine (rbegins_any Q R codes x.1 _ _ _ (HU.out.kept (Kept.below (HB.out.trans (HBW.out.mono HB.out.size)))) (HCI.out.kept (Kept.below HBW.out)) HCL.out (by have := HX1.out; omega)).mono ?_
      rintro e w2 ⟨rfl, hb2⟩
      have k0 : w2.cell? ⟨wr.heap.size, 0, none⟩ = some (.slice pc x.1.length cc) := by rw [hb2.cell (p := ⟨wr.heap.size, 0, none⟩) (by simp)]; simp [go_sem]
      have k1 : w2.cell? ⟨wr.heap.size, 1, none⟩ = some (.slice pu x.2.length cu) := by rw [hb2.cell (p := ⟨wr.heap.size, 1, none⟩) (by simp)]; simp [go_sem]
      have HB2 : Hid (Below w.heap.size w w2) := (HB.out.trans (HBW.out.mono HB.out.size)).trans (hb2.mono (Nat.le_trans HB.out.size HBW.out.size))
      have HU2 := Lib.hid (HUE.out.kept (Kept.below (HBW.out.trans (hb2.mono HBW.out.size))))
      have HZ2 := Lib.hid (HZ.out.kept (Kept.below (HBW.out.trans (hb2.mono HBW.out.size))))
      clear hb2
      by_cases hp : x.1 <+: codes
      · rw [decide_eq_true hp]
        by_cases hg : m < x.1.length
        · have hg1 : decide ((m : Int) < (x.1.length : Int)) = true := decide_eq_true (by omega)
          have hg2 : decide (m < x.1.length) = true := decide_eq_true hg
          have HS2 : Hid (rlgK es codes (k + 1) = (x.1.length, x.2)) := by show _ = _; rw [HST.out, if_pos ⟨hp, hg⟩]
          clear hp hg
          go_wp2
          go_quiet (fail)
          go_wp2
          go_roundw
          case rel => exact ⟨k + 1, by go_num, HL.out, by rw [HS2.out], by rw [HS2.out]; exact HU2.out.kept (Kept.below (below_drewN (Below.refl _ _) _)), HB2.out.trans ((below_drewN (Below.refl _ _) _))⟩
          case measure => (have hq := HL.out; simp [intOf]; omega)
        · have hg1 : decide ((m : Int) < (x.1.length : Int)) = false := decide_eq_false (by omega)
          have hg2 : decide (m < x.1.length) = false := decide_eq_false hg
          have HS2 : Hid (rlgK es codes (k + 1) = rlgK es codes k) := by show _ = _; rw [HST.out, if_neg (fun h => hg h.2)]
          clear hp hg
          go_wp2
          go_roundw
          case rel => exact ⟨k + 1, by go_num, HL.out, by rw [HS2.out, ← HM.out], by rw [HS2.out]; exact HZ2.out, HB2.out⟩
          case measure => (have hq := HL.out; simp [intOf]; omega)
      · rw [decide_eq_false hp]
        have HS2 : Hid (rlgK es codes (k + 1) = rlgK es codes k) := by show _ = _; rw [HST.out, if_neg (fun h => hp h.1)]
        clear hp
        go_wp2
        go_roundw
        case rel => exact ⟨k + 1, by go_num, HL.out, by rw [HS2.out, ← HM.out], by rw [HS2.out]; exact HZ2.out, HB2.out⟩
        case measure => (have hq := HL.out; simp [intOf]; omega)
    · have hlt' : decide (k < es.length) = false := decide_eq_false hlt
      have HE : Hid (rlgK es codes k = rlg es codes) := by show _ = _; unfold rlgK; rw [List.take_of_length_le (by omega)]
      clear hlt hbr
      go_wp2
      go_ret2
      exact ⟨_, by rw [← HE.out]; rfl, by rw [← HE.out]; exact HZ.out, HB.out⟩
end Go.Proofs.Ytcifoallahmjbaa
