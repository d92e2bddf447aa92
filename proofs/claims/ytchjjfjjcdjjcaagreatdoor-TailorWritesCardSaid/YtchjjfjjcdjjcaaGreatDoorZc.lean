/- Package tailor: short: walked. -/
import Derived.Test.YtchjjfjjcdjjcaaGreatDoorZb
namespace Go.Proofs.YtchjjfjjcdjjcaaGreatDoor
open Go.RowKit

theorem fb_none {xs : List Int} (h : ∀ r ∈ xs, sc r = true) : fb xs = none := by
  unfold fb; rw [List.findIdx?_eq_none_iff]; intro x hx; rw [h x hx]; rfl
theorem intsAt_in {R : Nat → Prop} {k : IntKind} {w : World} {v : Value} {xs : List Int} (h : IntsIn R k w v xs) : IntsAt 0 k w v xs := by
  obtain ⟨p, cap, h1, _, h2⟩ := h
  exact ⟨p, cap, h1, fun i x hx => by obtain ⟨b, o, e1, _, e3, e4⟩ := h2 i x hx; exact ⟨b, o, e1, Nat.zero_le _, e3, e4⟩⟩
theorem quoted_str (E : List Int) : ((⟨#[39]⟩ : ByteArray) ++ strOfNums E) ++ (⟨#[39]⟩ : ByteArray) = strOfNums (39 :: (E ++ [39])) := by
  rw [byte_app, app_byte]; rfl
theorem str_ne (x : Int) (xs : List Int) : ((strOfNums (x :: xs)).toList == (⟨#[]⟩ : ByteArray).toList) = false := by
  rw [beq_eq_false_iff_ne]
  intro e
  have h := congrArg List.length e
  rw [Lib.toList_data, Lib.toList_data] at h
  have h2 : (strOfNums (x :: xs)).data.toList.length = (x :: xs).length := by rw [← strOfNums_len]; exact Array.length_toList
  rw [h2] at h
  simp at h
set_option maxHeartbeats 4000000 in
set_option maxRecDepth 100000 in
theorem short_any (R : Nat → Prop) (xs : List Int) (v : Value) (w : World) (hv : IntsIn R .i32 w v xs) (hs : ∀ r ∈ xs, sc r = true) (hx : xs.length ≤ 1000000000) :
    Calls Tryz.prog 19 #[v] w fun e w' => e = .returned (.string (strOfNums (shortT xs))) ∧ Below w.heap.size w w' := by
  have HV := Lib.hid hv
  have HEN := Lib.hid (uEncode_any xs v w (intsAt_in hv) (by omega))
  have HEC := Lib.hid (ec_none (fb_none hs))
  have HMX := Lib.hid (fun W (hb : Below w.heap.size w W) => mixed_any R xs v W (hv.kept (Kept.below hb)) hs hx)
  obtain ⟨p, cp, rfl, _⟩ := hv
  have HEL : Hid ((xs.flatMap enc).length ≤ 4000000000) := by show _ ≤ _; have := enc_flat_len xs; omega
  have HML : Hid ((mixT xs).length ≤ 6000000000) := by show _ ≤ _; have := (mixT_len xs).2; omega
  have HQI := Lib.hid (hasQ_index xs hs)
  have HSH : Hid (shortT xs = if hasQ xs = false ∧ (xs.flatMap enc).length + 2 < (mixT xs).length then 39 :: (xs.flatMap enc ++ [39]) else mixT xs) := rfl
  have HCA := Lib.hid (fun W => containsAny_any (strOfNums (xs.flatMap enc)) ⟨#[39, 10]⟩ W rfl (by rw [strOfNums_len]; have := HEL.out; omega) (by
    intro j b hj
    have : b = 39 ∨ b = 10 := by
      have hm := List.mem_iff_getElem?.2 ⟨j, hj⟩
      simpa using hm
    rcases this with rfl | rfl <;> decide))
  have hcd : ∀ W, Calls Tryz.prog 42 #[.string (strOfNums (xs.flatMap enc)), .string ⟨#[39, 10]⟩] W fun e w' => e = .returned (.bool (hasQ xs)) ∧ Below W.heap.size W w' := fun W => by
    have h := HCA.out W
    rw [show (⟨#[39, 10]⟩ : ByteArray).data.toList = [39, 10] from rfl, HQI.out] at h
    exact h
  have HCD := Lib.hid hcd
  unfold EncPost at HEN
  rw [HEC.out.1, HEC.out.2.1, HEC.out.2.2] at HEN
  clear HCA HQI hcd hs HEC hx
  generalize xs.flatMap enc = E at *
  generalize mixT xs = M at *
  generalize hasQ xs = q at *
  generalize shortT xs = sh at *
  generalize xs.length = n at *
  have hel := HEL.out
  have hml := HML.out
  cases q
  · by_cases hlt : E.length + 2 < M.length
    · have HNE := Lib.hid (str_ne 39 (E ++ [39]))
      have HR : Hid (sh = 39 :: (E ++ [39])) := by show _ = _; rw [HSH.out, if_pos ⟨rfl, hlt⟩]
      go_enter Tryz.func19, Tryz.ntmps19
      go_wp2_with fail
      refine HEN.out.mono ?_
      rintro e w1 ⟨rfl, hb1⟩
      have HB1 := Lib.hid hb1
      clear hb1
      go_wp2_with fail
      refine (HCD.out _).mono ?_
      rintro e w2 ⟨rfl, hb2⟩
      have HB2 := Lib.hid (HB1.out.trans (hb2.mono HB1.out.size))
      clear hb2
      go_wp2_with fail
      obtain ⟨T, hT⟩ : ∃ T, T = (⟨#[39]⟩ : ByteArray) ++ strOfNums E ++ (⟨#[39]⟩ : ByteArray) := ⟨_, rfl⟩
      rw [← hT]
      rw [quoted_str] at hT
      have HT := Lib.hid hT
      have t1 : ¬ T.toList = [] := fun e => by
        have h : (T.toList == (⟨#[]⟩ : ByteArray).toList) = false := by rw [hT]; exact HNE.out
        rw [e, show (⟨#[]⟩ : ByteArray).toList = [] by rw [Lib.toList_data]] at h
        exact absurd h (by decide)
      have t5 : T.toList.isEmpty = false := by rw [List.isEmpty_eq_false_iff]; exact t1
      have t2 : T.size = E.length + 2 := by rw [hT, strOfNums_len]; simp
      have t3 : (T.size : Int) < (M.length : Int) := by omega
      have t4 : T.size < M.length := by omega
      clear hT t2 hlt HSH
      refine (HMX.out _ HB2.out).mono ?_
      rintro e w3 ⟨rfl, hb3⟩
      have HB3 := Lib.hid (HB2.out.trans (hb3.mono HB2.out.size))
      clear hb3
      go_wp2_with fail
      go_ret
      exact ⟨by rw [HR.out, ← HT.out]; rfl, HB3.out⟩
    · have HNE := Lib.hid (str_ne 39 (E ++ [39]))
      have HR : Hid (sh = M) := by show _ = _; rw [HSH.out, if_neg (fun h => hlt h.2)]
      go_enter Tryz.func19, Tryz.ntmps19
      go_wp2_with fail
      refine HEN.out.mono ?_
      rintro e w1 ⟨rfl, hb1⟩
      have HB1 := Lib.hid hb1
      clear hb1
      go_wp2_with fail
      refine (HCD.out _).mono ?_
      rintro e w2 ⟨rfl, hb2⟩
      have HB2 := Lib.hid (HB1.out.trans (hb2.mono HB1.out.size))
      clear hb2
      go_wp2_with fail
      obtain ⟨T, hT⟩ : ∃ T, T = (⟨#[39]⟩ : ByteArray) ++ strOfNums E ++ (⟨#[39]⟩ : ByteArray) := ⟨_, rfl⟩
      rw [← hT]
      rw [quoted_str] at hT
      have HT := Lib.hid hT
      have t1 : ¬ T.toList = [] := fun e => by
        have h : (T.toList == (⟨#[]⟩ : ByteArray).toList) = false := by rw [hT]; exact HNE.out
        rw [e, show (⟨#[]⟩ : ByteArray).toList = [] by rw [Lib.toList_data]] at h
        exact absurd h (by decide)
      have t5 : T.toList.isEmpty = false := by rw [List.isEmpty_eq_false_iff]; exact t1
      have t2 : T.size = E.length + 2 := by rw [hT, strOfNums_len]; simp
      have t3 : ¬ (T.size : Int) < (M.length : Int) := by omega
      have t4 : ¬ T.size < M.length := by omega
      clear hT t2 hlt HSH
      refine (HMX.out _ HB2.out).mono ?_
      rintro e w3 ⟨rfl, hb3⟩
      have HB3 := Lib.hid (HB2.out.trans (hb3.mono HB2.out.size))
      clear hb3
      go_wp2_with fail
      go_ret
      exact ⟨by rw [HR.out]; rfl, HB3.out⟩
  · have HR : Hid (sh = M) := by show _ = _; rw [HSH.out, if_neg (fun h => by cases h.1)]
    clear HSH
    go_enter Tryz.func19, Tryz.ntmps19
    go_wp2_with fail
    refine HEN.out.mono ?_
    rintro e w1 ⟨rfl, hb1⟩
    have HB1 := Lib.hid hb1
    clear hb1
    go_wp2_with fail
    refine (HCD.out _).mono ?_
    rintro e w2 ⟨rfl, hb2⟩
    have HB2 := Lib.hid (HB1.out.trans (hb2.mono HB1.out.size))
    clear hb2
    go_wp2_with fail
    refine (HMX.out _ HB2.out).mono ?_
    rintro e w3 ⟨rfl, hb3⟩
    have HB3 := Lib.hid (HB2.out.trans (hb3.mono HB2.out.size))
    clear hb3
    go_wp2_with fail
    go_ret
    exact ⟨by rw [HR.out]; rfl, HB3.out⟩
end Go.Proofs.YtchjjfjjcdjjcaaGreatDoor
