/- Package valid: must, version, ranges: walked. The reference's Version. -/
import Derived.Test.YtnglhgogkemgbaaGreatDoorG31
import Derived.Test.YtnglhgogkemgbaaGreatDoorG32
namespace Go.Proofs.YtnglhgogkemgbaaGreatDoor
open Go.RowKit
open PlainAid (bt)

/-- what is thrown -/
def chainV (k z : Int) : List PanicEntry := [{ v := .iface 57 (.agg #[.int .i64 k, .int .i64 z]), recovered := false }]
def chainVR (k z : Int) : List PanicEntry := [{ v := .iface 57 (.agg #[.int .i64 k, .int .i64 z]), recovered := true }]
theorem vmust_ok (k : Int) (w : World) : Calls Tryz.prog 49 #[.int .i64 k, .int .i64 0] w fun x w' => x = .returned (.tuple #[]) ∧ w = w' := by
  go_enter Tryz.func49, Tryz.ntmps49
  go_wp2
  go_end0
  exact ⟨rfl, rfl⟩
theorem vmust_no (k z : Int) (hz : z ≠ 0) (w : World) : Calls Tryz.prog 49 #[.int .i64 k, .int .i64 z] w fun x w' => x = .panicked (chainV k z) ∧ w = w' := by
  have g1 : (z == 0) = false := beq_eq_false_iff_ne.2 hz
  have g2 : (z != 0) = true := bne_iff_ne.2 hz
  clear hz
  go_enter Tryz.func49, Tryz.ntmps49
  go_wp2
  exact ⟨rfl, rfl, rfl⟩
/-- how a check ends: all is well, or z at k -/
def VEnd (k z : Int) (e : Ending) : Prop := (z = 0 ∧ e = .returned (.tuple #[])) ∨ (z ≠ 0 ∧ e = .panicked (chainV k z))
/-- how a check of entries ends: the first that is wrong is thrown -/
def FstEnd (o : Option (Nat × Int)) (e : Ending) : Prop := match o with
  | none => e = .returned (.tuple #[])
  | some r => r.2 ≠ 0 ∧ e = .panicked (chainV r.1 r.2)
/-- a source that is looked at -/
def WkAt (W : World) (wb : Nat) (n : Value) (ver : ByteArray) (rv ev t : Value) : Prop := W.heap[wb]? = some (.cells #[n, .string ver, rv, ev, t] 61 (0, 0))
theorem WkAt.cells {W : World} {wb : Nat} {n : Value} {ver : ByteArray} {rv ev t : Value} (h : WkAt W wb n ver rv ev t) :
    W.cell? ⟨wb, 0, none⟩ = some n ∧ W.cell? ⟨wb, 1, none⟩ = some (.string ver) ∧ W.cell? ⟨wb, 2, none⟩ = some rv ∧ W.cell? ⟨wb, 3, none⟩ = some ev ∧ W.cell? ⟨wb, 4, none⟩ = some t ∧ (∀ o, W.frozen? ⟨wb, o, none⟩ = false) ∧ wb < W.heap.size := by
  unfold WkAt at h
  refine ⟨?_, ?_, ?_, ?_, ?_, fun o => ?_, (Array.getElem?_eq_some_iff.1 h).1⟩ <;> simp [World.cell?, World.frozen?, h]
theorem WkAt.below {W W' : World} {wb : Nat} {n : Value} {ver : ByteArray} {rv ev t : Value} (h : WkAt W wb n ver rv ev t) (hb : Below W.heap.size W W') : WkAt W' wb n ver rv ev t :=
  (hb.block wb h.cells.2.2.2.2.2.2).trans h
theorem WkAt.only {S : Nat → Prop} {W W' : World} {wb : Nat} {n : Value} {ver : ByteArray} {rv ev t : Value} (h : WkAt W wb n ver rv ev t) (ho : Only S W W') (hs : ¬ S wb) : WkAt W' wb n ver rv ev t :=
  (ho.block wb h.cells.2.2.2.2.2.2 hs).trans h
/-- a byte that may not stand in a version -/
def badV (s : ByteArray) (j : Nat) : Bool := decide (bt s j < 33) || decide (126 < bt s j)
theorem bt_atM (s : ByteArray) (j : Nat) (b : UInt8) (h : s.data.toList[j]? = some b) : bt s j = (b.toNat : Int) := by
  obtain ⟨hj, rfl⟩ := List.getElem?_eq_some_iff.1 h
  unfold bt
  rw [dif_pos (by simpa using hj)]
  simp
  rfl
theorem verB_bytes (s : ByteArray) : verB s.data.toList = (decide (1 ≤ s.size) && decide (s.size ≤ 32) && (List.range s.size).all fun j => !badV s j) := by
  have hl : s.data.toList.length = s.size := (Lib.size_eq s).symm
  unfold verB
  rw [hl]
  congr 1
  rw [Bool.eq_iff_iff, List.all_eq_true, List.all_eq_true]
  constructor
  · intro h j hj
    have hj' : j < s.data.toList.length := by rw [hl]; simpa using hj
    have h1 := h _ (List.getElem_mem hj')
    have h2 := bt_atM s j _ (List.getElem?_eq_getElem hj')
    unfold badV
    rw [h2]
    simp at h1 ⊢
    omega
  · intro h b hb
    obtain ⟨j, hj⟩ := List.mem_iff_getElem?.1 hb
    have h0 := (List.getElem?_eq_some_iff.1 hj).1
    have h1 := h j (by simp; omega)
    have h2 := bt_atM s j b hj
    unfold badV at h1
    rw [h2] at h1
    simp at h1 ⊢
    omega
/-- whether one of the first k bytes, or the length, may not be -/
def badK (s : ByteArray) (k : Nat) : Bool := decide (s.size < 1) || decide (32 < s.size) || (List.range k).any (badV s)
theorem badK_succ (s : ByteArray) (k : Nat) : badK s (k + 1) = (badK s k || badV s k) := by
  unfold badK; rw [List.range_succ, List.any_append]; simp [Bool.or_assoc]
theorem badK_end (s : ByteArray) : badK s s.size = !verB s.data.toList := by
  rw [verB_bytes]
  unfold badK
  rw [Bool.not_and, Bool.not_and, List.not_all_eq_any_not]
  simp only [Bool.not_not]
  congr 2 <;> (rw [Bool.eq_iff_iff]; simp; try omega)
/-- what is wrong with a version -/
def verZ (l : Bs) : Int := if verB l = true then 0 else 114
theorem verZ_no {l : Bs} (h : true = !verB l) : verZ l = 114 := by
  unfold verZ
  cases hv : verB l with
  | true => rw [hv] at h; cases h
  | false => rfl
set_option maxHeartbeats 2000000 in
set_option maxRecDepth 100000 in
theorem vversion_any (wb : Nat) (n : Value) (ver : ByteArray) (rv ev t : Value) (w : World) (h : WkAt w wb n ver rv ev t) (hs : ver.size ≤ 140737488351232) :
    Calls Tryz.prog 17 #[.pointer (some ⟨wb, 0, none⟩)] w fun e w' => VEnd 0 (verZ ver.data.toList) e ∧ w = w' := by
  have hb := PlainAid.get_bt ver
  have HE := Lib.hid (badK_end ver)
  have HS : Hid (∀ k, badK ver (k + 1) = (badK ver k || badV ver k)) := badK_succ ver
  have H0 : Hid (badK ver 0 = (decide ((ver.size : Int) < 1) || decide ((ver.size : Int) > 32))) := by
    show _ = _
    unfold badK; simp only [List.range_zero, List.any_nil, Bool.or_false]
    congr 1 <;> (rw [Bool.eq_iff_iff, decide_eq_true_eq, decide_eq_true_eq]; omega)
  obtain ⟨c0, c1, c2, c3, c4, _, cl⟩ := h.cells
  clear h
  obtain ⟨n1, hn1⟩ : ∃ n1, n1 = ver.size := ⟨_, rfl⟩
  have HN := Lib.hid hn1
  rcases h1 : decide ((ver.size : Int) < 1) with _ | _ <;> rcases h2 : decide ((ver.size : Int) > 32) with _ | _
  all_goals (
    rw [h1, h2] at H0
    clear hn1
    go_enter Tryz.func17, Tryz.ntmps17
    go_wp2_with fail
    clear h1 h2
    go_loopw [3, 4, 20] (fun bv _ iv wr => ∃ k : Nat, iv = .int .i64 k ∧ k ≤ ver.size ∧ bv = .bool (badK ver k) ∧ w = wr) (fun _ _ iv _ => ver.size - (intOf iv).toNat)
    case atStart => exact ⟨0, rfl, Nat.zero_le _, by rw [H0.out]; rfl, by first | trivial | rfl⟩
    case round =>
      obtain ⟨k, rfl, hk, rfl, rfl⟩ := hrel
      have HK := Lib.hid hk
      by_cases hlt : k < ver.size
      · have g1 : (k : Int) < (ver.size : Int) := by omega
        have HS1 := Lib.hid (HS.out k)
        have HLT := Lib.hid hlt
        rcases hq : badK ver k with _ | _
        · rw [hq] at HS1
          clear hq
          by_cases h33 : bt ver k < 33
          · have HB : Hid (badV ver k = true) := by show _ = _; unfold badV; rw [decide_eq_true h33]; rfl
            go_wp2_with fail
            go_roundw
            case rel => exact ⟨k + 1, by go_num, HLT.out, by rw [HS1.out, HB.out]; rfl, by first | trivial | rfl⟩
            case measure => (have := HLT.out; simp [intOf]; omega)
          · by_cases h126 : 126 < bt ver k
            · have HB : Hid (badV ver k = true) := by show _ = _; unfold badV; rw [decide_eq_true h126, Bool.or_true]
              have g2 : decide (bt ver k < 33) = false := decide_eq_false h33
              clear h33
              go_wp2_with fail
              go_roundw
              case rel => exact ⟨k + 1, by go_num, HLT.out, by rw [HS1.out, HB.out]; rfl, by first | trivial | rfl⟩
              case measure => (have := HLT.out; simp [intOf]; omega)
            · have HB : Hid (badV ver k = false) := by show _ = _; unfold badV; rw [decide_eq_false h126, decide_eq_false h33]; rfl
              have g2 : decide (bt ver k < 33) = false := decide_eq_false h33
              have g3 : decide (126 < bt ver k) = false := decide_eq_false h126
              clear h33 h126
              go_wp2_with fail
              go_roundw
              case rel => exact ⟨k + 1, by go_num, HLT.out, by rw [HS1.out, HB.out]; rfl, by first | trivial | rfl⟩
              case measure => (have := HLT.out; simp [intOf]; omega)
        · rw [hq] at HS1
          clear hq
          go_wp2_with fail
          go_roundw
          case rel => exact ⟨k + 1, by go_num, HLT.out, by rw [HS1.out]; rfl, by first | trivial | rfl⟩
          case measure => (have := HLT.out; simp [intOf]; omega)
      · have g1 : ¬ (k : Int) < (ver.size : Int) := by omega
        have hke : k = ver.size := by omega
        have HV : Hid (badK ver k = !verB ver.data.toList) := by show _ = _; rw [hke]; exact HE.out
        clear hke hlt hk
        rcases hq : badK ver k with _ | _
        · rw [hq] at HV
          clear hq
          go_wp2_with fail
          go_end0
          exact ⟨.inl ⟨verZ_ok HV.out, rfl⟩, rfl⟩
        · rw [hq] at HV
          clear hq
          go_wp2_with fail
          with_reducible refine (vmust_no 0 114 (by decide) _).mono ?_
          rintro e w' ⟨rfl, rfl⟩
          have HW : Hid (VEnd 0 (verZ ver.data.toList) (.panicked (chainV 0 114))) := by show VEnd _ _ _; rw [verZ_no HV.out]; exact .inr ⟨by decide, rfl⟩
          go_wp2_with fail
          exact ⟨rfl, HW.out, rfl⟩)
theorem verB_short {s : ByteArray} (h : s.size < 1 ∨ 32 < s.size) : verB s.data.toList = false := by
  rw [verB_bytes]
  rcases h with h | h
  · rw [decide_eq_false (show ¬ 1 ≤ s.size by omega)]; rfl
  · rw [decide_eq_false (show ¬ s.size ≤ 32 by omega), Bool.and_false]; rfl
theorem verB_all {s : ByteArray} (h1 : 1 ≤ s.size) (h2 : s.size ≤ 32) (h : ∀ j, j < s.size → badV s j = false) : verB s.data.toList = true := by
  rw [verB_bytes, decide_eq_true h1, decide_eq_true h2, Bool.true_and, Bool.true_and, List.all_eq_true]
  intro j hj
  rw [h j (by simpa using hj)]; rfl
theorem verB_one {s : ByteArray} {j : Nat} (hj : j < s.size) (h : badV s j = true) : verB s.data.toList = false := by
  rw [verB_bytes, Bool.and_eq_false_iff]
  right
  rw [List.all_eq_false]
  exact ⟨j, by simpa using hj, by rw [h]; decide⟩
set_option maxHeartbeats 2000000 in
set_option maxRecDepth 100000 in
theorem rversion11_any (s : ByteArray) (w : World) (hs : s.size ≤ 140737488351232) :
    Calls Tryz.prog 23 #[.string s] w fun e w' => e = .returned (.bool (verB s.data.toList)) ∧ w = w' := by
  have hb := PlainAid.get_bt s
  by_cases h1 : s.size < 1
  · have HE : Hid (verB s.data.toList = false) := verB_short (.inl h1)
    have g1 : (s.size : Int) < 1 := by omega
    clear h1
    go_enter Tryz.func23, Tryz.ntmps23
    go_wp2_with fail
    go_ret
    exact ⟨by rw [HE.out] <;> rfl, rfl⟩
  · by_cases h2 : 32 < s.size
    · have HE : Hid (verB s.data.toList = false) := verB_short (.inr h2)
      have g1 : decide ((s.size : Int) < 1) = false := decide_eq_false (by omega)
      have g2 : decide ((s.size : Int) > 32) = true := decide_eq_true (by omega)
      clear h1 h2
      go_enter Tryz.func23, Tryz.ntmps23
      go_wp2_with fail
      go_ret
      exact ⟨by rw [HE.out] <;> rfl, rfl⟩
    · have HA : Hid ((∀ j, j < s.size → badV s j = false) → verB s.data.toList = true) := verB_all (by omega) (by omega)
      have HO : Hid (∀ j, j < s.size → badV s j = true → verB s.data.toList = false) := fun j hj h => verB_one hj h
      have g1 : decide ((s.size : Int) < 1) = false := decide_eq_false (by omega)
      have g2 : decide ((s.size : Int) > 32) = false := decide_eq_false (by omega)
      clear h1 h2
      go_enter Tryz.func23, Tryz.ntmps23
      go_wp2_with fail
      go_loopw [3] (fun iv wr => ∃ k : Nat, iv = .int .i64 k ∧ k ≤ s.size ∧ (∀ j, j < k → badV s j = false) ∧ w = wr) (fun iv _ => s.size - (intOf iv).toNat)
      case atStart => exact ⟨0, rfl, Nat.zero_le _, fun j hj => absurd hj (Nat.not_lt_zero _), rfl⟩
      case round =>
        obtain ⟨k, rfl, hk, hd, rfl⟩ := hrel
        have HD := Lib.hid hd
        have HK := Lib.hid hk
        clear hd
        by_cases hlt : k < s.size
        · have g3 : (k : Int) < (s.size : Int) := by omega
          have HLT := Lib.hid hlt
          by_cases h33 : bt s k < 33
          · have HB : Hid (badV s k = true) := by show _ = _; unfold badV; rw [decide_eq_true h33]; rfl
            have HE : Hid (verB s.data.toList = false) := HO.out k hlt HB.out
            go_wp2_with fail
            go_ret
            exact ⟨by rw [HE.out] <;> rfl, rfl⟩
          · have g4 : decide (bt s k < 33) = false := decide_eq_false h33
            by_cases h126 : 126 < bt s k
            · have HB : Hid (badV s k = true) := by show _ = _; unfold badV; rw [decide_eq_true h126, Bool.or_true]
              have HE : Hid (verB s.data.toList = false) := HO.out k hlt HB.out
              clear h33
              go_wp2_with fail
              go_ret
              exact ⟨by rw [HE.out] <;> rfl, rfl⟩
            · have HB : Hid (badV s k = false) := by show _ = _; unfold badV; rw [decide_eq_false h126, decide_eq_false h33]; rfl
              have g5 : decide (126 < bt s k) = false := decide_eq_false h126
              clear h33 h126
              go_wp2_with fail
              go_roundw
              case rel => exact ⟨k + 1, by go_num, HLT.out, fun j hj => by
                (by_cases e : j = k
                 · rw [e]; exact HB.out
                 · exact HD.out j (by omega)), by first | trivial | rfl⟩
              case measure => (have := HLT.out; simp [intOf]; omega)
        · have g3 : ¬ (k : Int) < (s.size : Int) := by omega
          have HE : Hid (verB s.data.toList = true) := HA.out (fun j hj => HD.out j (by omega))
          clear hlt hk
          go_wp2_with fail
          go_ret
          exact ⟨by rw [HE.out] <;> rfl, rfl⟩
set_option maxHeartbeats 1000000 in
set_option maxRecDepth 100000 in
theorem vranges_any (R : Nat → Prop) (rs : List Rng) (wb : Nat) (n : Value) (ver : ByteArray) (rv ev t : Value) (w : World) (h : WkAt w wb n ver rv ev t) (hr : RngsIn R w rv rs) (hl : rs.length ≤ 140737488351232) :
    Calls Tryz.prog 18 #[.pointer (some ⟨wb, 0, none⟩)] w fun e w' => VEnd 0 (rngC rs) e ∧ Below w.heap.size w w' := by
  have HR := Lib.hid (wRanges_any R rs rv w hr hl)
  obtain ⟨c0, c1, c2, c3, c4, _, cl⟩ := h.cells
  clear h hr hl
  generalize rngC rs = z at *
  go_enter Tryz.func18, Tryz.ntmps18
  go_wp2_with fail
  with_reducible refine HR.out.mono ?_
  rintro e w1 ⟨rfl, hb1⟩
  have HB1 := Lib.hid hb1
  clear hb1
  by_cases hz : z = 0
  · subst hz
    go_wp2_with fail
    with_reducible refine (vmust_ok 0 _).mono ?_
    rintro e w' ⟨rfl, rfl⟩
    go_wp2_with fail
    go_end0
    exact ⟨.inl ⟨rfl, rfl⟩, HB1.out⟩
  · have HZ := Lib.hid hz
    clear hz
    go_wp2_with fail
    with_reducible refine (vmust_no 0 z HZ.out _).mono ?_
    rintro e w' ⟨rfl, rfl⟩
    have HV : Hid (VEnd 0 z (.panicked (chainV 0 z))) := .inr ⟨HZ.out, rfl⟩
    go_wp2_with fail
    exact ⟨rfl, HV.out, HB1.out⟩
end Go.Proofs.YtnglhgogkemgbaaGreatDoor
