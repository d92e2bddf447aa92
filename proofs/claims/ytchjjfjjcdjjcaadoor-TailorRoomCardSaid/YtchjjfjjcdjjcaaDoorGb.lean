/- Package tailor: what counts for nothing is passed over. -/
import Derived.Test.YtchjjfjjcdjjcaaDoorGa
import Derived.Test.YtchjjfjjcdjjcaaDoorVd
import Derived.Deep.LoopGhost
import Derived.Deep.RegionHeld
import Derived.Lib.IndexBytes
namespace Go.Proofs.YtchjjfjjcdjjcaaDoor
open Go.RowKit
open PlainAid (bt)

/-- the next line's end, at a place or behind it -/
def eolT (s : ByteArray) (i : Nat) : Nat := if Lib.indexByte (s.data.toList.drop i) 10 < 0 then s.size else i + (Lib.indexByte (s.data.toList.drop i) 10).toNat
/-- a blank -/
def blank (c : Int) : Bool := c == 32 || c == 9 || c == 10
/-- where what counts for nothing ends -/
def skipF (s : ByteArray) : Nat → Nat → Nat
  | 0, i => i
  | n + 1, i => if i < s.size then if blank (bt s i) = true then skipF s n (i + 1) else if bt s i = 35 then skipF s n (eolT s i) else i else i
def skipT (s : ByteArray) (i : Nat) : Nat := skipF s (s.size - i) i
theorem bt_list (s : ByteArray) (k : Nat) (h : k < s.size) : (s.data.toList.drop k)[0]? = some (UInt8.ofNat (bt s k).toNat) := by
  have hl : k < s.data.toList.length := by simpa using h
  rw [List.getElem?_drop, Nat.add_zero, List.getElem?_eq_getElem hl]
  unfold bt
  rw [dif_pos h]
  simp
  rfl
theorem eolT_le (s : ByteArray) (i : Nat) (hi : i ≤ s.size) : eolT s i ≤ s.size := by
  unfold eolT
  split
  · exact Nat.le_refl _
  · rename_i h
    obtain ⟨n, hn⟩ : ∃ n : Nat, Lib.indexByte (s.data.toList.drop i) 10 = n := ⟨(Lib.indexByte (s.data.toList.drop i) 10).toNat, by omega⟩
    have h1 := (Lib.indexByte_some hn).1
    have h2 := (List.getElem?_eq_some_iff.1 h1).1
    rw [List.length_drop] at h2
    rw [hn]
    have h3 : s.data.toList.length = s.size := by simp
    simp at h2 ⊢; omega
theorem eolT_gt (s : ByteArray) (i : Nat) (hi : i < s.size) (h35 : bt s i ≠ 10) : i < eolT s i := by
  unfold eolT
  split
  · exact hi
  · rename_i h
    obtain ⟨n, hn⟩ : ∃ n : Nat, Lib.indexByte (s.data.toList.drop i) 10 = n := ⟨(Lib.indexByte (s.data.toList.drop i) 10).toNat, by omega⟩
    have h1 := (Lib.indexByte_some hn).1
    rw [hn]
    cases n with
    | zero =>
      rw [bt_list s i hi] at h1
      have h2 := congrArg UInt8.toNat (Option.some.inj h1)
      have h3 := PlainAid.bt_nonneg s i
      have h4 := PlainAid.bt_le s i
      rw [UInt8.toNat_ofNat'] at h2
      exfalso; apply h35
      have h5 : (bt s i).toNat % 2 ^ 8 = (bt s i).toNat := Nat.mod_eq_of_lt (by omega)
      rw [h5] at h2
      have h6 : (UInt8.toNat 10) = 10 := rfl
      omega
    | succ n => simp
/-- a parser in memory -/
def PsAt (W : World) (pb : Nat) (s : ByteArray) (i : Nat) (lv : Value) : Prop := W.heap[pb]? = some (.cells #[.string s, .int .i64 (i : Nat), lv] 53 (0, 0))
section
variable {W : World} {pb : Nat} {s : ByteArray} {i : Nat} {lv : Value}
theorem PsAt.cells (h : PsAt W pb s i lv) : W.cell? ⟨pb, 0, none⟩ = some (.string s) ∧ W.cell? ⟨pb, 1, none⟩ = some (.int .i64 (i : Nat)) ∧ W.cell? ⟨pb, 2, none⟩ = some lv ∧ (∀ o, W.frozen? ⟨pb, o, none⟩ = false) ∧ pb < W.heap.size :=
  ⟨by simp [World.cell?, show W.heap[pb]? = _ from h], by simp [World.cell?, show W.heap[pb]? = _ from h], by simp [World.cell?, show W.heap[pb]? = _ from h], fun o => by simp [World.frozen?, show W.heap[pb]? = _ from h], (Array.getElem?_eq_some_iff.1 h).1⟩
theorem PsAt.go (h : PsAt W pb s i lv) (j : Nat) : PsAt (W.setCell ⟨pb, 1, none⟩ (.int .i64 (j : Nat))) pb s j lv := by
  unfold PsAt at *
  unfold World.setCell
  simp [Array.getElem?_modify, h]
theorem PsAt.put (h : PsAt W pb s i lv) (v : Value) : PsAt (W.setCell ⟨pb, 2, none⟩ v) pb s i v := by
  unfold PsAt at *
  unfold World.setCell
  simp [Array.getElem?_modify, h]
theorem PsAt.below {W' : World} (h : PsAt W pb s i lv) (hb : Below W.heap.size W W') : PsAt W' pb s i lv := (hb.block pb h.cells.2.2.2.2).trans h
theorem PsAt.drewN (h : PsAt W pb s i lv) (n : Nat) : PsAt (W.drewN n) pb s i lv := h
end
theorem only_drewN {S : Nat → Prop} {a b : World} (h : Only S a b) (n : Nat) : Only S a (b.drewN n) := ⟨h.os, h.tape, h.output, h.size, h.block⟩
set_option maxHeartbeats 2000000 in
set_option maxRecDepth 100000 in
theorem skip_any (s : ByteArray) (pb i : Nat) (lv : Value) (w : World) (h : PsAt w pb s i lv) (hi : i ≤ s.size) (hs : s.size ≤ 1000000) :
    Calls Tryd.prog 17 #[.pointer (some ⟨pb, 0, none⟩)] w fun e w' => e = .returned (.tuple #[]) ∧ PsAt w' pb s (skipT s i) lv ∧ skipT s i ≤ s.size ∧ Only (fun k => k = pb) w w' := by
  have hbt := PlainAid.get_bt s
  go_enter Tryd.func17, Tryd.ntmps17
  go_wp2
  go_loopg [] (s.size - i) (fun k wr => ∃ j : Nat, PsAt wr pb s j lv ∧ j ≤ s.size ∧ s.size - j ≤ k ∧ skipF s k j = skipT s i ∧ Only (fun k => k = pb) w wr)
  case atStart => exact ⟨i, h, hi, Nat.le_refl _, rfl, Only.refl _ _⟩
  case round =>
    obtain ⟨j, hp, hj, hk, he, ho⟩ := hrel
    have HP := Lib.hid hp
    have HE := Lib.hid he
    have HO := Lib.hid ho
    obtain ⟨c0, c1, c2, cf, hpl⟩ := hp.cells
    have f1 := cf 1
    clear hp he ho h cf
    by_cases hlt : j < s.size
    · have hlt' : decide (j < s.size) = true := decide_eq_true hlt
      have hlz : decide ((j : Int) < (s.size : Int)) = true := decide_eq_true (by omega)
      go_wp2_with fail
      go_quiet (fail)
      go_wp2_with fail
      go_quiet (fail)
      obtain ⟨gk', rfl⟩ : ∃ gk', gk = gk' + 1 := ⟨gk - 1, by omega⟩
      have HEQ : Hid (skipF s (gk' + 1) j = if blank (bt s j) = true then skipF s gk' (j + 1) else if bt s j = 35 then skipF s gk' (eolT s j) else j) := by
        show _ = _
        rw [skipF, if_pos hlt]
      have HGT := Lib.hid (eolT_gt s j hlt)
      have HLE := Lib.hid (eolT_le s j hj)
      generalize bt s j = cj at *
      by_cases hb : cj = 32 ∨ cj = 9 ∨ cj = 10
      · have hbl : blank cj = true := by unfold blank; rcases hb with rfl | rfl | rfl <;> rfl
        rw [if_pos hbl] at HEQ
        clear hbl
        rcases hb with rfl | rfl | rfl <;>
        · go_wp2
          go_roundg gk'
          case measure => omega
          case rel => exact ⟨j + 1, PsAt.go (HP.out.drewN _) (j + 1), by omega, by omega, HEQ.out.symm.trans HE.out, (only_drewN HO.out _).setCell rfl _⟩
      · have hbl : ¬ blank cj = true := by
          unfold blank; simp; omega
        have e32 : (cj == 32) = false := beq_eq_false_iff_ne.2 (by omega)
        have e9 : (cj == 9) = false := beq_eq_false_iff_ne.2 (by omega)
        have e10 : (cj == 10) = false := beq_eq_false_iff_ne.2 (by omega)
        rw [if_neg hbl] at HEQ
        have h10 : cj ≠ 10 := by omega
        clear hbl hb
        by_cases h35 : cj = 35
        · subst h35
          rw [if_pos rfl] at HEQ
          go_wp2_with fail
          go_region_held (fun V : World => V.cell? ⟨pb, 0, none⟩ = some (.string s) ∧ V.cell? ⟨pb, 1, none⟩ = some (.int .i64 (j : Nat))) (first | assumption | exact ⟨c0, c1⟩) ((refine (indexByte_any _ _ _).mono ?_; rw [Lib.extract_to_end, show (10 : Int).toNat.toUInt8 = (10 : UInt8) from rfl]; rintro e w' ⟨rfl, rfl⟩))
          have HQ : Hid (eolT s j = if Lib.indexByte (s.data.toList.drop j) 10 < 0 then s.size else j + (Lib.indexByte (s.data.toList.drop j) 10).toNat) := rfl
          generalize Lib.indexByte (s.data.toList.drop j) 10 = q at *
          have hgt := HGT.out h10
          have hle := HLE.out
          by_cases hq : q < 0
          · have hq' : decide (q < 0) = true := decide_eq_true hq
            have HE1 : Hid (eolT s j = s.size) := HQ.out.trans (if_pos hq)
            clear hgt hle
            go_wp2_with fail
            go_quiet (fail)
            go_wp2_with fail
            go_roundg gk'
            case measure => omega
            case rel =>
              refine ⟨eolT s j, ?_, HLE.out, by have := HGT.out h10; omega, HEQ.out.symm.trans HE.out, (only_drewN HO.out _).setCell rfl _⟩
              rw [show (j : Int) + ((s.size : Int) - (j : Int)) = ((eolT s j : Nat) : Int) from by rw [HE1.out]; omega]
              exact PsAt.go (HP.out.drewN _) _
          · have hq' : decide (q < 0) = false := decide_eq_false hq
            obtain ⟨m, rfl⟩ : ∃ m : Nat, q = m := ⟨q.toNat, by omega⟩
            have HE1 : Hid (eolT s j = j + m) := HQ.out.trans (if_neg hq)
            have hms : j + m ≤ s.size := by rw [← HE1.out]; exact hle
            clear hgt hle
            go_wp2_with fail
            go_roundg gk'
            case measure => omega
            case rel =>
              refine ⟨eolT s j, ?_, HLE.out, by have := HGT.out h10; omega, HEQ.out.symm.trans HE.out, (only_drewN HO.out _).setCell rfl _⟩
              rw [show (j : Int) + (m : Int) = ((eolT s j : Nat) : Int) from by rw [HE1.out]; omega]
              exact PsAt.go (HP.out.drewN _) _
        · have e35 : (cj == 35) = false := beq_eq_false_iff_ne.2 h35
          rw [if_neg h35] at HEQ
          have HF : Hid (j = skipT s i) := HEQ.out.symm.trans HE.out
          go_wp2
          (try simp only [Exit.inBlock, Exit.then]); refine bodyPost_ret (results_none rfl _ _ _) rfl ?_
          refine ⟨rfl, ?_, ?_, only_drewN HO.out _⟩
          · rw [← HF.out]; exact HP.out.drewN _
          · rw [← HF.out]; exact hj
    · have hlt' : decide (j < s.size) = false := decide_eq_false hlt
      have hlz : decide ((j : Int) < (s.size : Int)) = false := decide_eq_false (by omega)
      have HF : Hid (j = skipT s i) := by
        have h1 := HE.out
        show _ = _
        cases gk with
        | zero => exact h1
        | succ n => rw [skipF, if_neg hlt] at h1; exact h1
      go_wp2_with fail
      go_quiet (fail)
      go_wp2_with fail
      go_end0
      refine ⟨rfl, ?_, ?_, only_drewN HO.out _⟩
      · rw [← HF.out]; exact HP.out.drewN _
      · rw [← HF.out]; exact hj
end Go.Proofs.YtchjjfjjcdjjcaaDoor
