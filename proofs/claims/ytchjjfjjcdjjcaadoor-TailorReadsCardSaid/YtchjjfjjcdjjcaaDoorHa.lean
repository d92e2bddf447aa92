/- The reference's reader of rules: what is passed over; whether a text comes; digits; bytes that stand for themselves. -/
import Derived.Test.YtchjjfjjcdjjcaaDoorGq
namespace Go.Proofs.YtchjjfjjcdjjcaaDoor
open Go.RowKit
open PlainAid (bt)

/-- a reader in memory -/
def RdAt (W : World) (pb : Nat) (s : ByteArray) (i : Nat) (a e : Int) : Prop := W.heap[pb]? = some (.cells #[.string s, .int .i64 (i : Nat), .int .i64 a, .int .i64 e] 58 (0, 0))
section
variable {W W' : World} {pb : Nat} {s : ByteArray} {i : Nat} {a e : Int}
theorem RdAt.cells (h : RdAt W pb s i a e) : W.cell? ⟨pb, 0, none⟩ = some (.string s) ∧ W.cell? ⟨pb, 1, none⟩ = some (.int .i64 (i : Nat)) ∧ W.cell? ⟨pb, 2, none⟩ = some (.int .i64 a) ∧ W.cell? ⟨pb, 3, none⟩ = some (.int .i64 e) ∧ (∀ o, W.frozen? ⟨pb, o, none⟩ = false) ∧ pb < W.heap.size :=
  ⟨by simp [World.cell?, show W.heap[pb]? = _ from h], by simp [World.cell?, show W.heap[pb]? = _ from h], by simp [World.cell?, show W.heap[pb]? = _ from h], by simp [World.cell?, show W.heap[pb]? = _ from h], fun o => by simp [World.frozen?, show W.heap[pb]? = _ from h], (Array.getElem?_eq_some_iff.1 h).1⟩
theorem RdAt.go (h : RdAt W pb s i a e) (j : Nat) : RdAt (W.setCell ⟨pb, 1, none⟩ (.int .i64 (j : Nat))) pb s j a e := by
  unfold RdAt at *
  unfold World.setCell
  simp [Array.getElem?_modify, h]
theorem RdAt.bad (h : RdAt W pb s i a e) (x y : Int) : RdAt ((W.setCell ⟨pb, 2, none⟩ (.int .i64 x)).setCell ⟨pb, 3, none⟩ (.int .i64 y)) pb s i x y := by
  unfold RdAt at *
  unfold World.setCell
  simp [Array.getElem?_modify, h]
theorem RdAt.only (h : RdAt W pb s i a e) {S : Nat → Prop} (ho : Only S W W') (hx : ¬ S pb) : RdAt W' pb s i a e := (ho.block pb h.cells.2.2.2.2.2 hx).trans h
theorem RdAt.below (h : RdAt W pb s i a e) (hb : Below W.heap.size W W') : RdAt W' pb s i a e := (hb.block pb h.cells.2.2.2.2.2).trans h
theorem RdAt.drewN (h : RdAt W pb s i a e) (n : Nat) : RdAt (W.drewN n) pb s i a e := h
end
theorem eol_is (s : ByteArray) (j : Nat) (hj : j ≤ s.size) : j ≤ eolT s j ∧ eolT s j ≤ s.size ∧ (∀ k, j ≤ k → k < eolT s j → bt s k ≠ 10) ∧ (eolT s j < s.size → bt s (eolT s j) = 10) := by
  have hle := eolT_le s j hj
  unfold eolT at hle ⊢
  have key : ∀ k, k < s.size → ((s.data.toList.drop j)[k - j]? = some 10 ↔ bt s k = 10) ∨ k < j := by
    intro k hk
    by_cases hkj : k < j
    · exact .inr hkj
    · left
      rw [list_bt, show j + (k - j) = k by omega, if_pos hk]
      have h3 := PlainAid.bt_nonneg s k
      have h4 := PlainAid.bt_le s k
      have h5 : (bt s k).toNat % 2 ^ 8 = (bt s k).toNat := Nat.mod_eq_of_lt (by omega)
      constructor
      · intro h
        have h2 := congrArg UInt8.toNat (Option.some.inj h)
        rw [UInt8.toNat_ofNat', h5] at h2
        have h6 : (UInt8.toNat 10) = 10 := rfl
        omega
      · intro h; rw [h]; rfl
  by_cases hq : Lib.indexByte (s.data.toList.drop j) 10 < 0
  · rw [if_pos hq] at hle ⊢
    refine ⟨hj, Nat.le_refl _, fun k h1 h2 h10 => ?_, fun h => absurd h (Nat.lt_irrefl _)⟩
    rcases key k h2 with h | h
    · have hm := h.2 h10
      exact Lib.indexByte_none (by have := Lib.indexByte_ge (s.data.toList.drop j) 10; omega) (k - j) hm
    · omega
  · rw [if_neg hq] at hle ⊢
    obtain ⟨n, hn⟩ : ∃ n : Nat, Lib.indexByte (s.data.toList.drop j) 10 = n := ⟨_, (Int.toNat_of_nonneg (by omega)).symm⟩
    rw [hn, Int.toNat_natCast] at hle ⊢
    obtain ⟨h1, h2⟩ := Lib.indexByte_some hn
    refine ⟨by omega, hle, fun k k1 k2 h10 => ?_, fun hl => ?_⟩
    · rcases key k (by omega) with h | h
      · exact h2 (k - j) (by omega) (h.2 h10)
      · omega
    · rcases key (j + n) hl with h | h
      · exact h.1 (by rw [show j + n - j = n by omega]; exact h1)
      · omega
set_option maxHeartbeats 1000000 in
set_option maxRecDepth 100000 in
theorem rfail_ok (s : ByteArray) (pb i : Nat) (a : Int) (x : Int) (w : World) (h : RdAt w pb s i a 0) :
    Calls Tryd.prog 40 #[.pointer (some ⟨pb, 0, none⟩), .int .i64 x] w fun e w' => e = .returned (.tuple #[]) ∧ RdAt w' pb s i x 100 ∧ Only (fun k => k = pb) w w' := by
  obtain ⟨c0, c1, c2, c3, cf, cpl⟩ := h.cells
  have f2 := cf 2
  have f3 := cf 3
  have H := Lib.hid h
  clear h cf
  go_enter Tryd.func40, Tryd.ntmps40
  go_wp2_with fail
  go_end0
  exact ⟨rfl, H.out.bad x 100, ((Only.refl (fun k => k = pb) w).setCell (p := ⟨pb, 2, none⟩) rfl _).setCell (p := ⟨pb, 3, none⟩) rfl _⟩
set_option maxHeartbeats 4000000 in
set_option maxRecDepth 100000 in
theorem rskip_any (s : ByteArray) (pb i : Nat) (a x : Int) (w : World) (h : RdAt w pb s i a x) (hi : i ≤ s.size) (hs : s.size ≤ 1000000) :
    Calls Tryd.prog 20 #[.pointer (some ⟨pb, 0, none⟩)] w fun e w' => e = .returned (.tuple #[]) ∧ RdAt w' pb s (skipT s i) a x ∧ Only (fun k => k = pb) w w' := by
  have hbt := PlainAid.get_bt s
  go_enter Tryd.func20, Tryd.ntmps20
  go_wp2
  go_loopg [] (s.size - i) (fun k wr => ∃ j : Nat, RdAt wr pb s j a x ∧ j ≤ s.size ∧ s.size - j ≤ k ∧ skipF s k j = skipT s i ∧ Only (fun k => k = pb) w wr)
  case atStart => exact ⟨i, h, hi, Nat.le_refl _, rfl, Only.refl _ _⟩
  case round =>
    obtain ⟨j, hp, hj, hk, he, ho⟩ := hrel
    have HP := Lib.hid hp
    have HE := Lib.hid he
    have HO := Lib.hid ho
    obtain ⟨c0, c1, _, _, cf, hpl⟩ := hp.cells
    have f1 := cf 1
    clear hp he ho h cf
    by_cases hlt : j < s.size
    · have hlt' : decide (j < s.size) = true := decide_eq_true hlt
      have hlz : decide ((j : Int) < (s.size : Int)) = true := decide_eq_true (by omega)
      go_wp2_with fail
      go_quiet (fail)
      go_wp2_with fail
      go_quiet (fail)
      obtain ⟨gk', rfl⟩ : ∃ gk', gk = gk' + 1 := ⟨gk - 1, by omega⟩
      have HEQ : Hid (skipF s (gk' + 1) j = if blank (bt s j) = true then skipF s gk' (j + 1) else if bt s j = 35 then skipF s gk' (eolT s j) else j) := by
        show _ = _
        rw [skipF, if_pos hlt]
      have HGT := Lib.hid (eolT_gt s j hlt)
      have HEI := Lib.hid (eol_is s j hj)
      obtain ⟨cj, hcj⟩ : ∃ cj, bt s j = cj := ⟨_, rfl⟩
      rw [hcj] at HEQ HGT ⊢
      have HCJ := Lib.hid hcj
      clear hcj
      by_cases h35 : cj = 35
      · have e35 : (cj == 35) = true := by simpa using h35
        have hbl : ¬ blank cj = true := by rw [h35]; decide
        rw [if_neg hbl, if_pos h35] at HEQ
        have hgt := HGT.out (by omega)
        clear hbl h35
        obtain ⟨L, hL⟩ : ∃ L, eolT s j = L := ⟨_, rfl⟩
        rw [hL] at HEQ HEI hgt
        clear HGT hL
        go_wp2_with fail
        go_loopg [] (L - j) (fun g wx => ∃ m : Nat, RdAt wx pb s m a x ∧ j ≤ m ∧ m ≤ L ∧ L - m ≤ g ∧ Only (fun k => k = pb) w wx)
        case atStart => exact ⟨j, HP.out.drewN _, Nat.le_refl _, by omega, Nat.le_refl _, only_drewN HO.out _⟩
        case round =>
          obtain ⟨m, hp, hjm, hmL, hg, ho⟩ := hrel
          have HP2 := Lib.hid hp
          have HO2 := Lib.hid ho
          obtain ⟨d0, d1, _, _, df, dpl⟩ := hp.cells
          have k1 := df 1
          clear hp ho df c0 c1 f1
          have hLs := HEI.out.2.1
          by_cases hm : m < L
          · have hlt2 : decide (m < s.size) = true := decide_eq_true (by omega)
            have hlz2 : decide ((m : Int) < (s.size : Int)) = true := decide_eq_true (by omega)
            have hms : m < s.size := by omega
            have n10 := HEI.out.2.2.1 m hjm hm
            have e10 : (bt s m == 10) = false := by simpa using n10
            have e10' : (bt s m != 10) = true := by simpa using n10
            clear n10
            go_wp2_with fail
            go_quiet (fail)
            go_wp2_with fail
            go_roundg (gk - 1)
            case measure => omega
            case rel => exact ⟨m + 1, (HP2.out.drewN _).go (m + 1), by omega, by omega, by omega, (only_drewN HO2.out _).setCell (p := ⟨pb, 1, none⟩) rfl _⟩
          · obtain rfl : m = L := by omega
            by_cases hms : m < s.size
            · have hlt2 : decide (m < s.size) = true := decide_eq_true (by omega)
              have hlz2 : decide ((m : Int) < (s.size : Int)) = true := decide_eq_true (by omega)
              have i10 := HEI.out.2.2.2 hms
              have e10 : (bt s m == 10) = true := by simpa using i10
              have e10' : (bt s m != 10) = false := by simpa using i10
              clear i10
              go_wp2_with fail
              go_quiet (fail)
              go_wp2_with fail
              go_roundg gk'
              case measure => omega
              case rel => exact ⟨m, HP2.out.drewN _, hLs, by omega, HEQ.out.symm.trans HE.out, only_drewN HO2.out _⟩
            · have hlt2 : decide (m < s.size) = false := decide_eq_false hms
              have hlz2 : decide ((m : Int) < (s.size : Int)) = false := decide_eq_false (by omega)
              go_wp2_with fail
              go_quiet (fail)
              go_wp2_with fail
              go_roundg gk'
              case measure => omega
              case rel => exact ⟨m, HP2.out.drewN _, hLs, by omega, HEQ.out.symm.trans HE.out, only_drewN HO2.out _⟩
      · have e35 : (cj == 35) = false := by simpa using h35
        rw [if_neg h35] at HEQ
        clear h35 HGT
        by_cases hb : cj = 32 ∨ cj = 9 ∨ cj = 10
        · have hbl : blank cj = true := by unfold blank; rcases hb with rfl | rfl | rfl <;> rfl
          rw [if_pos hbl] at HEQ
          clear hbl
          rcases hb with rfl | rfl | rfl <;>
          · go_wp2
            go_roundg gk'
            case measure => omega
            case rel => exact ⟨j + 1, (HP.out.drewN _).go (j + 1), by omega, by omega, HEQ.out.symm.trans HE.out, (only_drewN HO.out _).setCell (p := ⟨pb, 1, none⟩) rfl _⟩
        · have hbl : ¬ blank cj = true := by
            unfold blank; simp; omega
          have e32 : (cj == 32) = false := beq_eq_false_iff_ne.2 (by omega)
          have e9 : (cj == 9) = false := beq_eq_false_iff_ne.2 (by omega)
          have e10 : (cj == 10) = false := beq_eq_false_iff_ne.2 (by omega)
          rw [if_neg hbl] at HEQ
          clear hbl hb
          have HF : Hid (j = skipT s i) := HEQ.out.symm.trans HE.out
          go_wp2
          (try simp only [Exit.inBlock, Exit.then]); refine bodyPost_ret (results_none rfl _ _ _) rfl ?_
          refine ⟨rfl, ?_, only_drewN HO.out _⟩
          rw [← HF.out]; exact HP.out.drewN _
    · have hlt' : decide (j < s.size) = false := decide_eq_false hlt
      have hlz : decide ((j : Int) < (s.size : Int)) = false := decide_eq_false (by omega)
      have HF : Hid (j = skipT s i) := by
        have h1 := HE.out
        show _ = _
        cases gk with
        | zero => exact h1
        | succ n => rw [skipF, if_neg hlt] at h1; exact h1
      go_wp2_with fail
      go_quiet (fail)
      go_wp2_with fail
      go_end0
      refine ⟨rfl, ?_, only_drewN HO.out _⟩
      rw [← HF.out]; exact HP.out.drewN _
end Go.Proofs.YtchjjfjjcdjjcaaDoor
