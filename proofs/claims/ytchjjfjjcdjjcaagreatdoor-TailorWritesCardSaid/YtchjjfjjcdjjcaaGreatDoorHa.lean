/- The reference's reader of rules: what is passed over; whether a text comes; digits; bytes that stand for themselves. The reference's reader of rules: whether a text comes; digits; bytes that stand for themselves. The reference's reader of rules in plain words: signs. -/
import Derived.Test.YtchjjfjjcdjjcaaGreatDoorGl
/-! The reference's reader of rules: what is passed over; whether a text comes; digits; bytes that stand for themselves. -/
namespace Go.Proofs.YtchjjfjjcdjjcaaGreatDoor
open Go.RowKit
open PlainAid (bt)

/-- a reader in memory -/
def RdAt (W : World) (pb : Nat) (s : ByteArray) (i : Nat) (a e : Int) : Prop := W.heap[pb]? = some (.cells #[.string s, .int .i64 (i : Nat), .int .i64 a, .int .i64 e] 69 (0, 0))
section
variable {W W' : World} {pb : Nat} {s : ByteArray} {i : Nat} {a e : Int}
theorem RdAt.cells (h : RdAt W pb s i a e) : W.cell? ⟨pb, 0, none⟩ = some (.string s) ∧ W.cell? ⟨pb, 1, none⟩ = some (.int .i64 (i : Nat)) ∧ W.cell? ⟨pb, 2, none⟩ = some (.int .i64 a) ∧ W.cell? ⟨pb, 3, none⟩ = some (.int .i64 e) ∧ (∀ o, W.frozen? ⟨pb, o, none⟩ = false) ∧ pb < W.heap.size :=
  ⟨by simp [World.cell?, show W.heap[pb]? = _ from h], by simp [World.cell?, show W.heap[pb]? = _ from h], by simp [World.cell?, show W.heap[pb]? = _ from h], by simp [World.cell?, show W.heap[pb]? = _ from h], fun o => by simp [World.frozen?, show W.heap[pb]? = _ from h], (Array.getElem?_eq_some_iff.1 h).1⟩
theorem RdAt.go (h : RdAt W pb s i a e) (j : Nat) : RdAt (W.setCell ⟨pb, 1, none⟩ (.int .i64 (j : Nat))) pb s j a e := by
  unfold RdAt at *
  unfold World.setCell
  simp [Array.getElem?_modify, h]
theorem RdAt.bad (h : RdAt W pb s i a e) (x y : Int) : RdAt ((W.setCell ⟨pb, 2, none⟩ (.int .i64 x)).setCell ⟨pb, 3, none⟩ (.int .i64 y)) pb s i x y := by
  unfold RdAt at *
  unfold World.setCell
  simp [Array.getElem?_modify, h]
theorem RdAt.only (h : RdAt W pb s i a e) {S : Nat → Prop} (ho : Only S W W') (hx : ¬ S pb) : RdAt W' pb s i a e := (ho.block pb h.cells.2.2.2.2.2 hx).trans h
theorem RdAt.below (h : RdAt W pb s i a e) (hb : Below W.heap.size W W') : RdAt W' pb s i a e := (hb.block pb h.cells.2.2.2.2.2).trans h
theorem RdAt.drewN (h : RdAt W pb s i a e) (n : Nat) : RdAt (W.drewN n) pb s i a e := h
end
theorem eol_is (s : ByteArray) (j : Nat) (hj : j ≤ s.size) : j ≤ eolT s j ∧ eolT s j ≤ s.size ∧ (∀ k, j ≤ k → k < eolT s j → bt s k ≠ 10) ∧ (eolT s j < s.size → bt s (eolT s j) = 10) := by
  have hle := eolT_le s j hj
  unfold eolT at hle ⊢
  have key : ∀ k, k < s.size → ((s.data.toList.drop j)[k - j]? = some 10 ↔ bt s k = 10) ∨ k < j := by
    intro k hk
    by_cases hkj : k < j
    · exact .inr hkj
    · left
      rw [list_bt, show j + (k - j) = k by omega, if_pos hk]
      have h3 := PlainAid.bt_nonneg s k
      have h4 := PlainAid.bt_le s k
      have h5 : (bt s k).toNat % 2 ^ 8 = (bt s k).toNat := Nat.mod_eq_of_lt (by omega)
      constructor
      · intro h
        have h2 := congrArg UInt8.toNat (Option.some.inj h)
        rw [UInt8.toNat_ofNat', h5] at h2
        have h6 : (UInt8.toNat 10) = 10 := rfl
        omega
      · intro h; rw [h]; rfl
  by_cases hq : Lib.indexByte (s.data.toList.drop j) 10 < 0
  · rw [if_pos hq] at hle ⊢
    refine ⟨hj, Nat.le_refl _, fun k h1 h2 h10 => ?_, fun h => absurd h (Nat.lt_irrefl _)⟩
    rcases key k h2 with h | h
    · have hm := h.2 h10
      exact Lib.indexByte_none (by have := Lib.indexByte_ge (s.data.toList.drop j) 10; omega) (k - j) hm
    · omega
  · rw [if_neg hq] at hle ⊢
    obtain ⟨n, hn⟩ : ∃ n : Nat, Lib.indexByte (s.data.toList.drop j) 10 = n := ⟨_, (Int.toNat_of_nonneg (by omega)).symm⟩
    rw [hn, Int.toNat_natCast] at hle ⊢
    obtain ⟨h1, h2⟩ := Lib.indexByte_some hn
    refine ⟨by omega, hle, fun k k1 k2 h10 => ?_, fun hl => ?_⟩
    · rcases key k (by omega) with h | h
      · exact h2 (k - j) (by omega) (h.2 h10)
      · omega
    · rcases key (j + n) hl with h | h
      · exact h.1 (by rw [show j + n - j = n by omega]; exact h1)
      · omega
set_option maxHeartbeats 1000000 in
set_option maxRecDepth 100000 in
theorem rfail_ok (s : ByteArray) (pb i : Nat) (a : Int) (x : Int) (w : World) (h : RdAt w pb s i a 0) :
    Calls Tryz.prog 47 #[.pointer (some ⟨pb, 0, none⟩), .int .i64 x] w fun e w' => e = .returned (.tuple #[]) ∧ RdAt w' pb s i x 100 ∧ Only (fun k => k = pb) w w' := by
  obtain ⟨c0, c1, c2, c3, cf, cpl⟩ := h.cells
  have f2 := cf 2
  have f3 := cf 3
  have H := Lib.hid h
  clear h cf
  go_enter Tryz.func47, Tryz.ntmps47
  go_wp2_with fail
  go_end0
  exact ⟨rfl, H.out.bad x 100, ((Only.refl (fun k => k = pb) w).setCell (p := ⟨pb, 2, none⟩) rfl _).setCell (p := ⟨pb, 3, none⟩) rfl _⟩
set_option maxHeartbeats 4000000 in
set_option maxRecDepth 100000 in
theorem rskip_any (s : ByteArray) (pb i : Nat) (a x : Int) (w : World) (h : RdAt w pb s i a x) (hi : i ≤ s.size) (hs : s.size ≤ 1000000) :
    Calls Tryz.prog 24 #[.pointer (some ⟨pb, 0, none⟩)] w fun e w' => e = .returned (.tuple #[]) ∧ RdAt w' pb s (skipT s i) a x ∧ Only (fun k => k = pb) w w' := by
  have hbt := PlainAid.get_bt s
  go_enter Tryz.func24, Tryz.ntmps24
  go_wp2
  go_loopg [] (s.size - i) (fun k wr => ∃ j : Nat, RdAt wr pb s j a x ∧ j ≤ s.size ∧ s.size - j ≤ k ∧ skipF s k j = skipT s i ∧ Only (fun k => k = pb) w wr)
  case atStart => exact ⟨i, h, hi, Nat.le_refl _, rfl, Only.refl _ _⟩
  case round =>
    obtain ⟨j, hp, hj, hk, he, ho⟩ := hrel
    have HP := Lib.hid hp
    have HE := Lib.hid he
    have HO := Lib.hid ho
    obtain ⟨c0, c1, _, _, cf, hpl⟩ := hp.cells
    have f1 := cf 1
    clear hp he ho h cf
    by_cases hlt : j < s.size
    · have hlt' : decide (j < s.size) = true := decide_eq_true hlt
      have hlz : decide ((j : Int) < (s.size : Int)) = true := decide_eq_true (by omega)
      go_wp2_with fail
      go_quiet (fail)
      go_wp2_with fail
      go_quiet (fail)
      obtain ⟨gk', rfl⟩ : ∃ gk', gk = gk' + 1 := ⟨gk - 1, by omega⟩
      have HEQ : Hid (skipF s (gk' + 1) j = if blank (bt s j) = true then skipF s gk' (j + 1) else if bt s j = 35 then skipF s gk' (eolT s j) else j) := by
        show _ = _
        rw [skipF, if_pos hlt]
      have HGT := Lib.hid (eolT_gt s j hlt)
      have HEI := Lib.hid (eol_is s j hj)
      obtain ⟨cj, hcj⟩ : ∃ cj, bt s j = cj := ⟨_, rfl⟩
      rw [hcj] at HEQ HGT ⊢
      have HCJ := Lib.hid hcj
      clear hcj
      by_cases h35 : cj = 35
      · have e35 : (cj == 35) = true := by simpa using h35
        have hbl : ¬ blank cj = true := by rw [h35]; decide
        rw [if_neg hbl, if_pos h35] at HEQ
        have hgt := HGT.out (by omega)
        clear hbl h35
        obtain ⟨L, hL⟩ : ∃ L, eolT s j = L := ⟨_, rfl⟩
        rw [hL] at HEQ HEI hgt
        clear HGT hL
        go_wp2_with fail
        go_loopg [] (L - j) (fun g wx => ∃ m : Nat, RdAt wx pb s m a x ∧ j ≤ m ∧ m ≤ L ∧ L - m ≤ g ∧ Only (fun k => k = pb) w wx)
        case atStart => exact ⟨j, HP.out.drewN _, Nat.le_refl _, by omega, Nat.le_refl _, only_drewN HO.out _⟩
        case round =>
          obtain ⟨m, hp, hjm, hmL, hg, ho⟩ := hrel
          have HP2 := Lib.hid hp
          have HO2 := Lib.hid ho
          obtain ⟨d0, d1, _, _, df, dpl⟩ := hp.cells
          have k1 := df 1
          clear hp ho df c0 c1 f1
          have hLs := HEI.out.2.1
          by_cases hm : m < L
          · have hlt2 : decide (m < s.size) = true := decide_eq_true (by omega)
            have hlz2 : decide ((m : Int) < (s.size : Int)) = true := decide_eq_true (by omega)
            have hms : m < s.size := by omega
            have n10 := HEI.out.2.2.1 m hjm hm
            have e10 : (bt s m == 10) = false := by simpa using n10
            have e10' : (bt s m != 10) = true := by simpa using n10
            clear n10
            go_wp2_with fail
            go_quiet (fail)
            go_wp2_with fail
            go_roundg (gk - 1)
            case measure => omega
            case rel => exact ⟨m + 1, (HP2.out.drewN _).go (m + 1), by omega, by omega, by omega, (only_drewN HO2.out _).setCell (p := ⟨pb, 1, none⟩) rfl _⟩
          · obtain rfl : m = L := by omega
            by_cases hms : m < s.size
            · have hlt2 : decide (m < s.size) = true := decide_eq_true (by omega)
              have hlz2 : decide ((m : Int) < (s.size : Int)) = true := decide_eq_true (by omega)
              have i10 := HEI.out.2.2.2 hms
              have e10 : (bt s m == 10) = true := by simpa using i10
              have e10' : (bt s m != 10) = false := by simpa using i10
              clear i10
              go_wp2_with fail
              go_quiet (fail)
              go_wp2_with fail
              go_roundg gk'
              case measure => omega
              case rel => exact ⟨m, HP2.out.drewN _, hLs, by omega, HEQ.out.symm.trans HE.out, only_drewN HO2.out _⟩
            · have hlt2 : decide (m < s.size) = false := decide_eq_false hms
              have hlz2 : decide ((m : Int) < (s.size : Int)) = false := decide_eq_false (by omega)
              go_wp2_with fail
              go_quiet (fail)
              go_wp2_with fail
              go_roundg gk'
              case measure => omega
              case rel => exact ⟨m, HP2.out.drewN _, hLs, by omega, HEQ.out.symm.trans HE.out, only_drewN HO2.out _⟩
      · have e35 : (cj == 35) = false := by simpa using h35
        rw [if_neg h35] at HEQ
        clear h35 HGT
        by_cases hb : cj = 32 ∨ cj = 9 ∨ cj = 10
        · have hbl : blank cj = true := by unfold blank; rcases hb with rfl | rfl | rfl <;> rfl
          rw [if_pos hbl] at HEQ
          clear hbl
          rcases hb with rfl | rfl | rfl <;>
          · go_wp2
            go_roundg gk'
            case measure => omega
            case rel => exact ⟨j + 1, (HP.out.drewN _).go (j + 1), by omega, by omega, HEQ.out.symm.trans HE.out, (only_drewN HO.out _).setCell (p := ⟨pb, 1, none⟩) rfl _⟩
        · have hbl : ¬ blank cj = true := by
            unfold blank; simp; omega
          have e32 : (cj == 32) = false := beq_eq_false_iff_ne.2 (by omega)
          have e9 : (cj == 9) = false := beq_eq_false_iff_ne.2 (by omega)
          have e10 : (cj == 10) = false := beq_eq_false_iff_ne.2 (by omega)
          rw [if_neg hbl] at HEQ
          clear hbl hb
          have HF : Hid (j = skipT s i) := HEQ.out.symm.trans HE.out
          go_wp2
          (try simp only [Exit.inBlock, Exit.then]); refine bodyPost_ret (results_none rfl _ _ _) rfl ?_
          refine ⟨rfl, ?_, only_drewN HO.out _⟩
          rw [← HF.out]; exact HP.out.drewN _
    · have hlt' : decide (j < s.size) = false := decide_eq_false hlt
      have hlz : decide ((j : Int) < (s.size : Int)) = false := decide_eq_false (by omega)
      have HF : Hid (j = skipT s i) := by
        have h1 := HE.out
        show _ = _
        cases gk with
        | zero => exact h1
        | succ n => rw [skipF, if_neg hlt] at h1; exact h1
      go_wp2_with fail
      go_quiet (fail)
      go_wp2_with fail
      go_end0
      refine ⟨rfl, ?_, only_drewN HO.out _⟩
      rw [← HF.out]; exact HP.out.drewN _
end Go.Proofs.YtchjjfjjcdjjcaaGreatDoor
/-! The reference's reader of rules: whether a text comes; digits; bytes that stand for themselves. -/
namespace Go.Proofs.YtchjjfjjcdjjcaaGreatDoor
open Go.RowKit
open PlainAid (bt)

/-- does a text come at a place? -/
def hasT (s : ByteArray) (i : Nat) (t : ByteArray) : Bool := decide (i + t.size ≤ s.size) && ((s.extract i (i + t.size)).toList == t.toList)
set_option maxHeartbeats 2000000 in
set_option maxRecDepth 100000 in
theorem rhas_any (s t : ByteArray) (pb i : Nat) (a x : Int) (w : World) (h : RdAt w pb s i a x) (hi : i ≤ s.size) (hs : s.size ≤ 1000000) (ht : t.size ≤ 1000) :
    Calls Tryz.prog 27 #[.pointer (some ⟨pb, 0, none⟩), .string t] w fun e w' => e = .returned (.bool (hasT s i t)) ∧ Below w.heap.size w w' := by
  obtain ⟨c0, c1, c2, c3, cf, cpl⟩ := h.cells
  have HH : Hid (hasT s i t = (decide (i + t.size ≤ s.size) && ((s.extract i (i + t.size)).toList == t.toList))) := rfl
  obtain ⟨n, hn⟩ : ∃ n, t.size = n := ⟨_, rfl⟩
  rw [hn] at HH ht
  clear h cf
  by_cases hc : i + n ≤ s.size
  · rw [decide_eq_true hc, Bool.true_and] at HH
    obtain ⟨b, hb⟩ : ∃ b, b = i + n := ⟨_, rfl⟩
    rw [← hb] at HH hc
    have e1 : (i : Int) + (n : Int) = (b : Int) := by omega
    have g1 : decide ((n : Int) ≤ (s.size : Int) - (i : Int)) = true := decide_eq_true (by omega)
    have g1' : (n : Int) ≤ (s.size : Int) - (i : Int) := by omega
    have sl1 : (0 : Int) ≤ (i : Int) ∧ (i : Int) ≤ (b : Int) := by omega
    have sl2 : (i : Int) ≤ (b : Int) := by omega
    have sl3 : (0 : Int) ≤ (b : Int) ∧ (b : Int) ≤ (s.size : Int) := by omega
    have hib : i ≤ b := by omega
    clear hb
    go_enter Tryz.func27, Tryz.ntmps27
    go_wp2_with fail
    refine wp_region_over (by kernel_rfl) (by kernel_rfl) ?_; (repeat (go_big_quiet_step ((fail)))); refine wpQuiet_nil ?_; intro w1 hb1
    go_wp2_with fail
    go_ret
    exact ⟨by rw [HH.out]; rfl, hb1⟩
  · rw [decide_eq_false hc, Bool.false_and] at HH
    have g1 : decide ((n : Int) ≤ (s.size : Int) - (i : Int)) = false := decide_eq_false (by omega)
    have g1' : ¬ (n : Int) ≤ (s.size : Int) - (i : Int) := by omega
    clear hc
    go_enter Tryz.func27, Tryz.ntmps27
    go_wp2_with fail
    refine wp_region_over (by kernel_rfl) (by kernel_rfl) ?_; (repeat (go_big_quiet_step ((fail)))); refine wpQuiet_nil ?_; intro w1 hb1
    go_wp2_with fail
    go_ret
    exact ⟨by rw [HH.out]; rfl, hb1⟩
/-- a digit's value, or -1 -/
def digV (c : Int) : Int := if hexOk c then hexV c else -1
set_option maxHeartbeats 2000000 in
set_option maxRecDepth 100000 in
theorem rdigit_any (c : Int) (w : World) (h0 : 0 ≤ c) (h1 : c ≤ 255) :
    Calls Tryz.prog 71 #[.int .u8 c] w fun e w' => e = .returned (.int .i64 (digV c)) ∧ w = w' := by
  have HV : Hid ((48 ≤ c ∧ c ≤ 57 → digV c = c - 48) ∧ (65 ≤ c ∧ c ≤ 70 → digV c = c - 65 + 10) ∧ (97 ≤ c ∧ c ≤ 102 → digV c = c - 97 + 10) ∧ (¬ hexOk c → digV c = -1)) := by
    show _ ∧ _
    unfold digV hexV
    refine ⟨fun h => ?_, fun h => ?_, fun h => ?_, fun h => by rw [if_neg h]⟩
    · rw [if_pos (.inl h), if_pos h.2]
    · rw [if_pos (.inr (.inl h)), if_neg (by omega), if_pos h.2]; omega
    · rw [if_pos (.inr (.inr h)), if_neg (by omega), if_neg (by omega)]; omega
  have hc : c < 48 ∨ (48 ≤ c ∧ c ≤ 57) ∨ (58 ≤ c ∧ c < 65) ∨ (65 ≤ c ∧ c ≤ 70) ∨ (71 ≤ c ∧ c < 97) ∨ (97 ≤ c ∧ c ≤ 102) ∨ 103 ≤ c := by omega
  rcases hc with k | ⟨k1, k2⟩ | ⟨k1, k2⟩ | ⟨k1, k2⟩ | ⟨k1, k2⟩ | ⟨k1, k2⟩ | k
  · have HE : Hid (digV c = -1) := HV.out.2.2.2 (by unfold hexOk; omega)
    clear HV
    go_enter Tryz.func71, Tryz.ntmps71
    go_wp2
    go_ret
    exact ⟨by rw [HE.out]; rfl, rfl⟩
  · have HE : Hid (digV c = c - 48) := HV.out.1 ⟨k1, k2⟩
    clear HV
    go_enter Tryz.func71, Tryz.ntmps71
    go_wp2
    go_ret
    exact ⟨by rw [HE.out]; rfl, rfl⟩
  · have HE : Hid (digV c = -1) := HV.out.2.2.2 (by unfold hexOk; omega)
    clear HV
    go_enter Tryz.func71, Tryz.ntmps71
    go_wp2
    go_ret
    exact ⟨by rw [HE.out]; rfl, rfl⟩
  · have HE : Hid (digV c = c - 65 + 10) := HV.out.2.1 ⟨k1, k2⟩
    clear HV
    go_enter Tryz.func71, Tryz.ntmps71
    go_wp2
    go_ret
    exact ⟨by rw [HE.out]; rfl, rfl⟩
  · have HE : Hid (digV c = -1) := HV.out.2.2.2 (by unfold hexOk; omega)
    clear HV
    go_enter Tryz.func71, Tryz.ntmps71
    go_wp2
    go_ret
    exact ⟨by rw [HE.out]; rfl, rfl⟩
  · have HE : Hid (digV c = c - 97 + 10) := HV.out.2.2.1 ⟨k1, k2⟩
    clear HV
    go_enter Tryz.func71, Tryz.ntmps71
    go_wp2
    go_ret
    exact ⟨by rw [HE.out]; rfl, rfl⟩
  · have HE : Hid (digV c = -1) := HV.out.2.2.2 (by unfold hexOk; omega)
    clear HV
    go_enter Tryz.func71, Tryz.ntmps71
    go_wp2
    go_ret
    exact ⟨by rw [HE.out]; rfl, rfl⟩
/-- the bytes that don't stand for themselves -/
def specL : List Int := [32, 9, 10, 38, 60, 61, 47, 35, 39, 92]
theorem spec_all : (List.range 256).all (fun n => specL.contains (n : Int) == (stopB (n : Int) || (n : Int) == 39 || (n : Int) == 92)) = true := by kernel_rfl
theorem spec_is (c : Int) (h0 : 0 ≤ c) (h1 : c ≤ 255) : (!specL.contains c) = !(stopB c || c == 39 || c == 92) := by
  obtain ⟨n, rfl⟩ : ∃ n : Nat, c = n := ⟨c.toNat, by omega⟩
  have h := List.all_eq_true.1 spec_all n (by simp; omega)
  rw [eq_of_beq h]
set_option maxHeartbeats 2000000 in
set_option maxRecDepth 100000 in
theorem rplain_any (c : Int) (w : World) :
    Calls Tryz.prog 49 #[.int .u8 c] w fun e w' => e = .returned (.bool (!specL.contains c)) ∧ w = w' := by
  have hg : ∀ k : Nat, k < 10 → ∃ x, specL[k]? = some x := fun k hk => ⟨specL[k]'hk, List.getElem?_eq_getElem _⟩
  have HB : Hid (∀ (k : Nat) x, specL[k]? = some x → bt (⟨#[32, 9, 10, 38, 60, 61, 47, 35, 39, 92]⟩ : ByteArray) k = x) := by
    intro k x h
    have hk : k < 10 := (List.getElem?_eq_some_iff.1 h).1
    have : k = 0 ∨ k = 1 ∨ k = 2 ∨ k = 3 ∨ k = 4 ∨ k = 5 ∨ k = 6 ∨ k = 7 ∨ k = 8 ∨ k = 9 := by omega
    rcases this with rfl | rfl | rfl | rfl | rfl | rfl | rfl | rfl | rfl | rfl <;> (cases h; rfl)
  have HZ : Hid ((⟨#[32, 9, 10, 38, 60, 61, 47, 35, 39, 92]⟩ : ByteArray).size = 10) := rfl
  have HGB := Lib.hid (PlainAid.get_bt (⟨#[32, 9, 10, 38, 60, 61, 47, 35, 39, 92]⟩ : ByteArray))
  obtain ⟨S, hS⟩ : ∃ S : ByteArray, S = ⟨#[32, 9, 10, 38, 60, 61, 47, 35, 39, 92]⟩ := ⟨_, rfl⟩
  rw [← hS] at HB HZ HGB
  have hw : ∀ (k : Nat), k < 10 → ∃ x, specL[k]? = some x ∧ bt S k = x := fun k hk => by
    obtain ⟨x, hx⟩ := hg k hk
    exact ⟨x, hx, HB.out k x hx⟩
  have HW := Lib.hid hw
  clear hg hw
  go_enter Tryz.func49, Tryz.ntmps49
  go_wp2_with fail
  rw [← hS]
  have HS := Lib.hid hS
  clear hS
  go_loopw [4] (fun iv wr => ∃ i : Nat, iv = .int .i64 i ∧ i ≤ 10 ∧ (∀ (k : Nat) x, k < i → specL[k]? = some x → x ≠ c) ∧ w = wr) (fun iv _ => 10 - (intOf iv).toNat)
  case atStart => exact ⟨0, rfl, by omega, fun k x hk => absurd hk (by omega), rfl⟩
  case round =>
    obtain ⟨i, rfl, hi, hno, rfl⟩ := hrel
    have HNO := Lib.hid hno
    have hbt := HGB.out
    have hsz := HZ.out
    clear hno
    by_cases hlt : i < 10
    · obtain ⟨x, hx, hbx⟩ := HW.out i hlt
      have HX := Lib.hid hx
      have g1 : (i : Int) < 10 := by omega
      have his : i < S.size := by omega
      have hiz : (0 : Int) ≤ (i : Int) ∧ (i : Int) < (S.size : Int) := by omega
      clear hx
      by_cases hxc : x = c
      · have HF : Hid ((!specL.contains c) = false) := by
          show _ = _
          have : c ∈ specL := List.mem_iff_getElem?.2 ⟨i, by rw [← hxc]; exact HX.out⟩
          simpa using this
        have e1 : (x == c) = true := by simpa using hxc
        clear hxc
        go_wp2_with fail
        go_ret
        exact ⟨by rw [HF.out]; rfl, rfl⟩
      · have e1 : (x == c) = false := by simpa using hxc
        have HXC := Lib.hid hxc
        clear hxc
        go_wp2_with fail
        go_roundw
        case rel => exact ⟨i + 1, by go_num, by omega, fun k y hk hy => by
          rcases Nat.lt_succ_iff_lt_or_eq.1 hk with h | rfl
          · exact HNO.out k y h hy
          · have := HX.out.symm.trans hy; cases this; exact HXC.out, by first | trivial | rfl⟩
        case measure => (show 10 - ((i : Int) + 1).toNat < 10 - (i : Int).toNat; omega)
    · obtain rfl : i = 10 := by omega
      have HF : Hid ((!specL.contains c) = true) := by
        show _ = _
        have : ¬ c ∈ specL := fun hm => by
          obtain ⟨k, hk⟩ := List.mem_iff_getElem?.1 hm
          exact HNO.out k c (List.getElem?_eq_some_iff.1 hk).1 hk rfl
        simpa using this
      go_wp2_with fail
      go_ret
      exact ⟨by rw [HF.out]; rfl, rfl⟩
end Go.Proofs.YtchjjfjjcdjjcaaGreatDoor
/-! The reference's reader of rules in plain words: signs. -/
namespace Go.Proofs.YtchjjfjjcdjjcaaGreatDoor
open Go.RowKit
open PlainAid (bt)

theorem beq_byte (c : UInt8) (x : Int) (h0 : 0 ≤ x) (h1 : x ≤ 255) : (UInt8.ofNat x.toNat == c) = decide (x = (c.toNat : Int)) := by
  rw [← byte_eq c x h0 h1]
  exact Bool.eq_iff_iff.2 ⟨fun h => by rw [eq_of_beq h]; exact beq_self_eq_true _, fun h => by rw [eq_of_beq h]; exact beq_self_eq_true _⟩
theorem hasT1 (s : ByteArray) (i : Nat) (c : UInt8) : hasT s i ⟨#[c]⟩ = decide (i + 1 ≤ s.size ∧ bt s i = (c.toNat : Int)) := by
  unfold hasT
  rw [Lib.extract_toList]
  have e : (⟨#[c]⟩ : ByteArray).size = 1 := rfl
  have e2 : (⟨#[c]⟩ : ByteArray).toList = [c] := by rw [Lib.toList_data]
  rw [e, e2]
  by_cases h : i + 1 ≤ s.size
  · rw [decide_eq_true h, Bool.true_and, drop_bt s i h, show i + 1 - i = 1 by omega]
    simp only [List.take_succ_cons, List.take_zero]
    have := beq_byte c (bt s i) (PlainAid.bt_nonneg s i) (PlainAid.bt_le s i)
    simp only [h, true_and, ← this]
    simp
  · rw [decide_eq_false h, decide_eq_false (fun hh => h hh.1)]; rfl
theorem hasT2 (s : ByteArray) (i : Nat) (c d : UInt8) : hasT s i ⟨#[c, d]⟩ = decide (i + 2 ≤ s.size ∧ bt s i = (c.toNat : Int) ∧ bt s (i + 1) = (d.toNat : Int)) := by
  unfold hasT
  rw [Lib.extract_toList]
  have e : (⟨#[c, d]⟩ : ByteArray).size = 2 := rfl
  have e2 : (⟨#[c, d]⟩ : ByteArray).toList = [c, d] := by rw [Lib.toList_data]
  rw [e, e2]
  by_cases h : i + 2 ≤ s.size
  · rw [decide_eq_true h, Bool.true_and, drop_bt s i (by omega), drop_bt s (i + 1) (by omega), show i + 2 - i = 2 by omega]
    simp only [List.take_succ_cons, List.take_zero]
    have h1 := beq_byte c (bt s i) (PlainAid.bt_nonneg s i) (PlainAid.bt_le s i)
    have h2 := beq_byte d (bt s (i + 1)) (PlainAid.bt_nonneg s _) (PlainAid.bt_le s _)
    simp only [h, true_and, Bool.decide_and, ← h1, ← h2]
    simp
  · rw [decide_eq_false h, decide_eq_false (fun hh => h hh.1)]; rfl
theorem hasT3 (s : ByteArray) (i : Nat) (c d f : UInt8) : hasT s i ⟨#[c, d, f]⟩ = decide (i + 3 ≤ s.size ∧ bt s i = (c.toNat : Int) ∧ bt s (i + 1) = (d.toNat : Int) ∧ bt s (i + 2) = (f.toNat : Int)) := by
  unfold hasT
  rw [Lib.extract_toList]
  have e : (⟨#[c, d, f]⟩ : ByteArray).size = 3 := rfl
  have e2 : (⟨#[c, d, f]⟩ : ByteArray).toList = [c, d, f] := by rw [Lib.toList_data]
  rw [e, e2]
  by_cases h : i + 3 ≤ s.size
  · rw [decide_eq_true h, Bool.true_and, drop_bt s i (by omega), drop_bt s (i + 1) (by omega), drop_bt s (i + 2) (by omega), show i + 3 - i = 3 by omega]
    simp only [List.take_succ_cons, List.take_zero]
    have h1 := beq_byte c (bt s i) (PlainAid.bt_nonneg s i) (PlainAid.bt_le s i)
    have h2 := beq_byte d (bt s (i + 1)) (PlainAid.bt_nonneg s _) (PlainAid.bt_le s _)
    have h3 := beq_byte f (bt s (i + 2)) (PlainAid.bt_nonneg s _) (PlainAid.bt_le s _)
    simp only [h, true_and, Bool.decide_and, ← h1, ← h2, ← h3]
    simp
  · rw [decide_eq_false h, decide_eq_false (fun hh => h hh.1)]; rfl
/-- the sign that comes, as the reference looks for it -/
def rSgn (s : ByteArray) (i : Nat) : Int :=
  if hasT s i ⟨#[60, 60, 60]⟩ = true then 3 else if hasT s i ⟨#[60, 60]⟩ = true then 2 else if hasT s i ⟨#[60]⟩ = true then 1 else if hasT s i ⟨#[61]⟩ = true then 4 else if hasT s i ⟨#[38]⟩ = true then 0 else -1
def sgL (k : Int) : Nat := if k = 3 then 3 else if k = 2 then 2 else 1
theorem ext1 (s : ByteArray) (i : Nat) (h : i + 1 ≤ s.size) : (s.extract i (i + 1)).data.toList = [UInt8.ofNat (bt s i).toNat] := by
  rw [Lib.extract_data, drop_bt s i h, show i + 1 - i = 1 by omega]; rfl
theorem ext2 (s : ByteArray) (i : Nat) (h : i + 2 ≤ s.size) : (s.extract i (i + 2)).data.toList = [UInt8.ofNat (bt s i).toNat, UInt8.ofNat (bt s (i + 1)).toNat] := by
  rw [Lib.extract_data, drop_bt s i (by omega), drop_bt s (i + 1) (by omega), show i + 2 - i = 2 by omega]; rfl
theorem ext3 (s : ByteArray) (i : Nat) (h : i + 3 ≤ s.size) : (s.extract i (i + 3)).data.toList = [UInt8.ofNat (bt s i).toNat, UInt8.ofNat (bt s (i + 1)).toNat, UInt8.ofNat (bt s (i + 2)).toNat] := by
  rw [Lib.extract_data, drop_bt s i (by omega), drop_bt s (i + 1) (by omega), drop_bt s (i + 2) (by omega), show i + 3 - i = 3 by omega]; rfl
theorem lts_one (s : ByteArray) (n e : Nat) (h : e < s.size ∧ bt s e = 60) : ltsF s (n + 1) e = ltsF s n (e + 1) := by rw [ltsF, if_pos h]
theorem lts_no (s : ByteArray) (n e : Nat) (h : ¬ (e < s.size ∧ bt s e = 60)) : ltsF s n e = e := by
  cases n with
  | zero => rfl
  | succ n => rw [ltsF, if_neg h]
/-- the two ways to find a sign -/
theorem sgn_rel (s : ByteArray) (i : Nat) (hi : i < s.size) : (rSgn s i < 0 ∧ sgnT s i = none) ∨ (0 ≤ rSgn s i ∧ sgnT s i = some (rSgn s i) ∧ endS s i = i + sgL (rSgn s i) ∧ i + sgL (rSgn s i) ≤ s.size) := by
  unfold rSgn
  simp only [hasT1, hasT2, hasT3, decide_eq_true_eq]
  have e60 : ((60 : UInt8).toNat : Int) = 60 := rfl
  have e61 : ((61 : UInt8).toNat : Int) = 61 := rfl
  have e38 : ((38 : UInt8).toNat : Int) = 38 := rfl
  rw [e60, e61, e38]
  by_cases h0 : bt s i = 60
  · right
    by_cases h1 : i + 1 < s.size ∧ bt s (i + 1) = 60
    · by_cases h2 : i + 2 < s.size ∧ bt s (i + 2) = 60
      · have he : endS s i = i + 3 := by
          unfold endS
          rw [lts_one s 2 i ⟨hi, h0⟩, lts_one s 1 (i + 1) h1, lts_one s 0 (i + 2) h2]
          rw [if_neg (by unfold ltsF; omega)]; rfl
        rw [if_pos ⟨by omega, h0, h1.2, h2.2⟩]
        refine ⟨by decide, ?_, he, by show i + 3 ≤ _; omega⟩
        unfold sgnT
        rw [he, ext3 s i (by omega), h0, h1.2, h2.2]; rfl
      · have he : endS s i = i + 2 := by
          unfold endS
          rw [lts_one s 2 i ⟨hi, h0⟩, lts_one s 1 (i + 1) h1, lts_no s 1 (i + 2) h2]
          rw [if_neg (by omega)]
        rw [if_neg (fun h => h2 ⟨by omega, h.2.2.2⟩), if_pos ⟨by omega, h0, h1.2⟩]
        refine ⟨by decide, ?_, he, by show i + 2 ≤ _; omega⟩
        unfold sgnT
        rw [he, ext2 s i (by omega), h0, h1.2]; rfl
    · have he : endS s i = i + 1 := by
        unfold endS
        rw [lts_one s 2 i ⟨hi, h0⟩, lts_no s 2 (i + 1) h1]
        rw [if_neg (by omega)]
      rw [if_neg (fun h => h1 ⟨by omega, h.2.2.1⟩), if_neg (fun h => h1 ⟨by omega, h.2.2⟩), if_pos ⟨by omega, h0⟩]
      refine ⟨by decide, ?_, he, by show i + 1 ≤ _; omega⟩
      unfold sgnT
      rw [he, ext1 s i (by omega), h0]; rfl
  · have he : endS s i = i + 1 := by
      unfold endS
      rw [lts_no s 3 i (fun h => h0 h.2), if_pos ⟨rfl, hi⟩]
    have hs : sgnT s i = signK [UInt8.ofNat (bt s i).toNat] := by unfold sgnT; rw [he, ext1 s i (by omega)]
    rw [if_neg (fun h => h0 h.2.1), if_neg (fun h => h0 h.2.1), if_neg (fun h => h0 h.2)]
    by_cases h1 : bt s i = 61
    · right
      rw [if_pos ⟨by omega, h1⟩, hs, h1]
      exact ⟨by decide, rfl, he, by show i + 1 ≤ _; omega⟩
    · rw [if_neg (fun h => h1 h.2)]
      by_cases h2 : bt s i = 38
      · right
        rw [if_pos ⟨by omega, h2⟩, hs, h2]
        exact ⟨by decide, rfl, he, by show i + 1 ≤ _; omega⟩
      · left
        rw [if_neg (fun h => h2 h.2), hs]
        refine ⟨by decide, ?_⟩
        have b0 := PlainAid.bt_nonneg s i
        have b1 := PlainAid.bt_le s i
        obtain ⟨n, hn⟩ : ∃ n : Nat, bt s i = n := ⟨(bt s i).toNat, by omega⟩
        rw [hn] at h0 h1 h2 b1 ⊢
        rw [Int.toNat_natCast]
        have := List.all_eq_true.1 (show (List.range 256).all (fun n => n == 60 || n == 61 || n == 38 || (signK [UInt8.ofNat n]).isNone) = true by kernel_rfl) n (by simp; omega)
        have k0 : (n == 60) = false := by simp; omega
        have k1 : (n == 61) = false := by simp; omega
        have k2 : (n == 38) = false := by simp; omega
        rw [k0, k1, k2] at this
        simpa using this
end Go.Proofs.YtchjjfjjcdjjcaaGreatDoor
