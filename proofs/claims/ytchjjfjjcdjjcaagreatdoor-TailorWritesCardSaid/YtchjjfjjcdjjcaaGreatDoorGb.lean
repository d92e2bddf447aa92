/- Package tailor: what counts for nothing is passed over. Package tailor: must; the signs. Package tailor: a sign is read. -/
import Derived.Test.YtchjjfjjcdjjcaaGreatDoorGa
import Derived.Test.YtchjjfjjcdjjcaaGreatDoorVd
import Derived.Deep.LoopGhost
import Derived.Deep.RegionHeld
import Derived.Lib.IndexBytes
import Derived.Maps.OwnOps
import Derived.Maps.OwnSet
import Derived.Deep.CutRange
/-! Package tailor: what counts for nothing is passed over. -/
namespace Go.Proofs.YtchjjfjjcdjjcaaGreatDoor
open Go.RowKit
open PlainAid (bt)

/-- the next line's end, at a place or behind it -/
def eolT (s : ByteArray) (i : Nat) : Nat := if Lib.indexByte (s.data.toList.drop i) 10 < 0 then s.size else i + (Lib.indexByte (s.data.toList.drop i) 10).toNat
/-- a blank -/
def blank (c : Int) : Bool := c == 32 || c == 9 || c == 10
/-- where what counts for nothing ends -/
def skipF (s : ByteArray) : Nat → Nat → Nat
  | 0, i => i
  | n + 1, i => if i < s.size then if blank (bt s i) = true then skipF s n (i + 1) else if bt s i = 35 then skipF s n (eolT s i) else i else i
def skipT (s : ByteArray) (i : Nat) : Nat := skipF s (s.size - i) i
theorem bt_list (s : ByteArray) (k : Nat) (h : k < s.size) : (s.data.toList.drop k)[0]? = some (UInt8.ofNat (bt s k).toNat) := by
  have hl : k < s.data.toList.length := by simpa using h
  rw [List.getElem?_drop, Nat.add_zero, List.getElem?_eq_getElem hl]
  unfold bt
  rw [dif_pos h]
  simp
  rfl
theorem eolT_le (s : ByteArray) (i : Nat) (hi : i ≤ s.size) : eolT s i ≤ s.size := by
  unfold eolT
  split
  · exact Nat.le_refl _
  · rename_i h
    obtain ⟨n, hn⟩ : ∃ n : Nat, Lib.indexByte (s.data.toList.drop i) 10 = n := ⟨(Lib.indexByte (s.data.toList.drop i) 10).toNat, by omega⟩
    have h1 := (Lib.indexByte_some hn).1
    have h2 := (List.getElem?_eq_some_iff.1 h1).1
    rw [List.length_drop] at h2
    rw [hn]
    have h3 : s.data.toList.length = s.size := by simp
    simp at h2 ⊢; omega
theorem eolT_gt (s : ByteArray) (i : Nat) (hi : i < s.size) (h35 : bt s i ≠ 10) : i < eolT s i := by
  unfold eolT
  split
  · exact hi
  · rename_i h
    obtain ⟨n, hn⟩ : ∃ n : Nat, Lib.indexByte (s.data.toList.drop i) 10 = n := ⟨(Lib.indexByte (s.data.toList.drop i) 10).toNat, by omega⟩
    have h1 := (Lib.indexByte_some hn).1
    rw [hn]
    cases n with
    | zero =>
      rw [bt_list s i hi] at h1
      have h2 := congrArg UInt8.toNat (Option.some.inj h1)
      have h3 := PlainAid.bt_nonneg s i
      have h4 := PlainAid.bt_le s i
      rw [UInt8.toNat_ofNat'] at h2
      exfalso; apply h35
      have h5 : (bt s i).toNat % 2 ^ 8 = (bt s i).toNat := Nat.mod_eq_of_lt (by omega)
      rw [h5] at h2
      have h6 : (UInt8.toNat 10) = 10 := rfl
      omega
    | succ n => simp
/-- a parser in memory -/
def PsAt (W : World) (pb : Nat) (s : ByteArray) (i : Nat) (lv : Value) : Prop := W.heap[pb]? = some (.cells #[.string s, .int .i64 (i : Nat), lv] 76 (0, 0))
section
variable {W : World} {pb : Nat} {s : ByteArray} {i : Nat} {lv : Value}
theorem PsAt.cells (h : PsAt W pb s i lv) : W.cell? ⟨pb, 0, none⟩ = some (.string s) ∧ W.cell? ⟨pb, 1, none⟩ = some (.int .i64 (i : Nat)) ∧ W.cell? ⟨pb, 2, none⟩ = some lv ∧ (∀ o, W.frozen? ⟨pb, o, none⟩ = false) ∧ pb < W.heap.size :=
  ⟨by simp [World.cell?, show W.heap[pb]? = _ from h], by simp [World.cell?, show W.heap[pb]? = _ from h], by simp [World.cell?, show W.heap[pb]? = _ from h], fun o => by simp [World.frozen?, show W.heap[pb]? = _ from h], (Array.getElem?_eq_some_iff.1 h).1⟩
theorem PsAt.go (h : PsAt W pb s i lv) (j : Nat) : PsAt (W.setCell ⟨pb, 1, none⟩ (.int .i64 (j : Nat))) pb s j lv := by
  unfold PsAt at *
  unfold World.setCell
  simp [Array.getElem?_modify, h]
theorem PsAt.put (h : PsAt W pb s i lv) (v : Value) : PsAt (W.setCell ⟨pb, 2, none⟩ v) pb s i v := by
  unfold PsAt at *
  unfold World.setCell
  simp [Array.getElem?_modify, h]
theorem PsAt.below {W' : World} (h : PsAt W pb s i lv) (hb : Below W.heap.size W W') : PsAt W' pb s i lv := (hb.block pb h.cells.2.2.2.2).trans h
theorem PsAt.drewN (h : PsAt W pb s i lv) (n : Nat) : PsAt (W.drewN n) pb s i lv := h
end
theorem only_drewN {S : Nat → Prop} {a b : World} (h : Only S a b) (n : Nat) : Only S a (b.drewN n) := ⟨h.os, h.tape, h.output, h.size, h.block⟩
set_option maxHeartbeats 2000000 in
set_option maxRecDepth 100000 in
theorem skip_any (s : ByteArray) (pb i : Nat) (lv : Value) (w : World) (h : PsAt w pb s i lv) (hi : i ≤ s.size) (hs : s.size ≤ 1000000) :
    Calls Tryz.prog 31 #[.pointer (some ⟨pb, 0, none⟩)] w fun e w' => e = .returned (.tuple #[]) ∧ PsAt w' pb s (skipT s i) lv ∧ skipT s i ≤ s.size ∧ Only (fun k => k = pb) w w' := by
  have hbt := PlainAid.get_bt s
  go_enter Tryz.func31, Tryz.ntmps31
  go_wp2
  go_loopg [] (s.size - i) (fun k wr => ∃ j : Nat, PsAt wr pb s j lv ∧ j ≤ s.size ∧ s.size - j ≤ k ∧ skipF s k j = skipT s i ∧ Only (fun k => k = pb) w wr)
  case atStart => exact ⟨i, h, hi, Nat.le_refl _, rfl, Only.refl _ _⟩
  case round =>
    obtain ⟨j, hp, hj, hk, he, ho⟩ := hrel
    have HP := Lib.hid hp
    have HE := Lib.hid he
    have HO := Lib.hid ho
    obtain ⟨c0, c1, c2, cf, hpl⟩ := hp.cells
    have f1 := cf 1
    clear hp he ho h cf
    by_cases hlt : j < s.size
    · have hlt' : decide (j < s.size) = true := decide_eq_true hlt
      have hlz : decide ((j : Int) < (s.size : Int)) = true := decide_eq_true (by omega)
      go_wp2_with fail
      go_quiet (fail)
      go_wp2_with fail
      go_quiet (fail)
      obtain ⟨gk', rfl⟩ : ∃ gk', gk = gk' + 1 := ⟨gk - 1, by omega⟩
      have HEQ : Hid (skipF s (gk' + 1) j = if blank (bt s j) = true then skipF s gk' (j + 1) else if bt s j = 35 then skipF s gk' (eolT s j) else j) := by
        show _ = _
        rw [skipF, if_pos hlt]
      have HGT := Lib.hid (eolT_gt s j hlt)
      have HLE := Lib.hid (eolT_le s j hj)
      generalize bt s j = cj at *
      by_cases hb : cj = 32 ∨ cj = 9 ∨ cj = 10
      · have hbl : blank cj = true := by unfold blank; rcases hb with rfl | rfl | rfl <;> rfl
        rw [if_pos hbl] at HEQ
        clear hbl
        rcases hb with rfl | rfl | rfl <;>
        · go_wp2
          go_roundg gk'
          case measure => omega
          case rel => exact ⟨j + 1, PsAt.go (HP.out.drewN _) (j + 1), by omega, by omega, HEQ.out.symm.trans HE.out, (only_drewN HO.out _).setCell rfl _⟩
      · have hbl : ¬ blank cj = true := by
          unfold blank; simp; omega
        have e32 : (cj == 32) = false := beq_eq_false_iff_ne.2 (by omega)
        have e9 : (cj == 9) = false := beq_eq_false_iff_ne.2 (by omega)
        have e10 : (cj == 10) = false := beq_eq_false_iff_ne.2 (by omega)
        rw [if_neg hbl] at HEQ
        have h10 : cj ≠ 10 := by omega
        clear hbl hb
        by_cases h35 : cj = 35
        · subst h35
          rw [if_pos rfl] at HEQ
          go_wp2_with fail
          go_region_held (fun V : World => V.cell? ⟨pb, 0, none⟩ = some (.string s) ∧ V.cell? ⟨pb, 1, none⟩ = some (.int .i64 (j : Nat))) (first | assumption | exact ⟨c0, c1⟩) ((refine (indexByte_any _ _ _).mono ?_; rw [Lib.extract_to_end, show (10 : Int).toNat.toUInt8 = (10 : UInt8) from rfl]; rintro e w' ⟨rfl, rfl⟩))
          have HQ : Hid (eolT s j = if Lib.indexByte (s.data.toList.drop j) 10 < 0 then s.size else j + (Lib.indexByte (s.data.toList.drop j) 10).toNat) := rfl
          generalize Lib.indexByte (s.data.toList.drop j) 10 = q at *
          have hgt := HGT.out h10
          have hle := HLE.out
          by_cases hq : q < 0
          · have hq' : decide (q < 0) = true := decide_eq_true hq
            have HE1 : Hid (eolT s j = s.size) := HQ.out.trans (if_pos hq)
            clear hgt hle
            go_wp2_with fail
            go_quiet (fail)
            go_wp2_with fail
            go_roundg gk'
            case measure => omega
            case rel =>
              refine ⟨eolT s j, ?_, HLE.out, by have := HGT.out h10; omega, HEQ.out.symm.trans HE.out, (only_drewN HO.out _).setCell rfl _⟩
              rw [show (j : Int) + ((s.size : Int) - (j : Int)) = ((eolT s j : Nat) : Int) from by rw [HE1.out]; omega]
              exact PsAt.go (HP.out.drewN _) _
          · have hq' : decide (q < 0) = false := decide_eq_false hq
            obtain ⟨m, rfl⟩ : ∃ m : Nat, q = m := ⟨q.toNat, by omega⟩
            have HE1 : Hid (eolT s j = j + m) := HQ.out.trans (if_neg hq)
            have hms : j + m ≤ s.size := by rw [← HE1.out]; exact hle
            clear hgt hle
            go_wp2_with fail
            go_roundg gk'
            case measure => omega
            case rel =>
              refine ⟨eolT s j, ?_, HLE.out, by have := HGT.out h10; omega, HEQ.out.symm.trans HE.out, (only_drewN HO.out _).setCell rfl _⟩
              rw [show (j : Int) + (m : Int) = ((eolT s j : Nat) : Int) from by rw [HE1.out]; omega]
              exact PsAt.go (HP.out.drewN _) _
        · have e35 : (cj == 35) = false := beq_eq_false_iff_ne.2 h35
          rw [if_neg h35] at HEQ
          have HF : Hid (j = skipT s i) := HEQ.out.symm.trans HE.out
          go_wp2
          (try simp only [Exit.inBlock, Exit.then]); refine bodyPost_ret (results_none rfl _ _ _) rfl ?_
          refine ⟨rfl, ?_, ?_, only_drewN HO.out _⟩
          · rw [← HF.out]; exact HP.out.drewN _
          · rw [← HF.out]; exact hj
    · have hlt' : decide (j < s.size) = false := decide_eq_false hlt
      have hlz : decide ((j : Int) < (s.size : Int)) = false := decide_eq_false (by omega)
      have HF : Hid (j = skipT s i) := by
        have h1 := HE.out
        show _ = _
        cases gk with
        | zero => exact h1
        | succ n => rw [skipF, if_neg hlt] at h1; exact h1
      go_wp2_with fail
      go_quiet (fail)
      go_wp2_with fail
      go_end0
      refine ⟨rfl, ?_, ?_, only_drewN HO.out _⟩
      · rw [← HF.out]; exact HP.out.drewN _
      · rw [← HF.out]; exact hj
end Go.Proofs.YtchjjfjjcdjjcaaGreatDoor
/-! Package tailor: must; the signs. -/
namespace Go.Proofs.YtchjjfjjcdjjcaaGreatDoor
open Go.RowKit
open PlainAid (bt)
open Go.WideShapes Go.MapKept

/-- what is thrown -/
def chainT (a e : Int) : List PanicEntry := [{ v := .iface 102 (.agg #[.int .i64 a, .int .i64 e]), recovered := false }]
theorem must_ok (a e : Int) (w : World) : Calls Tryz.prog 57 #[.bool true, .int .i64 a, .int .i64 e] w fun x w' => x = .returned (.tuple #[]) ∧ w = w' := by
  go_enter Tryz.func57, Tryz.ntmps57
  go_wp2
  go_end0
  exact ⟨rfl, rfl⟩
theorem must_no (a e : Int) (w : World) : Calls Tryz.prog 57 #[.bool false, .int .i64 a, .int .i64 e] w fun x w' => x = .panicked (chainT a e) ∧ w = w' := by
  go_enter Tryz.func57, Tryz.ntmps57
  go_wp2
  exact ⟨rfl, rfl, rfl⟩
/-- a sign's kind -/
def signK (t : List UInt8) : Option Int :=
  if t = [38] then some 0 else if t = [60] then some 1 else if t = [60, 60] then some 2 else if t = [60, 60, 60] then some 3 else if t = [61] then some 4 else none
def kindsD : DataW Unit := .map [(.string [38], .lit (.int .i64 0)), (.string [60], .lit (.int .i64 1)), (.string [60, 60], .lit (.int .i64 2)), (.string [60, 60, 60], .lit (.int .i64 3)), (.string [61], .lit (.int .i64 4))]
theorem kinds_has (t : List UInt8) : Maps.has kindsD (.string t) = (signK t).isSome ∧ kindsD.atKey (.string t) (.lit (.int .i64 0)) = .lit (.int .i64 ((signK t).getD 0)) := by
  unfold kindsD signK
  by_cases h1 : t = [38]
  · subst h1; exact ⟨rfl, rfl⟩
  by_cases h2 : t = [60]
  · subst h2; exact ⟨rfl, rfl⟩
  by_cases h3 : t = [60, 60]
  · subst h3; exact ⟨rfl, rfl⟩
  by_cases h4 : t = [60, 60, 60]
  · subst h4; exact ⟨rfl, rfl⟩
  by_cases h5 : t = [61]
  · subst h5; exact ⟨rfl, rfl⟩
  rw [if_neg h1, if_neg h2, if_neg h3, if_neg h4, if_neg h5]
  have k1 : ((Lit.string [38]).sameKey (.string t)) = false := by simpa [Lit.sameKey] using fun h => h1 h.symm
  have k2 : ((Lit.string [60]).sameKey (.string t)) = false := by simpa [Lit.sameKey] using fun h => h2 h.symm
  have k3 : ((Lit.string [60, 60]).sameKey (.string t)) = false := by simpa [Lit.sameKey] using fun h => h3 h.symm
  have k4 : ((Lit.string [60, 60, 60]).sameKey (.string t)) = false := by simpa [Lit.sameKey] using fun h => h4 h.symm
  have k5 : ((Lit.string [61]).sameKey (.string t)) = false := by simpa [Lit.sameKey] using fun h => h5 h.symm
  constructor
  · simp [Maps.has_eq, k1, k2, k3, k4, k5]
  · simp [DataW.atKey, k1, k2, k3, k4, k5]
/-- the map of signs -/
def KindsAt (b : Nat) (W : World) : Prop := W.ownsMap Tryz.prog 9 (plainElem (H := Unit) Tryz.prog 3) b 5 kindsD
theorem KindsAt.look {b : Nat} {W : World} (h : KindsAt b W) (t : ByteArray) (ht : t.size ≤ maxLen) :
    (Instr.lookup 123 (.map (some b)) (.string t) true).run Tryz.prog W = .ok (.tuple #[.int .i64 ((signK t.data.toList).getD 0), .bool (signK t.data.toList).isSome]) W := by
  obtain ⟨v, ps, hr, hv⟩ := h.look_ok (Maps.string_keyed Tryz.underlying9) Tryz.underlying123 (z := .int .i64 0) (by kernel_rfl) (plainElem_int Tryz.underlying3 (by decide)) (WideMaps.keyOf_string_mk Tryz.underlying9 ht)
  rw [(kinds_has _).1] at hr
  rw [(kinds_has _).2] at hv
  obtain ⟨a, rfl, hz, _⟩ := plainElem_int_inv Tryz.underlying3 hv
  simp only [Prod.mk.injEq, DataW.lit.injEq, Lit.int.injEq, true_and] at hz
  rw [hr, ← hz.1]
set_option maxRecDepth 100000 in
theorem kinds_any (w : World) : Calls Tryz.prog 76 #[] w fun x w' => x = .returned (.map (some w.heap.size)) ∧ KindsAt w.heap.size w' ∧ Below w.heap.size w w' := by
  have hmm := @run_makeMap Tryz.prog
  have K := Maps.string_keyed Tryz.underlying9
  have ks : ∀ t : ByteArray, t.size ≤ maxLen → keyOf Tryz.prog 9 (.string t) = some (.string t.data.toList) := fun t h => WideMaps.keyOf_string_mk Tryz.underlying9 h
  have ei : ∀ a : Int, (Lit.int .i64 a).wf = true → plainElem (H := Unit) Tryz.prog 3 (.int .i64 a) = some (.lit (.int .i64 a), []) := fun a h => plainElem_int Tryz.underlying3 h
  obtain ⟨w1, r1, o1, g1⟩ := (World.ownsMap_made w Tryz.prog 9 (plainElem (H := Unit) Tryz.prog 3)).update K Tryz.underlying123 (by decide) (ks ⟨#[38]⟩ (by decide)) (ei 0 (by decide))
  obtain ⟨w2, r2, o2, g2⟩ := o1.update K Tryz.underlying123 (by decide) (ks ⟨#[60]⟩ (by decide)) (ei 1 (by decide))
  obtain ⟨w3, r3, o3, g3⟩ := o2.update K Tryz.underlying123 (by decide) (ks ⟨#[60, 60]⟩ (by decide)) (ei 2 (by decide))
  obtain ⟨w4, r4, o4, g4⟩ := o3.update K Tryz.underlying123 (by decide) (ks ⟨#[60, 60, 60]⟩ (by decide)) (ei 3 (by decide))
  obtain ⟨w5, r5, o5, g5⟩ := o4.update K Tryz.underlying123 (by decide) (ks ⟨#[61]⟩ (by decide)) (ei 4 (by decide))
  have HB : Hid (Below w.heap.size w w5) := by
    have hz1 := g1.size; have hz2 := g2.size; have hz3 := g3.size; have hz4 := g4.size
    simp only [World.size_alloc] at hz1
    exact ((((((Below.refl _ w).alloc (Nat.le_refl _) _).grown g1 (by simp) (fun k e => by cases e; exact Nat.le_refl _)).grown g2 (by omega) (fun k e => by cases e; exact Nat.le_refl _)).grown g3 (by omega) (fun k e => by cases e; exact Nat.le_refl _)).grown g4 (by omega) (fun k e => by cases e; exact Nat.le_refl _)).grown g5 (by omega) (fun k e => by cases e; exact Nat.le_refl _)
  have HK : Hid (KindsAt w.heap.size w5) := o5
  clear K ks ei o1 o2 o3 o4 o5 g1 g2 g3 g4 g5
  go_enter Tryz.func76, Tryz.ntmps76
  go_wp2
  go_ret
  exact ⟨rfl, HK.out, HB.out⟩
end Go.Proofs.YtchjjfjjcdjjcaaGreatDoor
/-! Package tailor: a sign is read. -/
namespace Go.Proofs.YtchjjfjjcdjjcaaGreatDoor
open Go.RowKit
open PlainAid (bt)

/-- behind signs '<', at most so many -/
def ltsF (s : ByteArray) : Nat → Nat → Nat
  | 0, e => e
  | n + 1, e => if e < s.size ∧ bt s e = 60 then ltsF s n (e + 1) else e
/-- a sign's end -/
def endS (s : ByteArray) (i : Nat) : Nat := if ltsF s 3 i = i ∧ i < s.size then i + 1 else ltsF s 3 i
theorem ltsF_le (s : ByteArray) : ∀ (n e : Nat), e ≤ s.size → e ≤ ltsF s n e ∧ ltsF s n e ≤ s.size ∧ ltsF s n e ≤ e + n
  | 0, e, h => ⟨Nat.le_refl _, h, Nat.le_refl _⟩
  | n + 1, e, h => by
    rw [ltsF]
    split
    · rename_i c
      have := ltsF_le s n (e + 1) (by omega)
      omega
    · omega
theorem endS_le (s : ByteArray) (i : Nat) (h : i ≤ s.size) : i ≤ endS s i ∧ endS s i ≤ s.size ∧ endS s i ≤ i + 3 := by
  have := ltsF_le s 3 i h
  unfold endS
  split <;> omega
/-- the sign that stands at a place -/
def sgnT (s : ByteArray) (i : Nat) : Option Int := signK (s.extract i (endS s i)).data.toList
/-- whether it may stand there -/
def sgnOk (s : ByteArray) (i : Nat) (reset : Bool) : Bool := (sgnT s i).isSome && (!reset || (sgnT s i).getD 0 == 0)
set_option maxHeartbeats 4000000 in
set_option maxRecDepth 100000 in
theorem sign_any (s : ByteArray) (pb i : Nat) (lv : Value) (reset : Bool) (w : World) (h : PsAt w pb s i lv) (hi : i ≤ s.size) (hs : s.size ≤ 1000000) :
    Calls Tryz.prog 56 #[.pointer (some ⟨pb, 0, none⟩), .bool reset] w fun e w' => Only (fun k => k = pb) w w' ∧
      ((sgnOk s i reset = true ∧ e = .returned (.int .i64 ((sgnT s i).getD 0)) ∧ PsAt w' pb s (endS s i) lv) ∨ (sgnOk s i reset = false ∧ e = .panicked (chainT i 100))) := by
  have hbt := PlainAid.get_bt s
  obtain ⟨c0, c1, c2, cf, hpl⟩ := h.cells
  have f1 := cf 1
  have HP := Lib.hid h
  clear h cf
  go_enter Tryz.func56, Tryz.ntmps56
  go_wp2_with fail
  go_loopw [5] (fun ev wr => ∃ e : Nat, ev = .int .i64 e ∧ (i ≤ e ∧ e ≤ i + 3 ∧ e ≤ s.size ∧ ltsF s (3 - (e - i)) e = ltsF s 3 i) ∧ w = wr) (fun ev _ => i + 3 - (intOf ev).toNat)
  case atStart => exact ⟨i, rfl, ⟨Nat.le_refl _, by omega, hi, by rw [Nat.sub_self]⟩, rfl⟩
  case round =>
    obtain ⟨e, rfl, hr, rfl⟩ := hrel
    have HR := Lib.hid hr
    obtain ⟨h1, h2, h3, h4⟩ := hr
    clear h4
    go_upto_region 2 with fail
    go_cut [36] from 12 to 38 (fun s36 wx => s36 = .bool (decide (e < s.size ∧ e < i + 3 ∧ bt s e = 60)) ∧ w = wx)
    case first =>
      by_cases g1 : e < s.size
      · have d1 : decide ((e : Int) < (s.size : Int)) = true := decide_eq_true (by omega)
        by_cases g2 : e < i + 3
        · have d2 : decide ((e : Int) < (i : Int) + 3) = true := decide_eq_true (by omega)
          by_cases g3 : bt s e = 60
          · have d3 : (bt s e == 60) = true := by simpa using g3
            go_wp2_with fail
            go_meet
            case rel => exact ⟨by rw [decide_eq_true ⟨g1, g2, g3⟩], rfl⟩
          · have d3 : (bt s e == 60) = false := beq_eq_false_iff_ne.2 g3
            go_wp2_with fail
            go_meet
            case rel => exact ⟨by rw [decide_eq_false (fun h => g3 h.2.2)], rfl⟩
        · have d2 : decide ((e : Int) < (i : Int) + 3) = false := decide_eq_false (by omega)
          go_wp2_with fail
          go_meet
          case rel => exact ⟨by rw [decide_eq_false (fun h => g2 h.2.1)], rfl⟩
      · have d1 : decide ((e : Int) < (s.size : Int)) = false := decide_eq_false (by omega)
        go_wp2_with fail
        go_meet
        case rel => exact ⟨by rw [decide_eq_false (fun h => g1 h.1)], rfl⟩
    case rest =>
    obtain ⟨rfl, rfl⟩ := hcut
    by_cases hc : e < s.size ∧ e < i + 3 ∧ bt s e = 60
    · have HN : Hid (ltsF s (3 - (e + 1 - i)) (e + 1) = ltsF s 3 i) := by
        have h5 := HR.out.2.2.2
        rw [show 3 - (e - i) = (3 - (e + 1 - i)) + 1 by omega, ltsF, if_pos ⟨hc.1, hc.2.2⟩] at h5
        exact h5
      have g1 := hc.1
      have g2 := hc.2.1
      rw [decide_eq_true hc]
      clear hc
      go_wp2_with fail
      go_roundw
      case rel => exact ⟨e + 1, by go_num, ⟨by omega, by omega, by omega, HN.out⟩, by first | trivial | rfl⟩
      case measure => (simp [intOf]; omega)
    have HF : e = ltsF s 3 i := by
      have h5 := HR.out.2.2.2
      cases hq : 3 - (e - i) with
      | zero => rw [hq] at h5; exact h5
      | succ n =>
        rw [hq, ltsF, if_neg (fun h => hc ⟨h.1, by omega, h.2⟩)] at h5; exact h5
    rw [decide_eq_false hc]
    rw [HF] at *
    clear HF hc h1 h2 h3 HR
    have hlt3 := ltsF_le s 3 i hi
    have HKP : Hid (∀ V : World, Below w.heap.size w V → V.cell? ⟨pb, 0, none⟩ = some (.string s) ∧ V.cell? ⟨pb, 1, none⟩ = some (.int .i64 (i : Nat)) ∧ Below w.heap.size w V) := fun V hV => ⟨(hV.cell (p := ⟨pb, 0, none⟩) hpl).trans c0, (hV.cell (p := ⟨pb, 1, none⟩) hpl).trans c1, hV⟩
    have HED : Hid (endS s i = if ltsF s 3 i = i ∧ i < s.size then i + 1 else ltsF s 3 i) := rfl
    by_cases hz : ltsF s 3 i = i ∧ i < s.size
    · obtain ⟨z1, z2⟩ := hz
      have HEN0 : endS s i = i + 1 := HED.out.trans (if_pos ⟨z1, z2⟩)
      rw [z1] at hlt3 ⊢
      have d1 : ((i : Int) == (i : Int)) = true := by simp
      have d2 : decide ((i : Int) < (s.size : Int)) = true := decide_eq_true (by omega)
      clear HED
      go_wp2_with fail
      obtain ⟨E, hE⟩ : ∃ E, E = i + 1 := ⟨_, rfl⟩
      have HEN : Hid (endS s i = E) := HEN0.trans hE.symm
      rw [show ((i : Int) + 1) = (E : Int) from by omega]
      clear HEN0 hE
      have hel := endS_le s i hi
      have HSG : Hid (sgnT s i = signK (s.extract i (endS s i)).data.toList) := rfl
      have HOKK : Hid (sgnOk s i reset = ((sgnT s i).isSome && (!reset || (sgnT s i).getD 0 == 0))) := rfl
      have hxs : (s.extract i (endS s i)).size ≤ maxLen := by
        rw [size_extract' s i (endS s i) hel.2.1 hel.1]; unfold maxLen; omega
      rw [HEN.out] at hxs HSG hel
      have sl1 : 0 ≤ (E : Int) ∧ (E : Int) ≤ (s.size : Int) := by omega
      have sl2 : (i : Int) ≤ (E : Int) := by omega
      have hEs : E ≤ s.size := hel.2.1
      have hiE : i ≤ E := hel.1
      go_region_held (fun V : World => V.cell? ⟨pb, 0, none⟩ = some (.string s) ∧ V.cell? ⟨pb, 1, none⟩ = some (.int .i64 (i : Nat)) ∧ Below w.heap.size w V) (first | assumption | exact ⟨c0, c1, (Below.refl _ w).drew⟩ | exact HKP.out _ (by first | assumption | exact (Below.refl _ w).drew.trans (by assumption))) ((refine (kinds_any _).mono ?_; rintro e w5 ⟨rfl, hk5, hb5⟩; have hlk : (Instr.lookup 123 (.map (some w.heap.size)) (.string (s.extract i E)) true).run Tryz.prog w5 = .ok (.tuple #[.int .i64 ((sgnT s i).getD 0), .bool (sgnT s i).isSome]) w5 := (by rw [HSG.out]; exact hk5.look _ hxs); have HB5 : Hid (Below w.heap.size w w5) := (Below.refl _ w).drew.trans hb5))
      have HP5 : Hid (PsAt w5 pb s i lv) := HP.out.below HB5.out
      have HO : Hid (Only (fun k => k = pb) w w5) := (Only.refl _ w).below HB5.out
      obtain ⟨k0, k1, k2, kf, _⟩ := HP5.out.cells
      have kf1 := kf 1
      generalize hkk : (sgnT s i).getD 0 = kk at *
      have HKK := Lib.hid hkk
      clear hkk
      generalize (sgnT s i).isSome = q1 at *
      clear kf hlk hk5 hb5 HKP
      cases q1 with
      | false =>
        go_wp2_with (go_at_call 57; refine (must_no _ _ _).mono ?_; rintro e w' ⟨rfl, rfl⟩)
        exact ⟨rfl, HO.out, .inr ⟨by rw [HOKK.out]; simp [*], rfl⟩⟩
      | true =>
        cases reset with
        | false =>
          go_wp2_with (go_at_call 57; refine (must_ok _ _ _).mono ?_; rintro e w' ⟨rfl, rfl⟩)
          go_ret
          exact ⟨HO.out.setCell rfl _, .inl ⟨by rw [HOKK.out]; simp, by rw [HKK.out]; rfl, by rw [HEN.out]; exact HP5.out.go E⟩⟩
        | true =>
          by_cases hk0 : kk = 0
          · subst hk0
            go_wp2_with (go_at_call 57; refine (must_ok _ _ _).mono ?_; rintro e w' ⟨rfl, rfl⟩)
            go_ret
            exact ⟨HO.out.setCell rfl _, .inl ⟨by rw [HOKK.out]; simp, by rw [HKK.out]; rfl, by rw [HEN.out]; exact HP5.out.go E⟩⟩
          · have hk1 : (kk == 0) = false := beq_eq_false_iff_ne.2 hk0
            go_wp2_with (go_at_call 57; refine (must_no _ _ _).mono ?_; rintro e w' ⟨rfl, rfl⟩)
            exact ⟨rfl, HO.out, .inr ⟨by rw [HOKK.out]; simp [*], rfl⟩⟩
    · have HEN0 : endS s i = ltsF s 3 i := HED.out.trans (if_neg hz)
      obtain ⟨E, hE⟩ : ∃ E, E = ltsF s 3 i := ⟨_, rfl⟩
      have HEN : Hid (endS s i = E) := HEN0.trans hE.symm
      rw [← hE] at hlt3 hz ⊢
      clear HEN0 hE HED
      by_cases hz1 : E = i
      · have d1 : ((E : Int) == (i : Int)) = true := by rw [hz1]; simp
        have d2 : decide ((E : Int) < (s.size : Int)) = false := decide_eq_false (by omega)
        have d3 : decide (E < s.size) = false := decide_eq_false (by omega)
        clear hz1 hz
        go_wp2_with fail
        have hel := endS_le s i hi
        have HSG : Hid (sgnT s i = signK (s.extract i (endS s i)).data.toList) := rfl
        have HOKK : Hid (sgnOk s i reset = ((sgnT s i).isSome && (!reset || (sgnT s i).getD 0 == 0))) := rfl
        have hxs : (s.extract i (endS s i)).size ≤ maxLen := by
          rw [size_extract' s i (endS s i) hel.2.1 hel.1]; unfold maxLen; omega
        rw [HEN.out] at hxs HSG hel
        have sl1 : 0 ≤ (E : Int) ∧ (E : Int) ≤ (s.size : Int) := by omega
        have sl2 : (i : Int) ≤ (E : Int) := by omega
        have hEs : E ≤ s.size := hel.2.1
        have hiE : i ≤ E := hel.1
        go_region_held (fun V : World => V.cell? ⟨pb, 0, none⟩ = some (.string s) ∧ V.cell? ⟨pb, 1, none⟩ = some (.int .i64 (i : Nat)) ∧ Below w.heap.size w V) (first | assumption | exact ⟨c0, c1, (Below.refl _ w).drew⟩ | exact HKP.out _ (by first | assumption | exact (Below.refl _ w).drew.trans (by assumption))) ((refine (kinds_any _).mono ?_; rintro e w5 ⟨rfl, hk5, hb5⟩; have hlk : (Instr.lookup 123 (.map (some w.heap.size)) (.string (s.extract i E)) true).run Tryz.prog w5 = .ok (.tuple #[.int .i64 ((sgnT s i).getD 0), .bool (sgnT s i).isSome]) w5 := (by rw [HSG.out]; exact hk5.look _ hxs); have HB5 : Hid (Below w.heap.size w w5) := (Below.refl _ w).drew.trans hb5))
        have HP5 : Hid (PsAt w5 pb s i lv) := HP.out.below HB5.out
        have HO : Hid (Only (fun k => k = pb) w w5) := (Only.refl _ w).below HB5.out
        obtain ⟨k0, k1, k2, kf, _⟩ := HP5.out.cells
        have kf1 := kf 1
        generalize hkk : (sgnT s i).getD 0 = kk at *
        have HKK := Lib.hid hkk
        clear hkk
        generalize (sgnT s i).isSome = q1 at *
        clear kf hlk hk5 hb5 HKP
        cases q1 with
        | false =>
          go_wp2_with (go_at_call 57; refine (must_no _ _ _).mono ?_; rintro e w' ⟨rfl, rfl⟩)
          exact ⟨rfl, HO.out, .inr ⟨by rw [HOKK.out]; simp [*], rfl⟩⟩
        | true =>
          cases reset with
          | false =>
            go_wp2_with (go_at_call 57; refine (must_ok _ _ _).mono ?_; rintro e w' ⟨rfl, rfl⟩)
            go_ret
            exact ⟨HO.out.setCell rfl _, .inl ⟨by rw [HOKK.out]; simp, by rw [HKK.out]; rfl, by rw [HEN.out]; exact HP5.out.go E⟩⟩
          | true =>
            by_cases hk0 : kk = 0
            · subst hk0
              go_wp2_with (go_at_call 57; refine (must_ok _ _ _).mono ?_; rintro e w' ⟨rfl, rfl⟩)
              go_ret
              exact ⟨HO.out.setCell rfl _, .inl ⟨by rw [HOKK.out]; simp, by rw [HKK.out]; rfl, by rw [HEN.out]; exact HP5.out.go E⟩⟩
            · have hk1 : (kk == 0) = false := beq_eq_false_iff_ne.2 hk0
              go_wp2_with (go_at_call 57; refine (must_no _ _ _).mono ?_; rintro e w' ⟨rfl, rfl⟩)
              exact ⟨rfl, HO.out, .inr ⟨by rw [HOKK.out]; simp [*], rfl⟩⟩
      · have d1 : ((E : Int) == (i : Int)) = false := beq_eq_false_iff_ne.2 (by omega)
        clear hz
        go_wp2_with fail
        have hel := endS_le s i hi
        have HSG : Hid (sgnT s i = signK (s.extract i (endS s i)).data.toList) := rfl
        have HOKK : Hid (sgnOk s i reset = ((sgnT s i).isSome && (!reset || (sgnT s i).getD 0 == 0))) := rfl
        have hxs : (s.extract i (endS s i)).size ≤ maxLen := by
          rw [size_extract' s i (endS s i) hel.2.1 hel.1]; unfold maxLen; omega
        rw [HEN.out] at hxs HSG hel
        have sl1 : 0 ≤ (E : Int) ∧ (E : Int) ≤ (s.size : Int) := by omega
        have sl2 : (i : Int) ≤ (E : Int) := by omega
        have hEs : E ≤ s.size := hel.2.1
        have hiE : i ≤ E := hel.1
        go_region_held (fun V : World => V.cell? ⟨pb, 0, none⟩ = some (.string s) ∧ V.cell? ⟨pb, 1, none⟩ = some (.int .i64 (i : Nat)) ∧ Below w.heap.size w V) (first | assumption | exact ⟨c0, c1, (Below.refl _ w).drew⟩ | exact HKP.out _ (by first | assumption | exact (Below.refl _ w).drew.trans (by assumption))) ((refine (kinds_any _).mono ?_; rintro e w5 ⟨rfl, hk5, hb5⟩; have hlk : (Instr.lookup 123 (.map (some w.heap.size)) (.string (s.extract i E)) true).run Tryz.prog w5 = .ok (.tuple #[.int .i64 ((sgnT s i).getD 0), .bool (sgnT s i).isSome]) w5 := (by rw [HSG.out]; exact hk5.look _ hxs); have HB5 : Hid (Below w.heap.size w w5) := (Below.refl _ w).drew.trans hb5))
        have HP5 : Hid (PsAt w5 pb s i lv) := HP.out.below HB5.out
        have HO : Hid (Only (fun k => k = pb) w w5) := (Only.refl _ w).below HB5.out
        obtain ⟨k0, k1, k2, kf, _⟩ := HP5.out.cells
        have kf1 := kf 1
        generalize hkk : (sgnT s i).getD 0 = kk at *
        have HKK := Lib.hid hkk
        clear hkk
        generalize (sgnT s i).isSome = q1 at *
        clear kf hlk hk5 hb5 HKP
        cases q1 with
        | false =>
          go_wp2_with (go_at_call 57; refine (must_no _ _ _).mono ?_; rintro e w' ⟨rfl, rfl⟩)
          exact ⟨rfl, HO.out, .inr ⟨by rw [HOKK.out]; simp [*], rfl⟩⟩
        | true =>
          cases reset with
          | false =>
            go_wp2_with (go_at_call 57; refine (must_ok _ _ _).mono ?_; rintro e w' ⟨rfl, rfl⟩)
            go_ret
            exact ⟨HO.out.setCell rfl _, .inl ⟨by rw [HOKK.out]; simp, by rw [HKK.out]; rfl, by rw [HEN.out]; exact HP5.out.go E⟩⟩
          | true =>
            by_cases hk0 : kk = 0
            · subst hk0
              go_wp2_with (go_at_call 57; refine (must_ok _ _ _).mono ?_; rintro e w' ⟨rfl, rfl⟩)
              go_ret
              exact ⟨HO.out.setCell rfl _, .inl ⟨by rw [HOKK.out]; simp, by rw [HKK.out]; rfl, by rw [HEN.out]; exact HP5.out.go E⟩⟩
            · have hk1 : (kk == 0) = false := beq_eq_false_iff_ne.2 hk0
              go_wp2_with (go_at_call 57; refine (must_no _ _ _).mono ?_; rintro e w' ⟨rfl, rfl⟩)
              exact ⟨rfl, HO.out, .inr ⟨by rw [HOKK.out]; simp [*], rfl⟩⟩
end Go.Proofs.YtchjjfjjcdjjcaaGreatDoor
