/- Chapter 8: entries found by their code points: walked. Chapter 8: Find of the program and of the reference: walked. Chapter 8: the reference's digits: walked. -/
import Derived.Test.YtjbcbejedaeedaaGreatDoorAc
import Derived.Test.YtjbcbejedaeedaaGreatDoorAf
import Derived.Test.YtjbcbejedaeedaaGreatDoorEq
import Derived.Deep.QuietTactic
import Derived.BigQuiet
import Derived.Test.YtjbcbejedaeedaaGreatDoorDf
import Derived.Test.YtjbcbejedaeedaaGreatDoorAr
/-! Chapter 8: entries found by their code points: walked. -/
namespace Go.Proofs.YtjbcbejedaeedaaGreatDoor
open Go.RowKit

theorem IntsIn.atD {R : Nat → Prop} {w : World} {p : Option Addr} {m cap : Nat} {xs : List Int} (h : IntsIn R .i32 w (.slice p m cap) xs) {i : Nat} {x : Int} (hx : xs[i]? = some x) : ∃ b o, p = some ⟨b, o, none⟩ ∧ b < w.heap.size ∧ w.cell? ⟨b, o + i, none⟩ = some (.int .i32 x) := by
  obtain ⟨p', cap', e, _, hc⟩ := h
  injection e with e1 _ _
  obtain ⟨b, o, e2, _, h1, h2⟩ := hc i x hx
  exact ⟨b, o, e1.trans e2, h1, h2⟩
set_option maxHeartbeats 4000000 in
set_option maxRecDepth 1000000 in
theorem same8_any (R Q : Nat → Prop) (xs ys : List Int) (v u : Value) (w : World) (hv : IntsIn R .i32 w v xs) (hu : IntsIn Q .i32 w u ys) (hx : xs.length ≤ 1000000000) (hy : ys.length ≤ 1000000000) :
    Calls Tryz.prog 32 #[v, u] w fun e w' => e = .returned (.bool (decide (xs = ys))) ∧ Below w.heap.size w w' := by
  have HV := Lib.hid hv
  have HU := Lib.hid hu
  obtain ⟨p, cp, rfl, hcp, _⟩ := hv
  obtain ⟨q, cq, rfl, hcq, _⟩ := hu
  obtain ⟨n, hn⟩ : ∃ n, n = xs.length := ⟨_, rfl⟩
  obtain ⟨m, hm⟩ : ∃ m, m = ys.length := ⟨_, rfl⟩
  rw [← hn] at HV hcp hx ⊢
  rw [← hm] at HU hcq hy ⊢
  have HNM := Lib.hid (And.intro hn hm)
  clear hn hm
  by_cases hnm : n = m
  · subst hnm
    go_enter Tryz.func32, Tryz.ntmps32
    go_wp2_with fail
    go_loopw [5] (fun iv wr => ∃ i : Nat, iv = .int .i64 i ∧ i ≤ n ∧ xs.take i = ys.take i ∧ Below w.heap.size w wr) (fun iv _ => n - (intOf iv).toNat)
    case atStart => exact ⟨0, rfl, Nat.zero_le _, rfl, Below.refl _ _⟩
    case round =>
      obtain ⟨i, rfl, hin, hsm, hb⟩ := hrel
      have HSM := Lib.hid hsm
      have HB := Lib.hid hb
      by_cases hlt : i < n
      · have q1 : (i : Int) < (n : Int) := by omega
        obtain ⟨x, hxi⟩ : ∃ x, xs[i]? = some x := ⟨_, List.getElem?_eq_getElem (by have := HNM.out.1; omega)⟩
        obtain ⟨y, hyi⟩ : ∃ y, ys[i]? = some y := ⟨_, List.getElem?_eq_getElem (by have := HNM.out.2; omega)⟩
        obtain ⟨b, o, rfl, hbl, c0⟩ := (HV.out.kept (Kept.below hb)).atD hxi
        obtain ⟨b', o', rfl, hbl', c0'⟩ := (HU.out.kept (Kept.below hb)).atD hyi
        have HXI := Lib.hid (And.intro hxi hyi)
        have HLT := Lib.hid hlt
        clear hsm hb hxi hyi
        by_cases hxy : x = y
        · subst hxy
          have HST : Hid (xs.take (i + 1) = ys.take (i + 1)) := by show _ = _; rw [take_snocR HXI.out.1, take_snocR HXI.out.2, HSM.out]
          go_wp2_with fail
          go_quiet (fail)
          go_wp2_with fail
          go_roundw
          case rel => exact ⟨i + 1, by go_num, HLT.out, HST.out, HB.out.trans ((below_drewQ wr _).mono HB.out.size)⟩
          case measure => (have := HLT.out; simp [intOf]; omega)
        · have HNE : Hid (decide (xs = ys) = false) := decide_eq_false (fun h => by
            have h1 := HXI.out.1; rw [h, HXI.out.2] at h1; cases h1; exact hxy rfl)
          have g1 : (x == y) = false := beq_eq_false_iff_ne.2 hxy
          have g2 : (x != y) = true := bne_iff_ne.2 hxy
          clear hxy
          go_wp2_with fail
          go_quiet (fail)
          go_wp2_with fail
          go_ret
          exact ⟨by rw [HNE.out] <;> rfl, HB.out.trans ((below_drewQ wr _).mono HB.out.size)⟩
      · have q1 : ¬ (i : Int) < (n : Int) := by omega
        have HEQ : Hid (decide (xs = ys) = true) := decide_eq_true (by
          have h1 : xs.take i = xs := List.take_of_length_le (by have := HNM.out.1; omega)
          have h2 : ys.take i = ys := List.take_of_length_le (by have := HNM.out.2; omega)
          rw [← h1, ← h2]; exact hsm)
        clear hlt hsm
        go_wp2_with fail
        go_ret
        exact ⟨by rw [HEQ.out] <;> rfl, HB.out⟩
  · have HNE : Hid (decide (xs = ys) = false) := decide_eq_false (fun h => by rw [h] at HNM; have := HNM.out; omega)
    have g1 : ((n : Int) == (m : Int)) = false := beq_eq_false_iff_ne.2 (by omega)
    have g2 : ((n : Int) != (m : Int)) = true := bne_iff_ne.2 (by omega)
    clear hnm
    go_enter Tryz.func32, Tryz.ntmps32
    go_wp2_with fail
    go_ret
    exact ⟨by rw [HNE.out] <;> rfl, Below.refl _ _⟩
end Go.Proofs.YtjbcbejedaeedaaGreatDoor
namespace Go.Proofs.YtjbcbejedaeedaaGreatDoor
open Go.RowKit
/-- the first entry with these code points -/
def findW (es : List Ent) (l : List Int) : Int := fIdx (fun x : Ent => decide (x.1 = l)) es
theorem find1_any (R Q : Nat → Prop) (b : Nat) (x : Ent) (l : List Int) (c u lv : Value) (w : World) (hc : IntsIn R .i32 w c x.1) (hu : ∃ p n cap, u = .slice p n cap) (hl : IntsIn Q .i32 w lv l) (hb : w.cell? ⟨b, 0, none⟩ = some lv) (h1 : x.1.length ≤ 1000000000) (h2 : l.length ≤ 1000000000) :
    Calls Tryz.prog 30 #[.agg #[c, u], .pointer (some ⟨b, 0, none⟩)] w fun e w' => e = .returned (.bool (decide (x.1 = l))) ∧ Below w.heap.size w w' := by
  have hbX : Below w.heap.size w (w.alloc (.cells #[c, u] 45)) := (Below.refl _ w).alloc (Nat.le_refl _) _
  have HQ := Lib.hid (equalR_any R Q x.1 l c lv _ (hc.kept (Kept.below hbX)) (hl.kept (Kept.below hbX)) (by omega) (by omega))
  have hbl := cell_lt hb
  obtain ⟨cp, cc, rfl, _⟩ := hc
  obtain ⟨up, un, uc, rfl⟩ := hu
  obtain ⟨lp, lc, rfl, _⟩ := hl
  generalize decide (x.1 = l) = q at *
  have HBX := Lib.hid hbX
  clear hbX h1 h2
  go_enter Tryz.func30, Tryz.ntmps30
  go_wp2_with fail
  refine HQ.out.mono ?_
  rintro e w1 ⟨rfl, hb1⟩
  have HB1 : Hid (Below w.heap.size w w1) := HBX.out.trans (hb1.mono HBX.out.size)
  clear hb1
  go_wp2_with fail
  go_ret
  exact ⟨rfl, HB1.out⟩
set_option maxHeartbeats 2000000 in
set_option maxRecDepth 100000 in
theorem indexFuncE_any (R Q : Nat → Prop) (es : List Ent) (l : List Int) (b : Nat) (v lv : Value) (w : World) (hv : EntsIn R w v es) (hl : IntsIn Q .i32 w lv l) (hb : w.cell? ⟨b, 0, none⟩ = some lv) (h1 : ∀ x ∈ es, x.1.length ≤ 1000000000) (h2 : l.length ≤ 1000000000) (h3 : es.length ≤ 1000000000) :
    Calls Tryz.prog 29 #[v, .func (.func 30) #[] #[.pointer (some ⟨b, 0, none⟩)]] w fun e w' => e = .returned (.int .i64 (findW es l)) ∧ Below w.heap.size w w' := by
  have HV := Lib.hid hv
  have HL := Lib.hid hl
  have HH := Lib.hid (And.intro h1 (And.intro h2 hb))
  have HBL := Lib.hid (cell_lt hb)
  obtain ⟨p, cp, rfl, _⟩ := hv
  obtain ⟨n, hn⟩ : ∃ n, n = es.length := ⟨_, rfl⟩
  rw [← hn] at HV h3 ⊢
  have HN := Lib.hid hn
  have eg := enters_of Tryz.func30 (by kernel_rfl) rfl
  clear hn h1 h2 hb hl
  go_enter Tryz.func29, Tryz.ntmps29
  go_wp2_with fail
  go_loopw [8] (fun iv wr => ∃ k : Nat, iv = .int .i64 k ∧ k ≤ n ∧ (∀ (j : Nat) y, j < k → es[j]? = some y → decide (y.1 = l) = false) ∧ Below w.heap.size w wr) (fun iv _ => n - (intOf iv).toNat)
  case atStart => exact ⟨0, rfl, Nat.zero_le _, fun j y hj => absurd hj (Nat.not_lt_zero _), Below.refl _ _⟩
  case round =>
    obtain ⟨k, rfl, hk, hno, hbw⟩ := hrel
    have HNO := Lib.hid hno
    have HB := Lib.hid hbw
    by_cases hlt : k < n
    · have q1 : (k : Int) < (n : Int) := by omega
      obtain ⟨x, hx⟩ : ∃ x, es[k]? = some x := ⟨_, List.getElem?_eq_getElem (by have := HN.out; omega)⟩
      obtain ⟨b', o, c, u, rfl, _, hbl, c0, c1, hci, hui⟩ := (HV.out.kept (Kept.below hbw)).at k x hx
      have HC := Lib.hid (find1_any R Q b x l c u lv wr hci (by obtain ⟨up, uc, rfl, _⟩ := hui; exact ⟨_, _, _, rfl⟩) (HL.out.kept (Kept.below hbw)) ((hbw.cell (p := ⟨b, 0, none⟩) HBL.out).trans HH.out.2.2) (HH.out.1 x (List.mem_of_getElem? hx)) HH.out.2.1)
      have HX := Lib.hid hx
      have HLT := Lib.hid hlt
      obtain ⟨xp, xc, rfl, _⟩ := hci
      obtain ⟨up, uc, rfl, _⟩ := hui
      have HDX : Hid (∀ q, decide (x.1 = l) = q → decide (x.1 = l) = q) := fun _ h => h
      clear hx hlt hno hbw
      cases hq : decide (x.1 = l) with
      | true =>
        rw [hq] at HC
        have HE : Hid (findW es l = (k : Int)) := fIdx_some HX.out hq HNO.out
        clear hq
        go_wp2_with fail
        have hc := HC.out
        with_reducible refine hc.mono ?_
        rintro e w1 ⟨rfl, hb1⟩
        have HB1 : Hid (Below w.heap.size w w1) := HB.out.trans (hb1.mono HB.out.size)
        clear hb1 hc
        go_wp2_with fail
        go_ret
        exact ⟨by rw [HE.out] <;> rfl, HB1.out⟩
      | false =>
        rw [hq] at HC
        have HQF := Lib.hid hq
        clear hq
        go_wp2_with fail
        have hc := HC.out
        with_reducible refine hc.mono ?_
        rintro e w1 ⟨rfl, hb1⟩
        have HB1 : Hid (Below w.heap.size w w1) := HB.out.trans (hb1.mono HB.out.size)
        clear hb1 hc
        go_wp2_with fail
        go_roundw
        case rel =>
          refine ⟨k + 1, by go_num, HLT.out, fun j y hj hy => ?_, HB1.out⟩
          rcases Nat.lt_succ_iff_lt_or_eq.1 hj with h | h
          · exact HNO.out j y h hy
          · subst h; rw [HX.out] at hy; cases hy; exact HQF.out
        case measure => (have := HLT.out; simp [intOf]; omega)
    · have q1 : ¬ (k : Int) < (n : Int) := by omega
      have HE : Hid (findW es l = -1) := fIdx_none (fun x hx => by
        obtain ⟨j, hj⟩ := List.mem_iff_getElem?.1 hx
        exact hno j x (by have := (List.getElem?_eq_some_iff.1 hj).1; have := HN.out; omega) hj)
      clear hlt hno hbw
      go_wp2_with fail
      go_ret
      exact ⟨by rw [HE.out] <;> rfl, HB.out⟩
end Go.Proofs.YtjbcbejedaeedaaGreatDoor
/-! Chapter 8: Find of the program and of the reference: walked. -/
namespace Go.Proofs.YtjbcbejedaeedaaGreatDoor
open Go.RowKit

/-- Find's answers -/
def fndI (es : List Ent) (l : List Int) : Int := max (findW es l) 0
def fndB (es : List Ent) (l : List Int) : Bool := decide (0 ≤ findW es l)
set_option maxHeartbeats 2000000 in
set_option maxRecDepth 100000 in
theorem find_any (R Q : Nat → Prop) (es : List Ent) (l : List Int) (ver : ByteArray) (rp : Option Addr) (rn rc : Nat) (v lv : Value) (w : World) (hv : EntsIn R w v es) (hl : IntsIn Q .i32 w lv l) (h1 : ∀ x ∈ es, x.1.length ≤ 1000000000) (h2 : l.length ≤ 1000000000) (h3 : es.length ≤ 1000000000) :
    Calls Tryz.prog 11 #[.agg #[.string ver, .slice rp rn rc, v], lv] w fun e w' => e = .returned (.tuple #[.int .i64 (fndI es l), .bool (fndB es l)]) ∧ Below w.heap.size w w' := by
  have hb : Below w.heap.size w ((w.alloc (.cells #[.string ver, .slice rp rn rc, v] 26)).alloc (.cells #[lv] 35)) := ((Below.refl _ w).alloc (Nat.le_refl _) _).alloc (by simp) _
  have hlx : ((w.alloc (.cells #[.string ver, .slice rp rn rc, v] 26)).alloc (.cells #[lv] 35)).heap[w.heap.size + 1]? = some (.cells #[lv] 35 (0, 0)) := by
    have := World.alloc_heap_new (w.alloc (.cells #[.string ver, .slice rp rn rc, v] 26)) (.cells #[lv] 35)
    rwa [World.size_alloc] at this
  have hcx : ((w.alloc (.cells #[.string ver, .slice rp rn rc, v] 26)).alloc (.cells #[lv] 35)).cell? ⟨w.heap.size + 1, 0, none⟩ = some lv := by
    unfold World.cell?; simp only; rw [hlx]; rfl
  have HI := Lib.hid (indexFuncE_any R Q es l (w.heap.size + 1) v lv _ (hv.kept (Kept.below hb)) (hl.kept (Kept.below hb)) hcx h1 h2 h3)
  have HB := Lib.hid hb
  have HF : Hid (fndI es l = max (findW es l) 0 ∧ fndB es l = decide (0 ≤ findW es l)) := ⟨rfl, rfl⟩
  obtain ⟨p, cp, rfl, _⟩ := hv
  obtain ⟨lp, lc, rfl, _⟩ := hl
  generalize findW es l = q at *
  have hmf : ∀ (fn : Fn) (first cap : Array Value) (w : World), (Instr.makeFunc fn first cap).run Tryz.prog w = .ok (.func fn first cap) w := fun _ _ _ _ => rfl
  clear hb hlx hcx h1 h2 h3
  go_enter Tryz.func11, Tryz.ntmps11
  go_wp2_with fail
  have hi := HI.out
  with_reducible refine hi.mono ?_
  rintro e w1 ⟨rfl, hb1⟩
  have HB1 : Hid (Below w.heap.size w w1) := HB.out.trans (hb1.mono HB.out.size)
  clear hb1 hi
  go_wp2_with fail
  go_ret2
  refine ⟨?_, HB1.out⟩
  rw [HF.out.1, HF.out.2]
  rfl
end Go.Proofs.YtjbcbejedaeedaaGreatDoor
namespace Go.Proofs.YtjbcbejedaeedaaGreatDoor
open Go.RowKit
set_option maxHeartbeats 4000000 in
set_option maxRecDepth 100000 in
theorem rFind_any (R Q : Nat → Prop) (es : List Ent) (l : List Int) (ver : ByteArray) (rp : Option Addr) (rn rc : Nat) (v lv : Value) (w : World) (hv : EntsIn R w v es) (hl : IntsIn Q .i32 w lv l) (h1 : ∀ x ∈ es, x.1.length ≤ 1000000000) (h2 : l.length ≤ 1000000000) (h3 : es.length ≤ 1000000000) :
    Calls Tryz.prog 12 #[.agg #[.string ver, .slice rp rn rc, v], lv] w fun e w' => e = .returned (.tuple #[.int .i64 (fndI es l), .bool (fndB es l)]) ∧ Below w.heap.size w w' := by
  have hb : Below w.heap.size w (w.alloc (.cells #[.string ver, .slice rp rn rc, v] 26)) := (Below.refl _ w).alloc (Nat.le_refl _) _
  have hsr : (w.alloc (.cells #[.string ver, .slice rp rn rc, v] 26)).cell? ⟨w.heap.size, 2, none⟩ = some v := by
    unfold World.cell?; simp only; rw [World.alloc_heap_new]; rfl
  have HV := Lib.hid (hv.kept (Kept.below hb))
  have HL := Lib.hid (hl.kept (Kept.below hb))
  have HB0 := Lib.hid hb
  have HH := Lib.hid (And.intro h1 h2)
  obtain ⟨p, cp, rfl, _⟩ := hv
  obtain ⟨lp, lc, rfl, _⟩ := hl
  obtain ⟨n, hn⟩ : ∃ n, n = es.length := ⟨_, rfl⟩
  rw [← hn] at HV HL HB0 h3 hsr ⊢
  have HN := Lib.hid hn
  have hsl : w.heap.size < (w.alloc (.cells #[.string ver, .slice rp rn rc, .slice p n cp] 26)).heap.size := by simp
  clear hn h1 h2 hb
  go_enter Tryz.func12, Tryz.ntmps12
  go_wp2_with fail
  generalize w.alloc (.cells #[.string ver, .slice rp rn rc, .slice p n cp] 26) = W0 at *
  have HSR := Lib.hid hsr
  have HSL := Lib.hid hsl
  clear hsr hsl
  go_loopw [6] (fun iv wr => ∃ k : Nat, iv = .int .i64 k ∧ k ≤ n ∧ (∀ (j : Nat) y, j < k → es[j]? = some y → decide (y.1 = l) = false) ∧ Below W0.heap.size W0 wr) (fun iv _ => n - (intOf iv).toNat)
  case atStart => exact ⟨0, rfl, Nat.zero_le _, fun j y hj => absurd hj (Nat.not_lt_zero _), Below.refl _ _⟩
  case round =>
    obtain ⟨k, rfl, hk, hno, hbw⟩ := hrel
    have HNO := Lib.hid hno
    have HB := Lib.hid hbw
    have s2 := (hbw.cell (p := ⟨w.heap.size, 2, none⟩) HSL.out).trans HSR.out
    by_cases hlt : k < n
    · have q1 : (k : Int) < (n : Int) := by omega
      obtain ⟨x, hx⟩ : ∃ x, es[k]? = some x := ⟨_, List.getElem?_eq_getElem (by have := HN.out; omega)⟩
      obtain ⟨b', o, c, u, rfl, _, hbl, c0, c1, hci, hui⟩ := (HV.out.kept (Kept.below hbw)).at k x hx
      have HC := Lib.hid (same8_any R Q x.1 l c (.slice lp l.length lc) wr hci (HL.out.kept (Kept.below hbw)) (HH.out.1 x (List.mem_of_getElem? hx)) HH.out.2)
      have HX := Lib.hid hx
      have HLT := Lib.hid hlt
      obtain ⟨xp, xc, rfl, _⟩ := hci
      clear hx hlt hno hbw hui
      cases hq : decide (x.1 = l) with
      | true =>
        rw [hq] at HC
        have HE : Hid (findW es l = (k : Int)) := fIdx_some HX.out hq HNO.out
        have HE2 : Hid (fndI es l = (k : Int) ∧ fndB es l = true) := by
          show _ ∧ _
          unfold fndI fndB; rw [HE.out]; exact ⟨by omega, decide_eq_true (by omega)⟩
        clear hq
        go_wp2_with fail
        have hc := HC.out
        with_reducible refine hc.mono ?_
        rintro e w1 ⟨rfl, hb1⟩
        have HB1 : Hid (Below w.heap.size w w1) := HB0.out.trans ((HB.out.trans (hb1.mono HB.out.size)).mono HB0.out.size)
        clear hb1 hc s2
        go_wp2_with fail
        go_ret2
        exact ⟨by rw [HE2.out.1, HE2.out.2] <;> rfl, HB1.out⟩
      | false =>
        rw [hq] at HC
        have HQF := Lib.hid hq
        clear hq
        go_wp2_with fail
        have hc := HC.out
        with_reducible refine hc.mono ?_
        rintro e w1 ⟨rfl, hb1⟩
        have HB1 : Hid (Below W0.heap.size W0 w1) := HB.out.trans (hb1.mono HB.out.size)
        clear hb1 hc s2
        go_wp2_with fail
        go_roundw
        case rel =>
          refine ⟨k + 1, by go_num, HLT.out, fun j y hj hy => ?_, HB1.out⟩
          rcases Nat.lt_succ_iff_lt_or_eq.1 hj with h | h
          · exact HNO.out j y h hy
          · subst h; rw [HX.out] at hy; cases hy; exact HQF.out
        case measure => (have := HLT.out; simp [intOf]; omega)
    · have q1 : ¬ (k : Int) < (n : Int) := by omega
      have HE : Hid (findW es l = -1) := fIdx_none (fun x hx => by
        obtain ⟨j, hj⟩ := List.mem_iff_getElem?.1 hx
        exact hno j x (by have := (List.getElem?_eq_some_iff.1 hj).1; have := HN.out; omega) hj)
      have HE2 : Hid (fndI es l = 0 ∧ fndB es l = false) := by
        show _ ∧ _
        unfold fndI fndB; rw [HE.out]; exact ⟨by omega, decide_eq_false (by omega)⟩
      clear hlt hno hbw
      go_wp2_with fail
      go_ret2
      exact ⟨by rw [HE2.out.1, HE2.out.2] <;> rfl, HB0.out.trans (HB.out.mono HB0.out.size)⟩
end Go.Proofs.YtjbcbejedaeedaaGreatDoor
/-! Chapter 8: the reference's digits: walked. -/
namespace Go.Proofs.YtjbcbejedaeedaaGreatDoor
open Go.RowKit

/-- what is still to come ahead of the digits -/
def finH (n : Nat) (s : Bs) : Bs := if n = 0 then pad4 s else pad4 (up16 n ++ s)
theorem pad4_zero (s : Bs) (h : s.length < 4) : pad4 (48 :: s) = pad4 s := by
  unfold pad4
  rw [List.length_cons, show 4 - s.length = (4 - (s.length + 1)) + 1 from by omega, List.replicate_succ', List.append_assoc]
  rfl
theorem up0 : up16 0 = [48] := by rw [up16_lt 0 (by omega)]; rfl
theorem finH_start (n : Nat) : finH n [] = pad4 (up16 n) := by
  unfold finH
  by_cases h : n = 0
  · subst h; rw [if_pos rfl, up0]; exact (pad4_zero [] (by simp)).symm
  · rw [if_neg h, List.append_nil]
theorem finH_step (n : Nat) (s : Bs) (h : 0 < n ∨ s.length < 4) : finH (n / 16) (upB (lowD (n % 16)) :: s) = finH n s := by
  unfold finH
  by_cases h0 : n = 0
  · subst h0
    rw [if_pos (by rfl), if_pos rfl]
    exact pad4_zero s (by omega)
  · rw [if_neg h0]
    by_cases h1 : n < 16
    · rw [if_pos (by omega), up16_lt n h1, Nat.mod_eq_of_lt h1]; rfl
    · rw [if_neg (by omega), up16_ge n h1, List.append_assoc]; rfl
theorem finH_end (s : Bs) (h : 4 ≤ s.length) : finH 0 s = s := by
  unfold finH pad4
  rw [if_pos rfl, show 4 - s.length = 0 from by omega]; rfl
theorem dig_all : ∀ d : Fin 16, ((⟨#[48, 49, 50, 51, 52, 53, 54, 55, 56, 57, 65, 66, 67, 68, 69, 70]⟩ : ByteArray).extract d.val (d.val + 1)) = mkB [upB (lowD d.val)] := by decide +kernel
theorem finH_len (n : Nat) (s : Bs) : s.length ≤ (finH n s).length := by
  unfold finH pad4
  split
  · rw [List.length_append]; omega
  · rw [List.length_append, List.length_append]; omega
set_option maxHeartbeats 2000000 in
set_option maxRecDepth 100000 in
theorem rhex_any (n : Nat) (hn : n < 4294967296) (w : World) :
    Calls Tryz.prog 36 #[.int .u32 (n : Int), .int .i64 4] w fun e w' => e = .returned (.string (mkB (pad4 (up16 n)))) ∧ w = w' := by
  have HF := Lib.hid (finH_start n)
  have hlen : (pad4 (up16 n)).length ≤ 8 := by
    have := up16_len n hn
    unfold pad4
    rw [List.length_append, List.length_replicate]; omega
  have HL := Lib.hid hlen
  generalize pad4 (up16 n) = T at *
  have HN := Lib.hid hn
  clear hlen hn
  go_enter Tryz.func36, Tryz.ntmps36
  go_wp2_with fail
  go_loop [0, 5] (fun nv sv => ∃ (m : Nat) (s : Bs), nv = .int .u32 (m : Int) ∧ sv = .string (mkB s) ∧ m < 4294967296 ∧ finH m s = T) (fun nv sv => (intOf nv).toNat + (4 - (match sv with | .string z => z.size | _ => 0)))
  case atStart => exact ⟨n, [], rfl, rfl, HN.out, HF.out⟩
  case round =>
    obtain ⟨m, s, rfl, rfl, hm, hf⟩ := hrel
    have HFF := Lib.hid hf
    have hsl := finH_len m s
    rw [hf] at hsl
    have hs8 : s.length ≤ 8 := by have := HL.out; omega
    have hsz := size_mkB s
    clear hf hsl
    by_cases hc : 0 < m ∨ s.length < 4
    · have HST := Lib.hid (finH_step m s hc)
      obtain ⟨d, hd⟩ : ∃ d, d = m % 16 := ⟨_, rfl⟩
      obtain ⟨q, hq⟩ : ∃ q, q = m / 16 := ⟨_, rfl⟩
      rw [← hd, ← hq] at HST
      have hd16 : d < 16 := by omega
      have HDG := Lib.hid (dig_all ⟨d, hd16⟩)
      have hdm : (m : Int) % 16 = (d : Int) := by omega
      have hqm : (m : Int) / 16 = (q : Int) := by omega
      have HQ : Hid (q < 4294967296 ∧ q + (4 - (s.length + 1)) < m + (4 - s.length)) := by show _ ∧ _; omega
      have HCC : Hid (mkB [upB (lowD d)] ++ mkB s = mkB (upB (lowD d) :: s)) := by
        show _ = _
        apply ByteArray.ext
        apply Array.ext'
        simp [mkB]
      clear hd hq
      by_cases h0 : 0 < m
      · clear hc
        go_wp2_with fail
        go_round
        case rel => exact ⟨q, upB (lowD d) :: s, rfl, by rw [HDG.out, HCC.out], HQ.out.1, HST.out.trans HFF.out⟩
        case measure =>
          show (q : Int).toNat + (4 - ((⟨#[48, 49, 50, 51, 52, 53, 54, 55, 56, 57, 65, 66, 67, 68, 69, 70]⟩ : ByteArray).extract d (d + 1) ++ mkB s).size) < (m : Int).toNat + (4 - (mkB s).size)
          rw [HDG.out, HCC.out, size_mkB, size_mkB, List.length_cons]
          have := HQ.out.2
          omega
      · have hl4 : s.length < 4 := by omega
        have g1 : decide ((m : Int) > 0) = false := decide_eq_false (by omega)
        have g2 : decide (0 < m) = false := decide_eq_false h0
        clear hc h0
        go_wp2_with fail
        go_round
        case rel => exact ⟨q, upB (lowD d) :: s, rfl, by rw [HDG.out, HCC.out], HQ.out.1, HST.out.trans HFF.out⟩
        case measure =>
          show (q : Int).toNat + (4 - ((⟨#[48, 49, 50, 51, 52, 53, 54, 55, 56, 57, 65, 66, 67, 68, 69, 70]⟩ : ByteArray).extract d (d + 1) ++ mkB s).size) < (m : Int).toNat + (4 - (mkB s).size)
          rw [HDG.out, HCC.out, size_mkB, size_mkB, List.length_cons]
          have := HQ.out.2
          omega
    · obtain rfl : m = 0 := by omega
      have hl4 : ¬ s.length < 4 := by omega
      have HE : Hid (s = T) := by
        show _ = _
        have := HFF.out
        rwa [finH_end s (by omega)] at this
      clear hc
      go_wp2_with fail
      go_ret
      exact ⟨by rw [← HE.out] <;> rfl, rfl⟩
end Go.Proofs.YtjbcbejedaeedaaGreatDoor
namespace Go.Proofs.YtjbcbejedaeedaaGreatDoor
open Go.RowKit
theorem joinW_snoc (l : List Bs) (x : Bs) (h : l ≠ []) : joinW (l ++ [x]) = joinW l ++ 32 :: x := by
  cases l with
  | nil => exact absurd rfl h
  | cons y t => rw [List.cons_append, joinW_cons, joinW_cons, tailW_snoc, List.append_assoc]
theorem showW_first {xs : List Int} {r : Int} (h : xs[0]? = some r) : showW (xs.take 1) = show1 r := by
  rw [take_snocR h]; rfl
theorem showW_next {xs : List Int} {k : Nat} {r : Int} (h : xs[k]? = some r) (hk : 0 < k) : showW (xs.take (k + 1)) = showW (xs.take k) ++ 32 :: show1 r := by
  unfold showW
  rw [take_snocR h, List.map_append]
  refine joinW_snoc _ _ (fun e => ?_)
  have h1 := congrArg List.length e
  have h2 := (List.getElem?_eq_some_iff.1 h).1
  rw [List.length_map, List.length_take, List.length_nil] at h1
  omega
theorem mkB_append (a b : Bs) : mkB a ++ mkB b = mkB (a ++ b) := by
  apply ByteArray.ext
  apply Array.ext'
  simp [mkB]
set_option maxHeartbeats 2000000 in
set_option maxRecDepth 100000 in
theorem rshow_any (R : Nat → Prop) (xs : List Int) (v : Value) (w : World) (hv : IntsIn R .i32 w v xs) (hl : xs.length ≤ 1000000) :
    Calls Tryz.prog 14 #[v] w fun e w' => e = .returned (.string (mkB (showW xs))) ∧ w = w' := by
  have HV := Lib.hid hv
  obtain ⟨p, cap, rfl, hcap, hc⟩ := hv
  have HC := Lib.hid hc
  obtain ⟨n, hn⟩ : ∃ n, n = xs.length := ⟨_, rfl⟩
  rw [← hn] at hl hcap HV ⊢
  have HN := Lib.hid hn
  clear hn hc
  go_enter Tryz.func14, Tryz.ntmps14
  go_wp2_with fail
  go_loopw [3, 4] (fun sv iv wr => ∃ k : Nat, iv = .int .i64 k ∧ sv = .string (mkB (showW (xs.take k))) ∧ k ≤ n ∧ w = wr) (fun _ iv _ => n - (intOf iv).toNat)
  case atStart => exact ⟨0, rfl, rfl, Nat.zero_le _, rfl⟩
  case round =>
    obtain ⟨k, rfl, rfl, hk, rfl⟩ := hrel
    by_cases hlt : k < n
    · have q1 : (k : Int) < (n : Int) := by omega
      obtain ⟨r, hr⟩ : ∃ r, xs[k]? = some r := ⟨_, List.getElem?_eq_getElem (by have := HN.out; omega)⟩
      obtain ⟨b, o, rfl, _, hbl, c0⟩ := HC.out k r hr
      have hsz : (showW (xs.take k)).length ≤ 9000000 := by
        have := showW_len (xs.take k)
        rw [List.length_take] at this; omega
      obtain ⟨q, hq⟩ : ∃ q : Nat, r % 4294967296 = (q : Int) := ⟨(r % 4294967296).toNat, by omega⟩
      have HX := Lib.hid (rhex_any q (by omega))
      have HS1 : Hid (pad4 (up16 q) = show1 r) := by show _ = _; unfold show1; rw [hq]; rfl
      rw [HS1.out] at HX
      have hs1 := (show1_len r).2
      have hsm := size_mkB (show1 r)
      have hsm2 := size_mkB (showW (xs.take k))
      have HLT := Lib.hid hlt
      rcases Nat.eq_zero_or_pos k with h0 | h0
      · have HST : Hid (mkB (showW (xs.take k)) ++ mkB (show1 r) = mkB (showW (xs.take (k + 1)))) := by
          show _ = _
          subst h0
          rw [showW_first hr, mkB_append]; rfl
        have g1 : decide ((k : Int) > 0) = false := decide_eq_false (by omega)
        have g2 : decide (0 < k) = false := decide_eq_false (by omega)
        generalize showW (xs.take k) = S at *
        generalize show1 r = Z at *
        clear h0 hlt hr
        go_wp2_with fail
        refine (HX.out w).mono ?_
        rintro e w' ⟨rfl, rfl⟩
        go_wp2_with fail
        go_roundw
        case rel => exact ⟨k + 1, by go_num, by rw [HST.out], HLT.out, trivial⟩
        case measure => (have := HLT.out; simp [intOf]; omega)
      · have HST : Hid (mkB (showW (xs.take k)) ++ ⟨#[32]⟩ ++ mkB (show1 r) = mkB (showW (xs.take (k + 1)))) := by
          show _ = _
          rw [showW_next hr h0, show (⟨#[32]⟩ : ByteArray) = mkB [32] from rfl, mkB_append, mkB_append, List.append_assoc]; rfl
        have g1 : decide ((k : Int) > 0) = true := decide_eq_true (by omega)
        generalize showW (xs.take k) = S at *
        generalize show1 r = Z at *
        clear hlt hr
        go_wp2_with fail
        refine (HX.out w).mono ?_
        rintro e w' ⟨rfl, rfl⟩
        go_wp2_with fail
        go_roundw
        case rel => exact ⟨k + 1, by go_num, by rw [HST.out], HLT.out, trivial⟩
        case measure => (have := HLT.out; simp [intOf]; omega)
    · have q1 : ¬ (k : Int) < (n : Int) := by omega
      have HE : Hid (showW (xs.take k) = showW xs) := by show _ = _; rw [List.take_of_length_le (by have := HN.out; omega)]
      generalize showW (xs.take k) = S at *
      clear hlt
      go_wp2_with fail
      go_ret
      exact ⟨by rw [← HE.out] <;> rfl, rfl⟩
end Go.Proofs.YtjbcbejedaeedaaGreatDoor
