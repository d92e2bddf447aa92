/- slices.Equal at []rune: walked. The order of two lists of numbers, in plain words. lecternref04.Order, Same: walked (out of XVj, for seats without package utf's forms). norm.Is, lecternref06.Is: whether a list is in its normal form. The small functions of a trie that is made: is, Len, Asked, down, Begins. -/
import Derived.Test.YtnglhgogkemgbaaGreatDoorG01
import Derived.Test.YtnglhgogkemgbaaGreatDoorG35
import Derived.Test.YtnglhgogkemgbaaGreatDoorG11
import Derived.Deep.RegionHeld
namespace Go.Proofs.YtnglhgogkemgbaaGreatDoor
open Go.RowKit

set_option maxHeartbeats 4000000 in
set_option maxRecDepth 1000000 in
theorem equalR_any (R Q : Nat → Prop) (xs ys : List Int) (v u : Value) (w : World) (hv : IntsIn R .i32 w v xs) (hu : IntsIn Q .i32 w u ys) (hx : xs.length ≤ 9223372036854775807) (hy : ys.length ≤ 9223372036854775807) :
    Calls Tryz.prog 99 #[v, u] w fun e w' => e = .returned (.bool (decide (xs = ys))) ∧ Below w.heap.size w w' := by
  have HV := Lib.hid hv
  have HU := Lib.hid hu
  obtain ⟨p, cp, rfl, hcp, _⟩ := hv
  obtain ⟨q, cq, rfl, hcq, _⟩ := hu
  obtain ⟨n, hn⟩ : ∃ n, n = xs.length := ⟨_, rfl⟩
  obtain ⟨m, hm⟩ : ∃ m, m = ys.length := ⟨_, rfl⟩
  rw [← hn] at HV hcp hx ⊢
  rw [← hm] at HU hcq hy ⊢
  have HNM := Lib.hid (And.intro hn hm)
  clear hn hm
  by_cases hnm : n = m
  · subst hnm
    go_enter Tryz.func99, Tryz.ntmps99
    go_wp2_with fail
    go_loopw [5, 13] (fun _ iv wr => ∃ i : Nat, iv = .int .i64 i ∧ i ≤ n ∧ xs.take i = ys.take i ∧ Below w.heap.size w wr) (fun _ iv _ => n - (intOf iv).toNat)
    case atStart => exact ⟨0, rfl, Nat.zero_le _, rfl, Below.refl _ _⟩
    case round =>
      obtain ⟨i, rfl, hin, hsm, hb⟩ := hrel
      have HSM := Lib.hid hsm
      have HB := Lib.hid hb
      by_cases hlt : i < n
      · have g1 : (i : Int) < (n : Int) := by omega
        obtain ⟨x, hx1⟩ : ∃ x, xs[i]? = some x := ⟨xs[i]'(by rw [← HNM.out.1]; exact hlt), List.getElem?_eq_getElem _⟩
        obtain ⟨y, hy1⟩ : ∃ y, ys[i]? = some y := ⟨ys[i]'(by rw [← HNM.out.2]; exact hlt), List.getElem?_eq_getElem _⟩
        obtain ⟨p', cap', he, _, hc⟩ := HV.out.kept (Kept.below hb)
        injection he with he1 _ _
        obtain ⟨b, o, hp, _, hbl, c0⟩ := hc i x hx1
        subst he1 hp
        obtain ⟨p', cap', he, _, hc2⟩ := HU.out.kept (Kept.below hb)
        injection he with he1 _ _
        obtain ⟨b2, o2, hp, _, hbl2, c02⟩ := hc2 i y hy1
        subst he1 hp
        have HXY := Lib.hid (And.intro hx1 hy1)
        clear hc hc2 hx1 hy1 hsm hb
        by_cases hxy : x = y
        · have g2 : (x == y) = true := by simpa using hxy
          subst hxy
          go_wp2_with fail
          refine wp_region_over (by kernel_rfl) (by kernel_rfl) ?_; (repeat (go_big_quiet_step ((fail)))); refine wpQuiet_nil ?_; intro w1 hb1
          have HB1 := Lib.hid hb1
          clear hb1 c0 c02
          go_wp2_with fail
          go_roundw
          case rel => exact ⟨i + 1, by go_num, by omega, by rw [take_snocR HXY.out.1, take_snocR HXY.out.2, HSM.out], HB.out.trans (HB1.out.mono HB.out.size)⟩
          case measure => (show n - ((i : Int) + 1).toNat < n - (i : Int).toNat; omega)
        · have g2 : (x == y) = false := by simpa using hxy
          have HE : Hid (decide (xs = ys) = false) := by
            show _ = _
            refine decide_eq_false (fun e => hxy ?_)
            have h1 := HXY.out.1
            rw [e, HXY.out.2] at h1; cases h1; rfl
          go_wp2_with fail
          refine wp_region_over (by kernel_rfl) (by kernel_rfl) ?_; (repeat (go_big_quiet_step ((fail)))); refine wpQuiet_nil ?_; intro w1 hb1
          have HB1 := Lib.hid hb1
          clear hb1 c0 c02
          go_wp2_with fail
          go_ret
          exact ⟨by rw [HE.out]; rfl, HB.out.trans (HB1.out.mono HB.out.size)⟩
      · have g1 : ¬ ((i : Int) < (n : Int)) := by omega
        obtain rfl : i = n := by omega
        have HE : Hid (decide (xs = ys) = true) := by
          show _ = _
          refine decide_eq_true ?_
          rwa [List.take_of_length_le (by rw [← HNM.out.1]; exact Nat.le_refl _), List.take_of_length_le (by rw [← HNM.out.2]; exact Nat.le_refl _)] at hsm
        clear hsm hb
        go_wp2_with fail
        go_ret
        exact ⟨by rw [HE.out]; rfl, HB.out⟩
  · have g1 : ¬ ((n : Int) = (m : Int)) := by omega
    have HE : Hid (decide (xs = ys) = false) := decide_eq_false (fun e => hnm (by have := HNM.out; rw [this.1, this.2, e]))
    go_enter Tryz.func99, Tryz.ntmps99
    go_wp2_with fail
    go_ret
    exact ⟨by rw [HE.out]; rfl, Below.refl _ _⟩
end Go.Proofs.YtnglhgogkemgbaaGreatDoor
namespace Go.Proofs.YtnglhgogkemgbaaGreatDoor
open Go.RowKit

def ord : List Int → List Int → Int
  | [], [] => 0
  | [], _ :: _ => -1
  | _ :: _, [] => 1
  | x :: xs, y :: ys => if x < y then -1 else if y < x then 1 else ord xs ys
theorem ord_zero {xs ys : List Int} : ord xs ys = 0 ↔ xs = ys := by
  induction xs generalizing ys with
  | nil => cases ys <;> simp [ord]
  | cons x xs ih =>
    cases ys with
    | nil => simp [ord]
    | cons y ys =>
      unfold ord
      by_cases h : x < y
      · rw [if_pos h]; simp; omega
      · rw [if_neg h]
        by_cases h' : y < x
        · rw [if_pos h']; simp; omega
        · rw [if_neg h', ih]; simp; intro _; omega
theorem ord_refl (xs : List Int) : ord xs xs = 0 := ord_zero.2 rfl
/-- at place k -/
theorem ord_drop (xs ys : List Int) (k : Nat) (hx : k < xs.length) (hy : k < ys.length) :
    ord (xs.drop k) (ys.drop k) = if xs.getD k 0 < ys.getD k 0 then -1 else if ys.getD k 0 < xs.getD k 0 then 1 else ord (xs.drop (k + 1)) (ys.drop (k + 1)) := by
  rw [List.drop_eq_getElem_cons hx, List.drop_eq_getElem_cons hy, ord]
  simp [hx, hy]
theorem ord_end (xs ys : List Int) (k : Nat) (h : ¬ (k < xs.length ∧ k < ys.length)) (hx : k ≤ xs.length) (hy : k ≤ ys.length) :
    ord (xs.drop k) (ys.drop k) = if xs.length < ys.length then -1 else if ys.length < xs.length then 1 else 0 := by
  by_cases hxl : xs.length ≤ k
  · have e1 : xs.drop k = [] := List.drop_eq_nil_of_le hxl
    rw [e1]
    by_cases hyl : ys.length ≤ k
    · rw [List.drop_eq_nil_of_le hyl, if_neg (by omega), if_neg (by omega)]; rfl
    · rw [List.drop_eq_getElem_cons (by omega : k < ys.length), if_pos (by omega)]; rfl
  · have hyl : ys.length ≤ k := by omega
    rw [List.drop_eq_nil_of_le hyl, List.drop_eq_getElem_cons (by omega : k < xs.length), if_neg (by omega), if_pos (by omega)]; rfl
end Go.Proofs.YtnglhgogkemgbaaGreatDoor
namespace Go.Proofs.YtnglhgogkemgbaaGreatDoor
open Go.RowKit
open PlainAid (bt)

def OrdRel (xs ys : List Int) (w : World) (k : Nat) (W : World) : Prop := ord (xs.drop k) (ys.drop k) = ord xs ys ∧ k ≤ xs.length ∧ k ≤ ys.length ∧ Below w.heap.size w W

set_option maxHeartbeats 2000000 in
set_option maxRecDepth 100000 in
theorem r4order_any (xs ys : List Int) (v u : Value) (w : World) (hv : IntsAt 0 .i32 w v xs) (hu : IntsAt 0 .i32 w u ys) (hx : xs.length ≤ maxLen) (hy : ys.length ≤ maxLen) :
    Calls Tryz.prog 109 #[v, u] w fun e w' => e = .returned (.int .i64 (ord xs ys)) ∧ Below w.heap.size w w' := by
  obtain ⟨p, cp, rfl, hv2⟩ := hv
  obtain ⟨q, cq, rfl, hu2⟩ := hu
  have HV : Hid (IntsAt 0 .i32 w (.slice p xs.length cp) xs) := ⟨_, _, rfl, hv2⟩
  have HU : Hid (IntsAt 0 .i32 w (.slice q ys.length cq) ys) := ⟨_, _, rfl, hu2⟩
  clear hv2 hu2
  unfold maxLen at hx hy
  go_enter Tryz.func109, Tryz.ntmps109
  go_wp2
  go_loopw [5] (fun i wr => ∃ k : Nat, i = .int .i64 k ∧ OrdRel xs ys w k wr) (fun i _ => xs.length - (intOf i).toNat)
  case atStart => exact ⟨0, rfl, rfl, Nat.zero_le _, Nat.zero_le _, Below.refl _ _⟩
  case round =>
    obtain ⟨k, rfl, hr⟩ := hrel
    by_cases hlt : k < xs.length ∧ k < ys.length
    · obtain ⟨h1, h2⟩ := hlt
      obtain ⟨b, o, rfl, _, hb, hc⟩ := (HV.out.below (by exact (hr.2.2.2 : Below w.heap.size w wr))).at k h1
      obtain ⟨b2, o2, rfl, _, hb2, hc2⟩ := (HU.out.below (by exact (hr.2.2.2 : Below w.heap.size w wr))).at k h2
      have HD := Lib.hid (ord_drop xs ys k h1 h2)
      have HR := Lib.hid hr
      have HL : Hid (k < xs.length ∧ k < ys.length) := ⟨h1, h2⟩
      generalize xs.getD k 0 = x at hc HD
      generalize ys.getD k 0 = y at hc2 HD
      have h1' : decide (k < xs.length) = true := decide_eq_true h1
      have h2' : decide (k < ys.length) = true := decide_eq_true h2
      clear hr
      by_cases hxy : x < y
      · have hxy' : decide (x < y) = true := decide_eq_true hxy
        have HX : Hid (ord xs ys = -1) := by show _ = _; rw [← HR.out.1, HD.out, if_pos hxy]
        clear hxy
        go_wp2
        go_quiet (fail)
        go_wp2
        go_ret
        exact ⟨by rw [HX.out]; rfl, HR.out.2.2.2.trans (by first | exact below_drewN (below_drewN (Below.refl _ _) _) _ | exact below_drewN (Below.refl _ _) _)⟩
      · have hxy' : decide (x < y) = false := decide_eq_false hxy
        by_cases hyx : y < x
        · have hyx' : decide (y < x) = true := decide_eq_true hyx
          have HX : Hid (ord xs ys = 1) := by show _ = _; rw [← HR.out.1, HD.out, if_neg hxy, if_pos hyx]
          clear hxy hyx
          go_wp2
          go_quiet (fail)
          go_wp2
          go_quiet (fail)
          go_wp2
          go_ret
          exact ⟨by rw [HX.out]; rfl, HR.out.2.2.2.trans (by first | exact below_drewN (below_drewN (Below.refl _ _) _) _ | exact below_drewN (Below.refl _ _) _)⟩
        · have hyx' : decide (y < x) = false := decide_eq_false hyx
          have HX : Hid (ord (xs.drop (k + 1)) (ys.drop (k + 1)) = ord xs ys) := by show _ = _; rw [← HR.out.1, HD.out, if_neg hxy, if_neg hyx]
          clear hxy hyx
          go_wp2
          go_quiet (fail)
          go_wp2
          go_quiet (fail)
          go_wp2
          go_roundw
          case rel => exact ⟨k + 1, by go_num, HX.out, HL.out.1, HL.out.2, HR.out.2.2.2.trans (by first | exact below_drewN (below_drewN (Below.refl _ _) _) _ | exact below_drewN (Below.refl _ _) _)⟩
          case measure => (have hp := HL.out; simp [intOf]; omega)
    · have HX := Lib.hid (ord_end xs ys k hlt hr.2.1 hr.2.2.1)
      have HR := Lib.hid hr
      by_cases h1 : k < xs.length
      · have h1' : decide (k < xs.length) = true := decide_eq_true h1
        have h2' : decide (k < ys.length) = false := decide_eq_false (by omega)
        have h3 : decide (xs.length < ys.length) = false := decide_eq_false (by omega)
        have h4 : decide (ys.length < xs.length) = true := decide_eq_true (by have := hr.2.2.1; omega)
        have HX2 : Hid (ord xs ys = 1) := by show _ = _; rw [← hr.1, HX.out, if_neg (by omega), if_pos (by have := hr.2.2.1; omega)]
        clear hr hlt h1
        go_wp2
        go_ret
        exact ⟨by rw [HX2.out]; rfl, HR.out.2.2.2⟩
      · have h1' : decide (k < xs.length) = false := decide_eq_false h1
        by_cases h5 : xs.length < ys.length
        · have h3 : decide (xs.length < ys.length) = true := decide_eq_true h5
          have HX2 : Hid (ord xs ys = -1) := by show _ = _; rw [← hr.1, HX.out, if_pos h5]
          clear hr hlt h1 h5
          go_wp2
          go_ret
          exact ⟨by rw [HX2.out]; rfl, HR.out.2.2.2⟩
        · have h3 : decide (xs.length < ys.length) = false := decide_eq_false h5
          have h4 : decide (ys.length < xs.length) = false := decide_eq_false (by have := hr.2.2.1; have := hr.2.1; omega)
          have HX2 : Hid (ord xs ys = 0) := by show _ = _; rw [← hr.1, HX.out, if_neg h5, if_neg (by have := hr.2.2.1; have := hr.2.1; omega)]
          clear hr hlt h1 h5
          go_wp2
          go_ret
          exact ⟨by rw [HX2.out]; rfl, HR.out.2.2.2⟩

theorem ints_at0 {R : Nat → Prop} {k : IntKind} {w : World} {v : Value} {xs : List Int} (h : IntsIn R k w v xs) : IntsAt 0 k w v xs ∧ xs.length ≤ maxLen := by
  obtain ⟨p, cap, rfl, hc, h2⟩ := h
  refine ⟨⟨p, cap, rfl, fun i x hx => ?_⟩, Nat.le_trans hc.1 hc.2⟩
  obtain ⟨b, o, e1, _, e3, e4⟩ := h2 i x hx
  exact ⟨b, o, e1, Nat.zero_le _, e3, e4⟩
set_option maxHeartbeats 1000000 in
set_option maxRecDepth 100000 in
theorem r4same_any (R Q : Nat → Prop) (xs ys : List Int) (v u : Value) (w : World) (hv : IntsIn R .i32 w v xs) (hu : IntsIn Q .i32 w u ys) :
    Calls Tryz.prog 63 #[v, u] w fun e w' => e = .returned (.bool (decide (xs = ys))) ∧ Below w.heap.size w w' := by
  have HC := Lib.hid (r4order_any xs ys v u w (ints_at0 hv).1 (ints_at0 hu).1 (ints_at0 hv).2 (ints_at0 hu).2)
  have HZ : Hid (ord xs ys = 0 ↔ xs = ys) := ord_zero
  clear hv hu
  generalize ord xs ys = q at *
  by_cases hq : q = 0
  · have g1 : (q == 0) = true := by simpa using hq
    have HE : Hid (decide (xs = ys) = true) := decide_eq_true (HZ.out.1 hq)
    clear hq
    go_enter Tryz.func63, Tryz.ntmps63
    go_wp2_with fail
    refine HC.out.mono ?_
    rintro e w1 ⟨rfl, hb⟩
    go_wp2_with fail
    go_ret
    exact ⟨by rw [HE.out]; rfl, hb⟩
  · have g1 : (q == 0) = false := by simpa using hq
    have HE : Hid (decide (xs = ys) = false) := decide_eq_false (fun e => hq (HZ.out.2 e))
    clear hq
    go_enter Tryz.func63, Tryz.ntmps63
    go_wp2_with fail
    refine HC.out.mono ?_
    rintro e w1 ⟨rfl, hb⟩
    go_wp2_with fail
    go_ret
    exact ⟨by rw [HE.out]; rfl, hb⟩
end Go.Proofs.YtnglhgogkemgbaaGreatDoor
namespace Go.Proofs.YtnglhgogkemgbaaGreatDoor
open Go.RowKit

/-- whether a list is its own normal form -/
def isNf (f : Int → Int) (dc : Int → List Int) (L : List Int) : Bool := decide (nfdE L = 0) && decide (nfdOf f dc L = L)
set_option maxHeartbeats 1000000 in
set_option maxRecDepth 100000 in
theorem normIs_any (f : Int → Int) (dc : Int → List Int) (rv : Value) (S : Nat → Prop) (J : (Nat → Prop) → World → Prop) (R Q : Nat → Prop) (L : List Int) (v : Value) (w : World) (hN : Norm f dc rv S J) (hR : ∀ b, w.heap.size ≤ b → R b) (hv : IntsIn Q .i32 w v L) (hQ : ∀ b, Q b → ¬ S b) (hl : L.length ≤ 1000000000) (hj : J R w) :
    Calls Tryz.prog 52 #[rv, v] w fun e w' => e = .returned (.bool (isNf f dc L)) ∧ J R w' ∧ Only S w w' := by
  have H := nfd_any f dc rv S J R Q L v w hN hR hv hQ hl hj
  unfold NfdTold at H
  have HV := Lib.hid (And.intro hv hQ)
  have HN := Lib.hid hN
  have HE : Hid (∀ z, nfdE L = z → isNf f dc L = (decide (z = 0) && decide (nfdOf f dc L = L))) := by show ∀ z, _; intro z hz; rw [← hz]; rfl
  obtain ⟨z, hz⟩ : ∃ z, nfdE L = z := ⟨_, rfl⟩
  have HZ := Lib.hid (HE.out z hz)
  rw [hz] at H
  clear hz HE hv hQ hN hl hj hR
  generalize isNf f dc L = b at *
  by_cases hz : z = 0
  · subst hz
    have HZ2 : Hid (b = decide (nfdOf f dc L = L)) := by show _ = _; rw [HZ.out]; rfl
    clear HZ
    go_enter Tryz.func52, Tryz.ntmps52
    go_wp2_with fail
    with_reducible refine H.mono ?_
    rintro e w1 ⟨⟨u, rfl, hu⟩, hj1, ho1⟩
    have hv1 := HV.out.1.kept (Kept.only ho1 HV.out.2)
    have HQ := Lib.hid (equalR_any _ _ (nfdOf f dc L) L u v w1 hu hv1 (by obtain ⟨_, _, _, h, _⟩ := hu; exact Nat.le_trans h.1 (Nat.le_trans h.2 (by decide))) (by obtain ⟨_, _, _, h, _⟩ := hv1; exact Nat.le_trans h.1 (Nat.le_trans h.2 (by decide))))
    have HJ := Lib.hid hj1
    have HO := Lib.hid ho1
    clear H hu hv1 hj1 ho1
    go_wp2_with fail
    with_reducible refine HQ.out.mono ?_
    rintro e w2 ⟨rfl, hb2⟩
    have HJ2 := Lib.hid (HN.out.kept _ _ _ HJ.out (Kept.below hb2))
    have HO2 := Lib.hid (HO.out.below hb2)
    clear hb2 HQ
    go_wp2_with fail
    go_ret
    exact ⟨by rw [HZ2.out] <;> rfl, HJ2.out, HO2.out⟩
  · have g1 : (z == 0) = false := beq_eq_false_iff_ne.2 hz
    have HZ2 : Hid (b = false) := by show _ = _; rw [HZ.out, decide_eq_false hz]; rfl
    clear HZ hz
    go_enter Tryz.func52, Tryz.ntmps52
    go_wp2_with fail
    with_reducible refine H.mono ?_
    rintro e w1 ⟨⟨u, rfl, hu⟩, hj1, ho1⟩
    have HJ := Lib.hid hj1
    have HO := Lib.hid ho1
    clear H hu hj1 ho1
    go_wp2_with fail
    go_ret
    exact ⟨by rw [HZ2.out] <;> rfl, HJ.out, HO.out⟩
set_option maxHeartbeats 1000000 in
set_option maxRecDepth 100000 in
theorem rIs_any (R Rd Q : Nat → Prop) (c d : List T3) (u v : Value) (L : List Int) (lv : Value) (w : World) (hu : TrisIn R .i64 w u c) (hv : TrisIn Rd .i32 w v d) (ho : dataOk c d = true) (hL : IntsIn Q .i32 w lv L) (hll : L.length ≤ 1000000000) :
    Calls Tryz.prog 26 #[.agg #[u, v], lv] w fun e w' => e = .returned (.bool (isNf (clsOf c) (fun r => (deep d 4 r).1) L)) ∧ Below w.heap.size w w' := by
  have hal : Below w.heap.size w (w.alloc (.cells #[u, v] 32)) := (Below.refl _ w).alloc (Nat.le_refl _) _
  have H := rnfd_any R Rd Q c d u v L lv (w.alloc (.cells #[u, v] 32)) (hu.kept (Kept.below hal)) (hv.kept (Kept.below hal)) ho (hL.kept (Kept.below hal)) hll
  unfold RNfdTold at H
  have HL := Lib.hid (hL.kept (Kept.below hal))
  have HAL := Lib.hid hal
  generalize (fun r => (deep d 4 r).1) = dc at *
  generalize clsOf c = f at *
  have HE : Hid (∀ z, nfdE L = z → isNf f dc L = (decide (z = 0) && decide (nfdOf f dc L = L))) := by show ∀ z, _; intro z hz; rw [← hz]; rfl
  obtain ⟨z, hz⟩ : ∃ z, nfdE L = z := ⟨_, rfl⟩
  have HZ := Lib.hid (HE.out z hz)
  rw [hz] at H
  clear hz HE hu hv hL hll ho hal
  generalize isNf f dc L = b at *
  by_cases hz : z = 0
  · subst hz
    have HZ2 : Hid (b = decide (nfdOf f dc L = L)) := by show _ = _; rw [HZ.out]; rfl
    clear HZ
    go_enter Tryz.func26, Tryz.ntmps26
    go_wp2_with fail
    with_reducible refine H.mono ?_
    rintro e w1 ⟨⟨x, rfl, hx⟩, hb1⟩
    have HQ := Lib.hid (r4same_any _ _ (nfdOf f dc L) L x lv w1 hx (HL.out.kept (Kept.below hb1)))
    have HB := Lib.hid (HAL.out.trans (hb1.mono HAL.out.size))
    clear H hx hb1
    go_wp2_with fail
    with_reducible refine HQ.out.mono ?_
    rintro e w2 ⟨rfl, hb2⟩
    have HB2 := Lib.hid (HB.out.trans (hb2.mono HB.out.size))
    clear hb2 HQ
    go_wp2_with fail
    go_ret
    exact ⟨by rw [HZ2.out] <;> rfl, HB2.out⟩
  · have g1 : (z == 0) = false := beq_eq_false_iff_ne.2 hz
    have HZ2 : Hid (b = false) := by show _ = _; rw [HZ.out, decide_eq_false hz]; rfl
    clear HZ hz
    go_enter Tryz.func26, Tryz.ntmps26
    go_wp2_with fail
    with_reducible refine H.mono ?_
    rintro e w1 ⟨⟨x, rfl, hx⟩, hb1⟩
    have HB := Lib.hid (HAL.out.trans (hb1.mono HAL.out.size))
    clear H hx hb1
    go_wp2_with fail
    go_ret
    exact ⟨by rw [HZ2.out] <;> rfl, HB.out⟩
end Go.Proofs.YtnglhgogkemgbaaGreatDoor
namespace Go.Proofs.YtnglhgogkemgbaaGreatDoor
open Go.RowKit

variable {B : Nat} {W W' : World} {tb root n : Nat} {es fs : List Ent} {S : List (List Int)} {N : NMap} {lv : Value} {asked : Int} {vs : List (Value × Value)}
/-- one question more -/
theorem NewAt.ask (h : NewAt B W tb es fs S N root lv n asked vs) (a : Int) : NewAt B (W.setCell ⟨tb, 3, none⟩ (.int .i64 a)) tb es fs S N root lv n a vs := by
  have hother : ∀ k, k ≠ tb → (W.setCell ⟨tb, 3, none⟩ (.int .i64 a)).heap[k]? = W.heap[k]? := fun k hk => Below.heap_setCell _ _ _ _ hk
  have hk : Kept (Lf B W) W (W.setCell ⟨tb, 3, none⟩ (.int .i64 a)) := ⟨by simp [World.setCell], fun b hb _ => hother b (lf_apart hb h.tcell (by decide) (by decide))⟩
  refine ⟨?_, h.rootN, ?_, h.dom, ?_, h.vlen, fun j y hy => ?_, h.tB⟩
  · have := h.tcell
    unfold World.setCell
    simp [Array.getElem?_modify, this]
  · refine h.mem.same fun p nb mb hp => ⟨hother nb ?_, hother mb ?_⟩
    · rintro rfl; have := h.mem.node _ _ _ hp; rw [h.tcell] at this; cases this
    · rintro rfl
      obtain ⟨L, ⟨es', c'', h4, _⟩, _⟩ := h.mem.map _ _ _ hp
      rw [h.tcell] at h4; cases h4
  · exact h.row.kept (grownBy_setAt W ⟨tb, 3, none⟩ _) (.inr (h.rowNe h.tcell (by decide)))
  · obtain ⟨c, u, h1, h2, h3⟩ := h.vals j y hy
    exact ⟨c, u, h1, h2.lf hk (Nat.le_refl _), h3.lf hk (Nat.le_refl _)⟩
/-- an entry's two slices in the row -/
theorem NewAt.rowAt (h : NewAt B W tb es fs S N root lv n asked vs) {i : Nat} {x : Ent} (hx : es[i]? = some x) : ∃ g cap c u, lv = .slice (some ⟨g, 0, none⟩) es.length cap ∧ W.cell? ⟨g, i * 2, none⟩ = some c ∧ W.cell? ⟨g, i * 2 + 1, none⟩ = some u ∧ g < W.heap.size ∧
    IntsIn (Lf B W) .i32 W c x.1 ∧ ElsIn (Lf B W) W u x.2 := by
  obtain ⟨c, u, h1, h2, h3⟩ := h.vals i x hx
  have hi := (List.getElem?_eq_some_iff.1 hx).1
  have hrow := h.row
  rcases h.row.2 with ⟨_, e⟩ | ⟨g, cap, cur, e, hg, hr, _⟩
  · omega
  · refine ⟨g, cap, c, u, e, ?_, ?_, (Array.getElem?_eq_some_iff.1 hr).1, h2, h3⟩
    · have := hrow.cells (g := g) (by rw [e]; rfl) (i * 2 + 0) c (flat_at (fun x : Value × Value => [x.1, x.2]) 2 (fun _ => rfl) vs i 0 (c, u) c h1 rfl)
      rw [addr_add, Nat.zero_add, Nat.add_zero] at this; exact this
    · have := hrow.cells (g := g) (by rw [e]; rfl) (i * 2 + 1) u (flat_at (fun x : Value × Value => [x.1, x.2]) 2 (fun _ => rfl) vs i 1 (c, u) u h1 rfl)
      rw [addr_add, Nat.zero_add] at this; exact this
set_option maxHeartbeats 1000000 in
set_option maxRecDepth 100000 in
theorem is_yes (w : World) (h : w.cell? ⟨tb, 0, none⟩ = some (.int .i64 1)) :
    Calls Tryz.prog 101 #[.pointer (some ⟨tb, 0, none⟩)] w fun e w' => e = .returned (.bool true) ∧ w = w' := by
  go_enter Tryz.func101, Tryz.ntmps101
  go_wp2
  go_ret
  exact ⟨rfl, rfl⟩
/-- the node at the end of the way; none: there is none -/
def ndV (o : Option (Nat × Nat)) : Value := ptrV (o.map (·.1))

set_option maxHeartbeats 2000000 in
set_option maxRecDepth 100000 in
theorem down_any (R : Nat → Prop) (codes : List Int) (v : Value) (h : NewAt B W tb es fs S N root lv n asked vs) (hv : IntsIn R .i32 W v codes) (hl : codes.length ≤ maxLen) (hw : ∀ r ∈ codes, (Lit.int .i32 r).wf = true) :
    Calls Tryz.prog 103 #[.pointer (some ⟨tb, 0, none⟩), v] W fun e w' => e = .returned (ndV (N codes)) ∧ W = w' := by
  obtain ⟨s0, s1, s2, s3, sf⟩ := h.cells
  have HV := Lib.hid hv
  obtain ⟨p, cp, rfl, _⟩ := hv
  have HH := Lib.hid h
  have HW := Lib.hid hw
  unfold maxLen at hl
  obtain ⟨rm, hrm⟩ := h.rootN
  have HRM := Lib.hid hrm
  clear s0 s2 s3 sf hw hrm h
  go_enter Tryz.func103, Tryz.ntmps103
  go_wp2
  go_loop [5, 14] (fun av jx => ∃ j nb mb : Nat, av = .pointer (some ⟨nb, 0, none⟩) ∧ jx = .int .i64 j ∧ j ≤ codes.length ∧ N (codes.take j) = some (nb, mb)) (fun _ jx => codes.length - (intOf jx).toNat)
  case atStart => exact ⟨0, _, rm, rfl, rfl, Nat.zero_le _, HRM.out⟩
  case round =>
    obtain ⟨j, nb, mb, rfl, rfl, hj, hN⟩ := hrel
    have HN := Lib.hid hN
    have c0 := HH.out.mem.cell0 hN
    clear hN
    by_cases hjl : j < codes.length
    · have hjl' : decide (j < codes.length) = true := decide_eq_true hjl
      obtain ⟨b', o', rfl, _, _, hcr⟩ := HV.out.at j hjl
      have hwf : (Lit.int .i32 (codes.getD j 0)).wf = true := HW.out _ (by rw [List.getD_eq_getElem?_getD, List.getElem?_eq_getElem hjl]; exact List.getElem_mem _)
      have HTK : Hid (codes.take (j + 1) = codes.take j ++ [codes.getD j 0]) := take_snoc' (by rw [List.getD_eq_getElem?_getD, List.getElem?_eq_getElem hjl]; rfl)
      have hz : ∀ w, (zeroValue 171).run Tryz.prog w = .ok (.pointer none) w := fun _ => by kernel_rfl
      have HJL := Lib.hid hjl
      obtain ⟨r, hre⟩ : ∃ r, r = codes.getD j 0 := ⟨_, rfl⟩
      rw [← hre] at hcr hwf HTK
      have hlook := (HH.out.mem.map _ nb mb HN.out).lookup (t := 179) (e := 171) Tryz.underlying21 Tryz.underlying179 hz r hwf
      clear hre hwf hjl hz
      cases hn : N (codes.take j ++ [r]) with
      | some pr =>
        obtain ⟨nb', mb'⟩ := pr
        simp only [hn, Option.map_some, ptrV] at hlook
        have HNN := Lib.hid hn
        clear hn
        go_wp2
        go_round
        case rel => exact ⟨j + 1, nb', mb', rfl, by go_num, HJL.out, by rw [HTK.out]; exact HNN.out⟩
        case measure => (have hq := HJL.out; simp [intOf]; omega)
      | none =>
        simp only [hn, Option.map_none, ptrV] at hlook
        have HE : Hid (N codes = none) := by
          cases hc : N codes with
          | none => rfl
          | some pr =>
            have hd := (HH.out.dom codes).1 (by rw [hc]; simp)
            have := (HH.out.dom (codes.take j ++ [r])).2 (dom_pre hd (by rw [← HTK.out]; exact List.take_prefix _ _))
            exact absurd hn this
        clear hn
        go_wp2
        go_ret
        exact ⟨by rw [HE.out]; rfl, rfl⟩
    · have hjl' : decide (j < codes.length) = false := decide_eq_false hjl
      have HE : Hid (N codes = some (nb, mb)) := by have := HN.out; rwa [List.take_of_length_le (by omega)] at this
      clear hjl
      go_wp2
      go_ret
      exact ⟨by rw [HE.out]; rfl, rfl⟩

end Go.Proofs.YtnglhgogkemgbaaGreatDoor
