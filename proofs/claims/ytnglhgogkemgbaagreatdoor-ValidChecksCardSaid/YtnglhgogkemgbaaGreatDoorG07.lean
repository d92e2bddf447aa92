/- Read of package weight: the walk. -/
import Derived.Test.YtnglhgogkemgbaaGreatDoorG06
namespace Go.Proofs.YtnglhgogkemgbaaGreatDoor
open Go.RowKit
open PlainAid (bt)

theorem iterPos_at {w : World} {b p : Nat} {s : ByteArray} (h : w.heap[b]? = some (.stringIter s p)) : w.iterPos b = p := by unfold World.iterPos; rw [h]
theorem form_len (k : Nat) (h : k < 17) : k < formS.size := h
theorem form_cls (k : Nat) (h : k < 17) : (formS[k]'h).toNat < 128 ∧ ((((formS[k]'h).toNat : Int) = 46 ∧ k = 1) ∨ ((formS[k]'h).toNat : Int) = 80 ∧ 2 ≤ k ∧ k < 6 ∨ ((formS[k]'h).toNat : Int) = 83 ∧ 7 ≤ k ∧ k < 11 ∨ ((formS[k]'h).toNat : Int) = 84 ∧ 12 ≤ k ∧ k < 16 ∨
    (((formS[k]'h).toNat : Int) = 91 ∧ k = 0) ∨ (((formS[k]'h).toNat : Int) = 46 ∧ k = 6) ∨ (((formS[k]'h).toNat : Int) = 46 ∧ k = 11) ∨ (((formS[k]'h).toNat : Int) = 93 ∧ k = 16)) := by
  have : ∀ k : Fin 17, (formS[k.val]'k.isLt).toNat < 128 ∧ ((((formS[k.val]'k.isLt).toNat : Int) = 46 ∧ k.val = 1) ∨ ((formS[k.val]'k.isLt).toNat : Int) = 80 ∧ 2 ≤ k.val ∧ k.val < 6 ∨ ((formS[k.val]'k.isLt).toNat : Int) = 83 ∧ 7 ≤ k.val ∧ k.val < 11 ∨ ((formS[k.val]'k.isLt).toNat : Int) = 84 ∧ 12 ≤ k.val ∧ k.val < 16 ∨
    (((formS[k.val]'k.isLt).toNat : Int) = 91 ∧ k.val = 0) ∨ (((formS[k.val]'k.isLt).toNat : Int) = 46 ∧ k.val = 6) ∨ (((formS[k.val]'k.isLt).toNat : Int) = 46 ∧ k.val = 11) ∨ (((formS[k.val]'k.isLt).toNat : Int) = 93 ∧ k.val = 16)) := by decide
  exact this ⟨k, h⟩

set_option maxHeartbeats 8000000 in
set_option maxRecDepth 100000 in
theorem read_try (s : ByteArray) (w : World) (hs : s.size ≤ maxLen) (h : 17 ≤ s.size) :
    Calls Tryz.prog 37 #[.string s] w fun e w' => e = .returned (readV s) ∧ Below w.heap.size w w' := by
  have HZ := Lib.hid hs
  unfold maxLen at hs
  have hb := PlainAid.get_bt s
  go_enter Tryz.func37, Tryz.ntmps37
  go_wp2
  go_loopw [] (fun wr => ∃ k : Nat, k ≤ 17 ∧ RdRel s w k wr) (fun wr => 17 - wr.iterPos (w.heap.size + 2))
  case atStart => exact ⟨0, by omega, fun i hi => by omega, RdWk.begin s w _⟩
  case round =>
    obtain ⟨k, hk, hok, hR⟩ := hrel
    by_cases hlt : k < 17
    · have HOK := Lib.hid hok
      clear hok hk
      obtain ⟨hasc, cls⟩ := form_cls k hlt
      have hn0 := fun ty => Lib.run_next_ascii_at (P := Tryz.prog) wr (w.heap.size + 2) formS k ty hR.iter (form_len k hlt) hasc
      have HP : Hid (wr.iterPos (w.heap.size + 2) = k) := iterPos_at hR.iter
      obtain ⟨w2, hw2⟩ : ∃ w2, w2 = wr.iterAt (w.heap.size + 2) formS (k + 1) := ⟨_, rfl⟩
      rw [← hw2] at hn0
      have R2 : RdWk s w (k + 1) k w2 := by rw [hw2]; exact hR.next _
      clear hw2 hasc hR
      generalize ((formS[k]'(form_len k hlt)).toNat : Int) = f at hn0 cls
      have b0 := PlainAid.bt_nonneg s k
      have b1 := PlainAid.bt_le s k
      rcases cls with ⟨rfl, rfl⟩ | ⟨rfl, h0, h1⟩ | ⟨rfl, h0, h1⟩ | ⟨rfl, h0, h1⟩ | cls
      · -- k = 1
        have hk1 : (((1 : Nat) : Int) == 1) = true := rfl
        have hv1 : vAt s 1 = false := rfl
        have hv2 : vAt s 2 = starB s := by unfold vAt; simp
        by_cases c42 : bt s 1 = 42
        · have OK : Hid (∀ i, i < 1 + 1 → okAt s i = true) := fun i hi => by
            by_cases e : i = 1
            · subst e; unfold okAt; simp [c42]
            · exact HOK.out i (by omega)
          have ST : Hid (starB s = true) := by show _ = _; unfold starB; simp [c42]
          have R2' := Lib.hid R2
          obtain ⟨Rb, Rz, Ri, r0, r1, r2, r3, f0, e0, e1, e2, e3, f1⟩ := R2
          clear Ri hv1
          go_wp2_with fail
          go_roundw
          case rel => exact ⟨2, by omega, OK.out, R2'.out.set (i := 2) (o := 3) _ (by omega) (by rw [if_neg (by decide), pAt_same s 1 (by omega)]) (by rw [if_neg (by decide), sAt_same s 1 (by omega)]) (by rw [if_neg (by decide), tAt_same s 1 (by omega)]) (by rw [if_pos rfl, hv2, ST.out])⟩
          case measure => rw [iterPos_at (R2'.out.set (i := 2) (o := 3) _ (by omega) (by rw [if_neg (by decide), pAt_same s 1 (by omega)]) (by rw [if_neg (by decide), sAt_same s 1 (by omega)]) (by rw [if_neg (by decide), tAt_same s 1 (by omega)]) (by rw [if_pos rfl, hv2, ST.out])).iter, HP.out]; omega
        · have ST : Hid (starB s = false) := by show _ = _; unfold starB; simp [c42]
          by_cases c46 : bt s 1 = 46
          · have OK : Hid (∀ i, i < 1 + 1 → okAt s i = true) := fun i hi => by
              by_cases e : i = 1
              · subst e; unfold okAt; simp [c46]
              · exact HOK.out i (by omega)
            have R3 : Hid (RdWk s w 2 2 w2) := R2.same (pAt_same s 1 (by omega)) (sAt_same s 1 (by omega)) (tAt_same s 1 (by omega)) (by rw [hv2, ST.out, hv1])
            clear hv1 hv2 c42 R2
            go_wp2_with fail
            go_roundw
            case rel => exact ⟨2, by omega, OK.out, R3.out⟩
            case measure => rw [iterPos_at R3.out.iter, HP.out]; omega
          · have BAD : Hid (readV s = .tuple #[.agg #[.int .i64 0, .int .i64 0, .int .i64 0, .bool false], .int .i64 0, .int .i64 3]) := readV_bad s (okAt_bad s 1 (by omega) (by unfold okAt; simp [c42, c46]))
            obtain ⟨Rb, Rz, Ri, r0, r1, r2, r3, f0, e0, e1, e2, e3, f1⟩ := R2
            clear Ri hv1 hv2
            have c42' : (bt s 1 == 42) = false := beq_eq_false_iff_ne.2 c42
            have c46' : (bt s 1 != 46) = true := by rw [bne_iff_ne]; exact c46
            clear c42 c46
            go_wp2_with fail
            refine bodyPost_ret (v := .tuple #[.agg #[.int .i64 0, .int .i64 0, .int .i64 0, .bool false], .int .i64 0, .int .i64 3]) (by simp [results, Tryz.results37, go_sem, r0, r1, r2, r3]) rfl ⟨by rw [BAD.out], ?_⟩; (repeat' (first | (with_reducible exact Below.refl _ _) | (with_reducible assumption) | (with_reducible refine Below.alloc ?_ ?_ _) | (with_reducible refine Below.drew ?_) | (with_reducible refine below_drewN ?_ _) | (with_reducible refine Below.setCell ?_ ?_ _) | (with_reducible refine Below.trans ?_ (Below.mono (by assumption) ?_)) | go_size))
      -- p
      · have q := acc_bd4 s 2 (min (k - 2) 4) (by omega)
        have q' : 0 ≤ pAt s k ∧ pAt s k < 65536 := q
        obtain ⟨q0, q1⟩ := q'
        clear q
        have g := hv_bd (bt s k)
        obtain ⟨g0, g1⟩ := g
        have hk1 : ((k : Int) == 1) = false := beq_eq_false_iff_ne.2 (by omega)
        have hO : okAt s k = hvB (bt s k) := by unfold okAt; rw [if_neg (by omega), if_neg (by omega), if_neg (by omega), if_neg (by omega), if_neg (by omega)]
        cases hd : hvB (bt s k)
        · have BAD : Hid (readV s = .tuple #[.agg #[.int .i64 0, .int .i64 0, .int .i64 0, .bool false], .int .i64 0, .int .i64 3]) := readV_bad s (okAt_bad s k hlt (by rw [hO, hd]))
          clear hO
          go_wp2_with fail
          refine (value_any (bt s k) _ b0 b1).mono ?_
          rintro e w3 ⟨rfl, hb3⟩
          have R3 := R2.up hb3
          obtain ⟨Rb, Rz, Ri, r0, r1, r2, r3, f0, e0, e1, e2, e3, f1⟩ := R3
          clear R2 hb3 Ri
          go_wp2_with fail
          refine bodyPost_ret (v := .tuple #[.agg #[.int .i64 0, .int .i64 0, .int .i64 0, .bool false], .int .i64 0, .int .i64 3]) (by simp [results, Tryz.results37, go_sem, r0, r1, r2, r3]) rfl ⟨by rw [BAD.out], ?_⟩; (repeat' (first | (with_reducible exact Below.refl _ _) | (with_reducible assumption) | (with_reducible refine Below.alloc ?_ ?_ _) | (with_reducible refine Below.drew ?_) | (with_reducible refine below_drewN ?_ _) | (with_reducible refine Below.setCell ?_ ?_ _) | (with_reducible refine Below.trans ?_ (Below.mono (by assumption) ?_)) | go_size))
        · have OK : Hid (∀ i, i < k + 1 → okAt s i = true) := fun i hi => by
            by_cases e : i = k
            · subst e; rw [hO, hd]
            · exact HOK.out i (by omega)
          clear hO
          go_wp2_with fail
          refine (value_any (bt s k) _ b0 b1).mono ?_
          rintro e w3 ⟨rfl, hb3⟩
          have R3 := R2.up hb3
          have R3' := Lib.hid R3
          obtain ⟨Rb, Rz, Ri, r0, r1, r2, r3, f0, e0, e1, e2, e3, f1⟩ := R3
          clear R2 hb3 Ri
          go_wp2_with fail
          go_roundw
          case rel => exact ⟨k + 1, by omega, OK.out, R3'.out.set (i := k + 1) (o := 0) _ (by omega) (by rw [if_pos rfl, pAt_step s k h0 h1]) (by rw [if_neg (by decide), sAt_same s k (by omega)]) (by rw [if_neg (by decide), tAt_same s k (by omega)]) (by rw [if_neg (by decide)]; unfold vAt; rw [decide_eq_true (show 2 ≤ k by omega), decide_eq_true (show 2 ≤ k + 1 by omega)])⟩
          case measure => rw [iterPos_at (R3'.out.set (i := k + 1) (o := 0) _ (by omega) (by rw [if_pos rfl, pAt_step s k h0 h1]) (by rw [if_neg (by decide), sAt_same s k (by omega)]) (by rw [if_neg (by decide), tAt_same s k (by omega)]) (by rw [if_neg (by decide)]; unfold vAt; rw [decide_eq_true (show 2 ≤ k by omega), decide_eq_true (show 2 ≤ k + 1 by omega)])).iter, HP.out]; omega
      -- s
      · have q := acc_bd4 s 7 (min (k - 7) 4) (by omega)
        have q' : 0 ≤ sAt s k ∧ sAt s k < 65536 := q
        obtain ⟨q0, q1⟩ := q'
        clear q
        have g := hv_bd (bt s k)
        obtain ⟨g0, g1⟩ := g
        have hk1 : ((k : Int) == 1) = false := beq_eq_false_iff_ne.2 (by omega)
        have hO : okAt s k = hvB (bt s k) := by unfold okAt; rw [if_neg (by omega), if_neg (by omega), if_neg (by omega), if_neg (by omega), if_neg (by omega)]
        cases hd : hvB (bt s k)
        · have BAD : Hid (readV s = .tuple #[.agg #[.int .i64 0, .int .i64 0, .int .i64 0, .bool false], .int .i64 0, .int .i64 3]) := readV_bad s (okAt_bad s k hlt (by rw [hO, hd]))
          clear hO
          go_wp2_with fail
          refine (value_any (bt s k) _ b0 b1).mono ?_
          rintro e w3 ⟨rfl, hb3⟩
          have R3 := R2.up hb3
          obtain ⟨Rb, Rz, Ri, r0, r1, r2, r3, f0, e0, e1, e2, e3, f1⟩ := R3
          clear R2 hb3 Ri
          go_wp2_with fail
          refine bodyPost_ret (v := .tuple #[.agg #[.int .i64 0, .int .i64 0, .int .i64 0, .bool false], .int .i64 0, .int .i64 3]) (by simp [results, Tryz.results37, go_sem, r0, r1, r2, r3]) rfl ⟨by rw [BAD.out], ?_⟩; (repeat' (first | (with_reducible exact Below.refl _ _) | (with_reducible assumption) | (with_reducible refine Below.alloc ?_ ?_ _) | (with_reducible refine Below.drew ?_) | (with_reducible refine below_drewN ?_ _) | (with_reducible refine Below.setCell ?_ ?_ _) | (with_reducible refine Below.trans ?_ (Below.mono (by assumption) ?_)) | go_size))
        · have OK : Hid (∀ i, i < k + 1 → okAt s i = true) := fun i hi => by
            by_cases e : i = k
            · subst e; rw [hO, hd]
            · exact HOK.out i (by omega)
          clear hO
          go_wp2_with fail
          refine (value_any (bt s k) _ b0 b1).mono ?_
          rintro e w3 ⟨rfl, hb3⟩
          have R3 := R2.up hb3
          have R3' := Lib.hid R3
          obtain ⟨Rb, Rz, Ri, r0, r1, r2, r3, f0, e0, e1, e2, e3, f1⟩ := R3
          clear R2 hb3 Ri
          go_wp2_with fail
          go_roundw
          case rel => exact ⟨k + 1, by omega, OK.out, R3'.out.set (i := k + 1) (o := 1) _ (by omega) (by rw [if_neg (by decide), pAt_same s k (by omega)]) (by rw [if_pos rfl, sAt_step s k h0 h1]) (by rw [if_neg (by decide), tAt_same s k (by omega)]) (by rw [if_neg (by decide)]; unfold vAt; rw [decide_eq_true (show 2 ≤ k by omega), decide_eq_true (show 2 ≤ k + 1 by omega)])⟩
          case measure => rw [iterPos_at (R3'.out.set (i := k + 1) (o := 1) _ (by omega) (by rw [if_neg (by decide), pAt_same s k (by omega)]) (by rw [if_pos rfl, sAt_step s k h0 h1]) (by rw [if_neg (by decide), tAt_same s k (by omega)]) (by rw [if_neg (by decide)]; unfold vAt; rw [decide_eq_true (show 2 ≤ k by omega), decide_eq_true (show 2 ≤ k + 1 by omega)])).iter, HP.out]; omega
      -- t
      · have q := acc_bd4 s 12 (min (k - 12) 4) (by omega)
        have q' : 0 ≤ tAt s k ∧ tAt s k < 65536 := q
        obtain ⟨q0, q1⟩ := q'
        clear q
        have g := hv_bd (bt s k)
        obtain ⟨g0, g1⟩ := g
        have hk1 : ((k : Int) == 1) = false := beq_eq_false_iff_ne.2 (by omega)
        have hO : okAt s k = hvB (bt s k) := by unfold okAt; rw [if_neg (by omega), if_neg (by omega), if_neg (by omega), if_neg (by omega), if_neg (by omega)]
        cases hd : hvB (bt s k)
        · have BAD : Hid (readV s = .tuple #[.agg #[.int .i64 0, .int .i64 0, .int .i64 0, .bool false], .int .i64 0, .int .i64 3]) := readV_bad s (okAt_bad s k hlt (by rw [hO, hd]))
          clear hO
          go_wp2_with fail
          refine (value_any (bt s k) _ b0 b1).mono ?_
          rintro e w3 ⟨rfl, hb3⟩
          have R3 := R2.up hb3
          obtain ⟨Rb, Rz, Ri, r0, r1, r2, r3, f0, e0, e1, e2, e3, f1⟩ := R3
          clear R2 hb3 Ri
          go_wp2_with fail
          refine bodyPost_ret (v := .tuple #[.agg #[.int .i64 0, .int .i64 0, .int .i64 0, .bool false], .int .i64 0, .int .i64 3]) (by simp [results, Tryz.results37, go_sem, r0, r1, r2, r3]) rfl ⟨by rw [BAD.out], ?_⟩; (repeat' (first | (with_reducible exact Below.refl _ _) | (with_reducible assumption) | (with_reducible refine Below.alloc ?_ ?_ _) | (with_reducible refine Below.drew ?_) | (with_reducible refine below_drewN ?_ _) | (with_reducible refine Below.setCell ?_ ?_ _) | (with_reducible refine Below.trans ?_ (Below.mono (by assumption) ?_)) | go_size))
        · have OK : Hid (∀ i, i < k + 1 → okAt s i = true) := fun i hi => by
            by_cases e : i = k
            · subst e; rw [hO, hd]
            · exact HOK.out i (by omega)
          clear hO
          go_wp2_with fail
          refine (value_any (bt s k) _ b0 b1).mono ?_
          rintro e w3 ⟨rfl, hb3⟩
          have R3 := R2.up hb3
          have R3' := Lib.hid R3
          obtain ⟨Rb, Rz, Ri, r0, r1, r2, r3, f0, e0, e1, e2, e3, f1⟩ := R3
          clear R2 hb3 Ri
          go_wp2_with fail
          go_roundw
          case rel => exact ⟨k + 1, by omega, OK.out, R3'.out.set (i := k + 1) (o := 2) _ (by omega) (by rw [if_neg (by decide), pAt_same s k (by omega)]) (by rw [if_neg (by decide), sAt_same s k (by omega)]) (by rw [if_pos rfl, tAt_step s k h0 h1]) (by rw [if_neg (by decide)]; unfold vAt; rw [decide_eq_true (show 2 ≤ k by omega), decide_eq_true (show 2 ≤ k + 1 by omega)])⟩
          case measure => rw [iterPos_at (R3'.out.set (i := k + 1) (o := 2) _ (by omega) (by rw [if_neg (by decide), pAt_same s k (by omega)]) (by rw [if_neg (by decide), sAt_same s k (by omega)]) (by rw [if_pos rfl, tAt_step s k h0 h1]) (by rw [if_neg (by decide)]; unfold vAt; rw [decide_eq_true (show 2 ≤ k by omega), decide_eq_true (show 2 ≤ k + 1 by omega)])).iter, HP.out]; omega
  
      · rcases cls with ⟨rfl, rfl⟩ | ⟨rfl, rfl⟩ | ⟨rfl, rfl⟩ | ⟨rfl, rfl⟩
        · -- k = 0
          have hk1 : (((0 : Nat) : Int) == 1) = false := rfl
          by_cases c : bt s 0 = 91
          · have OK : Hid (∀ i, i < 0 + 1 → okAt s i = true) := fun i hi => by
              by_cases e : i = 0
              · subst e; unfold okAt; simp [c]
              · exact HOK.out i (by omega)
            have R3 : Hid (RdWk s w (0 + 1) (0 + 1) w2) := R2.same (pAt_same s 0 (by omega)) (sAt_same s 0 (by omega)) (tAt_same s 0 (by omega)) (by unfold vAt; rfl)
            clear R2
            go_wp2_with fail
            go_roundw
            case rel => exact ⟨0 + 1, by omega, OK.out, R3.out⟩
            case measure => rw [iterPos_at R3.out.iter, HP.out]; omega
          · have BAD : Hid (readV s = .tuple #[.agg #[.int .i64 0, .int .i64 0, .int .i64 0, .bool false], .int .i64 0, .int .i64 3]) := readV_bad s (okAt_bad s 0 (by omega) (by unfold okAt; simp [c]))
            obtain ⟨Rb, Rz, Ri, r0, r1, r2, r3, f0, e0, e1, e2, e3, f1⟩ := R2
            clear Ri
            have c' : (bt s 0 != 91) = true := by rw [bne_iff_ne]; exact c
            clear c
            go_wp2_with fail
            refine bodyPost_ret (v := .tuple #[.agg #[.int .i64 0, .int .i64 0, .int .i64 0, .bool false], .int .i64 0, .int .i64 3]) (by simp [results, Tryz.results37, go_sem, r0, r1, r2, r3]) rfl ⟨by rw [BAD.out], ?_⟩; (repeat' (first | (with_reducible exact Below.refl _ _) | (with_reducible assumption) | (with_reducible refine Below.alloc ?_ ?_ _) | (with_reducible refine Below.drew ?_) | (with_reducible refine below_drewN ?_ _) | (with_reducible refine Below.setCell ?_ ?_ _) | (with_reducible refine Below.trans ?_ (Below.mono (by assumption) ?_)) | go_size))
        · -- k = 6
          have hk1 : (((6 : Nat) : Int) == 1) = false := rfl
          by_cases c : bt s 6 = 46
          · have OK : Hid (∀ i, i < 6 + 1 → okAt s i = true) := fun i hi => by
              by_cases e : i = 6
              · subst e; unfold okAt; simp [c]
              · exact HOK.out i (by omega)
            have R3 : Hid (RdWk s w (6 + 1) (6 + 1) w2) := R2.same (pAt_same s 6 (by omega)) (sAt_same s 6 (by omega)) (tAt_same s 6 (by omega)) (by unfold vAt; rfl)
            clear R2
            go_wp2_with fail
            go_roundw
            case rel => exact ⟨6 + 1, by omega, OK.out, R3.out⟩
            case measure => rw [iterPos_at R3.out.iter, HP.out]; omega
          · have BAD : Hid (readV s = .tuple #[.agg #[.int .i64 0, .int .i64 0, .int .i64 0, .bool false], .int .i64 0, .int .i64 3]) := readV_bad s (okAt_bad s 6 (by omega) (by unfold okAt; simp [c]))
            obtain ⟨Rb, Rz, Ri, r0, r1, r2, r3, f0, e0, e1, e2, e3, f1⟩ := R2
            clear Ri
            have c' : (bt s 6 != 46) = true := by rw [bne_iff_ne]; exact c
            clear c
            go_wp2_with fail
            refine bodyPost_ret (v := .tuple #[.agg #[.int .i64 0, .int .i64 0, .int .i64 0, .bool false], .int .i64 0, .int .i64 3]) (by simp [results, Tryz.results37, go_sem, r0, r1, r2, r3]) rfl ⟨by rw [BAD.out], ?_⟩; (repeat' (first | (with_reducible exact Below.refl _ _) | (with_reducible assumption) | (with_reducible refine Below.alloc ?_ ?_ _) | (with_reducible refine Below.drew ?_) | (with_reducible refine below_drewN ?_ _) | (with_reducible refine Below.setCell ?_ ?_ _) | (with_reducible refine Below.trans ?_ (Below.mono (by assumption) ?_)) | go_size))
        · -- k = 11
          have hk1 : (((11 : Nat) : Int) == 1) = false := rfl
          by_cases c : bt s 11 = 46
          · have OK : Hid (∀ i, i < 11 + 1 → okAt s i = true) := fun i hi => by
              by_cases e : i = 11
              · subst e; unfold okAt; simp [c]
              · exact HOK.out i (by omega)
            have R3 : Hid (RdWk s w (11 + 1) (11 + 1) w2) := R2.same (pAt_same s 11 (by omega)) (sAt_same s 11 (by omega)) (tAt_same s 11 (by omega)) (by unfold vAt; rfl)
            clear R2
            go_wp2_with fail
            go_roundw
            case rel => exact ⟨11 + 1, by omega, OK.out, R3.out⟩
            case measure => rw [iterPos_at R3.out.iter, HP.out]; omega
          · have BAD : Hid (readV s = .tuple #[.agg #[.int .i64 0, .int .i64 0, .int .i64 0, .bool false], .int .i64 0, .int .i64 3]) := readV_bad s (okAt_bad s 11 (by omega) (by unfold okAt; simp [c]))
            obtain ⟨Rb, Rz, Ri, r0, r1, r2, r3, f0, e0, e1, e2, e3, f1⟩ := R2
            clear Ri
            have c' : (bt s 11 != 46) = true := by rw [bne_iff_ne]; exact c
            clear c
            go_wp2_with fail
            refine bodyPost_ret (v := .tuple #[.agg #[.int .i64 0, .int .i64 0, .int .i64 0, .bool false], .int .i64 0, .int .i64 3]) (by simp [results, Tryz.results37, go_sem, r0, r1, r2, r3]) rfl ⟨by rw [BAD.out], ?_⟩; (repeat' (first | (with_reducible exact Below.refl _ _) | (with_reducible assumption) | (with_reducible refine Below.alloc ?_ ?_ _) | (with_reducible refine Below.drew ?_) | (with_reducible refine below_drewN ?_ _) | (with_reducible refine Below.setCell ?_ ?_ _) | (with_reducible refine Below.trans ?_ (Below.mono (by assumption) ?_)) | go_size))
        · -- k = 16
          have hk1 : (((16 : Nat) : Int) == 1) = false := rfl
          by_cases c : bt s 16 = 93
          · have OK : Hid (∀ i, i < 16 + 1 → okAt s i = true) := fun i hi => by
              by_cases e : i = 16
              · subst e; unfold okAt; simp [c]
              · exact HOK.out i (by omega)
            have R3 : Hid (RdWk s w (16 + 1) (16 + 1) w2) := R2.same (pAt_same s 16 (by omega)) (sAt_same s 16 (by omega)) (tAt_same s 16 (by omega)) (by unfold vAt; rfl)
            clear R2
            go_wp2_with fail
            go_roundw
            case rel => exact ⟨16 + 1, by omega, OK.out, R3.out⟩
            case measure => rw [iterPos_at R3.out.iter, HP.out]; omega
          · have BAD : Hid (readV s = .tuple #[.agg #[.int .i64 0, .int .i64 0, .int .i64 0, .bool false], .int .i64 0, .int .i64 3]) := readV_bad s (okAt_bad s 16 (by omega) (by unfold okAt; simp [c]))
            obtain ⟨Rb, Rz, Ri, r0, r1, r2, r3, f0, e0, e1, e2, e3, f1⟩ := R2
            clear Ri
            have c' : (bt s 16 != 93) = true := by rw [bne_iff_ne]; exact c
            clear c
            go_wp2_with fail
            refine bodyPost_ret (v := .tuple #[.agg #[.int .i64 0, .int .i64 0, .int .i64 0, .bool false], .int .i64 0, .int .i64 3]) (by simp [results, Tryz.results37, go_sem, r0, r1, r2, r3]) rfl ⟨by rw [BAD.out], ?_⟩; (repeat' (first | (with_reducible exact Below.refl _ _) | (with_reducible assumption) | (with_reducible refine Below.alloc ?_ ?_ _) | (with_reducible refine Below.drew ?_) | (with_reducible refine below_drewN ?_ _) | (with_reducible refine Below.setCell ?_ ?_ _) | (with_reducible refine Below.trans ?_ (Below.mono (by assumption) ?_)) | go_size))
    · -- the end
      have hk17 : k = 17 := by omega
      subst hk17
      have HG : Hid (goodB s = true) := (okAt_good s h).2 hok
      have eP : pAt s 17 = acc s 2 4 := rfl
      have eS : sAt s 17 = acc s 7 4 := rfl
      have eT : tAt s 17 = acc s 12 4 := rfl
      have eV : vAt s 17 = starB s := by unfold vAt; simp
      have hn0 := fun ty => Lib.run_next_end_at (P := Tryz.prog) wr (w.heap.size + 2) formS 17 ty hR.iter (by decide)
      obtain ⟨Rb, Rz, Ri, r0, r1, r2, r3, f0, e0, e1, e2, e3, f1⟩ := hR
      rw [eP] at e0; rw [eS] at e1; rw [eT] at e2; rw [eV] at e3
      clear hok Ri eP eS eT eV hb hlt hk
      by_cases hk : chkS s = 0
      · have HV : Hid (readV s = .tuple #[.agg #[.int .i64 (acc s 2 4), .int .i64 (acc s 7 4), .int .i64 (acc s 12 4), .bool (starB s)], .int .i64 17, .int .i64 0]) := by show _ = _; unfold readV; rw [HG.out, if_pos rfl, if_pos hk]; rfl
        have hk2 : (chk (acc s 2 4) (acc s 7 4) (acc s 12 4) (starB s) != 0) = false := by unfold chkS at hk; rw [hk]; rfl
        clear hk
        go_wp2_with fail
        refine (check_any _ _ _ _ _).mono ?_
        rintro e w4 ⟨rfl, hb4⟩
        obtain ⟨hc4, hf4⟩ := bcell hb4
        have hz4 : w.heap.size + 1 < wr.heap.size := by omega
        have hz5 : w.heap.size < wr.heap.size := by omega
        have d0 := hc4 w.heap.size 0 hz5
        have d1 := hc4 w.heap.size 1 hz5
        have d2 := hc4 w.heap.size 2 hz5
        have d3 := hc4 w.heap.size 3 hz5
        rw [r0] at d0; rw [r1] at d1; rw [r2] at d2; rw [r3] at d3
        go_wp2_with fail
        refine bodyPost_ret (v := .tuple #[.agg #[.int .i64 (acc s 2 4), .int .i64 (acc s 7 4), .int .i64 (acc s 12 4), .bool (starB s)], .int .i64 17, .int .i64 0]) (by simp [results, Tryz.results37, go_sem, d0, d1, d2, d3]) rfl ⟨by rw [HV.out], ?_⟩; (repeat' (first | (with_reducible exact Below.refl _ _) | (with_reducible assumption) | (with_reducible refine Below.alloc ?_ ?_ _) | (with_reducible refine Below.drew ?_) | (with_reducible refine below_drewN ?_ _) | (with_reducible refine Below.setCell ?_ ?_ _) | (with_reducible refine Below.trans ?_ (Below.mono (by assumption) ?_)) | go_size))
      · have HV : Hid (readV s = .tuple #[.agg #[.int .i64 0, .int .i64 0, .int .i64 0, .bool false], .int .i64 0, .int .i64 (chk (acc s 2 4) (acc s 7 4) (acc s 12 4) (starB s))]) := by show _ = _; unfold readV; rw [HG.out, if_pos rfl, if_neg hk]; rfl
        have hk2 : (chk (acc s 2 4) (acc s 7 4) (acc s 12 4) (starB s) != 0) = true := by unfold chkS at hk; rw [bne_iff_ne]; exact hk
        clear hk
        go_wp2_with fail
        refine (check_any _ _ _ _ _).mono ?_
        rintro e w4 ⟨rfl, hb4⟩
        obtain ⟨hc4, hf4⟩ := bcell hb4
        have hz4 : w.heap.size + 1 < wr.heap.size := by omega
        have hz5 : w.heap.size < wr.heap.size := by omega
        have d0 := hc4 w.heap.size 0 hz5
        have d1 := hc4 w.heap.size 1 hz5
        have d2 := hc4 w.heap.size 2 hz5
        have d3 := hc4 w.heap.size 3 hz5
        rw [r0] at d0; rw [r1] at d1; rw [r2] at d2; rw [r3] at d3
        go_wp2_with fail
        refine bodyPost_ret (v := .tuple #[.agg #[.int .i64 0, .int .i64 0, .int .i64 0, .bool false], .int .i64 0, .int .i64 (chk (acc s 2 4) (acc s 7 4) (acc s 12 4) (starB s))]) (by simp [results, Tryz.results37, go_sem, d0, d1, d2, d3]) rfl ⟨by rw [HV.out], ?_⟩; (repeat' (first | (with_reducible exact Below.refl _ _) | (with_reducible assumption) | (with_reducible refine Below.alloc ?_ ?_ _) | (with_reducible refine Below.drew ?_) | (with_reducible refine below_drewN ?_ _) | (with_reducible refine Below.setCell ?_ ?_ _) | (with_reducible refine Below.trans ?_ (Below.mono (by assumption) ?_)) | go_size))

theorem read_any (s : ByteArray) (w : World) (hs : s.size ≤ maxLen) :
    Calls Tryz.prog 37 #[.string s] w fun e w' => e = .returned (readV s) ∧ Below w.heap.size w w' := by
  by_cases h : 17 ≤ s.size
  · exact read_try s w hs h
  · unfold maxLen at hs
    have hg : goodB s = false := by unfold goodB; rw [decide_eq_false h]; rfl
    have h' : s.size < 17 := by omega
    clear h
    rw [readV_bad s hg]
    clear hg
    go_enter Tryz.func37, Tryz.ntmps37
    go_wp2
    refine bodyPost_ret (v := .tuple #[.agg #[.int .i64 0, .int .i64 0, .int .i64 0, .bool false], .int .i64 0, .int .i64 3]) (by simp [results, Tryz.results37, go_sem]) rfl ⟨rfl, ?_⟩; (repeat' (first | (with_reducible exact Below.refl _ _) | (with_reducible assumption) | (with_reducible refine Below.alloc ?_ ?_ _) | (with_reducible refine Below.drew ?_) | (with_reducible refine below_drewN ?_ _) | (with_reducible refine Below.setCell ?_ ?_ _) | (with_reducible refine Below.trans ?_ (Below.mono (by assumption) ?_)) | go_size))
end Go.Proofs.YtnglhgogkemgbaaGreatDoor
