/- The reference of chapter 7: Ranges: any ranges: walked. lecternref11.Check: walked. -/
import Derived.Test.YtnglhgogkemgbaaGreatDoorG32
import Derived.Test.YtnglhgogkemgbaaGreatDoorG43
import Derived.Test.YtnglhgogkemgbaaGreatDoorG42
namespace Go.Proofs.YtnglhgogkemgbaaGreatDoor
open Go.RowKit

set_option maxHeartbeats 8000000 in
set_option maxRecDepth 100000 in
theorem rRanges_any (R : Nat → Prop) (rs : List Rng) (v : Value) (w : World) (hv : RngsIn R w v rs) (hl : rs.length ≤ 140737488351232) :
    Calls Tryz.prog 24 #[v] w fun e w' => e = .returned (.int .i64 (rngC rs)) ∧ Below w.heap.size w w' := by
  obtain ⟨p, cap, rfl, hc⟩ := hv
  have HC : Hid (∀ (W : World), Below w.heap.size w W → ∀ (i : Nat) x, rs[i]? = some x → ∃ b o, p = some ⟨b, o, none⟩ ∧ b < W.heap.size ∧ Rg4 W b (o + i * 4) x) := by
    show ∀ W, _
    intro W hb i x hx
    obtain ⟨b, o, e, _, hl, hcc⟩ := hc i x hx
    exact ⟨b, o, e, Nat.lt_of_lt_of_le hl hb.size, hcc.of (hb.block b hl)⟩
  clear hc
  obtain ⟨n, hn⟩ : ∃ n, n = rs.length := ⟨_, rfl⟩
  rw [← hn] at hl ⊢
  have HN := Lib.hid hn
  clear hn
  by_cases h100 : 100 < n
  · have HE : Hid (rngC rs = 2) := rngC_big (by rw [← HN.out]; exact h100)
    have g1 : (n : Int) > 100 := by omega
    clear h100
    go_enter Tryz.func24, Tryz.ntmps24
    go_wp2_with fail
    go_ret
    exact ⟨by rw [HE.out] <;> rfl, Below.refl _ _⟩
  · have HNB : Hid (¬ 100 < rs.length) := by rw [← HN.out]; exact h100
    have g1 : decide ((n : Int) > 100) = false := decide_eq_false (by omega)
    have hn100 : n ≤ 100 := by omega
    clear h100 hl
    go_enter Tryz.func24, Tryz.ntmps24
    go_wp2_with fail
    go_loopw [10] (fun iv wr => ∃ k : Nat, iv = .int .i64 k ∧ k ≤ n ∧ rngG none rs = rngG (prevR rs k) (rs.drop k) ∧ Below w.heap.size w wr) (fun iv _ => n - (intOf iv).toNat)
    case atStart => exact ⟨0, rfl, Nat.zero_le _, rfl, Below.refl _ _⟩
    case round =>
      obtain ⟨k, rfl, hk, hg, hb⟩ := hrel
      have HG := Lib.hid hg
      have HB := Lib.hid hb
      clear hg hb
      by_cases hlt : k < n
      · obtain ⟨x, hx⟩ : ∃ x, rs[k]? = some x := ⟨_, List.getElem?_eq_getElem (by have := HN.out; omega)⟩
        obtain ⟨b, o, rfl, hbl, q0, q1, q2, q3⟩ := HC.out wr HB.out k x hx
        have HAT := Lib.hid (rngG_at hx)
        have HPS := Lib.hid (prevR_succ hx)
        have HX := Lib.hid hx
        have HFAIL : Hid (¬ (rng1 (prevR rs k) x ∧ rng2 x) → rngC rs = 71) := by
          show _ → _
          intro h
          refine rngC_no HNB.out ?_
          rw [HG.out, HAT.out]
          cases hr : rngB (prevR rs k) x with
          | true => exact absurd ((rngB_iff _ _).1 hr) h
          | false => rfl
        have HGO : Hid (rng1 (prevR rs k) x → rng2 x → rngG none rs = rngG (prevR rs (k + 1)) (rs.drop (k + 1))) := by
          show _ → _
          intro h1 h2
          rw [HG.out, HAT.out, (rngB_iff _ _).2 ⟨h1, h2⟩, Bool.true_and]
        obtain ⟨f, t, bs, wh⟩ := x
        simp only at q0 q1 q2 q3
        have g2 : (k : Int) < (n : Int) := by omega
        have HKN := Lib.hid hlt
        have HBX : Hid (∀ m, Below w.heap.size w ((wr.alloc (.cells #[.int .i32 f, .int .i32 t, .int .i64 bs, .bool wh] 136)).drewN m)) := by
          show ∀ m, _
          intro m
          exact below_drewN (HB.out.alloc HB.out.size _) m
        have HK0 : Hid (k = 0 → prevR rs k = none) := fun h => by unfold prevR; rw [if_pos h]
        have HK1 : Hid (∀ j, k = j + 1 → prevR rs k = rs[j]?) := fun j h => by unfold prevR; rw [if_neg (by omega), show k - 1 = j from by omega]
        have HD : Hid (∀ W, Below w.heap.size w W → ∀ j y, rs[j]? = some y → b < W.heap.size ∧ W.cell? ⟨b, o + j * 4 + 1, none⟩ = some (.int .i32 y.2.1)) := by
          show ∀ W, _
          intro W hW j y hy
          obtain ⟨b', o', e, hl', _, h1, _⟩ := HC.out W hW j y hy
          cases e
          exact ⟨hl', h1⟩
        have HKK := Lib.hid hk
        clear hx hlt hk
        by_cases c1 : f < 0
        · have e1 : decide (f < 0) = true := decide_eq_true c1
          have HE := Lib.hid (HFAIL.out (fun h => by have := h.1.1; dsimp only at this; omega))
          clear c1
          go_wp2_with fail
          go_quiet (fail)
          go_wp2_with fail
          all_goals go_ret
          all_goals exact ⟨by rw [HE.out] <;> rfl, HBX.out _⟩
        have e1 : decide (f < 0) = false := decide_eq_false c1
        have C1 := Lib.hid c1
        clear c1
        by_cases c2 : t > 1114111
        · have e2 : decide (t > 1114111) = true := decide_eq_true c2
          have HE := Lib.hid (HFAIL.out (fun h => by have := h.1.2.1; dsimp only at this; omega))
          clear c2
          go_wp2_with fail
          go_quiet (fail)
          go_wp2_with fail
          all_goals go_ret
          all_goals exact ⟨by rw [HE.out] <;> rfl, HBX.out _⟩
        have e2 : decide (t > 1114111) = false := decide_eq_false c2
        have C2 := Lib.hid c2
        clear c2
        by_cases c3 : f > t
        · have e3 : decide (f > t) = true := decide_eq_true c3
          have HE := Lib.hid (HFAIL.out (fun h => by have := h.1.2.2.1; dsimp only at this; omega))
          clear c3
          go_wp2_with fail
          go_quiet (fail)
          go_wp2_with fail
          all_goals go_ret
          all_goals exact ⟨by rw [HE.out] <;> rfl, HBX.out _⟩
        have e3 : decide (f > t) = false := decide_eq_false c3
        have C3 := Lib.hid c3
        clear c3
        rcases Nat.eq_zero_or_pos k with hk0 | hk0
        · have HPV := Lib.hid (HK0.out hk0)
          have g4 : decide ((k : Int) > 0) = false := decide_eq_false (by omega)
          have g5 : decide (0 < k) = false := decide_eq_false (by omega)
          clear hk0
          by_cases c5 : bs < 64256
          · have e5 : decide (bs < 64256) = true := decide_eq_true c5
            have HE := Lib.hid (HFAIL.out (fun h => by have := h.1.2.2.2.2.1; dsimp only at this; omega))
            clear c5
            go_wp2_with fail
            go_quiet (fail)
            go_wp2_with fail
            all_goals go_ret
            all_goals exact ⟨by rw [HE.out] <;> rfl, HBX.out _⟩
          have e5 : decide (bs < 64256) = false := decide_eq_false c5
          have C5 := Lib.hid c5
          clear c5
          by_cases c6 : bs > 64447
          · have e6 : decide (bs > 64447) = true := decide_eq_true c6
            have HE := Lib.hid (HFAIL.out (fun h => by have := h.1.2.2.2.2.2; dsimp only at this; omega))
            clear c6
            go_wp2_with fail
            go_quiet (fail)
            go_wp2_with fail
            all_goals go_ret
            all_goals exact ⟨by rw [HE.out] <;> rfl, HBX.out _⟩
          have e6 : decide (bs > 64447) = false := decide_eq_false c6
          have HR1 : Hid (rng1 (prevR rs k) (f, t, bs, wh)) := ⟨by have := C1.out; omega, by have := C2.out; dsimp only; omega, by have := C3.out; dsimp only; omega, (fun y hy => by rw [HPV.out] at hy; cases hy), by have := C5.out; dsimp only; omega, by dsimp only; omega⟩
          clear c6
          have hwt : IntKind.i32.wrap (t - f) = t - f := IntWalk.i32_in (t - f) (by have := C1.out; have := C2.out; have := C3.out; omega)
          cases wh with
          | true =>
            by_cases c7 : bs ≥ 64320
            · have e7 : decide (bs ≥ 64320) = true := decide_eq_true c7
              have HE := Lib.hid (HFAIL.out (fun h => by have := h.2; unfold rng2 at this; simp at this; omega))
              clear c7
              go_wp2_with fail
              go_quiet (fail)
              go_wp2_with fail
              all_goals go_ret
              all_goals exact ⟨by rw [HE.out] <;> rfl, HBX.out _⟩
            have e7 : decide (bs ≥ 64320) = false := decide_eq_false c7
            have C7 := Lib.hid c7
            clear c7
            by_cases c8 : t - f ≥ 32768
            · have e8 : decide (t - f ≥ 32768) = true := decide_eq_true c8
              have HE := Lib.hid (HFAIL.out (fun h => by have := h.2; unfold rng2 at this; simp at this; omega))
              clear c8
              go_wp2_with fail
              go_quiet (fail)
              go_wp2_with fail
              all_goals go_ret
              all_goals exact ⟨by rw [HE.out] <;> rfl, HBX.out _⟩
            have e8 : decide (t - f ≥ 32768) = false := decide_eq_false c8
            have C8 := Lib.hid c8
            clear c8
            have HE := Lib.hid (HGO.out HR1.out (by have := C7.out; have := C8.out; unfold rng2; simp; omega))
            go_wp2_with fail
            go_quiet (fail)
            go_wp2_with fail
            go_roundw
            case rel => exact ⟨k + 1, by go_num, HKN.out, HE.out, HBX.out _⟩
            case measure => (have := HKN.out; simp [intOf]; omega)
          | false =>
            by_cases c7 : bs = 64320
            · have e7 : (bs == 64320) = true := by rw [c7]; rfl
              have e7' : (bs != 64320) = false := by rw [c7]; rfl
              have C7 := Lib.hid c7
              clear c7
              have HE := Lib.hid (HGO.out HR1.out (by have := C7.out; unfold rng2; simp; omega))
              go_wp2_with fail
              go_quiet (fail)
              go_wp2_with fail
              go_roundw
              case rel => exact ⟨k + 1, by go_num, HKN.out, HE.out, HBX.out _⟩
              case measure => (have := HKN.out; simp [intOf]; omega)
            have e7 : (bs == 64320) = false := beq_eq_false_iff_ne.2 c7
            have e7' : (bs != 64320) = true := bne_iff_ne.2 c7
            have C7 := Lib.hid c7
            clear c7
            by_cases c8 : bs = 64384
            · have e8 : (bs == 64384) = true := by rw [c8]; rfl
              have e8' : (bs != 64384) = false := by rw [c8]; rfl
              have C8 := Lib.hid c8
              clear c8
              have HE := Lib.hid (HGO.out HR1.out (by have := C8.out; unfold rng2; simp; omega))
              go_wp2_with fail
              go_quiet (fail)
              go_wp2_with fail
              go_roundw
              case rel => exact ⟨k + 1, by go_num, HKN.out, HE.out, HBX.out _⟩
              case measure => (have := HKN.out; simp [intOf]; omega)
            have e8 : (bs == 64384) = false := beq_eq_false_iff_ne.2 c8
            have e8' : (bs != 64384) = true := bne_iff_ne.2 c8
            have HE := Lib.hid (HFAIL.out (fun h => by have := h.2; have := C7.out; unfold rng2 at *; simp at *; omega))
            clear c8
            go_wp2_with fail
            go_quiet (fail)
            go_wp2_with fail
            all_goals go_ret
            all_goals exact ⟨by rw [HE.out] <;> rfl, HBX.out _⟩
        · obtain ⟨j, hj⟩ : ∃ j, k = j + 1 := ⟨k - 1, by omega⟩
          obtain ⟨y, hy⟩ : ∃ y, rs[j]? = some y := ⟨_, List.getElem?_eq_getElem (by have := HN.out; have := HKN.out; omega)⟩
          have HPV := Lib.hid ((HK1.out j hj).trans hy)
          obtain ⟨hbl2, y1⟩ := HD.out wr HB.out j y hy
          have g4 : decide ((k : Int) > 0) = true := decide_eq_true (by omega)
          have g5 : decide (0 < k) = true := decide_eq_true (by omega)
          have g6 : (k : Int) - 1 = (j : Int) := by omega
          have g7 : j < n := by have := HKN.out; omega
          obtain ⟨y0, yt, y2, y3⟩ := y
          simp only at y1
          clear hk0 hj hy
          by_cases c4 : f ≤ yt
          · have e4 : decide (f ≤ yt) = true := decide_eq_true c4
            have HE := Lib.hid (HFAIL.out (fun h => by have := h.1.2.2.2.1 _ HPV.out; dsimp only at this; omega))
            clear c4
            go_wp2_with fail
            go_quiet (fail)
            go_wp2_with fail
            all_goals go_ret
            all_goals exact ⟨by rw [HE.out] <;> rfl, HBX.out _⟩
          have e4 : decide (f ≤ yt) = false := decide_eq_false c4
          have C4 := Lib.hid c4
          clear c4
          by_cases c5 : bs < 64256
          · have e5 : decide (bs < 64256) = true := decide_eq_true c5
            have HE := Lib.hid (HFAIL.out (fun h => by have := h.1.2.2.2.2.1; dsimp only at this; omega))
            clear c5
            go_wp2_with fail
            go_quiet (fail)
            go_wp2_with fail
            all_goals go_ret
            all_goals exact ⟨by rw [HE.out] <;> rfl, HBX.out _⟩
          have e5 : decide (bs < 64256) = false := decide_eq_false c5
          have C5 := Lib.hid c5
          clear c5
          by_cases c6 : bs > 64447
          · have e6 : decide (bs > 64447) = true := decide_eq_true c6
            have HE := Lib.hid (HFAIL.out (fun h => by have := h.1.2.2.2.2.2; dsimp only at this; omega))
            clear c6
            go_wp2_with fail
            go_quiet (fail)
            go_wp2_with fail
            all_goals go_ret
            all_goals exact ⟨by rw [HE.out] <;> rfl, HBX.out _⟩
          have e6 : decide (bs > 64447) = false := decide_eq_false c6
          have HR1 : Hid (rng1 (prevR rs k) (f, t, bs, wh)) := ⟨by have := C1.out; omega, by have := C2.out; dsimp only; omega, by have := C3.out; dsimp only; omega, (fun y hy => by rw [HPV.out] at hy; cases hy; have := C4.out; dsimp only; omega), by have := C5.out; dsimp only; omega, by dsimp only; omega⟩
          clear c6
          have hwt : IntKind.i32.wrap (t - f) = t - f := IntWalk.i32_in (t - f) (by have := C1.out; have := C2.out; have := C3.out; omega)
          cases wh with
          | true =>
            by_cases c7 : bs ≥ 64320
            · have e7 : decide (bs ≥ 64320) = true := decide_eq_true c7
              have HE := Lib.hid (HFAIL.out (fun h => by have := h.2; unfold rng2 at this; simp at this; omega))
              clear c7
              go_wp2_with fail
              go_quiet (fail)
              go_wp2_with fail
              all_goals go_ret
              all_goals exact ⟨by rw [HE.out] <;> rfl, HBX.out _⟩
            have e7 : decide (bs ≥ 64320) = false := decide_eq_false c7
            have C7 := Lib.hid c7
            clear c7
            by_cases c8 : t - f ≥ 32768
            · have e8 : decide (t - f ≥ 32768) = true := decide_eq_true c8
              have HE := Lib.hid (HFAIL.out (fun h => by have := h.2; unfold rng2 at this; simp at this; omega))
              clear c8
              go_wp2_with fail
              go_quiet (fail)
              go_wp2_with fail
              all_goals go_ret
              all_goals exact ⟨by rw [HE.out] <;> rfl, HBX.out _⟩
            have e8 : decide (t - f ≥ 32768) = false := decide_eq_false c8
            have C8 := Lib.hid c8
            clear c8
            have HE := Lib.hid (HGO.out HR1.out (by have := C7.out; have := C8.out; unfold rng2; simp; omega))
            go_wp2_with fail
            go_quiet (fail)
            go_wp2_with fail
            go_roundw
            case rel => exact ⟨k + 1, by go_num, HKN.out, HE.out, HBX.out _⟩
            case measure => (have := HKN.out; simp [intOf]; omega)
          | false =>
            by_cases c7 : bs = 64320
            · have e7 : (bs == 64320) = true := by rw [c7]; rfl
              have e7' : (bs != 64320) = false := by rw [c7]; rfl
              have C7 := Lib.hid c7
              clear c7
              have HE := Lib.hid (HGO.out HR1.out (by have := C7.out; unfold rng2; simp; omega))
              go_wp2_with fail
              go_quiet (fail)
              go_wp2_with fail
              go_roundw
              case rel => exact ⟨k + 1, by go_num, HKN.out, HE.out, HBX.out _⟩
              case measure => (have := HKN.out; simp [intOf]; omega)
            have e7 : (bs == 64320) = false := beq_eq_false_iff_ne.2 c7
            have e7' : (bs != 64320) = true := bne_iff_ne.2 c7
            have C7 := Lib.hid c7
            clear c7
            by_cases c8 : bs = 64384
            · have e8 : (bs == 64384) = true := by rw [c8]; rfl
              have e8' : (bs != 64384) = false := by rw [c8]; rfl
              have C8 := Lib.hid c8
              clear c8
              have HE := Lib.hid (HGO.out HR1.out (by have := C8.out; unfold rng2; simp; omega))
              go_wp2_with fail
              go_quiet (fail)
              go_wp2_with fail
              go_roundw
              case rel => exact ⟨k + 1, by go_num, HKN.out, HE.out, HBX.out _⟩
              case measure => (have := HKN.out; simp [intOf]; omega)
            have e8 : (bs == 64384) = false := beq_eq_false_iff_ne.2 c8
            have e8' : (bs != 64384) = true := bne_iff_ne.2 c8
            have HE := Lib.hid (HFAIL.out (fun h => by have := h.2; have := C7.out; unfold rng2 at *; simp at *; omega))
            clear c8
            go_wp2_with fail
            go_quiet (fail)
            go_wp2_with fail
            all_goals go_ret
            all_goals exact ⟨by rw [HE.out] <;> rfl, HBX.out _⟩
      · have g2 : decide ((k : Int) < (n : Int)) = false := decide_eq_false (by omega)
        have g2' : ¬ (k : Int) < (n : Int) := by omega
        have HE : Hid (rngC rs = 0) := by
          refine rngC_yes HNB.out ?_
          rw [HG.out, List.drop_of_length_le (by rw [← HN.out]; omega)]; rfl
        clear hlt
        go_wp2_with fail
        go_ret
        exact ⟨by rw [HE.out] <;> rfl, HB.out⟩
end Go.Proofs.YtnglhgogkemgbaaGreatDoor
namespace Go.Proofs.YtnglhgogkemgbaaGreatDoor
open Go.RowKit

/-- what the reference's Check answers -/
def rres (c d : List T3) (ver : ByteArray) (rs : List Rng) (es : List Ent) : Int × Int := vchk ckA ckE (clsOf c) (isNf (clsOf c) (fun r => (deep d 4 r).1)) 1073741824 ver.data.toList rs es
section
variable {c d : List T3} {ver : ByteArray} {rs : List Rng} {es : List Ent}
theorem rres_ver (h : verB ver.data.toList = false) : rres c d ver rs es = (0, 114) := by unfold rres vchk; rw [if_pos h]
theorem rres_rng (h : verB ver.data.toList = true) (h2 : rngC rs ≠ 0) : rres c d ver rs es = (0, rngC rs) := by unfold rres vchk; rw [if_neg (by rw [h]; decide), if_pos h2]
theorem rres_ent (h : verB ver.data.toList = true) (h2 : rngC rs = 0) (h3 : ckE es ≠ 0) : rres c d ver rs es = (ckA es, ckE es) := by
  unfold rres vchk; rw [if_neg (by rw [h]; decide), if_neg (by rw [h2]; decide), if_pos h3]
theorem rres_frm (h : verB ver.data.toList = true) (h2 : rngC rs = 0) (h3 : ckE es = 0) {k : Nat} {x : Ent} {z : Int} (hx : es[k]? = some x) (h0 : ∀ (j : Nat) y, j < k → es[j]? = some y → frmZ (clsOf c) (isNf (clsOf c) (fun r => (deep d 4 r).1)) es y = 0) (hz : frmZ (clsOf c) (isNf (clsOf c) (fun r => (deep d 4 r).1)) es x = z) (hne : z ≠ 0) :
    rres c d ver rs es = ((k : Int), z) := by
  unfold rres vchk; rw [if_neg (by rw [h]; decide), if_neg (by rw [h2]; decide), if_neg (by rw [h3]; decide), fstZ_at hx h0 (by rw [hz]; exact hne), hz]; simp
theorem fst_all {f : Ent → Int} (h : ∀ (j : Nat) y, j < es.length → es[j]? = some y → f y = 0) : fstZ f 0 es = none := by
  refine fstZ_none.2 fun x hx => ?_
  obtain ⟨j, hj⟩ := List.getElem?_of_mem hx
  exact h j x (List.getElem?_eq_some_iff.1 hj).1 hj
theorem rres_ord (h : verB ver.data.toList = true) (h2 : rngC rs = 0) (h3 : ckE es = 0) (h4 : fstZ (frmZ (clsOf c) (isNf (clsOf c) (fun r => (deep d 4 r).1)) es) 0 es = none) {k : Nat} {x : Ent} {z : Int} (hx : es[k]? = some x) (h0 : ∀ (j : Nat) y, j < k → es[j]? = some y → ordZ (greatV 1073741824 es) y = 0) (hz : ordZ (greatV 1073741824 es) x = z) (hne : z ≠ 0) :
    rres c d ver rs es = ((k : Int), z) := by
  unfold rres vchk; rw [if_neg (by rw [h]; decide), if_neg (by rw [h2]; decide), if_neg (by rw [h3]; decide), h4]; dsimp only; rw [fstZ_at hx h0 (by rw [hz]; exact hne), hz]; simp
theorem rres_var (h : verB ver.data.toList = true) (h2 : rngC rs = 0) (h3 : ckE es = 0) (h4 : fstZ (frmZ (clsOf c) (isNf (clsOf c) (fun r => (deep d 4 r).1)) es) 0 es = none) (h5 : fstZ (ordZ (greatV 1073741824 es)) 0 es = none) {k : Nat} {x : Ent} {z : Int} (hx : es[k]? = some x) (h0 : ∀ (j : Nat) y, j < k → es[j]? = some y → varZ (greatV 1073741824 es) y = 0) (hz : varZ (greatV 1073741824 es) x = z) (hne : z ≠ 0) :
    rres c d ver rs es = ((k : Int), z) := by
  unfold rres vchk; rw [if_neg (by rw [h]; decide), if_neg (by rw [h2]; decide), if_neg (by rw [h3]; decide), h4]; dsimp only; rw [h5]; dsimp only; rw [fstZ_at hx h0 (by rw [hz]; exact hne), hz]; simp
theorem rres_ok (h : verB ver.data.toList = true) (h2 : rngC rs = 0) (h3 : ckE es = 0) (h4 : fstZ (frmZ (clsOf c) (isNf (clsOf c) (fun r => (deep d 4 r).1)) es) 0 es = none) (h5 : fstZ (ordZ (greatV 1073741824 es)) 0 es = none) (h6 : fstZ (varZ (greatV 1073741824 es)) 0 es = none) : rres c d ver rs es = (0, 0) := by
  unfold rres vchk; rw [if_neg (by rw [h]; decide), if_neg (by rw [h2]; decide), if_neg (by rw [h3]; decide), h4]; dsimp only; rw [h5]; dsimp only; rw [h6]
/-- the program's answer is the reference's -/
theorem vres_rres : vres c d ver rs es = rres c d ver rs es := by
  by_cases h3 : ckE es = 0
  · have hP : ∀ x ∈ es, ∀ y ∈ x.2, y.1 < 65536 := by
      intro x hx y hy
      have h := (eErr_zero ((ck_zero h3).2.1 x hx)).2.2.2.2 y hy
      unfold okE chk at h
      by_cases ho : okB y.1 y.2.1 y.2.2.1 y.2.2.2 = true
      · simp [okB, inB] at ho; omega
      · rw [if_neg ho] at h; exact absurd h (by decide)
    have hg := gst_fold (elsV es)
    have e1 : (greatV 65536 es).1 = (greatV 1073741824 es).1 := by
      have a1 := (hg (32, 2, 65536)).1 (greatV 1073741824 es).1
      have a2 := (hg (32, 2, 1073741824)).1 (greatV 1073741824 es).1
      have a3 := (hg (32, 2, 65536)).1 (greatV 65536 es).1
      have a4 := (hg (32, 2, 1073741824)).1 (greatV 65536 es).1
      unfold greatV at *
      have b1 : ¬ (List.foldl gst (32, 2, 65536) (elsV es)).1 < (List.foldl gst (32, 2, 1073741824) (elsV es)).1 := fun h => by rw [a1, ← a2] at h; omega
      have b2 : ¬ (List.foldl gst (32, 2, 1073741824) (elsV es)).1 < (List.foldl gst (32, 2, 65536) (elsV es)).1 := fun h => by rw [a4, ← a3] at h; omega
      omega
    have e2 : (greatV 65536 es).2.1 = (greatV 1073741824 es).2.1 := by
      have a1 := (hg (32, 2, 65536)).2.1 (greatV 1073741824 es).2.1
      have a2 := (hg (32, 2, 1073741824)).2.1 (greatV 1073741824 es).2.1
      have a3 := (hg (32, 2, 65536)).2.1 (greatV 65536 es).2.1
      have a4 := (hg (32, 2, 1073741824)).2.1 (greatV 65536 es).2.1
      unfold greatV at *
      have b1 : ¬ (List.foldl gst (32, 2, 65536) (elsV es)).2.1 < (List.foldl gst (32, 2, 1073741824) (elsV es)).2.1 := fun h => by rw [a1, ← a2] at h; omega
      have b2 : ¬ (List.foldl gst (32, 2, 1073741824) (elsV es)).2.1 < (List.foldl gst (32, 2, 65536) (elsV es)).2.1 := fun h => by rw [a4, ← a3] at h; omega
      omega
    have ho : ordZ (greatV 65536 es) = ordZ (greatV 1073741824 es) := by
      funext x
      have : ordB (greatV 65536 es) = ordB (greatV 1073741824 es) := by funext y; unfold ordB; rw [e1, e2]
      unfold ordZ; rw [this]
    have hv : ∀ x ∈ es, varZ (greatV 65536 es) x = varZ (greatV 1073741824 es) x := by
      intro x hx
      have hi : varZ (greatV 65536 es) x = 0 ↔ varZ (greatV 1073741824 es) x = 0 := by
        rw [var_iff, var_iff]
        refine and_congr (forall_congr' fun y => forall_congr' fun hy => forall_congr' fun _ => and_congr ?_ Iff.rfl) Iff.rfl
        have := hP x hx y hy
        constructor <;> intro _ <;> omega
      have two : ∀ g, varZ g x = 0 ∨ varZ g x = 111 := fun g => by unfold varZ; split <;> simp
      rcases two (greatV 65536 es) with h | h
      · rw [h]; exact (hi.1 h).symm
      · rcases two (greatV 1073741824 es) with h' | h'
        · rw [hi.2 h'] at h; cases h
        · rw [h, h']
    have hf : fstZ (varZ (greatV 65536 es)) 0 es = fstZ (varZ (greatV 1073741824 es)) 0 es := by
      have key : ∀ (l : List Ent) (i : Nat), (∀ x ∈ l, varZ (greatV 65536 es) x = varZ (greatV 1073741824 es) x) → fstZ (varZ (greatV 65536 es)) i l = fstZ (varZ (greatV 1073741824 es)) i l := by
        intro l
        induction l with
        | nil => intro i _; rfl
        | cons x l ih => intro i h; rw [fstZ, fstZ, h x (List.mem_cons_self ..), ih (i + 1) (fun y hy => h y (List.mem_cons_of_mem _ hy))]
      exact key es 0 hv
    unfold vres rres vchk
    rw [ho, hf]
  · unfold vres rres vchk
    by_cases hv : verB ver.data.toList = false
    · rw [if_pos hv, if_pos hv]
    · rw [if_neg hv, if_neg hv]
      by_cases hr : rngC rs ≠ 0
      · rw [if_pos hr, if_pos hr]
      · rw [if_neg hr, if_neg hr, if_pos h3, if_pos h3]
end
end Go.Proofs.YtnglhgogkemgbaaGreatDoor
