/- Get and Longest of a trie that is made. -/
import Derived.Test.YtcifoallahmjbaaTp
import Derived.Deep.RegionHeld
namespace Go.Proofs.Ytcifoallahmjbaa
open Go.RowKit

/-- the elements of an entry -/
def elsOf (es : List Ent) (o : Option Nat) : List El := match o with | none => [] | some i => match es[i]? with | some e => e.2 | none => []
def lenOf (es : List Ent) (o : Option Nat) : Nat := match o with | none => 0 | some i => match es[i]? with | some e => e.1.length | none => 0
/-- behind Get and Longest: what is told lies in new memory, one question has been asked -/
def AskEnd (B : Nat) (W : World) (tb : Nat) (es : List Ent) (N : NMap) (root : Nat) (lv : Value) (n : Nat) (asked : Int) (vs : List (Value × Value)) (u : Value) (xs : List El) (w' : World) : Prop :=
  ElsIn (Lf W.heap.size w') w' u xs ∧ NewAt B w' tb es es (es.map (·.1)) N root lv n (asked + 1) vs ∧ Only (fun k => k = tb) W w'
theorem askEnd_up {B : Nat} {W W1 w2 : World} {tb root n : Nat} {es : List Ent} {N : NMap} {lv : Value} {asked : Int} {vs : List (Value × Value)} {u : Value} {xs : List El}
    (h : NewAt B W1 tb es es (es.map (·.1)) N root lv n (asked + 1) vs) (ho : Only (fun k => k = tb) W W1) (hb : Below W1.heap.size W1 w2) (hu : ElsIn (Lf W1.heap.size w2) w2 u xs) : AskEnd B W tb es N root lv n asked vs u xs w2 :=
  ⟨hu.lf ⟨Nat.le_refl _, fun _ _ _ => rfl⟩ ho.size, h.below hb, ho.below hb⟩
variable {B : Nat} {W W' : World} {tb root n : Nat} {es : List Ent} {N : NMap} {lv : Value} {asked : Int} {vs : List (Value × Value)}

set_option maxHeartbeats 4000000 in
set_option maxRecDepth 100000 in
theorem get_any (R : Nat → Prop) (codes : List Int) (v : Value) (h : NewAt B W tb es es (es.map (·.1)) N root lv n asked vs) (hR : ∀ b, R b → b ≠ tb) (hv : IntsIn R .i32 W v codes) (hl : codes.length ≤ maxLen) (hw : ∀ r ∈ codes, (Lit.int .i32 r).wf = true)
    (h0 : 0 ≤ asked) (h1 : asked < 1000000) (hok : ∀ x ∈ es, EntOk x) (hes : es.length ≤ 140737488351232) :
    Calls Try.prog 12 #[.pointer (some ⟨tb, 0, none⟩), v] W fun e w' => ∃ u, e = .returned (.tuple #[u, .bool (idx es codes).isSome]) ∧ AskEnd B W tb es N root lv n asked vs u (elsOf es (idx es codes)) w' := by
  obtain ⟨s0, s1, s2, s3, sf⟩ := h.cells
  have sf3 := sf 3
  have HA := Lib.hid (h.ask (asked + 1))
  have HO : Hid (Only (fun k => k = tb) W (W.setCell ⟨tb, 3, none⟩ (.int .i64 (asked + 1)))) := (Only.refl (fun k => k = tb) W).setCell (p := ⟨tb, 3, none⟩) rfl _
  have HD := Lib.hid (down_any R codes v HA.out (hv.kept (Kept.only HO.out hR)) hl hw)
  have HAD := Lib.hid (add_any tb 3 asked W s3 sf3 h0 h1)
  have HH := Lib.hid h
  clear s1 s2 s3 sf sf3 hv hl hw h
  cases hN : N codes with
  | none =>
    have HI : Hid (idx es codes = none) := by
      show _ = _
      cases hx : idx es codes with
      | none => rfl
      | some i =>
        obtain ⟨x, g1, g2⟩ := idx_some hx
        exact absurd hN ((HH.out.dom codes).2 (.inr ⟨x.1, List.mem_map_of_mem (List.mem_of_getElem? g1), by rw [g2]; exact List.prefix_refl _⟩))
    have HN := Lib.hid hN
    clear hN
    go_enter Try.func12, Try.ntmps12
    go_wp2_with fail
    refine (is_yes _ s0).mono ?_
    rintro e w1 ⟨rfl, rfl⟩
    go_wp2_with fail
    refine HAD.out.mono ?_
    rintro e w1 ⟨rfl, rfl⟩
    go_wp2_with fail
    refine HD.out.mono ?_
    rw [HN.out]
    rintro e w1 ⟨rfl, rfl⟩
    simp only [ndV, Option.map_none, ptrV]
    go_wp2_with fail
    go_ret2
    exact ⟨_, by rw [HI.out]; rfl, by rw [HI.out]; exact askEnd_up HA.out HO.out (Below.refl _ _) (.nil _ _)⟩
  | some pr =>
    obtain ⟨nb, mb⟩ := pr
    have c1 := HA.out.mem.cell1 hN
    have HN := Lib.hid hN
    clear hN
    cases hi : idx es codes with
    | none =>
      rw [entOf_neg hi] at c1
      go_enter Try.func12, Try.ntmps12
      go_wp2_with fail
      refine (is_yes _ s0).mono ?_
      rintro e w1 ⟨rfl, rfl⟩
      go_wp2_with fail
      refine HAD.out.mono ?_
      rintro e w1 ⟨rfl, rfl⟩
      go_wp2_with fail
      refine HD.out.mono ?_
      rw [HN.out]
      rintro e w1 ⟨rfl, rfl⟩
      simp only [ndV, Option.map_some, ptrV]
      go_wp2_with fail
      go_ret2
      exact ⟨_, by rfl, askEnd_up HA.out HO.out (Below.refl _ _) (.nil _ _)⟩
    | some i =>
      rw [entOf_pos hi] at c1
      obtain ⟨x, hx, _⟩ := idx_some hi
      have HE : Hid (elsOf es (some i) = x.2) := by show elsOf es (some i) = x.2; unfold elsOf; simp only [hx]
      obtain ⟨g, cap, c, u, hlv, rc, ru, hgl, _, hue⟩ := HA.out.rowAt hx
      have HUE := Lib.hid hue
      obtain ⟨pu, cu, rfl, _⟩ := hue
      have HOX := Lib.hid (hok x (List.mem_of_getElem? hx))
      have hil : i < es.length := (List.getElem?_eq_some_iff.1 hx).1
      have s2' := HA.out.cells.2.2.1
      rw [hlv] at s2'
      clear hi hx hok rc
      go_enter Try.func12, Try.ntmps12
      go_wp2_with fail
      refine (is_yes _ s0).mono ?_
      rintro e w1 ⟨rfl, rfl⟩
      go_wp2_with fail
      refine HAD.out.mono ?_
      rintro e w1 ⟨rfl, rfl⟩
      go_wp2_with fail
      refine HD.out.mono ?_
      rw [HN.out]
      rintro e w1 ⟨rfl, rfl⟩
      simp only [ndV, Option.map_some, ptrV]
      clear s0
      go_wp2
      have HC := Lib.hid (cloneE_any _ _ _ (W.setCell ⟨tb, 3, none⟩ (.int .i64 (asked + 1))).drew (HUE.out.kept (Kept.below (Below.refl _ _).drew)) HOX.out.2.1)
      generalize W.setCell ⟨tb, 3, none⟩ (.int .i64 (asked + 1)) = W1 at *
      go_region_with (refine HC.out.mono ?_; rintro e w5 ⟨u5, rfl, hu5, hb5⟩; have HU5 := Lib.hid hu5; obtain ⟨p5, c5, rfl, _⟩ := hu5; have HB5 := Lib.hid hb5)
      all_goals
        go_wp2
        go_ret2
        exact ⟨_, by rfl, by rw [HE.out]; exact askEnd_up HA.out HO.out ((Below.refl _ W1).drew.trans HB5.out) HU5.out⟩

/-- the number of the best so far; -1: none -/
def bestI (o : Option Nat) : Int := match o with | none => -1 | some i => i
theorem bestI_step (es : List Ent) (codes : List Int) (k : Nat) : bestI (lgo es codes (k + 1)) = if 0 ≤ entOf es (codes.take (k + 1)) then entOf es (codes.take (k + 1)) else bestI (lgo es codes k) := by
  rw [lgo]
  unfold entOf
  cases idx es (codes.take (k + 1)) with
  | none => simp
  | some i => simp [bestI]
theorem keep3 {W1 V w5 : World} {tb g i : Nat} {a b c : Value} (h : V.cell? ⟨tb, 2, none⟩ = some a ∧ V.cell? ⟨g, i * 2, none⟩ = some b ∧ V.cell? ⟨g, i * 2 + 1, none⟩ = some c ∧ Below W1.heap.size W1 V) (ht : tb < W1.heap.size) (hg : g < W1.heap.size) (hb : Below V.heap.size V w5) :
    w5.cell? ⟨tb, 2, none⟩ = some a ∧ w5.cell? ⟨g, i * 2, none⟩ = some b ∧ w5.cell? ⟨g, i * 2 + 1, none⟩ = some c ∧ Below W1.heap.size W1 w5 := by
  have hs := h.2.2.2.size
  exact ⟨(hb.cell (p := ⟨tb, 2, none⟩) (by show tb < _; omega)).trans h.1, (hb.cell (p := ⟨g, _, none⟩) (by show g < _; omega)).trans h.2.1, (hb.cell (p := ⟨g, _, none⟩) (by show g < _; omega)).trans h.2.2.1, h.2.2.2.trans (hb.mono hs)⟩

set_option maxHeartbeats 8000000 in
set_option maxRecDepth 100000 in
theorem longest_any (R : Nat → Prop) (codes : List Int) (v : Value) (h : NewAt B W tb es es (es.map (·.1)) N root lv n asked vs) (hR : ∀ b, R b → b ≠ tb) (hv : IntsIn R .i32 W v codes) (hl : codes.length ≤ maxLen) (hw : ∀ r ∈ codes, (Lit.int .i32 r).wf = true)
    (h0 : 0 ≤ asked) (h1 : asked < 1000000) (hok : ∀ x ∈ es, EntOk x) (hes : es.length ≤ 140737488351232) :
    Calls Try.prog 13 #[.pointer (some ⟨tb, 0, none⟩), v] W fun e w' => ∃ u, e = .returned (.tuple #[.int .i64 (lenOf es (lgo es codes codes.length)), u]) ∧ AskEnd B W tb es N root lv n asked vs u (elsOf es (lgo es codes codes.length)) w' := by
  obtain ⟨s0, s1, s2, s3, sf⟩ := h.cells
  have sf3 := sf 3
  have HA := Lib.hid (h.ask (asked + 1))
  have HO : Hid (Only (fun k => k = tb) W (W.setCell ⟨tb, 3, none⟩ (.int .i64 (asked + 1)))) := (Only.refl (fun k => k = tb) W).setCell (p := ⟨tb, 3, none⟩) rfl _
  have HAD := Lib.hid (add_any tb 3 asked W s3 sf3 h0 h1)
  have HV := Lib.hid (hv.kept (Kept.only HO.out hR))
  obtain ⟨p, cp, rfl, _⟩ := hv
  have HW := Lib.hid hw
  have HH := Lib.hid h
  have t1 := HA.out.cells.2.1
  unfold maxLen at hl
  clear s1 s2 s3 sf sf3 hw h
  go_enter Try.func13, Try.ntmps13
  go_wp2_with fail
  refine (is_yes _ s0).mono ?_
  rintro e w1 ⟨rfl, rfl⟩
  go_wp2_with fail
  refine HAD.out.mono ?_
  rintro e w1 ⟨rfl, hw1⟩
  rw [hw1] at HA HO HV t1
  generalize hWE : w1 = W1 at *
  clear hw1 hWE s0 HAD
  go_wp2
  go_loop [6, 7, 23] (fun bv av jx => ∃ j nb mb : Nat, av = .pointer (some ⟨nb, 0, none⟩) ∧ jx = .int .i64 j ∧ j ≤ codes.length ∧ N (codes.take j) = some (nb, mb) ∧ bv = .int .i64 (bestI (lgo es codes j))) (fun _ _ jx => codes.length - (intOf jx).toNat)
  case atStart =>
    obtain ⟨rm, hrm⟩ := HA.out.rootN
    exact ⟨0, _, rm, rfl, rfl, Nat.zero_le _, hrm, rfl⟩
  case round =>
    obtain ⟨j, nb, mb, rfl, rfl, hj, hN, rfl⟩ := hrel
    have HN := Lib.hid hN
    have c0 := HA.out.mem.cell0 hN
    clear hN
    by_cases hjl : j < codes.length
    · have hjl' : decide (j < codes.length) = true := decide_eq_true hjl
      obtain ⟨b', o', rfl, _, _, hcr⟩ := HV.out.at j hjl
      have hwf : (Lit.int .i32 (codes.getD j 0)).wf = true := HW.out _ (by rw [List.getD_eq_getElem?_getD, List.getElem?_eq_getElem hjl]; exact List.getElem_mem _)
      have HTK : Hid (codes.take (j + 1) = codes.take j ++ [codes.getD j 0]) := take_snoc' (by rw [List.getD_eq_getElem?_getD, List.getElem?_eq_getElem hjl]; rfl)
      have hz : ∀ w, (zeroValue 55).run Try.prog w = .ok (.pointer none) w := fun _ => by kernel_rfl
      have HJL := Lib.hid hjl
      obtain ⟨r, hre⟩ : ∃ r, r = codes.getD j 0 := ⟨_, rfl⟩
      rw [← hre] at hcr hwf HTK
      have hlook := (HA.out.mem.map _ nb mb HN.out).lookup (t := 70) (e := 55) Try.underlying21 Try.underlying70 hz r hwf
      clear hre hwf hjl hz
      cases hn : N (codes.take j ++ [r]) with
      | some pr =>
        obtain ⟨nb', mb'⟩ := pr
        simp only [hn, Option.map_some, ptrV] at hlook
        have d1 := HA.out.mem.cell1 hn
        have HNN := Lib.hid hn
        have HST := Lib.hid (bestI_step es codes j)
        rw [HTK.out] at HST
        obtain ⟨en, hen⟩ : ∃ en, en = entOf es (codes.take j ++ [r]) := ⟨_, rfl⟩
        rw [← hen] at d1 HST
        clear hn hen
        by_cases hpos : 0 ≤ en
        · have hpos' : decide (0 ≤ en) = true := decide_eq_true hpos
          have HP := Lib.hid hpos
          clear hpos
          go_wp2
          go_round
          case rel => exact ⟨j + 1, nb', mb', rfl, by go_num, HJL.out, by rw [HTK.out]; exact HNN.out, by rw [HST.out, if_pos HP.out]⟩
          case measure => (have hq := HJL.out; simp [intOf]; omega)
        · have hpos' : decide (0 ≤ en) = false := decide_eq_false hpos
          have HP := Lib.hid hpos
          clear hpos
          go_wp2
          go_round
          case rel => exact ⟨j + 1, nb', mb', rfl, by go_num, HJL.out, by rw [HTK.out]; exact HNN.out, by rw [HST.out, if_neg HP.out]⟩
          case measure => (have hq := HJL.out; simp [intOf]; omega)
      | none =>
        simp only [hn, Option.map_none, ptrV] at hlook
        have hstop : lgo es codes codes.length = lgo es codes j := by
          have hnd : ¬ Dom (es.map (·.1)) (codes.take (j + 1)) := fun hd => by
            have := (HA.out.dom _).2 hd
            rw [HTK.out] at this; exact this hn
          have := lgo_stop hnd (codes.length - j)
          rwa [show j + (codes.length - j) = codes.length by have := HJL.out; omega] at this
        obtain ⟨bi, hbi⟩ : ∃ bi, bi = bestI (lgo es codes j) := ⟨_, rfl⟩
        rw [← hbi]
        rw [← hstop] at hbi
        have HBEST := hbi
        clear hn hstop hbi
        cases hL : lgo es codes codes.length with
        | none =>
          have HI := Lib.hid hL
          rw [hL] at HBEST
          simp only [bestI] at HBEST
          subst HBEST
          clear hL
          go_wp2
          go_ret2
          exact ⟨_, by rw [HI.out]; rfl, by rw [HI.out]; exact askEnd_up HA.out HO.out (Below.refl _ _) (.nil _ _)⟩
        | some i =>
          obtain ⟨x, hx, _, _⟩ := lgo_some hL
          have HE : Hid (elsOf es (some i) = x.2 ∧ lenOf es (some i) = x.1.length) := by refine ⟨?_, ?_⟩ <;> (first | (show elsOf es (some i) = x.2; unfold elsOf) | (show lenOf es (some i) = x.1.length; unfold lenOf)) <;> simp only [hx]
          obtain ⟨g, cap, c, u, hlv, rc, ru, hgl, hci, hue⟩ := HA.out.rowAt hx
          have HUE := Lib.hid hue
          obtain ⟨pu, cu, rfl, _⟩ := hue
          obtain ⟨pc, cc, rfl, _⟩ := hci
          have HOX := Lib.hid (hok x (List.mem_of_getElem? hx))
          have hil : i < es.length := (List.getElem?_eq_some_iff.1 hx).1
          have s2' := HA.out.cells.2.2.1
          have htb := HA.out.tlt
          rw [hlv] at s2'
          rw [hL] at HBEST
          simp only [bestI] at HBEST
          subst HBEST
          have HLL := Lib.hid hL
          clear hx hL
          go_wp2
          have HC := Lib.hid (fun (V : World) (hV : Below W1.heap.size W1 V) => cloneE_any _ x.2 (.slice pu x.2.length cu) V (HUE.out.kept (Kept.below hV)) HOX.out.2.1)
          go_region_held (fun V : World => V.cell? ⟨tb, 2, none⟩ = some (.slice (some ⟨g, 0, none⟩) es.length cap) ∧ V.cell? ⟨g, i * 2, none⟩ = some (.slice pc x.1.length cc) ∧ V.cell? ⟨g, i * 2 + 1, none⟩ = some (.slice pu x.2.length cu) ∧ Below W1.heap.size W1 V) (first | exact ⟨s2', rc, ru, (Below.refl _ _).drew⟩ | exact keep3 (by assumption) htb hgl (by assumption)) ((refine (HC.out _ (by first | exact (Below.refl _ _).drew | assumption)).mono ?_; rintro e w5 ⟨u5, rfl, hu5, hb5⟩; have HU5 := Lib.hid hu5; obtain ⟨p5, c5, rfl, _⟩ := hu5; have HB5 := Lib.hid hb5))
          go_wp2
          go_ret2
          exact ⟨_, by rw [HLL.out, HE.out.2]; rfl, by rw [HLL.out, HE.out.1]; exact askEnd_up HA.out HO.out ((Below.refl _ W1).drew.trans HB5.out) HU5.out⟩
    · have hjl' : decide (j < codes.length) = false := decide_eq_false hjl
      have hje : j = codes.length := by omega
      obtain ⟨bi, hbi⟩ : ∃ bi, bi = bestI (lgo es codes j) := ⟨_, rfl⟩
      rw [← hbi]
      rw [hje] at hbi
      have HBEST := hbi
      clear hjl hje hbi
      cases hL : lgo es codes codes.length with
      | none =>
        have HI := Lib.hid hL
        rw [hL] at HBEST
        simp only [bestI] at HBEST
        subst HBEST
        clear hL
        go_wp2
        go_ret2
        exact ⟨_, by rw [HI.out]; rfl, by rw [HI.out]; exact askEnd_up HA.out HO.out (Below.refl _ _) (.nil _ _)⟩
      | some i =>
        obtain ⟨x, hx, _, _⟩ := lgo_some hL
        have HE : Hid (elsOf es (some i) = x.2 ∧ lenOf es (some i) = x.1.length) := by refine ⟨?_, ?_⟩ <;> (first | (show elsOf es (some i) = x.2; unfold elsOf) | (show lenOf es (some i) = x.1.length; unfold lenOf)) <;> simp only [hx]
        obtain ⟨g, cap, c, u, hlv, rc, ru, hgl, hci, hue⟩ := HA.out.rowAt hx
        have HUE := Lib.hid hue
        obtain ⟨pu, cu, rfl, _⟩ := hue
        obtain ⟨pc, cc, rfl, _⟩ := hci
        have HOX := Lib.hid (hok x (List.mem_of_getElem? hx))
        have hil : i < es.length := (List.getElem?_eq_some_iff.1 hx).1
        have s2' := HA.out.cells.2.2.1
        have htb := HA.out.tlt
        rw [hlv] at s2'
        rw [hL] at HBEST
        simp only [bestI] at HBEST
        subst HBEST
        have HLL := Lib.hid hL
        clear hx hL
        go_wp2
        have HC := Lib.hid (fun (V : World) (hV : Below W1.heap.size W1 V) => cloneE_any _ x.2 (.slice pu x.2.length cu) V (HUE.out.kept (Kept.below hV)) HOX.out.2.1)
        go_region_held (fun V : World => V.cell? ⟨tb, 2, none⟩ = some (.slice (some ⟨g, 0, none⟩) es.length cap) ∧ V.cell? ⟨g, i * 2, none⟩ = some (.slice pc x.1.length cc) ∧ V.cell? ⟨g, i * 2 + 1, none⟩ = some (.slice pu x.2.length cu) ∧ Below W1.heap.size W1 V) (first | exact ⟨s2', rc, ru, (Below.refl _ _).drew⟩ | exact keep3 (by assumption) htb hgl (by assumption)) ((refine (HC.out _ (by first | exact (Below.refl _ _).drew | assumption)).mono ?_; rintro e w5 ⟨u5, rfl, hu5, hb5⟩; have HU5 := Lib.hid hu5; obtain ⟨p5, c5, rfl, _⟩ := hu5; have HB5 := Lib.hid hb5))
        go_wp2
        go_ret2
        exact ⟨_, by rw [HLL.out, HE.out.2]; rfl, by rw [HLL.out, HE.out.1]; exact askEnd_up HA.out HO.out ((Below.refl _ W1).drew.trans HB5.out) HU5.out⟩
end Go.Proofs.Ytcifoallahmjbaa
