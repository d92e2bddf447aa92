/- Get and Longest of a trie that is made. The reference: lists alike, and what begins with what. The reference: what begins, what is found, the longest match; whether entries are few. UTF-8 as the model writes it is the form of the document; forms tell their numbers. -/
import Derived.Test.YtnglhgogkemgbaaGreatDoorG36
import Derived.Test.YtnglhgogkemgbaaGreatDoorG01
import Derived.Deep.RegionHeld
import Derived.Laws.StructEq
import Derived.Laws.Cover4
namespace Go.Proofs.YtnglhgogkemgbaaGreatDoor
open Go.RowKit

/-- the elements of an entry -/
def elsOf (es : List Ent) (o : Option Nat) : List El := match o with | none => [] | some i => match es[i]? with | some e => e.2 | none => []
def lenOf (es : List Ent) (o : Option Nat) : Nat := match o with | none => 0 | some i => match es[i]? with | some e => e.1.length | none => 0
/-- behind Get and Longest: what is told lies in new memory, one question has been asked -/
def AskEnd (B : Nat) (W : World) (tb : Nat) (es : List Ent) (N : NMap) (root : Nat) (lv : Value) (n : Nat) (asked : Int) (vs : List (Value × Value)) (u : Value) (xs : List El) (w' : World) : Prop :=
  ElsIn (Lf W.heap.size w') w' u xs ∧ NewAt B w' tb es es (es.map (·.1)) N root lv n (asked + 1) vs ∧ Only (fun k => k = tb) W w'
theorem askEnd_up {B : Nat} {W W1 w2 : World} {tb root n : Nat} {es : List Ent} {N : NMap} {lv : Value} {asked : Int} {vs : List (Value × Value)} {u : Value} {xs : List El}
    (h : NewAt B W1 tb es es (es.map (·.1)) N root lv n (asked + 1) vs) (ho : Only (fun k => k = tb) W W1) (hb : Below W1.heap.size W1 w2) (hu : ElsIn (Lf W1.heap.size w2) w2 u xs) : AskEnd B W tb es N root lv n asked vs u xs w2 :=
  ⟨hu.lf ⟨Nat.le_refl _, fun _ _ _ => rfl⟩ ho.size, h.below hb, ho.below hb⟩
variable {B : Nat} {W W' : World} {tb root n : Nat} {es : List Ent} {N : NMap} {lv : Value} {asked : Int} {vs : List (Value × Value)}

set_option maxHeartbeats 4000000 in
set_option maxRecDepth 100000 in
theorem get_any (R : Nat → Prop) (codes : List Int) (v : Value) (h : NewAt B W tb es es (es.map (·.1)) N root lv n asked vs) (hR : ∀ b, R b → b ≠ tb) (hv : IntsIn R .i32 W v codes) (hl : codes.length ≤ maxLen) (hw : ∀ r ∈ codes, (Lit.int .i32 r).wf = true)
    (h0 : 0 ≤ asked) (h1 : asked < 1000000) (hok : ∀ x ∈ es, EntOk x) (hes : es.length ≤ 140737488351232) :
    Calls Tryz.prog 54 #[.pointer (some ⟨tb, 0, none⟩), v] W fun e w' => ∃ u, e = .returned (.tuple #[u, .bool (idx es codes).isSome]) ∧ AskEnd B W tb es N root lv n asked vs u (elsOf es (idx es codes)) w' := by
  obtain ⟨s0, s1, s2, s3, sf⟩ := h.cells
  have sf3 := sf 3
  have HA := Lib.hid (h.ask (asked + 1))
  have HO : Hid (Only (fun k => k = tb) W (W.setCell ⟨tb, 3, none⟩ (.int .i64 (asked + 1)))) := (Only.refl (fun k => k = tb) W).setCell (p := ⟨tb, 3, none⟩) rfl _
  have HD := Lib.hid (down_any R codes v HA.out (hv.kept (Kept.only HO.out hR)) hl hw)
  have HAD := Lib.hid (add_any tb 3 asked W s3 sf3 h0 h1)
  have HH := Lib.hid h
  clear s1 s2 s3 sf sf3 hv hl hw h
  cases hN : N codes with
  | none =>
    have HI : Hid (idx es codes = none) := by
      show _ = _
      cases hx : idx es codes with
      | none => rfl
      | some i =>
        obtain ⟨x, g1, g2⟩ := idx_some hx
        exact absurd hN ((HH.out.dom codes).2 (.inr ⟨x.1, List.mem_map_of_mem (List.mem_of_getElem? g1), by rw [g2]; exact List.prefix_refl _⟩))
    have HN := Lib.hid hN
    clear hN
    go_enter Tryz.func54, Tryz.ntmps54
    go_wp2_with fail
    refine (is_yes _ s0).mono ?_
    rintro e w1 ⟨rfl, rfl⟩
    go_wp2_with fail
    refine HAD.out.mono ?_
    rintro e w1 ⟨rfl, rfl⟩
    go_wp2_with fail
    refine HD.out.mono ?_
    rw [HN.out]
    rintro e w1 ⟨rfl, rfl⟩
    simp only [ndV, Option.map_none, ptrV]
    go_wp2_with fail
    go_ret2
    exact ⟨_, by rw [HI.out]; rfl, by rw [HI.out]; exact askEnd_up HA.out HO.out (Below.refl _ _) (.nil _ _)⟩
  | some pr =>
    obtain ⟨nb, mb⟩ := pr
    have c1 := HA.out.mem.cell1 hN
    have HN := Lib.hid hN
    clear hN
    cases hi : idx es codes with
    | none =>
      rw [entOf_neg hi] at c1
      go_enter Tryz.func54, Tryz.ntmps54
      go_wp2_with fail
      refine (is_yes _ s0).mono ?_
      rintro e w1 ⟨rfl, rfl⟩
      go_wp2_with fail
      refine HAD.out.mono ?_
      rintro e w1 ⟨rfl, rfl⟩
      go_wp2_with fail
      refine HD.out.mono ?_
      rw [HN.out]
      rintro e w1 ⟨rfl, rfl⟩
      simp only [ndV, Option.map_some, ptrV]
      go_wp2_with fail
      go_ret2
      exact ⟨_, by rfl, askEnd_up HA.out HO.out (Below.refl _ _) (.nil _ _)⟩
    | some i =>
      rw [entOf_pos hi] at c1
      obtain ⟨x, hx, _⟩ := idx_some hi
      have HE : Hid (elsOf es (some i) = x.2) := by show elsOf es (some i) = x.2; unfold elsOf; simp only [hx]
      obtain ⟨g, cap, c, u, hlv, rc, ru, hgl, _, hue⟩ := HA.out.rowAt hx
      have HUE := Lib.hid hue
      obtain ⟨pu, cu, rfl, _⟩ := hue
      have HOX := Lib.hid (hok x (List.mem_of_getElem? hx))
      have hil : i < es.length := (List.getElem?_eq_some_iff.1 hx).1
      have s2' := HA.out.cells.2.2.1
      rw [hlv] at s2'
      clear hi hx hok rc
      go_enter Tryz.func54, Tryz.ntmps54
      go_wp2_with fail
      refine (is_yes _ s0).mono ?_
      rintro e w1 ⟨rfl, rfl⟩
      go_wp2_with fail
      refine HAD.out.mono ?_
      rintro e w1 ⟨rfl, rfl⟩
      go_wp2_with fail
      refine HD.out.mono ?_
      rw [HN.out]
      rintro e w1 ⟨rfl, rfl⟩
      simp only [ndV, Option.map_some, ptrV]
      clear s0
      go_wp2
      have HC := Lib.hid (cloneE_any _ _ _ (W.setCell ⟨tb, 3, none⟩ (.int .i64 (asked + 1))).drew (HUE.out.kept (Kept.below (Below.refl _ _).drew)) HOX.out.2.1)
      generalize W.setCell ⟨tb, 3, none⟩ (.int .i64 (asked + 1)) = W1 at *
      go_region_with (refine HC.out.mono ?_; rintro e w5 ⟨u5, rfl, hu5, hb5⟩; have HU5 := Lib.hid hu5; obtain ⟨p5, c5, rfl, _⟩ := hu5; have HB5 := Lib.hid hb5)
      all_goals
        go_wp2
        go_ret2
        exact ⟨_, by rfl, by rw [HE.out]; exact askEnd_up HA.out HO.out ((Below.refl _ W1).drew.trans HB5.out) HU5.out⟩

end Go.Proofs.YtnglhgogkemgbaaGreatDoor
namespace Go.Proofs.YtnglhgogkemgbaaGreatDoor
open Go.RowKit

theorem take_eq_step {xs ys : List Int} {k : Nat} (hl : xs.length = ys.length) (hk : k < xs.length) (h : xs.take k = ys.take k) : (xs.take (k + 1) = ys.take (k + 1) ↔ xs.getD k 0 = ys.getD k 0) := by
  have e1 : xs.take (k + 1) = xs.take k ++ [xs.getD k 0] := take_snoc' (by rw [List.getD_eq_getElem?_getD, List.getElem?_eq_getElem hk]; rfl)
  have e2 : ys.take (k + 1) = ys.take k ++ [ys.getD k 0] := take_snoc' (by rw [List.getD_eq_getElem?_getD, List.getElem?_eq_getElem (show k < ys.length by omega)]; rfl)
  rw [e1, e2, h]
  constructor
  · intro e; have := List.append_cancel_left e; simpa using this
  · intro e; rw [e]

set_option maxHeartbeats 2000000 in
set_option maxRecDepth 100000 in
theorem runes_any (R Q : Nat → Prop) (xs ys : List Int) (v u : Value) (w : World) (hv : IntsIn R .i32 w v xs) (hu : IntsIn Q .i32 w u ys) (hx : xs.length ≤ maxLen) (hy : ys.length ≤ maxLen) :
    Calls Tryz.prog 64 #[v, u] w fun e w' => e = .returned (.bool (decide (xs = ys))) ∧ Below w.heap.size w w' := by
  have HV := Lib.hid hv
  have HU := Lib.hid hu
  obtain ⟨p, cp, rfl, _⟩ := hv
  obtain ⟨q, cq, rfl, _⟩ := hu
  unfold maxLen at hx hy
  by_cases hlen : xs.length = ys.length
  · have hne : ((xs.length : Int) != (ys.length : Int)) = false := by rw [hlen]; simp
    have hne' : (xs.length != ys.length) = false := by rw [hlen]; simp
    have HLN := Lib.hid hlen
    clear hlen
    go_enter Tryz.func64, Tryz.ntmps64
    go_wp2
    go_loopw [13] (fun i wr => ∃ k : Nat, i = .int .i64 k ∧ (k ≤ xs.length ∧ xs.take k = ys.take k) ∧ Below w.heap.size w wr) (fun i _ => xs.length - (intOf i).toNat)
    case atStart => exact ⟨0, rfl, ⟨Nat.zero_le _, by simp⟩, Below.refl _ _⟩
    case round =>
      obtain ⟨k, rfl, hr, hbr⟩ := hrel
      have HR := Lib.hid hr
      have HB := Lib.hid hbr
      by_cases hlt : k < xs.length
      · have hlt' : decide (k < xs.length) = true := decide_eq_true hlt
        obtain ⟨b, o, rfl, _, hb, hc⟩ := (HV.out.kept (Kept.below hbr)).at k hlt
        obtain ⟨b2, o2, rfl, _, hb2, hc2⟩ := (HU.out.kept (Kept.below hbr)).at k (by have := HLN.out; omega)
        have hlty : k < ys.length := (by have := HLN.out; omega)
        have HT := Lib.hid (take_eq_step HLN.out hlt hr.2)
        have HL := Lib.hid hlt
        generalize xs.getD k 0 = x at hc HT
        generalize ys.getD k 0 = y at hc2 HT
        clear hr hbr
        by_cases hxy : x = y
        · have hxy' : (x != y) = false := by rw [hxy]; simp
          have HN := Lib.hid (HT.out.2 hxy)
          clear hxy
          go_wp2
          go_quiet (fail)
          go_wp2
          go_roundw
          case rel => exact ⟨k + 1, by go_num, ⟨HL.out, HN.out⟩, HB.out.trans (below_drewN (Below.refl _ _) _)⟩
          case measure => (have hq := HL.out; simp [intOf]; omega)
        · have hxy' : (x != y) = true := by simpa using hxy
          have HN : Hid (decide (xs = ys) = false) := by
            show _ = _
            rw [decide_eq_false_iff_not]; intro e; exact hxy (HT.out.1 (by rw [e]))
          clear hxy
          go_wp2
          go_quiet (fail)
          go_wp2
          go_ret
          exact ⟨by rw [HN.out]; rfl, HB.out.trans (below_drewN (Below.refl _ _) _)⟩
      · have hlt' : decide (k < xs.length) = false := decide_eq_false hlt
        have HN : Hid (decide (xs = ys) = true) := by
          show _ = _
          rw [decide_eq_true_eq]
          have := hr.2
          rwa [List.take_of_length_le (by omega), List.take_of_length_le (by have := HLN.out; omega)] at this
        clear hlt hr hbr
        go_wp2
        go_ret
        exact ⟨by rw [HN.out]; rfl, HB.out⟩
  · have hne : ((xs.length : Int) != (ys.length : Int)) = true := by simpa using (show ¬ (xs.length : Int) = (ys.length : Int) by omega)
    have hne' : (xs.length != ys.length) = true := by simpa using hlen
    have HN : Hid (decide (xs = ys) = false) := by
      show _ = _
      rw [decide_eq_false_iff_not]; intro e; exact hlen (by rw [e])
    clear hlen
    go_enter Tryz.func64, Tryz.ntmps64
    go_wp2
    go_ret
    exact ⟨by rw [HN.out]; rfl, Below.refl _ _⟩

/-- the beginning of a slice -/
theorem IntsIn.cut {R : Nat → Prop} {k : IntKind} {w : World} {p : Option Addr} {len cap : Nat} {xs : List Int} (h : IntsIn R k w (.slice p len cap) xs) (m c : Nat) (hm : m ≤ xs.length) (hc : m ≤ c ∧ c ≤ maxLen) : IntsIn R k w (.slice p m c) (xs.take m) := by
  obtain ⟨p', cap', h1, _, h2⟩ := h
  cases h1
  refine ⟨p, c, by rw [List.length_take, Nat.min_eq_left hm], ⟨by rw [List.length_take, Nat.min_eq_left hm]; exact hc.1, hc.2⟩, fun i x hx => ?_⟩
  have hi : i < m := by have := (List.getElem?_eq_some_iff.1 hx).1; rw [List.length_take] at this; omega
  rw [List.getElem?_take_of_lt hi] at hx
  exact h2 i x hx
end Go.Proofs.YtnglhgogkemgbaaGreatDoor
namespace Go.Proofs.YtnglhgogkemgbaaGreatDoor
open Go.RowKit

theorem idx_here {es : List Ent} {k : Nat} {x : Ent} {codes : List Int} (hx : es[k]? = some x) (h : ∀ y ∈ es.take k, y.1 ≠ codes) (hc : x.1 = codes) : idx es codes = some k := by
  unfold idx
  rw [List.findIdx?_eq_some_iff_getElem]
  obtain ⟨hk, rfl⟩ := List.getElem?_eq_some_iff.1 hx
  refine ⟨hk, by simpa using hc, fun j hj => ?_⟩
  have : es[j] ∈ es.take k := by rw [List.mem_take_iff_getElem]; exact ⟨j, by omega, rfl⟩
  simpa using h _ this
theorem idx_nowhere {es : List Ent} {codes : List Int} (h : ∀ y ∈ es, y.1 ≠ codes) : idx es codes = none := by
  unfold idx
  rw [List.findIdx?_eq_none_iff]
  intro y hy; simpa using h y hy
theorem all_take_stepE {es : List Ent} {k : Nat} {x : Ent} {f : Ent → Prop} (hx : es[k]? = some x) (h : ∀ y ∈ es.take k, f y) (hf : f x) : ∀ y ∈ es.take (k + 1), f y := by
  rw [take_snocE hx]
  intro y hy
  rcases List.mem_append.1 hy with hy | hy
  · exact h y hy
  · simp only [List.mem_singleton] at hy; rw [hy]; exact hf

set_option maxHeartbeats 4000000 in
set_option maxRecDepth 100000 in
theorem rGet_any (R Q : Nat → Prop) (es : List Ent) (codes : List Int) (v u : Value) (w : World) (hv : EntsIn R w v es) (hu : IntsIn Q .i32 w u codes) (hok : ∀ x ∈ es, EntOk x) (hl : es.length ≤ 140737488351232) (hc : codes.length ≤ 140737488351232) :
    Calls Tryz.prog 28 #[v, u] w fun e w' => ∃ z, e = .returned (.tuple #[z, .bool (idx es codes).isSome]) ∧ ElsIn R w' z (elsOf es (idx es codes)) ∧ Below w.heap.size w w' := by
  have HV := Lib.hid hv
  have HU := Lib.hid hu
  obtain ⟨p, cp, rfl, _⟩ := hv
  obtain ⟨q, cq, rfl, _⟩ := hu
  have HOK := Lib.hid hok
  have HCL := Lib.hid hc
  clear hok hc
  go_enter Tryz.func28, Tryz.ntmps28
  go_wp2
  go_loopw [10] (fun i wr => ∃ k : Nat, i = .int .i64 k ∧ (k ≤ es.length ∧ ∀ y ∈ es.take k, y.1 ≠ codes) ∧ Below w.heap.size w wr) (fun i _ => es.length - (intOf i).toNat)
  case atStart => exact ⟨0, rfl, ⟨Nat.zero_le _, by simp⟩, Below.refl _ _⟩
  case round =>
    obtain ⟨k, rfl, hr, hbr⟩ := hrel
    have HR := Lib.hid hr
    have HB := Lib.hid hbr
    clear hr
    by_cases hlt : k < es.length
    · have hlt' : decide (k < es.length) = true := decide_eq_true hlt
      obtain ⟨x, hx⟩ : ∃ x, es[k]? = some x := ⟨es[k], List.getElem?_eq_getElem hlt⟩
      obtain ⟨b, o, c, el, rfl, hbR, hbl, hc0, hc1, hci, hue⟩ := (HV.out.kept (Kept.below hbr)).at k x hx
      have HCI := Lib.hid hci
      have HUE := Lib.hid hue
      obtain ⟨pc, cc, rfl, _⟩ := hci
      obtain ⟨pu, cu, rfl, _⟩ := hue
      have HX := Lib.hid hx
      have HL := Lib.hid hlt
      have HX1 := Lib.hid (HOK.out x (List.mem_of_getElem? hx)).1
      have HBW : Hid (Below wr.heap.size wr (wr.alloc (.cells #[.slice pc x.1.length cc, .slice pu x.2.length cu] 45))) := (Below.refl _ _).alloc (Nat.le_refl _) _
      clear hx hlt hbr
      go_wp2_with fail
      refine (runes_any R Q x.1 codes _ _ _ (HCI.out.kept (Kept.below HBW.out)) (HU.out.kept (Kept.below (HB.out.trans (HBW.out.mono HB.out.size)))) (by have := HX1.out; unfold maxLen; omega) (by have := HCL.out; unfold maxLen; omega)).mono ?_
      rintro e w2 ⟨rfl, hb2⟩
      have k1 : w2.cell? ⟨wr.heap.size, 1, none⟩ = some (.slice pu x.2.length cu) := by rw [hb2.cell (p := ⟨wr.heap.size, 1, none⟩) (by simp)]; simp [go_sem]
      have HB2 : Hid (Below w.heap.size w w2) := (HB.out.trans (HBW.out.mono HB.out.size)).trans (hb2.mono (Nat.le_trans HB.out.size HBW.out.size))
      have HU2 := Lib.hid (HUE.out.kept (Kept.below (HBW.out.trans (hb2.mono HBW.out.size))))
      clear hb2
      by_cases hp : x.1 = codes
      · have HI := Lib.hid (idx_here HX.out HR.out.2 hp)
        rw [decide_eq_true hp]
        clear hp
        go_wp2_with fail
        go_ret2
        refine ⟨_, by rw [HI.out]; rfl, ?_, HB2.out⟩
        rw [HI.out]
        have := HU2.out
        unfold elsOf
        simp only [HX.out]; exact this
      · have HT := Lib.hid (all_take_stepE (f := fun y => y.1 ≠ codes) HX.out HR.out.2 hp)
        rw [decide_eq_false hp]
        clear hp
        go_wp2_with fail
        go_roundw
        case rel => exact ⟨k + 1, by go_num, ⟨HL.out, HT.out⟩, HB2.out⟩
        case measure => (have hq := HL.out; simp [intOf]; omega)
    · have hlt' : decide (k < es.length) = false := decide_eq_false hlt
      have HT : Hid (idx es codes = none) := idx_nowhere (by have := HR.out.2; rwa [List.take_of_length_le (by omega)] at this)
      clear hlt hbr
      go_wp2
      go_ret2
      exact ⟨_, by rw [HT.out]; rfl, by rw [HT.out]; exact .nil _ _, HB.out⟩

end Go.Proofs.YtnglhgogkemgbaaGreatDoor
namespace Go.Proofs.YtnglhgogkemgbaaGreatDoor
open Go.RowKit

/-- a text's bytes as numbers -/
def nums (s : ByteArray) : List Int := s.data.toList.map fun b => (b.toNat : Int)
theorem ord_cons (x y : Int) (xs ys : List Int) : ord (x :: xs) (y :: ys) = if x < y then -1 else if y < x then 1 else ord xs ys := rfl
/-- forms stand in order as their scalars do -/
theorem ord_enc (r t : Int) (hr : 0 ≤ r ∧ r ≤ 1114111) (ht : 0 ≤ t ∧ t ≤ 1114111) (X Y : List Int) :
    ord (enc r ++ X) (enc t ++ Y) = if r < t then -1 else if t < r then 1 else ord X Y := by
  unfold enc
  by_cases a1 : r < 128
  · rw [if_pos a1]
    by_cases b1 : t < 128
    · rw [if_pos b1]; rfl
    · rw [if_neg b1]
      rw [if_pos (show r < t by omega)]
      (repeat' split) <;> (simp only [List.cons_append, ord_cons]; rw [if_pos (by omega)])
  rw [if_neg a1]
  by_cases a2 : r < 2048
  · rw [if_pos a2]
    by_cases b1 : t < 128
    · rw [if_pos b1, if_neg (show ¬ r < t by omega), if_pos (show t < r by omega)]
      simp only [List.cons_append, ord_cons]; rw [if_neg (by omega), if_pos (by omega)]
    rw [if_neg b1]
    by_cases b2 : t < 2048
    · rw [if_pos b2]
      simp only [List.cons_append, List.nil_append, ord_cons]
      by_cases h : r < t
      · rw [if_pos h]
        by_cases h1 : r / 64 = t / 64
        · rw [if_neg (by omega), if_neg (by omega), if_pos (by omega)]
        · rw [if_pos (by omega)]
      · rw [if_neg h]
        by_cases h' : t < r
        · rw [if_pos h']
          by_cases h1 : r / 64 = t / 64
          · rw [if_neg (by omega), if_neg (by omega), if_neg (by omega), if_pos (by omega)]
          · rw [if_neg (by omega), if_pos (by omega)]
        · rw [if_neg h']
          have : r = t := by omega
          subst this
          rw [if_neg (by omega), if_neg (by omega), if_neg (by omega), if_neg (by omega)]
    · rw [if_neg b2, if_pos (show r < t by omega)]
      (repeat' split) <;> (simp only [List.cons_append, ord_cons]; rw [if_pos (by omega)])
  rw [if_neg a2]
  by_cases a3 : r < 65536
  · rw [if_pos a3]
    by_cases b1 : t < 128
    · rw [if_pos b1, if_neg (show ¬ r < t by omega), if_pos (show t < r by omega)]
      simp only [List.cons_append, ord_cons]; rw [if_neg (by omega), if_pos (by omega)]
    rw [if_neg b1]
    by_cases b2 : t < 2048
    · rw [if_pos b2, if_neg (show ¬ r < t by omega), if_pos (show t < r by omega)]
      simp only [List.cons_append, ord_cons]; rw [if_neg (by omega), if_pos (by omega)]
    rw [if_neg b2]
    by_cases b3 : t < 65536
    · rw [if_pos b3]
      simp only [List.cons_append, List.nil_append, ord_cons]
      by_cases h : r < t
      · rw [if_pos h]
        by_cases h1 : r / 4096 = t / 4096
        · rw [if_neg (by omega), if_neg (by omega)]
          by_cases h2 : r / 64 % 64 = t / 64 % 64
          · rw [if_neg (by omega), if_neg (by omega), if_pos (by omega)]
          · rw [if_pos (by omega)]
        · rw [if_pos (by omega)]
      · rw [if_neg h]
        by_cases h' : t < r
        · rw [if_pos h']
          by_cases h1 : r / 4096 = t / 4096
          · rw [if_neg (by omega), if_neg (by omega)]
            by_cases h2 : r / 64 % 64 = t / 64 % 64
            · rw [if_neg (by omega), if_neg (by omega), if_neg (by omega), if_pos (by omega)]
            · rw [if_neg (by omega), if_pos (by omega)]
          · rw [if_neg (by omega), if_pos (by omega)]
        · rw [if_neg h']
          have : r = t := by omega
          subst this
          rw [if_neg (by omega), if_neg (by omega), if_neg (by omega), if_neg (by omega), if_neg (by omega), if_neg (by omega)]
    · rw [if_neg b3, if_pos (show r < t by omega)]
      simp only [List.cons_append, ord_cons]; rw [if_pos (by omega)]
  rw [if_neg a3]
  by_cases b1 : t < 128
  · rw [if_pos b1, if_neg (show ¬ r < t by omega), if_pos (show t < r by omega)]
    simp only [List.cons_append, ord_cons]; rw [if_neg (by omega), if_pos (by omega)]
  rw [if_neg b1]
  by_cases b2 : t < 2048
  · rw [if_pos b2, if_neg (show ¬ r < t by omega), if_pos (show t < r by omega)]
    simp only [List.cons_append, ord_cons]; rw [if_neg (by omega), if_pos (by omega)]
  rw [if_neg b2]
  by_cases b3 : t < 65536
  · rw [if_pos b3, if_neg (show ¬ r < t by omega), if_pos (show t < r by omega)]
    simp only [List.cons_append, ord_cons]; rw [if_neg (by omega), if_pos (by omega)]
  rw [if_neg b3]
  simp only [List.cons_append, List.nil_append, ord_cons]
  by_cases h : r < t
  · rw [if_pos h]
    by_cases h1 : r / 262144 = t / 262144
    · rw [if_neg (by omega), if_neg (by omega)]
      by_cases h2 : r / 4096 % 64 = t / 4096 % 64
      · rw [if_neg (by omega), if_neg (by omega)]
        by_cases h3 : r / 64 % 64 = t / 64 % 64
        · rw [if_neg (by omega), if_neg (by omega), if_pos (by omega)]
        · rw [if_pos (by omega)]
      · rw [if_pos (by omega)]
    · rw [if_pos (by omega)]
  · rw [if_neg h]
    by_cases h' : t < r
    · rw [if_pos h']
      by_cases h1 : r / 262144 = t / 262144
      · rw [if_neg (by omega), if_neg (by omega)]
        by_cases h2 : r / 4096 % 64 = t / 4096 % 64
        · rw [if_neg (by omega), if_neg (by omega)]
          by_cases h3 : r / 64 % 64 = t / 64 % 64
          · rw [if_neg (by omega), if_neg (by omega), if_neg (by omega), if_pos (by omega)]
          · rw [if_neg (by omega), if_pos (by omega)]
        · rw [if_neg (by omega), if_pos (by omega)]
      · rw [if_neg (by omega), if_pos (by omega)]
    · rw [if_neg h']
      have : r = t := by omega
      subst this
      simp

theorem enc_inj {xs ys : List Int} (hx : ∀ r ∈ xs, 0 ≤ r ∧ r ≤ 1114111) (hy : ∀ r ∈ ys, 0 ≤ r ∧ r ≤ 1114111) (h : xs.flatMap enc = ys.flatMap enc) : xs = ys := by
  induction xs generalizing ys with
  | nil =>
    cases ys with
    | nil => rfl
    | cons y ys =>
      rw [List.flatMap_nil, List.flatMap_cons] at h
      have := congrArg List.length h
      simp only [List.length_append, List.length_nil] at this
      have e : (enc y).length ≠ 0 := by unfold enc; (repeat' split) <;> simp
      omega
  | cons x xs ih =>
    cases ys with
    | nil =>
      rw [List.flatMap_nil, List.flatMap_cons] at h
      have := congrArg List.length h
      simp only [List.length_append, List.length_nil] at this
      have e : (enc x).length ≠ 0 := by unfold enc; (repeat' split) <;> simp
      omega
    | cons y ys =>
      rw [List.flatMap_cons, List.flatMap_cons] at h
      have ho := ord_enc x y (hx x (List.mem_cons_self ..)) (hy y (List.mem_cons_self ..)) (xs.flatMap enc) (ys.flatMap enc)
      rw [h, ord_refl] at ho
      have hxy : x = y := by
        by_cases c : x < y
        · rw [if_pos c] at ho; omega
        · rw [if_neg c] at ho
          by_cases c' : y < x
          · rw [if_pos c'] at ho; omega
          · omega
      subst hxy
      rw [List.append_cancel_left h |> ih (fun r hr => hx r (List.mem_cons_of_mem _ hr)) (fun r hr => hy r (List.mem_cons_of_mem _ hr))]
/-- a number that may be written -/
theorem encode_nums (r : Int) (h : 0 ≤ r ∧ r ≤ 1114111) (h2 : r < 55296 ∨ 57343 < r) : nums (Utf8.encode r) = enc r := by
  obtain ⟨n, rfl⟩ : ∃ n : Nat, r = n := ⟨r.toNat, by omega⟩
  have hv : Utf8.valid (n : Int) = true := by simp [Utf8.valid]; omega
  unfold Utf8.encode enc
  simp only [hv, if_true, Int.toNat_natCast]
  by_cases c1 : n < 128
  · rw [if_pos (show n < 0x80 from c1), if_pos (show (n : Int) < 128 by omega)]
    simp [nums]; omega
  rw [if_neg (show ¬ n < 0x80 from c1), if_neg (show ¬ (n : Int) < 128 by omega)]
  by_cases c2 : n < 2048
  · rw [if_pos (show n < 0x800 from c2), if_pos (show (n : Int) < 2048 by omega)]
    simp [nums]; omega
  rw [if_neg (show ¬ n < 0x800 from c2), if_neg (show ¬ (n : Int) < 2048 by omega)]
  by_cases c3 : n < 65536
  · rw [if_pos (show n < 0x10000 from c3), if_pos (show (n : Int) < 65536 by omega)]
    simp [nums]; omega
  rw [if_neg (show ¬ n < 0x10000 from c3), if_neg (show ¬ (n : Int) < 65536 by omega)]
  simp [nums]; omega
theorem nums_app (a b : ByteArray) : nums (a ++ b) = nums a ++ nums b := by simp [nums]
theorem runes_nums (xs : List Int) (h : ∀ r ∈ xs, (0 ≤ r ∧ r ≤ 1114111) ∧ (r < 55296 ∨ 57343 < r)) : nums (runesBytes xs) = xs.flatMap enc := by
  have key : ∀ (xs : List Int) (s : ByteArray), (∀ r ∈ xs, (0 ≤ r ∧ r ≤ 1114111) ∧ (r < 55296 ∨ 57343 < r)) → nums (xs.foldl (fun r n => r ++ Utf8.encode n) s) = nums s ++ xs.flatMap enc := by
    intro xs
    induction xs with
    | nil => intro s _; simp
    | cons x xs ih =>
      intro s h
      have hx := h x (List.mem_cons_self ..)
      rw [List.foldl_cons, ih _ (fun r hr => h r (List.mem_cons_of_mem _ hr)), nums_app, encode_nums x hx.1 hx.2, List.flatMap_cons, List.append_assoc]
  have := key xs ByteArray.empty h
  unfold runesBytes
  rw [this]; simp [nums]
theorem runes_inj {xs ys : List Int} (hx : ∀ r ∈ xs, (0 ≤ r ∧ r ≤ 1114111) ∧ (r < 55296 ∨ 57343 < r)) (hy : ∀ r ∈ ys, (0 ≤ r ∧ r ≤ 1114111) ∧ (r < 55296 ∨ 57343 < r)) (h : runesBytes xs = runesBytes ys) : xs = ys :=
  enc_inj (fun r hr => (hx r hr).1) (fun r hr => (hy r hr).1) (by rw [← runes_nums xs hx, ← runes_nums ys hy, h])
end Go.Proofs.YtnglhgogkemgbaaGreatDoor
