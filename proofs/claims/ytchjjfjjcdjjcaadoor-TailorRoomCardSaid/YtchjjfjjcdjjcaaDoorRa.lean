/- The reference's test of entries ends, with some answer. -/
import Derived.Test.YtchjjfjjcdjjcaaDoorEnc
import Derived.Test.YtchjjfjjcdjjcaaDoorCl
import Derived.Test.YtchjjfjjcdjjcaaDoorOpenQ
import Derived.Laws.MakeOwn
import Derived.Lib.Strings
namespace Go.Proofs.YtchjjfjjcdjjcaaDoor
open Go.RowKit

def inW7 (n a b : Int) : Bool := decide (a ≤ n) && decide (n ≤ b)
def okW7 (p s t : Int) (v : Bool) : Bool :=
  inW7 p 0 65535 && inW7 s 0 511 && inW7 t 0 63 && !(decide (p ≠ 0) && (decide (s = 0) || decide (t = 0))) && !(decide (s ≠ 0) && decide (t = 0)) && !(v && decide (p = 0)) && decide (p < 64256)
def chkW7 (p s t : Int) (v : Bool) : Int := if okW7 p s t v then 0 else 70

set_option maxHeartbeats 2000000 in
set_option maxRecDepth 100000 in
theorem wrcheck_any (p s t : Int) (v : Bool) (w : World) :
    Calls Tryd.prog 26 #[.agg #[.int .i64 p, .int .i64 s, .int .i64 t, .bool v]] w fun e w' => e = .returned (.int .i64 (chkW7 p s t v)) ∧ Below w.heap.size w w' := by
  by_cases hg : (0 ≤ p ∧ p ≤ 65535) ∧ (0 ≤ s ∧ s ≤ 511) ∧ (0 ≤ t ∧ t ≤ 63)
  · obtain ⟨⟨p0, p1⟩, ⟨s0, s1⟩, ⟨t0, t1⟩⟩ := hg
    go_enter Tryd.func26, Tryd.ntmps26
    go_wp2
    all_goals go_ret
    all_goals refine ⟨?_, ?_⟩
    all_goals first | (go_grown; done) | (simp_all [chkW7, okW7, inW7]; done) | (simp_all [chkW7, okW7, inW7]; intros; omega)
  · have hc : chkW7 p s t v = 70 := by
      unfold chkW7; rw [if_neg]
      intro h
      simp [okW7, inW7] at h
      omega
    rw [hc]
    go_enter Tryd.func26, Tryd.ntmps26
    go_wp2
    all_goals first
      | (go_ret; exact ⟨rfl, by (repeat' (first | (with_reducible exact Below.refl _ _) | (with_reducible assumption) | (with_reducible refine Below.alloc ?_ ?_ _) | (with_reducible refine Below.drew ?_) | (with_reducible refine below_drewN ?_ _) | (with_reducible refine Below.setCell ?_ ?_ _) | (with_reducible refine Below.trans ?_ (Below.mono (by assumption) ?_)) | go_size))⟩)
      | (exfalso; omega)
set_option maxRecDepth 100000 in
theorem scalar5_any (r : Int) (w : World) :
    Calls Tryd.prog 25 #[.int .i32 r] w fun e w' => e = .returned (.bool (pt r)) ∧ w = w' := by
  go_enter Tryd.func25, Tryd.ntmps25
  go_wp2
  all_goals go_ret
  all_goals (refine ⟨?_, rfl⟩; show Ending.returned _ = _; unfold pt; first | (simp_all; done) | (simp_all; omega))
theorem Tryd.infoS : (Tryd.prog.info? 9).map (fun i => (i.zero, i.size, i.bytes)) = some (some (.string ⟨#[]⟩), 1, 16) := by kernel_rfl
/-- a slice of runes is read as a string -/
theorem runes_string {R : Nat → Prop} {w : World} {v : Value} {xs : List Int} (h : IntsIn R .i32 w v xs) (hne : xs ≠ []) : (convert 43 9 v).run Tryd.prog w = .ok (.string (runesBytes xs)) w := by
  obtain ⟨p, cap, rfl, _, h2⟩ := h
  cases xs with
  | nil => exact absurd rfl hne
  | cons x xs =>
    obtain ⟨b, o, rfl, _, _, _⟩ := h2 0 x rfl
    rw [run_convert_runes_string w _ _ _ _ _ _ Tryd.underlying43 Tryd.underlying21 Tryd.underlying9]
    refine run_runesToString w _ _ _ _ ?_
    have := run_loadCells_list (P := Tryd.prog) (w := w) ⟨b, o, none⟩ ((x :: xs).map (Value.int .i32)) (fun j v hj => by
      rw [List.getElem?_map] at hj
      cases hx : (x :: xs)[j]? with
      | none => rw [hx] at hj; cases hj
      | some y =>
        rw [hx] at hj; cases hj
        obtain ⟨b', o', e, _, _, hc⟩ := h2 j y hx
        cases e
        rw [addr_add]; exact hc)
    rwa [List.length_map] at this
theorem toList_injV {a b : ByteArray} (h : a.toList = b.toList) : a = b := by
  rw [Lib.toList_data, Lib.toList_data] at h
  exact ByteArray.ext (Array.ext' h)
theorem make_seen (w : World) (n : Nat) (hn : n ≤ 4000) : ∃ sv W0, (Instr.makeSlice 63 (.int .i64 0) (.int .i64 n)).run Tryd.prog w = .ok sv W0 ∧ W0.ownsRow w.heap.size 9 1 sv 0 [] ∧ Below w.heap.size w W0 := by
  obtain ⟨i0, hi0, hz0, hz1, hz2⟩ := info_parts Tryd.infoS
  obtain ⟨w', h1, h2, h3⟩ := run_make_own (P := Tryd.prog) w w.heap.size 63 9 i0 (.string ⟨#[]⟩) 1 Tryd.underlying63 hi0 hz0 hz1 .i64 .i64 n (by rw [hz2]; omega) (by unfold maxLen; omega) (Nat.le_refl _)
  exact ⟨_, w', h1, h2, (Below.refl _ w).grown h3 (Nat.le_refl _) (fun k hk => by cases hk)⟩
theorem ownsRow_growW {B n : Nat} {t : TypeId} {w w' : World} {v : Value} {k : Nat} {us : List Value} (h : w.ownsRow B t n v k us) (hb : Below w.heap.size w w') : w'.ownsRow B t n v k us := by
  rcases h.2 with ⟨e1, e2⟩ | ⟨g, cap, cur, e1, e2, e3, e4⟩
  · exact ⟨h.1, .inl ⟨e1, e2⟩⟩
  · exact ⟨h.1, .inr ⟨g, cap, cur, e1, e2, by rw [hb.block g (Array.getElem?_eq_some_iff.1 e3).1]; exact e3, e4⟩⟩
def strV (ss : List ByteArray) : List Value := ss.map Value.string
theorem str_cell {w : World} {B : Nat} {v : Value} {ss : List ByteArray} (h : w.ownsRow B 9 1 v ss.length (strV ss)) {p : Option Addr} {n cap : Nat} (hv : v = .slice p n cap) {j : Nat} {y : ByteArray} (hj : ss[j]? = some y) :
    ∃ g, p = some ⟨g, 0, none⟩ ∧ w.cell? ⟨g, j, none⟩ = some (.string y) := by
  rcases h.2 with ⟨_, e⟩ | ⟨g, cap', cur, e, _⟩
  · have := (List.getElem?_eq_some_iff.1 hj).1; omega
  · rw [hv] at e; cases e
    refine ⟨g, rfl, ?_⟩
    have := h.cells (g := g) (by rw [hv]; rfl) j (.string y) (by unfold strV; rw [List.getElem?_map, hj]; rfl)
    rwa [addr_add, Nat.zero_add] at this
def CkwRel (n : Nat) (w : World) (i : Nat) (sv : Value) (W : World) : Prop :=
  i ≤ n ∧ (∃ ss : List ByteArray, ss.length = i ∧ W.ownsRow w.heap.size 9 1 sv i (strV ss)) ∧ Below w.heap.size w W
set_option maxHeartbeats 8000000 in
set_option maxRecDepth 100000 in
theorem rCheckw_any (R : Nat → Prop) (es : List Ent) (v : Value) (w : World) (hv : EntsIn R w v es) (hok : ∀ x ∈ es, EntWf x) (hl : es.length ≤ 140737488351232) :
    Calls Tryd.prog 10 #[v] w fun e w' => ∃ a z, e = .returned (.tuple #[.int .i64 a, .int .i64 z]) ∧ Below w.heap.size w w' := by
  have HV := Lib.hid hv
  obtain ⟨p, cp, rfl, _⟩ := hv
  have HOK := Lib.hid hok
  clear hok
  by_cases hbig : 4000 < es.length
  · have hb1 : decide ((4000 : Int) < (es.length : Int)) = true := decide_eq_true (by omega)
    have hb2 : decide (4000 < es.length) = true := decide_eq_true hbig
    clear hbig
    go_enter Tryd.func10, Tryd.ntmps10
    go_wp2
    go_ret2
    exact ⟨_, _, rfl, Below.refl _ _⟩
  · have hb1 : decide ((4000 : Int) < (es.length : Int)) = false := decide_eq_false (by omega)
    have hb2 : decide (4000 < es.length) = false := decide_eq_false hbig
    have HBIG := Lib.hid hbig
    have hl4 : es.length ≤ 4000 := by omega
    obtain ⟨i0, hi0, hz0, hz1, hz2⟩ := info_parts Tryd.infoS
    obtain ⟨sv0, W0, hmk, hown0, hb0⟩ := make_seen w es.length hl4
    have HO0 := Lib.hid hown0
    have HB0 := Lib.hid hb0
    have hsv0 : ∃ p c, sv0 = .slice p 0 c := (by rcases hown0.2 with ⟨e, _⟩ | ⟨g, cap, cur, e, _⟩ <;> exact ⟨_, _, e⟩)
    obtain ⟨ps0, cs0, rfl⟩ := hsv0
    clear hbig hl hown0 hb0
    go_enter Tryd.func10, Tryd.ntmps10
    go_wp2
    go_loopw [4, 22] (fun sv ix wr => ∃ i : Nat, ix = .int .i64 i ∧ CkwRel es.length w i sv wr) (fun _ ix _ => es.length - (intOf ix).toNat)
    case atStart => exact ⟨0, rfl, Nat.zero_le _, ⟨[], rfl, HO0.out⟩, HB0.out⟩
    case round =>
      obtain ⟨i, rfl, hr⟩ := hrel
      obtain ⟨wo, rfl⟩ : ∃ wo : World, wo = wr := ⟨_, rfl⟩
      have HR := Lib.hid hr
      clear hr
      have hsv : ∃ p n c, u4 = .slice p n c := (by obtain ⟨_, _, hh⟩ := HR.out.2.1; rcases hh.2 with ⟨e, _⟩ | ⟨g, cap, cur, e, _⟩ <;> exact ⟨_, _, _, e⟩)
      obtain ⟨psv, nsv, csv, rfl⟩ := hsv
      have hns : nsv = i := (by obtain ⟨_, _, hh⟩ := HR.out.2.1; rcases hh.2 with ⟨e, e2⟩ | ⟨g, cap, cur, e, _⟩ <;> cases e <;> first | rfl | exact e2.symm)
      subst hns
      by_cases hlt : nsv < es.length
      · have hlt' : decide (nsv < es.length) = true := decide_eq_true hlt
        obtain ⟨x, hx⟩ : ∃ x, es[nsv]? = some x := ⟨es[nsv], List.getElem?_eq_getElem hlt⟩
        obtain ⟨b, o, c, u, rfl, hbR, hbl, hd0, hd1, hci, hue⟩ := HV.out.at nsv x hx
        have hc0 : wo.cell? ⟨b, o + nsv * 2, none⟩ = some c := (HR.out.2.2.cell (p := ⟨b, o + nsv * 2, none⟩) hbl).trans hd0
        have hc1 : wo.cell? ⟨b, o + nsv * 2 + 1, none⟩ = some u := (HR.out.2.2.cell (p := ⟨b, o + nsv * 2 + 1, none⟩) hbl).trans hd1
        have HX := Lib.hid hx
        have HLT := Lib.hid hlt
        have HOX := Lib.hid (HOK.out x (List.mem_of_getElem? hx))
        have hx1 : x.1.length ≤ 35184372087808 := by have := HOX.out.1; omega
        have hx2 : x.2.length ≤ 4398046510976 := by have := HOX.out.2.1; omega
        have HCI := Lib.hid hci
        have HUE := Lib.hid hue
        obtain ⟨pc, cc, rfl, _⟩ := hci
        obtain ⟨pu, cu, rfl, _⟩ := hue
        clear hx hlt hd0 hd1
        have HBW : Hid (Below w.heap.size w (wo.alloc (.cells #[.slice pc x.1.length cc, .slice pu x.2.length cu] 45))) := HR.out.2.2.alloc HR.out.2.2.size _
        have hi4 : nsv < 4000 := by have := HLT.out; omega
        by_cases ha : x.1.length < 1
        · skip
          have ha1 : decide ((x.1.length : Int) < 1) = true := decide_eq_true (by omega)
          have ha2 : decide (x.1.length < 1) = true := decide_eq_true ha
          have ha3 : x.1.length = 0 := by omega
          clear ha
          go_wp2
          go_ret2
          exact ⟨_, _, rfl, by have := HBW.out; rwa [ha3] at this⟩
        have ha1 : decide ((x.1.length : Int) < 1) = false := decide_eq_false (by omega)
        have ha2 : decide (x.1.length < 1) = false := decide_eq_false ha
        by_cases hb : 8 < x.1.length
        · skip
          have hb1 : decide ((8 : Int) < (x.1.length : Int)) = true := decide_eq_true (by omega)
          have hb2 : decide (8 < x.1.length) = true := decide_eq_true hb
          clear ha hb
          go_wp2
          go_ret2
          exact ⟨_, _, rfl, HBW.out⟩
        have hb1 : decide ((8 : Int) < (x.1.length : Int)) = false := decide_eq_false (by omega)
        have hb2 : decide (8 < x.1.length) = false := decide_eq_false hb
        have HLEN : Hid (¬ x.1.length < 1 ∧ ¬ 8 < x.1.length) := ⟨ha, hb⟩
        clear ha hb
        go_wp2
        go_loopw [41] (fun kv wr => ∃ k : Nat, kv = .int .i64 k ∧ k ≤ x.1.length ∧ Below (wo.heap.size + 1) (wo.alloc (.cells #[.slice pc x.1.length cc, .slice pu x.2.length cu] 45)) wr) (fun kv _ => x.1.length - (intOf kv).toNat)
        case atStart => exact ⟨0, rfl, Nat.zero_le _, Below.refl _ _⟩
        case round =>
          obtain ⟨k, rfl, hr, hbr⟩ := hrel
          have HR1 := Lib.hid hr
          have HBR1 := Lib.hid hbr
          clear hr hbr
          have HW1 : Hid (Below w.heap.size w wr) := HBW.out.trans (HBR1.out.mono (by have := HR.out.2.2.size; omega))
          by_cases hlt : k < x.1.length
          · have hlt' : decide (k < x.1.length) = true := decide_eq_true hlt
            obtain ⟨b', o', rfl, _, _, hcr⟩ := (HCI.out.kept (Kept.below HW1.out)).at k hlt
            have hxk : x.1[k]? = some (x.1.getD k 0) := by rw [List.getD_eq_getElem?_getD, List.getElem?_eq_getElem hlt]; rfl
            obtain ⟨r, hre⟩ : ∃ r, r = x.1.getD k 0 := ⟨_, rfl⟩
            rw [← hre] at hcr hxk
            have HXK := Lib.hid hxk
            have HL := Lib.hid hlt
            clear hre hlt hxk
            cases hp : pt r
            · skip
              go_wp2_with fail
              refine (scalar5_any _ _).mono ?_
              rw [hp]
              rintro e w2 ⟨rfl, rfl⟩
              go_wp2_with fail
              go_ret2
              exact ⟨_, _, rfl, HW1.out⟩
            · go_wp2_with fail
              refine (scalar5_any _ _).mono ?_
              rw [hp]
              rintro e w2 ⟨rfl, rfl⟩
              go_wp2_with fail
              go_roundw
              case rel => exact ⟨k + 1, by go_num, HL.out, HBR1.out⟩
              case measure => (have hq := HL.out; simp [intOf]; omega)
          · have hlt' : decide (k < x.1.length) = false := decide_eq_false hlt
            have k0 : wr.cell? ⟨wo.heap.size, 0, none⟩ = some (.slice pc x.1.length cc) := by rw [HBR1.out.cell (p := ⟨wo.heap.size, 0, none⟩) (by simp)]; simp [go_sem]
            have k1 : wr.cell? ⟨wo.heap.size, 1, none⟩ = some (.slice pu x.2.length cu) := by rw [HBR1.out.cell (p := ⟨wo.heap.size, 1, none⟩) (by simp)]; simp [go_sem]
            clear hlt
            obtain ⟨w1, rfl⟩ : ∃ w1 : World, w1 = wr := ⟨_, rfl⟩
            by_cases hl : 16 < x.2.length
            · skip
              have hl1 : decide ((16 : Int) < (x.2.length : Int)) = true := decide_eq_true (by omega)
              have hl2 : decide (16 < x.2.length) = true := decide_eq_true hl
              clear hl
              go_wp2
              go_ret2
              exact ⟨_, _, rfl, HW1.out⟩
            have hl1 : decide ((16 : Int) < (x.2.length : Int)) = false := decide_eq_false (by omega)
            have hl2 : decide (16 < x.2.length) = false := decide_eq_false hl
            have HL16 := Lib.hid hl
            clear hl
            go_wp2
            go_loopw [58] (fun kv wr => ∃ k : Nat, kv = .int .i64 k ∧ k ≤ x.2.length ∧ Below w1.heap.size w1 wr) (fun kv _ => x.2.length - (intOf kv).toNat)
            case atStart => exact ⟨0, rfl, Nat.zero_le _, Below.refl _ _⟩
            case round =>
              obtain ⟨k', rfl, hr, hbr⟩ := hrel
              have HR2 := Lib.hid hr
              have HBR2 := Lib.hid hbr
              clear hr hbr
              have HW2 : Hid (Below w.heap.size w wr) := HW1.out.trans (HBR2.out.mono HW1.out.size)
              by_cases hlt : k' < x.2.length
              · have hlt2' : decide (k' < x.2.length) = true := decide_eq_true hlt
                obtain ⟨y, hy⟩ : ∃ y, x.2[k']? = some y := ⟨x.2[k'], List.getElem?_eq_getElem hlt⟩
                obtain ⟨b', o', rfl, _, hbl', c0, c1, c2, c3⟩ := (HUE.out.kept (Kept.below HW2.out)).at k' y hy
                have HY := Lib.hid hy
                have HLT2 := Lib.hid hlt
                obtain ⟨yp, ys, yt, yv⟩ := y
                simp only at c0 c1 c2 c3
                clear hy hlt
                by_cases hk : chkW7 yp ys yt yv ≠ 0
                · skip
                  have hne : (chkW7 yp ys yt yv != 0) = true := by simpa using hk
                  clear hk
                  go_wp2_with fail
                  refine (wrcheck_any _ _ _ _ _).mono ?_
                  rintro e w2 ⟨rfl, hb2'⟩
                  have HB2 := Lib.hid hb2'
                  clear hb2'
                  go_wp2_with fail
                  go_ret2
                  exact ⟨_, _, rfl, HW2.out.trans ((((Below.refl _ wr).alloc (Nat.le_refl _) _).trans (HB2.out.mono (by simp))).mono HW2.out.size)⟩
                · have hne : (chkW7 yp ys yt yv != 0) = false := by simpa using hk
                  clear hk
                  go_wp2_with fail
                  refine (wrcheck_any _ _ _ _ _).mono ?_
                  rintro e w2 ⟨rfl, hb2'⟩
                  have HB2 := Lib.hid hb2'
                  clear hb2'
                  go_wp2_with fail
                  go_roundw
                  case rel => exact ⟨k' + 1, by go_num, HLT2.out, HBR2.out.trans ((((Below.refl _ wr).alloc (Nat.le_refl _) _).trans (HB2.out.mono (by simp))).mono HBR2.out.size)⟩
                  case measure => (have hq := HLT2.out; simp [intOf]; omega)
              · have hlt2' : decide (k' < x.2.length) = false := decide_eq_false hlt
                clear hlt
                obtain ⟨w2, rfl⟩ : ∃ w2 : World, w2 = wr := ⟨_, rfl⟩
                have hb2l : wo.heap.size < w1.heap.size := by have := HBR1.out.size; simp at this; omega
                have m0 : w2.cell? ⟨wo.heap.size, 0, none⟩ = some (.slice pc x.1.length cc) := by rw [HBR2.out.cell (p := ⟨wo.heap.size, 0, none⟩) hb2l]; exact k0
                have hne : x.1 ≠ [] := by intro e; have := HLEN.out.1; rw [e] at this; simp at this
                have hcv := runes_string (HCI.out.kept (Kept.below HW2.out)) hne
                have HB2 : Hid (Below wo.heap.size wo w2) := ((Below.refl _ wo).alloc (Nat.le_refl _) _).trans ((HBR1.out.mono (Nat.le_succ _)).trans (HBR2.out.mono (by omega)))
                obtain ⟨ss, hss, hrow0⟩ := HR.out.2.1
                have HSS := Lib.hid hss
                have HROW : Hid (w2.ownsRow w.heap.size 9 1 (.slice psv nsv csv) nsv (strV ss)) := ownsRow_growW hrow0 HB2.out
                clear hss hrow0
                clear hne k1
                go_wp2
                go_loopw [72] (fun kv wr => ∃ k : Nat, kv = .int .i64 k ∧ k ≤ nsv ∧ Below w2.heap.size w2 wr) (fun kv _ => nsv - (intOf kv).toNat)
                case atStart => exact ⟨0, rfl, Nat.zero_le _, Below.refl _ _⟩
                case round =>
                  obtain ⟨q, rfl, hr, hbr⟩ := hrel
                  have HR3 := Lib.hid hr
                  have HBR3 := Lib.hid hbr
                  clear hr hbr
                  have HW3 : Hid (Below w.heap.size w wr) := HW2.out.trans (HBR3.out.mono HW2.out.size)
                  have HROW3 := Lib.hid (ownsRow_growW HROW.out HBR3.out)
                  by_cases hlt : q < nsv
                  · have hlt3' : decide (q < nsv) = true := decide_eq_true hlt
                    obtain ⟨y, hy⟩ : ∃ y, ss[q]? = some y := ⟨ss[q]'(by rw [HSS.out]; exact hlt), List.getElem?_eq_getElem _⟩
                    have hsc := str_cell (B := w.heap.size) (ss := ss) (w := wr) (v := .slice psv nsv csv) (by have := HROW3.out; rw [HSS.out]; exact this) rfl hy
                    obtain ⟨g, rfl, hcell⟩ := hsc
                    have HLT3 := Lib.hid hlt
                    clear hy hlt
                    generalize runesBytes x.1 = sx at *
                    by_cases hyx : (sx.toList == y.toList) = true
                    · go_wp2
                      go_ret2
                      exact ⟨_, _, rfl, HW3.out⟩
                    · have heq : (sx.toList == y.toList) = false := by simpa using hyx
                      clear hyx
                      go_wp2
                      go_roundw
                      case rel => exact ⟨q + 1, by go_num, HLT3.out, HBR3.out⟩
                      case measure => (have hq := HLT3.out; simp [intOf]; omega)
                  · have hlt3' : decide (q < nsv) = false := decide_eq_false hlt
                    clear hlt
                    obtain ⟨w3, rfl⟩ : ∃ w3 : World, w3 = wr := ⟨_, rfl⟩
                    have hrow3 := HROW3.out
                    go_wp2_with (at_builtin; refine wpList_append_own _ rfl _ _ 63 rfl w.heap.size 9 i0 (.string ⟨#[]⟩) 1 16 Tryd.underlying63 hi0 hz0 hz1 hz2 rfl (by decide) _ _ _ rfl (HROW3.out.alloc _) ⟨w3.heap.size, 0, none⟩ 1 1 [.string (runesBytes x.1)] rfl (by rfl) (cells_new _ _ _) (by simp [Value.oneCell']) (by unfold maxLen; omega) (by omega) (by have := HW3.out.size; simp; omega) ?_; intro v' w4 hown' hgrow _)
                    go_roundw
                    case rel =>
                      refine ⟨nsv + 1, by go_num, HLT.out, ⟨ss ++ [runesBytes x.1], by rw [List.length_append, HSS.out]; rfl, ?_⟩, ?_⟩
                      · unfold strV; rw [List.map_append]; exact hown'
                      · exact (HW3.out.alloc HW3.out.size _).grown hgrow (by have := HW3.out.size; simp; omega) (fun k hk => (HROW3.out.lt k hk).1)
                    case measure => (have hq := HLT.out; simp [intOf]; omega)
      · have hlt' : decide (nsv < es.length) = false := decide_eq_false hlt
        clear hlt
        go_wp2
        go_ret2
        exact ⟨_, _, rfl, HR.out.2.2⟩
end Go.Proofs.YtchjjfjjcdjjcaaDoor
