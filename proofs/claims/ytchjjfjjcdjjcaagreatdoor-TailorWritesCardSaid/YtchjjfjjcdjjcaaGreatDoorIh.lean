/- Package tailor: behind: the walk. -/
import Derived.Test.YtchjjfjjcdjjcaaGreatDoorIf
namespace Go.Proofs.YtchjjfjjcdjjcaaGreatDoor
open Go.RowKit

theorem behR_lv {es : List Ent} {e : List El} {lv : Int} (h : ¬ (1 ≤ lv ∧ lv ≤ 3)) : behR es e lv = .inr 101 := by unfold behR; rw [if_neg h]
theorem behR_no {es : List Ent} {e : List El} {lv : Int} (h : 1 ≤ lv ∧ lv ≤ 3) (hb : bAtF e lv e.length = none) : behR es e lv = .inr 101 := by unfold behR; rw [if_pos h, hb]
theorem behR_at {es : List Ent} {e : List El} {lv : Int} {a : Nat} {x : El} (h : 1 ≤ lv ∧ lv ≤ 3) (hb : bAtF e lv e.length = some a) (hx : e[a]? = some x) :
    behR es e lv = if x.1 < 64256 then (match nextT lv x with | none => .inr 102 | some nx => if okB (upT lv x) es e = true then .inl (a, x, nx) else .inr 102) else .inr 101 := by
  unfold behR; rw [if_pos h, hb]; simp only [hx]; rfl
theorem behR_ok {es : List Ent} {e : List El} {lv : Int} {a : Nat} {x nx : El} (h : 1 ≤ lv ∧ lv ≤ 3) (hb : bAtF e lv e.length = some a) (hx : e[a]? = some x) (hp : x.1 < 64256) (hn : nextT lv x = some nx) :
    behR es e lv = if okB (upT lv x) es e = true then .inl (a, x, nx) else .inr 102 := by rw [behR_at h hb hx, if_pos hp, hn]
theorem behR_full {es : List Ent} {e : List El} {lv : Int} {a : Nat} {x : El} (h : 1 ≤ lv ∧ lv ≤ 3) (hb : bAtF e lv e.length = some a) (hx : e[a]? = some x) (hp : x.1 < 64256) (hn : nextT lv x = none) :
    behR es e lv = .inr 102 := by rw [behR_at h hb hx, if_pos hp, hn]
theorem behR_big {es : List Ent} {e : List El} {lv : Int} {a : Nat} {x : El} (h : 1 ≤ lv ∧ lv ≤ 3) (hb : bAtF e lv e.length = some a) (hx : e[a]? = some x) (hp : ¬ x.1 < 64256) : behR es e lv = .inr 101 := by rw [behR_at h hb hx, if_neg hp]
theorem next1 (x : El) : nextT 1 x = if x.1 + 1 < 64256 then some (x.1 + 1, 32, 2, x.2.2.2) else none := by unfold nextT; rw [if_pos rfl]
theorem next2 (x : El) : nextT 2 x = if x.2.1 < 511 then some (x.1, x.2.1 + 1, 2, x.2.2.2) else none := by unfold nextT; rw [if_neg (by decide), if_pos rfl]
theorem next3 (x : El) : nextT 3 x = if x.2.2.1 < 63 then some (x.1, x.2.1, x.2.2.1 + 1, x.2.2.2) else none := by unfold nextT; rw [if_neg (by decide), if_neg (by decide)]
/-- a box that holds an element -/
def ElBox (W : World) (b : Nat) (y : El) : Prop := W.heap[b]? = some (.cells #[.int .i64 y.1, .int .i64 y.2.1, .int .i64 y.2.2.1, .bool y.2.2.2] 36 (0, 0))
theorem ElBox.cells {W : World} {b : Nat} {y : El} (h : ElBox W b y) : W.cell? ⟨b, 0, none⟩ = some (.int .i64 y.1) ∧ W.cell? ⟨b, 1, none⟩ = some (.int .i64 y.2.1) ∧ W.cell? ⟨b, 2, none⟩ = some (.int .i64 y.2.2.1) ∧ W.cell? ⟨b, 3, none⟩ = some (.bool y.2.2.2) ∧ (∀ o, W.frozen? ⟨b, o, none⟩ = false) ∧ b < W.heap.size :=
  ⟨by simp [World.cell?, show W.heap[b]? = _ from h], by simp [World.cell?, show W.heap[b]? = _ from h], by simp [World.cell?, show W.heap[b]? = _ from h], by simp [World.cell?, show W.heap[b]? = _ from h], fun o => by simp [World.frozen?, show W.heap[b]? = _ from h], (Array.getElem?_eq_some_iff.1 h).1⟩
theorem ElBox.el4 {W : World} {b : Nat} {y : El} (h : ElBox W b y) : El4 W b 0 y := ⟨h.cells.1, h.cells.2.1, h.cells.2.2.1, h.cells.2.2.2.1⟩
theorem ElBox.below {W W' : World} {b : Nat} {y : El} (h : ElBox W b y) (hb : Below W.heap.size W W') : ElBox W' b y := (hb.block b h.cells.2.2.2.2.2).trans h
set_option maxHeartbeats 40000000 in
set_option maxRecDepth 100000 in
theorem behind_any (R Q : Nat → Prop) (es : List Ent) (e : List El) (lv : Int) (ver : ByteArray) (n : Nat) (rv ev e2v : Value) (w : World)
    (hr : CellsIn w rv n 4) (he : EntsIn R w ev es) (h2 : ElsIn Q w e2v e) (hn : n ≤ 1000000000) (hel : es.length ≤ 1000000000) (hx : ∀ x ∈ es, x.1.length ≤ 1000000000 ∧ x.2.length ≤ 1000000000) (hel2 : e.length ≤ 1000000000)
    (hb : ∀ x ∈ es, ∀ y ∈ x.2, ElB y) (hb2 : ∀ y ∈ e, ElB y) :
    Calls Tryz.prog 34 #[.agg #[.string ver, rv, ev], e2v, .int .i64 lv] w (BhEnd es e lv ver n w) := by
  have HR := Lib.hid hr
  have HE := Lib.hid he
  have H2 := Lib.hid h2
  have HX := Lib.hid hx
  have HB := Lib.hid hb
  have HB2 := Lib.hid hb2
  have hels := hel
  have hel2s := hel2
  obtain ⟨p1, c1, rfl, _⟩ := hr
  obtain ⟨p2, c2, rfl, _⟩ := he
  obtain ⟨p3, c3, rfl, _⟩ := h2
  obtain ⟨m, hm⟩ : ∃ m, m = es.length := ⟨_, rfl⟩
  obtain ⟨l, hl⟩ : ∃ l, l = e.length := ⟨_, rfl⟩
  rw [← hm] at HE hel ⊢
  rw [← hl] at H2 hel2 ⊢
  have HM := Lib.hid hm
  have HL := Lib.hid hl
  clear hm hl hx hb hb2
  have hb0 : Below w.heap.size w ((w.alloc (.cells #[.string ver, .slice p1 n c1, .slice p2 m c2] 43)).alloc (.cells #[.string ⟨#[]⟩, .slice none 0 0, .slice none 0 0] 43)) := ((Below.refl _ w).alloc (Nat.le_refl _) _).alloc (by simp) _
  have HB0 := Lib.hid hb0
  by_cases hlv : 1 ≤ lv ∧ lv ≤ 3
  · obtain ⟨l1, l3⟩ := hlv
    have d1 : decide (1 ≤ lv) = true := decide_eq_true l1
    have d3 : decide (lv ≤ 3) = true := decide_eq_true l3
    go_enter Tryz.func34, Tryz.ntmps34
    go_wp2_with (go_at_call 57; refine (must_ok _ _ _).mono ?_; rintro e w' ⟨rfl, rfl⟩)
    have hs0 : SrcAt ((w.alloc (.cells #[.string ver, .slice p1 n c1, .slice p2 m c2] 43)).alloc (.cells #[.string ⟨#[]⟩, .slice none 0 0, .slice none 0 0] 43)) w.heap.size (.string ver) (.slice p1 n c1) (.slice p2 m c2) := by
      unfold SrcAt
      rw [Below.heap_alloc _ _ _ (by simp), World.alloc_heap_new]
    have hr0 : SrcAt ((w.alloc (.cells #[.string ver, .slice p1 n c1, .slice p2 m c2] 43)).alloc (.cells #[.string ⟨#[]⟩, .slice none 0 0, .slice none 0 0] 43)) (w.heap.size + 1) (.string ⟨#[]⟩) (.slice none 0 0) (.slice none 0 0) := by
      have := World.alloc_heap_new (w.alloc (.cells #[.string ver, .slice p1 n c1, .slice p2 m c2] 43)) (.cells #[.string ⟨#[]⟩, .slice none 0 0, .slice none 0 0] 43)
      rw [World.size_alloc] at this; exact this
    have hz0 : ((w.alloc (.cells #[.string ver, .slice p1 n c1, .slice p2 m c2] 43)).alloc (.cells #[.string ⟨#[]⟩, .slice none 0 0, .slice none 0 0] 43)).heap.size = w.heap.size + 2 := by simp
    generalize ((w.alloc (.cells #[.string ver, .slice p1 n c1, .slice p2 m c2] 43)).alloc (.cells #[.string ⟨#[]⟩, .slice none 0 0, .slice none 0 0] 43)) = W0 at *
    have HS0 := Lib.hid hs0
    have HR0 := Lib.hid hr0
    have HZ0 := Lib.hid hz0
    clear hb0 hs0 hr0 hz0
    go_loopw [8, 25] (fun av kv wx => ∃ k : Nat, kv = .int .i64 k ∧ av = .int .i64 (bAtI e lv k) ∧ k ≤ l ∧ Below W0.heap.size W0 wx) (fun _ kv _ => l - (intOf kv).toNat)
    case atStart => exact ⟨0, rfl, rfl, Nat.zero_le _, Below.refl _ _⟩
    case round =>
      obtain ⟨k, rfl, rfl, hkl, hbw⟩ := hrel
      have HBW := Lib.hid hbw
      clear hbw
      by_cases hlt : k < l
      · have g1 : (k : Int) < (l : Int) := by omega
        obtain ⟨y, hy⟩ : ∃ y, e[k]? = some y := ⟨e[k]'(by rw [← HL.out]; exact hlt), List.getElem?_eq_getElem _⟩
        obtain ⟨q, o, rfl, _, hql, e0, e1, e2, e3⟩ := ((H2.out.kept (Kept.below HB0.out)).kept (Kept.below HBW.out)).at k y hy
        have HST : Hid (bAtI e lv (k + 1) = if cntT lv y = true then (k : Int) else bAtI e lv k) := bAtI_step hy
        have HLV := Lib.hid (fun W => tlevel_any y W)
        unfold elAgg at HLV
        have HCN : Hid (cntT lv y = (decide (1 ≤ lvlT y) && decide (lvlT y ≤ lv))) := rfl
        clear hy
        go_wp2_with fail
        refine (HLV.out _).mono ?_
        clear HLV
        rintro e' w5 ⟨rfl, hb5⟩
        have HB5 : Hid (Below W0.heap.size W0 w5) := (HBW.out.alloc HBW.out.size _).trans (hb5.mono (by have := HBW.out.size; simp; omega))
        clear hb5 e0 e1 e2 e3
        generalize lvlT y = lt at *
        by_cases k1 : 1 ≤ lt
        · have f1 : decide (1 ≤ lt) = true := decide_eq_true k1
          by_cases k2 : lt ≤ lv
          · have f2 : decide (lt ≤ lv) = true := decide_eq_true k2
            rw [HCN.out, f1, f2, show (true && true) = true from rfl, if_pos rfl] at HST
            clear k1 k2
            go_wp2_with fail
            go_roundw
            case rel => exact ⟨k + 1, by go_num, by rw [HST.out], by omega, HB5.out⟩
            case measure => (show l - ((k : Int) + 1).toNat < l - (k : Int).toNat; omega)
          · have f2 : decide (lt ≤ lv) = false := decide_eq_false k2
            rw [HCN.out, f1, f2, show (true && false) = false from rfl, if_neg (by decide)] at HST
            clear k1 k2
            generalize bAtI e lv k = bk at *
            go_wp2_with fail
            go_roundw
            case rel => exact ⟨k + 1, by go_num, by rw [HST.out], by omega, HB5.out⟩
            case measure => (show l - ((k : Int) + 1).toNat < l - (k : Int).toNat; omega)
        · have f1 : decide (1 ≤ lt) = false := decide_eq_false k1
          rw [HCN.out, f1, Bool.false_and, if_neg (by decide)] at HST
          clear k1
          generalize bAtI e lv k = bk at *
          go_wp2_with fail
          go_roundw
          case rel => exact ⟨k + 1, by go_num, by rw [HST.out], by omega, HB5.out⟩
          case measure => (show l - ((k : Int) + 1).toNat < l - (k : Int).toNat; omega)
      · obtain rfl : k = l := by omega
        have g1 : ¬ ((k : Int) < (k : Int)) := by omega
        have hbb : bAtI e lv k = match bAtF e lv e.length with | none => -1 | some a => (a : Int) := by unfold bAtI; rw [HL.out]; rfl
        cases hat : bAtF e lv e.length with
        | none =>
          rw [hat] at hbb
          have hbb' : bAtI e lv k = -1 := hbb
          have HE1 : Hid (behR es e lv = .inr 101) := behR_no ⟨l1, l3⟩ hat
          rw [hbb']
          clear hbb hbb' hat hlt
          go_wp2_with (go_at_call 57; refine (must_no _ _ _).mono ?_; rintro e w' ⟨rfl, h5⟩)
          subst h5
          exact ⟨rfl, HB0.out.trans (HBW.out.mono HB0.out.size), .inr ⟨_, HE1.out, rfl⟩⟩
        | some a =>
          rw [hat] at hbb
          have hbb' : bAtI e lv k = (a : Int) := hbb
          obtain ⟨hal, x, hx⟩ := bAtF_lt e lv _ a hat
          have HAT := Lib.hid hat
          have HXX := Lib.hid hx
          have HL13 : Hid (1 ≤ lv ∧ lv ≤ 3) := ⟨l1, l3⟩
          have HXB : Hid (ElB x) := HB2.out x (List.mem_iff_getElem?.2 ⟨a, hx⟩)
          obtain ⟨q, o, rfl, _, hql, e0, e1, e2, e3⟩ := ((H2.out.kept (Kept.below HB0.out)).kept (Kept.below HBW.out)).at a x hx
          have hak : a < k := by have := HL.out; omega
          have g2 : (a : Int) < (k : Int) := by omega
          have HXA := Lib.hid hx
          rw [hbb']
          clear hbb hbb' hat hlt hx hal
          by_cases hp : x.1 < 64256
          · have d5 : decide (x.1 < 64256) = true := decide_eq_true hp
            have HP := Lib.hid hp
            have hlvs : lv = 1 ∨ lv = 2 ∨ lv = 3 := by omega
            rcases hlvs with rfl | rfl | rfl
            · have hxlo : -9223372036854775808 ≤ x.1 := HXB.out.1.1
              by_cases hnx : x.1 + 1 < 64256
              · have d6 : decide (x.1 + 1 < 64256) = true := decide_eq_true hnx
                have HRR : Hid (behR es e 1 = if okB (upT 1 x) es e = true then .inl (a, x, (x.1 + 1, 32, 2, x.2.2.2)) else .inr 102) := behR_ok HL13.out HAT.out HXX.out HP.out (by rw [next1, if_pos hnx])
                go_upto_region 26 with (first | (go_at_call 57; refine (must_ok _ _ _).mono ?_; rintro e w' ⟨rfl, rfl⟩))
                have hbN : Below wr.heap.size wr ((wr.alloc (.cells #[.int .i64 x.1, .int .i64 x.2.1, .int .i64 x.2.2.1, .bool x.2.2.2] 36)).alloc (.cells #[.int .i64 (x.1 + 1), .int .i64 (32), .int .i64 (2), .bool x.2.2.2] 36)) := ((Below.refl _ wr).alloc (Nat.le_refl _) _).alloc (by simp) _
                have hxb : ElBox ((wr.alloc (.cells #[.int .i64 x.1, .int .i64 x.2.1, .int .i64 x.2.2.1, .bool x.2.2.2] 36)).alloc (.cells #[.int .i64 (x.1 + 1), .int .i64 (32), .int .i64 (2), .bool x.2.2.2] 36)) wr.heap.size x := by
                  unfold ElBox
                  rw [Below.heap_alloc _ _ _ (by simp), World.alloc_heap_new]
                have hnb : ElBox ((wr.alloc (.cells #[.int .i64 x.1, .int .i64 x.2.1, .int .i64 x.2.2.1, .bool x.2.2.2] 36)).alloc (.cells #[.int .i64 (x.1 + 1), .int .i64 (32), .int .i64 (2), .bool x.2.2.2] 36)) (wr.heap.size + 1) (x.1 + 1, 32, 2, x.2.2.2) := by
                  have := World.alloc_heap_new (wr.alloc (.cells #[.int .i64 x.1, .int .i64 x.2.1, .int .i64 x.2.2.1, .bool x.2.2.2] 36)) (.cells #[.int .i64 (x.1 + 1), .int .i64 (32), .int .i64 (2), .bool x.2.2.2] 36)
                  rw [World.size_alloc] at this; exact this
                have hzN : ((wr.alloc (.cells #[.int .i64 x.1, .int .i64 x.2.1, .int .i64 x.2.2.1, .bool x.2.2.2] 36)).alloc (.cells #[.int .i64 (x.1 + 1), .int .i64 (32), .int .i64 (2), .bool x.2.2.2] 36)).heap.size = wr.heap.size + 2 := by simp
                generalize ((wr.alloc (.cells #[.int .i64 x.1, .int .i64 x.2.1, .int .i64 x.2.2.1, .bool x.2.2.2] 36)).alloc (.cells #[.int .i64 (x.1 + 1), .int .i64 (32), .int .i64 (2), .bool x.2.2.2] 36)) = WN at *
                have HBN := Lib.hid hbN
                have HXBX := Lib.hid hxb
                have HNBX := Lib.hid hnb
                have HZN := Lib.hid hzN
                have hwr0 : W0.heap.size ≤ wr.heap.size := HBW.out.size
                obtain ⟨s0, s1, s2, _, sl⟩ := ((HS0.out.below HBW.out).below hbN).cells
                go_wp2_with fail
                have hcall := raised_any R Q (upT 1 x) x wr.heap.size 60 es e ver n (.slice p1 n c1) (.slice p2 m c2) (.slice (some ⟨q, o, none⟩) k c3) WN (enters_of Tryz.func60 (by kernel_rfl) rfl) (fun W y h1 h2 h3 => up1_any x y wr.heap.size W h1 h2 h3) hxb.el4 hxb.cells.2.2.2.2.2
                  (((HR.out.below HB0.out).below HBW.out).below hbN) (((HE.out.kept (Kept.below HB0.out)).kept (Kept.below HBW.out)).kept (Kept.below hbN)) (((H2.out.kept (Kept.below HB0.out)).kept (Kept.below HBW.out)).kept (Kept.below hbN)) hn hels HX.out hel2s HB.out HB2.out
                refine hcall.mono ?_
                have hsN := (HS0.out.below HBW.out).below hbN
                have hrN := (HR0.out.below HBW.out).below hbN
                clear hcall hbN hxb hnb hzN s0 s1 s2 sl e0 e1 e2 e3 hxlo
                have HOKB := Lib.hid (okB_iff (upT 1 x) es e)
                rintro e' w6 ⟨hb6, ⟨rp, rc, lv', ts, cs, ov, hok, rfl, how6, hov6, hcp6⟩ | ⟨hok, rfl⟩⟩
                · rw [if_pos (HOKB.out.2 hok)] at HRR
                  have HOW6 := Lib.hid how6
                  have HOV6 := Lib.hid hov6
                  have HB6 := Lib.hid hb6
                  have hs6 := hsN.below hb6
                  have hr6 := hrN.below hb6
                  have hn6 := HNBX.out.below hb6
                  obtain ⟨lp, lcap, rfl⟩ := how6.form
                  obtain ⟨vp, vcap, rfl, hvx⟩ := hov6
                  have hcpv := hcp6 _ _ _ rfl
                  have hlv1 : (es.map (raiE (upU (upT 1 x)))).length = m := by rw [List.length_map]; exact HM.out.symm
                  have hlv2 : (e.map (upU (upT 1 x))).length = k := by rw [List.length_map]; exact HL.out.symm
                  rw [hlv1] at HOW6 ⊢
                  rw [hlv2] at HOV6 hcpv ⊢
                  obtain ⟨qv, ov', hvp, _⟩ := hvx a (upU (upT 1 x) x) (by rw [List.getElem?_map, HXA.out]; rfl)
                  subst hvp
                  obtain ⟨s0, s1, s2, sf, sl⟩ := hs6.cells
                  have sf0 := sf 0
                  have sf1 := sf 1
                  have sf2 := sf 2
                  have HCV : Hid (a ≤ vcap) := Lib.hid (by omega)
                  clear how6 hvx hb6 hsN hrN sf hok hcp6 hcpv
                  go_wp2_with fail
                  have hsP := hs6.put3 (.string ver) (.slice rp n rc) (.slice lp m lcap)
                  have hoP : Only (fun b => b = w.heap.size) w6 (((w6.setCell ⟨w.heap.size, 0, none⟩ (.string ver)).setCell ⟨w.heap.size, 1, none⟩ (.slice rp n rc)).setCell ⟨w.heap.size, 2, none⟩ (.slice lp m lcap)) :=
                    (((Only.refl (fun b => b = w.heap.size) w6).setCell (p := ⟨w.heap.size, 0, none⟩) rfl _).setCell (p := ⟨w.heap.size, 1, none⟩) rfl _).setCell (p := ⟨w.heap.size, 2, none⟩) rfl _
                  generalize (((w6.setCell ⟨w.heap.size, 0, none⟩ (.string ver)).setCell ⟨w.heap.size, 1, none⟩ (.slice rp n rc)).setCell ⟨w.heap.size, 2, none⟩ (.slice lp m lcap)) = WP at *
                  have hw0 : w.heap.size + 2 = W0.heap.size := HZ0.out.symm
                  have hwn : wr.heap.size + 2 = WN.heap.size := HZN.out.symm
                  have HOWP := Lib.hid (HOW6.out.only hoP (fun b hb => .inl (by omega)))
                  have HOVP := Lib.hid (HOV6.out.kept (Kept.only hoP (fun b hb hs => by omega)))
                  have hrP := hr6.only hoP (by omega)
                  have hnP : ElBox WP (wr.heap.size + 1) (x.1 + 1, 32, 2, x.2.2.2) := (hoP.block _ hn6.cells.2.2.2.2.2 (by omega)).trans hn6
                  have HBP : Hid (Below w.heap.size w WP) := by
                    have b1 := HB0.out.trans (HBW.out.mono HB0.out.size)
                    have b2 := b1.trans (HBN.out.mono b1.size)
                    have b3 := b2.trans (HB6.out.mono b2.size)
                    exact Only.toBelow b3 (Nat.le_refl _) hoP (fun i hi => by omega)
                  have HRP := Lib.hid hrP
                  have HNP := Lib.hid hnP
                  have HSP := Lib.hid hsP
                  have HWZ := Lib.hid (And.intro hw0 hwn)
                  have HSV : Hid (∀ V : World, V.heap[w.heap.size]? = WP.heap[w.heap.size]? → V.heap[wr.heap.size + 1]? = WP.heap[wr.heap.size + 1]? → V.cell? ⟨w.heap.size, 0, none⟩ = some (.string ver) ∧ V.cell? ⟨w.heap.size, 1, none⟩ = some (.slice rp n rc) ∧ V.cell? ⟨w.heap.size, 2, none⟩ = some (.slice lp m lcap) ∧
                      V.cell? ⟨wr.heap.size + 1, 0, none⟩ = some (.int .i64 (x.1 + 1)) ∧ V.cell? ⟨wr.heap.size + 1, 1, none⟩ = some (.int .i64 (32)) ∧ V.cell? ⟨wr.heap.size + 1, 2, none⟩ = some (.int .i64 (2)) ∧ V.cell? ⟨wr.heap.size + 1, 3, none⟩ = some (.bool x.2.2.2)) := Lib.hid (fun V e1 e2 => by
                    obtain ⟨a0, a1, a2, _, _⟩ := SrcAt.cells (W := V) (e1.trans HSP.out)
                    obtain ⟨b0, b1, b2, b3, _, _⟩ := ElBox.cells (W := V) (e2.trans HNP.out)
                    exact ⟨a0, a1, a2, b0, b1, b2, b3⟩)
                  have HLT : Hid (w.heap.size + 1 < WP.heap.size ∧ wr.heap.size + 1 < WP.heap.size) := Lib.hid ⟨hrP.cells.2.2.2.2, hnP.cells.2.2.2.2.2⟩
                  have HHI : Hid (w.heap.size + 1 < wr.heap.size + 1) := Lib.hid (by omega)
                  have hsl := fun W => slice_cut qv ov' k vcap a HCV.out W
                  clear s0 s1 s2 sf0 sf1 sf2 sl hs6 hr6 hn6 hsP hrP hnP hoP hw0 hwn
                  refine wp_region_held_drew (S := (fun V : World => V.cell? ⟨w.heap.size, 0, none⟩ = some (.string ver) ∧ V.cell? ⟨w.heap.size, 1, none⟩ = some (.slice rp n rc) ∧ V.cell? ⟨w.heap.size, 2, none⟩ = some (.slice lp m lcap) ∧
                      V.cell? ⟨wr.heap.size + 1, 0, none⟩ = some (.int .i64 (x.1 + 1)) ∧ V.cell? ⟨wr.heap.size + 1, 1, none⟩ = some (.int .i64 (32)) ∧ V.cell? ⟨wr.heap.size + 1, 2, none⟩ = some (.int .i64 (2)) ∧ V.cell? ⟨wr.heap.size + 1, 3, none⟩ = some (.bool x.2.2.2))) (by kernel_rfl) (HSV.out WP.drew rfl rfl) (fun hH => ?_)
                  refine gTakeL (i := 0) (v := ?_) rfl (by kernel_rfl) (by kernel_rfl) (by kernel_rfl) (fun _ _ _ h => h) (Or.inl ⟨by first | rfl | kernel_rfl, ?_⟩) hH ?_; rotate_left 1; (first | (focus (intro w hSw; (try dsimp only at hSw); go_simp; done)) | (focus (intro w hSw; (try dsimp only at hSw); go_simp; with_reducible rfl)) | (focus (intro w hSw; (try dsimp only at hSw); simp [hSw, go_sem]; done))); (try simp only [Act.put, List.setIfInBounds_toArray, List.set_cons_zero, List.set_cons_succ])
                  refine gTakeL (i := 1) (v := ?_) rfl (by kernel_rfl) (by kernel_rfl) (by kernel_rfl) (fun _ _ _ h => h) (Or.inl ⟨by first | rfl | kernel_rfl, ?_⟩) hH ?_; rotate_left 1; (first | (focus (intro w hSw; (try dsimp only at hSw); go_simp; done)) | (focus (intro w hSw; (try dsimp only at hSw); go_simp; with_reducible rfl)) | (focus (intro w hSw; (try dsimp only at hSw); simp [hSw, go_sem]; done))); (try simp only [Act.put, List.setIfInBounds_toArray, List.set_cons_zero, List.set_cons_succ])
                  refine gTakeL (i := 2) (v := ?_) rfl (by kernel_rfl) (by kernel_rfl) (by kernel_rfl) (fun _ _ _ h => h) (Or.inl ⟨by first | rfl | kernel_rfl, ?_⟩) hH ?_; rotate_left 1; (first | (focus (intro w hSw; (try dsimp only at hSw); go_simp; done)) | (focus (intro w hSw; (try dsimp only at hSw); go_simp; with_reducible rfl)) | (focus (intro w hSw; (try dsimp only at hSw); simp [hSw, go_sem]; done))); (try simp only [Act.put, List.setIfInBounds_toArray, List.set_cons_zero, List.set_cons_succ])
                  refine gTakeL (i := 3) (v := ?_) rfl (by kernel_rfl) (by kernel_rfl) (by kernel_rfl) (fun _ _ _ h => h) (Or.inl ⟨by first | rfl | kernel_rfl, ?_⟩) hH ?_; rotate_left 1; (first | (focus (intro w hSw; (try dsimp only at hSw); go_simp; done)) | (focus (intro w hSw; (try dsimp only at hSw); go_simp; with_reducible rfl)) | (focus (intro w hSw; (try dsimp only at hSw); simp [hSw, go_sem]; done))); (try simp only [Act.put, List.setIfInBounds_toArray, List.set_cons_zero, List.set_cons_succ])
                  refine gTakeL (i := 5) (v := ?_) rfl (by kernel_rfl) (by kernel_rfl) (by kernel_rfl) (fun _ _ _ h => h) (Or.inl ⟨by first | rfl | kernel_rfl, ?_⟩) hH ?_; rotate_left 1; (first | (focus (intro w hSw; (try dsimp only at hSw); go_simp; done)) | (focus (intro w hSw; (try dsimp only at hSw); go_simp; with_reducible rfl)) | (focus (intro w hSw; (try dsimp only at hSw); simp [hSw, go_sem]; done))); (try simp only [Act.put, List.setIfInBounds_toArray, List.set_cons_zero, List.set_cons_succ])
                  refine gTakeL (i := 4) (v := ?_) rfl (by kernel_rfl) (by kernel_rfl) (by kernel_rfl) (fun _ _ _ h => h) (Or.inl ⟨by first | rfl | kernel_rfl, ?_⟩) hH ?_; rotate_left 1; (first | (focus (intro w hSw; (try dsimp only at hSw); go_simp; done)) | (focus (intro w hSw; (try dsimp only at hSw); go_simp; with_reducible rfl)) | (focus (intro w hSw; (try dsimp only at hSw); simp [hSw, go_sem]; done))); (try simp only [Act.put, List.setIfInBounds_toArray, List.set_cons_zero, List.set_cons_succ])
                  have HBL : Hid (Below WP.heap.size WP ((WP.drew).alloc (.cells #[.int .i64 (x.1 + 1), .int .i64 (32), .int .i64 (2), .bool x.2.2.2] 36))) := Lib.hid ((Below.refl _ WP).drew.alloc (Nat.le_refl _) _)
                  have HNW : Hid (∀ (j : Nat) u, (elCells (x.1 + 1, 32, 2, x.2.2.2))[j]? = some u → ((WP.drew).alloc (.cells #[.int .i64 (x.1 + 1), .int .i64 (32), .int .i64 (2), .bool x.2.2.2] 36)).cell? ((⟨WP.heap.size, 0, none⟩ : Addr).add j) = some u) := cells_new WP.drew (elCells (x.1 + 1, 32, 2, x.2.2.2)) 36
                  refine gOneL (i := 6) (by kernel_rfl) rfl (by rfl) (fun K hK => ?_)
                  have HK := Lib.hid hK
                  clear hK
                  go_simp
                  refine HK.out _ _ (HSV.out _ (HBL.out.block _ (by have := HLT.out.1; omega)) (HBL.out.block _ HLT.out.2)) ?_
                  clear HK
                  (try simp only [Act.put, List.setIfInBounds_toArray, List.set_cons_zero, List.set_cons_succ])
                  refine gOneL (i := 7) (by kernel_rfl) rfl (by rfl) (fun K hK => ?_)
                  have HK := Lib.hid hK
                  clear hK
                  refine wp_append_els _ (.tmp 106) (.tmp 108) rfl qv ov' k vcap a (e.map (upU (upT 1 x))) WP.heap.size (x.1 + 1, 32, 2, x.2.2.2) rfl rfl (HOVP.out.kept (Kept.below HBL.out)) (by rw [List.length_map]; have := HL.out; omega) (by rw [List.length_map]; exact hel2s) HNW.out ?_
                  intro p7 n7 c7 w7 he7 hb7
                  have HB7 : Hid (Below WP.heap.size WP w7) := Lib.hid (HBL.out.trans (hb7.mono HBL.out.size))
                  have HE7 := Lib.hid he7
                  have HZ7 : Hid (WP.heap.size ≤ ((WP.drew).alloc (.cells #[.int .i64 (x.1 + 1), .int .i64 (32), .int .i64 (2), .bool x.2.2.2] 36)).heap.size) := Lib.hid HBL.out.size
                  refine HK.out _ _ (HSV.out _ (HB7.out.block _ (by have := HLT.out.1; omega)) (HB7.out.block _ HLT.out.2)) ?_
                  have hr7 := HRP.out.below HB7.out
                  obtain ⟨_, _, _, rf, rl⟩ := hr7.cells
                  have rf0 := rf 0
                  have rf1 := rf 1
                  have rf2 := rf 2
                  clear HK rf hb7 he7
                  (try simp only [Act.put, List.setIfInBounds_toArray, List.set_cons_zero, List.set_cons_succ])
                  refine gOneL (i := 8) (by kernel_rfl) rfl (by rfl) (fun K hK => ?_)
                  have HK := Lib.hid hK
                  clear hK
                  go_simp
                  have hoR : Only (fun b => b = w.heap.size + 1) w7 (((w7.setCell ⟨w.heap.size + 1, 0, none⟩ (.string ver)).setCell ⟨w.heap.size + 1, 1, none⟩ (.slice rp n rc)).setCell ⟨w.heap.size + 1, 2, none⟩ (.slice lp m lcap)) :=
                    (((Only.refl (fun b => b = w.heap.size + 1) w7).setCell (p := ⟨w.heap.size + 1, 0, none⟩) rfl _).setCell (p := ⟨w.heap.size + 1, 1, none⟩) rfl _).setCell (p := ⟨w.heap.size + 1, 2, none⟩) rfl _
                  have hsR := hr7.put3 (.string ver) (.slice rp n rc) (.slice lp m lcap)
                  generalize (((w7.setCell ⟨w.heap.size + 1, 0, none⟩ (.string ver)).setCell ⟨w.heap.size + 1, 1, none⟩ (.slice rp n rc)).setCell ⟨w.heap.size + 1, 2, none⟩ (.slice lp m lcap)) = WR at *
                  have hS7 := HSV.out WR ((hoR.block _ (by have := HLT.out.1; have := HB7.out.size; omega) (by omega)).trans (HB7.out.block _ (by have := HLT.out.1; omega))) ((hoR.block _ (by have := HLT.out.2; have := HB7.out.size; omega) (by have := HHI.out; omega)).trans (HB7.out.block _ HLT.out.2))
                  have HS7 := Lib.hid hS7
                  have HBF : Hid (Below w.heap.size w WR) := Lib.hid (Only.toBelow (HBP.out.trans (HB7.out.mono HBP.out.size)) (Nat.le_refl _) hoR (fun i hi => by omega))
                  have HEF : Hid (EntsOwnC w.heap.size WR (.slice lp m lcap) (es.map (raiE (upU (upT 1 x)))) ts cs) := Lib.hid (((HOWP.out.below HB7.out).only hoR (fun b hb => .inl (by have := HWZ.out; omega))).weak (by have := HWZ.out; omega))
                  have HOF : Hid (ElsIn (fun b => w.heap.size ≤ b) WR (.slice p7 n7 c7) ((e.take a).map (upU (upT 1 x)) ++ [(x.1 + 1, 32, 2, x.2.2.2)])) := Lib.hid (by
                    have h1 := ElsIn.mono (HE7.out.kept (Kept.only hoR (fun b hb hs => by have := HLT.out.1; have := HZ7.out; have hb' : _ ≤ b := hb; simp at hb' this; omega))) (S := fun b => w.heap.size ≤ b) (fun b hb _ => by have hb' : _ ≤ b := hb; have := HLT.out.1; simp at hb'; show w.heap.size ≤ b; omega)
                    rwa [← List.map_take] at h1)
                  have HQ := Lib.hid hsR.cells
                  refine HK.out _ _ hS7 ?_
                  clear HK hr7 rf0 rf1 rf2 rl hS7 hsR hoR
                  (try simp only [Act.put, List.setIfInBounds_toArray, List.set_cons_zero, List.set_cons_succ])
                  refine gOneL (i := 9) (by kernel_rfl) rfl (by rfl) (fun K hK => ?_)
                  have HK := Lib.hid hK
                  clear hK
                  go_simp
                  refine HK.out _ _ HS7.out ?_
                  clear HK
                  refine wpAnyH_done (by kernel_rfl) ?_ _
                  obtain ⟨q0, q1, q2, _, _⟩ := HQ.out
                  clear hH
                  go_wp2_with fail
                  refine bodyPost_ret (v := .tuple #[.agg #[.string ver, .slice rp n rc, .slice lp m lcap], .slice p7 n7 c7]) (by simp [results, Tryz.results34, go_sem, q0, q1, q2]) rfl ?_
                  exact ⟨HBF.out, .inl ⟨_, _, _, _, _, _, _, _, _, HRR.out, rfl, HEF.out, HOF.out⟩⟩
                · rw [if_neg (fun h => hok (HOKB.out.1 h))] at HRR
                  exact ⟨rfl, (HB0.out.trans (HBW.out.mono HB0.out.size)).trans ((HBN.out.trans (hb6.mono HBN.out.size)).mono (HB0.out.trans (HBW.out.mono HB0.out.size)).size), .inr ⟨_, HRR.out, rfl⟩⟩
              · have d6 : decide (x.1 + 1 < 64256) = false := decide_eq_false hnx
                have HRR : Hid (behR es e 1 = .inr 102) := behR_full HL13.out HAT.out HXX.out HP.out (by rw [next1, if_neg hnx])
                go_upto_region 20 with (first | (go_at_call 57; refine (must_ok _ _ _).mono ?_; rintro e w' ⟨rfl, rfl⟩))
                go_wp2_with (go_at_call 57; refine (must_no _ _ _).mono ?_; rintro e w' ⟨rfl, h5⟩)
                subst h5
                exact ⟨rfl, (HB0.out.trans (HBW.out.mono HB0.out.size)).trans (by refine Below.mono (B := wr.heap.size) (by (repeat' (first | (with_reducible exact Below.refl _ _) | (with_reducible assumption) | (with_reducible refine Below.alloc ?_ ?_ _) | (with_reducible refine Below.drew ?_) | (with_reducible refine below_drewN ?_ _) | (with_reducible refine Below.setCell ?_ ?_ _) | (with_reducible refine Below.trans ?_ (Below.mono (by assumption) ?_)) | go_size))) (HB0.out.trans (HBW.out.mono HB0.out.size)).size), .inr ⟨_, HRR.out, rfl⟩⟩
            · have hxlo : -9223372036854775808 ≤ x.2.1 := HXB.out.2.1.1
              by_cases hnx : x.2.1 < 511
              · have d6 : decide (x.2.1 < 511) = true := decide_eq_true hnx
                have HRR : Hid (behR es e 2 = if okB (upT 2 x) es e = true then .inl (a, x, (x.1, x.2.1 + 1, 2, x.2.2.2)) else .inr 102) := behR_ok HL13.out HAT.out HXX.out HP.out (by rw [next2, if_pos hnx])
                go_upto_region 26 with (first | (go_at_call 57; refine (must_ok _ _ _).mono ?_; rintro e w' ⟨rfl, rfl⟩))
                have hbN : Below wr.heap.size wr ((wr.alloc (.cells #[.int .i64 x.1, .int .i64 x.2.1, .int .i64 x.2.2.1, .bool x.2.2.2] 36)).alloc (.cells #[.int .i64 (x.1), .int .i64 (x.2.1 + 1), .int .i64 (2), .bool x.2.2.2] 36)) := ((Below.refl _ wr).alloc (Nat.le_refl _) _).alloc (by simp) _
                have hxb : ElBox ((wr.alloc (.cells #[.int .i64 x.1, .int .i64 x.2.1, .int .i64 x.2.2.1, .bool x.2.2.2] 36)).alloc (.cells #[.int .i64 (x.1), .int .i64 (x.2.1 + 1), .int .i64 (2), .bool x.2.2.2] 36)) wr.heap.size x := by
                  unfold ElBox
                  rw [Below.heap_alloc _ _ _ (by simp), World.alloc_heap_new]
                have hnb : ElBox ((wr.alloc (.cells #[.int .i64 x.1, .int .i64 x.2.1, .int .i64 x.2.2.1, .bool x.2.2.2] 36)).alloc (.cells #[.int .i64 (x.1), .int .i64 (x.2.1 + 1), .int .i64 (2), .bool x.2.2.2] 36)) (wr.heap.size + 1) (x.1, x.2.1 + 1, 2, x.2.2.2) := by
                  have := World.alloc_heap_new (wr.alloc (.cells #[.int .i64 x.1, .int .i64 x.2.1, .int .i64 x.2.2.1, .bool x.2.2.2] 36)) (.cells #[.int .i64 (x.1), .int .i64 (x.2.1 + 1), .int .i64 (2), .bool x.2.2.2] 36)
                  rw [World.size_alloc] at this; exact this
                have hzN : ((wr.alloc (.cells #[.int .i64 x.1, .int .i64 x.2.1, .int .i64 x.2.2.1, .bool x.2.2.2] 36)).alloc (.cells #[.int .i64 (x.1), .int .i64 (x.2.1 + 1), .int .i64 (2), .bool x.2.2.2] 36)).heap.size = wr.heap.size + 2 := by simp
                generalize ((wr.alloc (.cells #[.int .i64 x.1, .int .i64 x.2.1, .int .i64 x.2.2.1, .bool x.2.2.2] 36)).alloc (.cells #[.int .i64 (x.1), .int .i64 (x.2.1 + 1), .int .i64 (2), .bool x.2.2.2] 36)) = WN at *
                have HBN := Lib.hid hbN
                have HXBX := Lib.hid hxb
                have HNBX := Lib.hid hnb
                have HZN := Lib.hid hzN
                have hwr0 : W0.heap.size ≤ wr.heap.size := HBW.out.size
                obtain ⟨s0, s1, s2, _, sl⟩ := ((HS0.out.below HBW.out).below hbN).cells
                go_wp2_with fail
                have hcall := raised_any R Q (upT 2 x) x wr.heap.size 61 es e ver n (.slice p1 n c1) (.slice p2 m c2) (.slice (some ⟨q, o, none⟩) k c3) WN (enters_of Tryz.func61 (by kernel_rfl) rfl) (fun W y h1 h2 h3 => up2_any x y wr.heap.size W h1 h2 h3) hxb.el4 hxb.cells.2.2.2.2.2
                  (((HR.out.below HB0.out).below HBW.out).below hbN) (((HE.out.kept (Kept.below HB0.out)).kept (Kept.below HBW.out)).kept (Kept.below hbN)) (((H2.out.kept (Kept.below HB0.out)).kept (Kept.below HBW.out)).kept (Kept.below hbN)) hn hels HX.out hel2s HB.out HB2.out
                refine hcall.mono ?_
                have hsN := (HS0.out.below HBW.out).below hbN
                have hrN := (HR0.out.below HBW.out).below hbN
                clear hcall hbN hxb hnb hzN s0 s1 s2 sl e0 e1 e2 e3 hxlo
                have HOKB := Lib.hid (okB_iff (upT 2 x) es e)
                rintro e' w6 ⟨hb6, ⟨rp, rc, lv', ts, cs, ov, hok, rfl, how6, hov6, hcp6⟩ | ⟨hok, rfl⟩⟩
                · rw [if_pos (HOKB.out.2 hok)] at HRR
                  have HOW6 := Lib.hid how6
                  have HOV6 := Lib.hid hov6
                  have HB6 := Lib.hid hb6
                  have hs6 := hsN.below hb6
                  have hr6 := hrN.below hb6
                  have hn6 := HNBX.out.below hb6
                  obtain ⟨lp, lcap, rfl⟩ := how6.form
                  obtain ⟨vp, vcap, rfl, hvx⟩ := hov6
                  have hcpv := hcp6 _ _ _ rfl
                  have hlv1 : (es.map (raiE (upU (upT 2 x)))).length = m := by rw [List.length_map]; exact HM.out.symm
                  have hlv2 : (e.map (upU (upT 2 x))).length = k := by rw [List.length_map]; exact HL.out.symm
                  rw [hlv1] at HOW6 ⊢
                  rw [hlv2] at HOV6 hcpv ⊢
                  obtain ⟨qv, ov', hvp, _⟩ := hvx a (upU (upT 2 x) x) (by rw [List.getElem?_map, HXA.out]; rfl)
                  subst hvp
                  obtain ⟨s0, s1, s2, sf, sl⟩ := hs6.cells
                  have sf0 := sf 0
                  have sf1 := sf 1
                  have sf2 := sf 2
                  have HCV : Hid (a ≤ vcap) := Lib.hid (by omega)
                  clear how6 hvx hb6 hsN hrN sf hok hcp6 hcpv
                  go_wp2_with fail
                  have hsP := hs6.put3 (.string ver) (.slice rp n rc) (.slice lp m lcap)
                  have hoP : Only (fun b => b = w.heap.size) w6 (((w6.setCell ⟨w.heap.size, 0, none⟩ (.string ver)).setCell ⟨w.heap.size, 1, none⟩ (.slice rp n rc)).setCell ⟨w.heap.size, 2, none⟩ (.slice lp m lcap)) :=
                    (((Only.refl (fun b => b = w.heap.size) w6).setCell (p := ⟨w.heap.size, 0, none⟩) rfl _).setCell (p := ⟨w.heap.size, 1, none⟩) rfl _).setCell (p := ⟨w.heap.size, 2, none⟩) rfl _
                  generalize (((w6.setCell ⟨w.heap.size, 0, none⟩ (.string ver)).setCell ⟨w.heap.size, 1, none⟩ (.slice rp n rc)).setCell ⟨w.heap.size, 2, none⟩ (.slice lp m lcap)) = WP at *
                  have hw0 : w.heap.size + 2 = W0.heap.size := HZ0.out.symm
                  have hwn : wr.heap.size + 2 = WN.heap.size := HZN.out.symm
                  have HOWP := Lib.hid (HOW6.out.only hoP (fun b hb => .inl (by omega)))
                  have HOVP := Lib.hid (HOV6.out.kept (Kept.only hoP (fun b hb hs => by omega)))
                  have hrP := hr6.only hoP (by omega)
                  have hnP : ElBox WP (wr.heap.size + 1) (x.1, x.2.1 + 1, 2, x.2.2.2) := (hoP.block _ hn6.cells.2.2.2.2.2 (by omega)).trans hn6
                  have HBP : Hid (Below w.heap.size w WP) := by
                    have b1 := HB0.out.trans (HBW.out.mono HB0.out.size)
                    have b2 := b1.trans (HBN.out.mono b1.size)
                    have b3 := b2.trans (HB6.out.mono b2.size)
                    exact Only.toBelow b3 (Nat.le_refl _) hoP (fun i hi => by omega)
                  have HRP := Lib.hid hrP
                  have HNP := Lib.hid hnP
                  have HSP := Lib.hid hsP
                  have HWZ := Lib.hid (And.intro hw0 hwn)
                  have HSV : Hid (∀ V : World, V.heap[w.heap.size]? = WP.heap[w.heap.size]? → V.heap[wr.heap.size + 1]? = WP.heap[wr.heap.size + 1]? → V.cell? ⟨w.heap.size, 0, none⟩ = some (.string ver) ∧ V.cell? ⟨w.heap.size, 1, none⟩ = some (.slice rp n rc) ∧ V.cell? ⟨w.heap.size, 2, none⟩ = some (.slice lp m lcap) ∧
                      V.cell? ⟨wr.heap.size + 1, 0, none⟩ = some (.int .i64 (x.1)) ∧ V.cell? ⟨wr.heap.size + 1, 1, none⟩ = some (.int .i64 (x.2.1 + 1)) ∧ V.cell? ⟨wr.heap.size + 1, 2, none⟩ = some (.int .i64 (2)) ∧ V.cell? ⟨wr.heap.size + 1, 3, none⟩ = some (.bool x.2.2.2)) := Lib.hid (fun V e1 e2 => by
                    obtain ⟨a0, a1, a2, _, _⟩ := SrcAt.cells (W := V) (e1.trans HSP.out)
                    obtain ⟨b0, b1, b2, b3, _, _⟩ := ElBox.cells (W := V) (e2.trans HNP.out)
                    exact ⟨a0, a1, a2, b0, b1, b2, b3⟩)
                  have HLT : Hid (w.heap.size + 1 < WP.heap.size ∧ wr.heap.size + 1 < WP.heap.size) := Lib.hid ⟨hrP.cells.2.2.2.2, hnP.cells.2.2.2.2.2⟩
                  have HHI : Hid (w.heap.size + 1 < wr.heap.size + 1) := Lib.hid (by omega)
                  have hsl := fun W => slice_cut qv ov' k vcap a HCV.out W
                  clear s0 s1 s2 sf0 sf1 sf2 sl hs6 hr6 hn6 hsP hrP hnP hoP hw0 hwn
                  refine wp_region_held_drew (S := (fun V : World => V.cell? ⟨w.heap.size, 0, none⟩ = some (.string ver) ∧ V.cell? ⟨w.heap.size, 1, none⟩ = some (.slice rp n rc) ∧ V.cell? ⟨w.heap.size, 2, none⟩ = some (.slice lp m lcap) ∧
                      V.cell? ⟨wr.heap.size + 1, 0, none⟩ = some (.int .i64 (x.1)) ∧ V.cell? ⟨wr.heap.size + 1, 1, none⟩ = some (.int .i64 (x.2.1 + 1)) ∧ V.cell? ⟨wr.heap.size + 1, 2, none⟩ = some (.int .i64 (2)) ∧ V.cell? ⟨wr.heap.size + 1, 3, none⟩ = some (.bool x.2.2.2))) (by kernel_rfl) (HSV.out WP.drew rfl rfl) (fun hH => ?_)
                  refine gTakeL (i := 0) (v := ?_) rfl (by kernel_rfl) (by kernel_rfl) (by kernel_rfl) (fun _ _ _ h => h) (Or.inl ⟨by first | rfl | kernel_rfl, ?_⟩) hH ?_; rotate_left 1; (first | (focus (intro w hSw; (try dsimp only at hSw); go_simp; done)) | (focus (intro w hSw; (try dsimp only at hSw); go_simp; with_reducible rfl)) | (focus (intro w hSw; (try dsimp only at hSw); simp [hSw, go_sem]; done))); (try simp only [Act.put, List.setIfInBounds_toArray, List.set_cons_zero, List.set_cons_succ])
                  refine gTakeL (i := 1) (v := ?_) rfl (by kernel_rfl) (by kernel_rfl) (by kernel_rfl) (fun _ _ _ h => h) (Or.inl ⟨by first | rfl | kernel_rfl, ?_⟩) hH ?_; rotate_left 1; (first | (focus (intro w hSw; (try dsimp only at hSw); go_simp; done)) | (focus (intro w hSw; (try dsimp only at hSw); go_simp; with_reducible rfl)) | (focus (intro w hSw; (try dsimp only at hSw); simp [hSw, go_sem]; done))); (try simp only [Act.put, List.setIfInBounds_toArray, List.set_cons_zero, List.set_cons_succ])
                  refine gTakeL (i := 2) (v := ?_) rfl (by kernel_rfl) (by kernel_rfl) (by kernel_rfl) (fun _ _ _ h => h) (Or.inl ⟨by first | rfl | kernel_rfl, ?_⟩) hH ?_; rotate_left 1; (first | (focus (intro w hSw; (try dsimp only at hSw); go_simp; done)) | (focus (intro w hSw; (try dsimp only at hSw); go_simp; with_reducible rfl)) | (focus (intro w hSw; (try dsimp only at hSw); simp [hSw, go_sem]; done))); (try simp only [Act.put, List.setIfInBounds_toArray, List.set_cons_zero, List.set_cons_succ])
                  refine gTakeL (i := 3) (v := ?_) rfl (by kernel_rfl) (by kernel_rfl) (by kernel_rfl) (fun _ _ _ h => h) (Or.inl ⟨by first | rfl | kernel_rfl, ?_⟩) hH ?_; rotate_left 1; (first | (focus (intro w hSw; (try dsimp only at hSw); go_simp; done)) | (focus (intro w hSw; (try dsimp only at hSw); go_simp; with_reducible rfl)) | (focus (intro w hSw; (try dsimp only at hSw); simp [hSw, go_sem]; done))); (try simp only [Act.put, List.setIfInBounds_toArray, List.set_cons_zero, List.set_cons_succ])
                  refine gTakeL (i := 5) (v := ?_) rfl (by kernel_rfl) (by kernel_rfl) (by kernel_rfl) (fun _ _ _ h => h) (Or.inl ⟨by first | rfl | kernel_rfl, ?_⟩) hH ?_; rotate_left 1; (first | (focus (intro w hSw; (try dsimp only at hSw); go_simp; done)) | (focus (intro w hSw; (try dsimp only at hSw); go_simp; with_reducible rfl)) | (focus (intro w hSw; (try dsimp only at hSw); simp [hSw, go_sem]; done))); (try simp only [Act.put, List.setIfInBounds_toArray, List.set_cons_zero, List.set_cons_succ])
                  refine gTakeL (i := 4) (v := ?_) rfl (by kernel_rfl) (by kernel_rfl) (by kernel_rfl) (fun _ _ _ h => h) (Or.inl ⟨by first | rfl | kernel_rfl, ?_⟩) hH ?_; rotate_left 1; (first | (focus (intro w hSw; (try dsimp only at hSw); go_simp; done)) | (focus (intro w hSw; (try dsimp only at hSw); go_simp; with_reducible rfl)) | (focus (intro w hSw; (try dsimp only at hSw); simp [hSw, go_sem]; done))); (try simp only [Act.put, List.setIfInBounds_toArray, List.set_cons_zero, List.set_cons_succ])
                  have HBL : Hid (Below WP.heap.size WP ((WP.drew).alloc (.cells #[.int .i64 (x.1), .int .i64 (x.2.1 + 1), .int .i64 (2), .bool x.2.2.2] 36))) := Lib.hid ((Below.refl _ WP).drew.alloc (Nat.le_refl _) _)
                  have HNW : Hid (∀ (j : Nat) u, (elCells (x.1, x.2.1 + 1, 2, x.2.2.2))[j]? = some u → ((WP.drew).alloc (.cells #[.int .i64 (x.1), .int .i64 (x.2.1 + 1), .int .i64 (2), .bool x.2.2.2] 36)).cell? ((⟨WP.heap.size, 0, none⟩ : Addr).add j) = some u) := cells_new WP.drew (elCells (x.1, x.2.1 + 1, 2, x.2.2.2)) 36
                  refine gOneL (i := 6) (by kernel_rfl) rfl (by rfl) (fun K hK => ?_)
                  have HK := Lib.hid hK
                  clear hK
                  go_simp
                  refine HK.out _ _ (HSV.out _ (HBL.out.block _ (by have := HLT.out.1; omega)) (HBL.out.block _ HLT.out.2)) ?_
                  clear HK
                  (try simp only [Act.put, List.setIfInBounds_toArray, List.set_cons_zero, List.set_cons_succ])
                  refine gOneL (i := 7) (by kernel_rfl) rfl (by rfl) (fun K hK => ?_)
                  have HK := Lib.hid hK
                  clear hK
                  refine wp_append_els _ (.tmp 106) (.tmp 108) rfl qv ov' k vcap a (e.map (upU (upT 2 x))) WP.heap.size (x.1, x.2.1 + 1, 2, x.2.2.2) rfl rfl (HOVP.out.kept (Kept.below HBL.out)) (by rw [List.length_map]; have := HL.out; omega) (by rw [List.length_map]; exact hel2s) HNW.out ?_
                  intro p7 n7 c7 w7 he7 hb7
                  have HB7 : Hid (Below WP.heap.size WP w7) := Lib.hid (HBL.out.trans (hb7.mono HBL.out.size))
                  have HE7 := Lib.hid he7
                  have HZ7 : Hid (WP.heap.size ≤ ((WP.drew).alloc (.cells #[.int .i64 (x.1), .int .i64 (x.2.1 + 1), .int .i64 (2), .bool x.2.2.2] 36)).heap.size) := Lib.hid HBL.out.size
                  refine HK.out _ _ (HSV.out _ (HB7.out.block _ (by have := HLT.out.1; omega)) (HB7.out.block _ HLT.out.2)) ?_
                  have hr7 := HRP.out.below HB7.out
                  obtain ⟨_, _, _, rf, rl⟩ := hr7.cells
                  have rf0 := rf 0
                  have rf1 := rf 1
                  have rf2 := rf 2
                  clear HK rf hb7 he7
                  (try simp only [Act.put, List.setIfInBounds_toArray, List.set_cons_zero, List.set_cons_succ])
                  refine gOneL (i := 8) (by kernel_rfl) rfl (by rfl) (fun K hK => ?_)
                  have HK := Lib.hid hK
                  clear hK
                  go_simp
                  have hoR : Only (fun b => b = w.heap.size + 1) w7 (((w7.setCell ⟨w.heap.size + 1, 0, none⟩ (.string ver)).setCell ⟨w.heap.size + 1, 1, none⟩ (.slice rp n rc)).setCell ⟨w.heap.size + 1, 2, none⟩ (.slice lp m lcap)) :=
                    (((Only.refl (fun b => b = w.heap.size + 1) w7).setCell (p := ⟨w.heap.size + 1, 0, none⟩) rfl _).setCell (p := ⟨w.heap.size + 1, 1, none⟩) rfl _).setCell (p := ⟨w.heap.size + 1, 2, none⟩) rfl _
                  have hsR := hr7.put3 (.string ver) (.slice rp n rc) (.slice lp m lcap)
                  generalize (((w7.setCell ⟨w.heap.size + 1, 0, none⟩ (.string ver)).setCell ⟨w.heap.size + 1, 1, none⟩ (.slice rp n rc)).setCell ⟨w.heap.size + 1, 2, none⟩ (.slice lp m lcap)) = WR at *
                  have hS7 := HSV.out WR ((hoR.block _ (by have := HLT.out.1; have := HB7.out.size; omega) (by omega)).trans (HB7.out.block _ (by have := HLT.out.1; omega))) ((hoR.block _ (by have := HLT.out.2; have := HB7.out.size; omega) (by have := HHI.out; omega)).trans (HB7.out.block _ HLT.out.2))
                  have HS7 := Lib.hid hS7
                  have HBF : Hid (Below w.heap.size w WR) := Lib.hid (Only.toBelow (HBP.out.trans (HB7.out.mono HBP.out.size)) (Nat.le_refl _) hoR (fun i hi => by omega))
                  have HEF : Hid (EntsOwnC w.heap.size WR (.slice lp m lcap) (es.map (raiE (upU (upT 2 x)))) ts cs) := Lib.hid (((HOWP.out.below HB7.out).only hoR (fun b hb => .inl (by have := HWZ.out; omega))).weak (by have := HWZ.out; omega))
                  have HOF : Hid (ElsIn (fun b => w.heap.size ≤ b) WR (.slice p7 n7 c7) ((e.take a).map (upU (upT 2 x)) ++ [(x.1, x.2.1 + 1, 2, x.2.2.2)])) := Lib.hid (by
                    have h1 := ElsIn.mono (HE7.out.kept (Kept.only hoR (fun b hb hs => by have := HLT.out.1; have := HZ7.out; have hb' : _ ≤ b := hb; simp at hb' this; omega))) (S := fun b => w.heap.size ≤ b) (fun b hb _ => by have hb' : _ ≤ b := hb; have := HLT.out.1; simp at hb'; show w.heap.size ≤ b; omega)
                    rwa [← List.map_take] at h1)
                  have HQ := Lib.hid hsR.cells
                  refine HK.out _ _ hS7 ?_
                  clear HK hr7 rf0 rf1 rf2 rl hS7 hsR hoR
                  (try simp only [Act.put, List.setIfInBounds_toArray, List.set_cons_zero, List.set_cons_succ])
                  refine gOneL (i := 9) (by kernel_rfl) rfl (by rfl) (fun K hK => ?_)
                  have HK := Lib.hid hK
                  clear hK
                  go_simp
                  refine HK.out _ _ HS7.out ?_
                  clear HK
                  refine wpAnyH_done (by kernel_rfl) ?_ _
                  obtain ⟨q0, q1, q2, _, _⟩ := HQ.out
                  clear hH
                  go_wp2_with fail
                  refine bodyPost_ret (v := .tuple #[.agg #[.string ver, .slice rp n rc, .slice lp m lcap], .slice p7 n7 c7]) (by simp [results, Tryz.results34, go_sem, q0, q1, q2]) rfl ?_
                  exact ⟨HBF.out, .inl ⟨_, _, _, _, _, _, _, _, _, HRR.out, rfl, HEF.out, HOF.out⟩⟩
                · rw [if_neg (fun h => hok (HOKB.out.1 h))] at HRR
                  exact ⟨rfl, (HB0.out.trans (HBW.out.mono HB0.out.size)).trans ((HBN.out.trans (hb6.mono HBN.out.size)).mono (HB0.out.trans (HBW.out.mono HB0.out.size)).size), .inr ⟨_, HRR.out, rfl⟩⟩
              · have d6 : decide (x.2.1 < 511) = false := decide_eq_false hnx
                have HRR : Hid (behR es e 2 = .inr 102) := behR_full HL13.out HAT.out HXX.out HP.out (by rw [next2, if_neg hnx])
                go_upto_region 23 with (first | (go_at_call 57; refine (must_ok _ _ _).mono ?_; rintro e w' ⟨rfl, rfl⟩))
                go_wp2_with (go_at_call 57; refine (must_no _ _ _).mono ?_; rintro e w' ⟨rfl, h5⟩)
                subst h5
                exact ⟨rfl, (HB0.out.trans (HBW.out.mono HB0.out.size)).trans (by refine Below.mono (B := wr.heap.size) (by (repeat' (first | (with_reducible exact Below.refl _ _) | (with_reducible assumption) | (with_reducible refine Below.alloc ?_ ?_ _) | (with_reducible refine Below.drew ?_) | (with_reducible refine below_drewN ?_ _) | (with_reducible refine Below.setCell ?_ ?_ _) | (with_reducible refine Below.trans ?_ (Below.mono (by assumption) ?_)) | go_size))) (HB0.out.trans (HBW.out.mono HB0.out.size)).size), .inr ⟨_, HRR.out, rfl⟩⟩
            · have hxlo : -9223372036854775808 ≤ x.2.2.1 := HXB.out.2.2.1
              by_cases hnx : x.2.2.1 < 63
              · have d6 : decide (x.2.2.1 < 63) = true := decide_eq_true hnx
                have HRR : Hid (behR es e 3 = if okB (upT 3 x) es e = true then .inl (a, x, (x.1, x.2.1, x.2.2.1 + 1, x.2.2.2)) else .inr 102) := behR_ok HL13.out HAT.out HXX.out HP.out (by rw [next3, if_pos hnx])
                go_upto_region 26 with (first | (go_at_call 57; refine (must_ok _ _ _).mono ?_; rintro e w' ⟨rfl, rfl⟩))
                have hbN : Below wr.heap.size wr ((wr.alloc (.cells #[.int .i64 x.1, .int .i64 x.2.1, .int .i64 x.2.2.1, .bool x.2.2.2] 36)).alloc (.cells #[.int .i64 (x.1), .int .i64 (x.2.1), .int .i64 (x.2.2.1 + 1), .bool x.2.2.2] 36)) := ((Below.refl _ wr).alloc (Nat.le_refl _) _).alloc (by simp) _
                have hxb : ElBox ((wr.alloc (.cells #[.int .i64 x.1, .int .i64 x.2.1, .int .i64 x.2.2.1, .bool x.2.2.2] 36)).alloc (.cells #[.int .i64 (x.1), .int .i64 (x.2.1), .int .i64 (x.2.2.1 + 1), .bool x.2.2.2] 36)) wr.heap.size x := by
                  unfold ElBox
                  rw [Below.heap_alloc _ _ _ (by simp), World.alloc_heap_new]
                have hnb : ElBox ((wr.alloc (.cells #[.int .i64 x.1, .int .i64 x.2.1, .int .i64 x.2.2.1, .bool x.2.2.2] 36)).alloc (.cells #[.int .i64 (x.1), .int .i64 (x.2.1), .int .i64 (x.2.2.1 + 1), .bool x.2.2.2] 36)) (wr.heap.size + 1) (x.1, x.2.1, x.2.2.1 + 1, x.2.2.2) := by
                  have := World.alloc_heap_new (wr.alloc (.cells #[.int .i64 x.1, .int .i64 x.2.1, .int .i64 x.2.2.1, .bool x.2.2.2] 36)) (.cells #[.int .i64 (x.1), .int .i64 (x.2.1), .int .i64 (x.2.2.1 + 1), .bool x.2.2.2] 36)
                  rw [World.size_alloc] at this; exact this
                have hzN : ((wr.alloc (.cells #[.int .i64 x.1, .int .i64 x.2.1, .int .i64 x.2.2.1, .bool x.2.2.2] 36)).alloc (.cells #[.int .i64 (x.1), .int .i64 (x.2.1), .int .i64 (x.2.2.1 + 1), .bool x.2.2.2] 36)).heap.size = wr.heap.size + 2 := by simp
                generalize ((wr.alloc (.cells #[.int .i64 x.1, .int .i64 x.2.1, .int .i64 x.2.2.1, .bool x.2.2.2] 36)).alloc (.cells #[.int .i64 (x.1), .int .i64 (x.2.1), .int .i64 (x.2.2.1 + 1), .bool x.2.2.2] 36)) = WN at *
                have HBN := Lib.hid hbN
                have HXBX := Lib.hid hxb
                have HNBX := Lib.hid hnb
                have HZN := Lib.hid hzN
                have hwr0 : W0.heap.size ≤ wr.heap.size := HBW.out.size
                obtain ⟨s0, s1, s2, _, sl⟩ := ((HS0.out.below HBW.out).below hbN).cells
                go_wp2_with fail
                have hcall := raised_any R Q (upT 3 x) x wr.heap.size 62 es e ver n (.slice p1 n c1) (.slice p2 m c2) (.slice (some ⟨q, o, none⟩) k c3) WN (enters_of Tryz.func62 (by kernel_rfl) rfl) (fun W y h1 h2 h3 => up3_any x y wr.heap.size W h1 h2 h3) hxb.el4 hxb.cells.2.2.2.2.2
                  (((HR.out.below HB0.out).below HBW.out).below hbN) (((HE.out.kept (Kept.below HB0.out)).kept (Kept.below HBW.out)).kept (Kept.below hbN)) (((H2.out.kept (Kept.below HB0.out)).kept (Kept.below HBW.out)).kept (Kept.below hbN)) hn hels HX.out hel2s HB.out HB2.out
                refine hcall.mono ?_
                have hsN := (HS0.out.below HBW.out).below hbN
                have hrN := (HR0.out.below HBW.out).below hbN
                clear hcall hbN hxb hnb hzN s0 s1 s2 sl e0 e1 e2 e3 hxlo
                have HOKB := Lib.hid (okB_iff (upT 3 x) es e)
                rintro e' w6 ⟨hb6, ⟨rp, rc, lv', ts, cs, ov, hok, rfl, how6, hov6, hcp6⟩ | ⟨hok, rfl⟩⟩
                · rw [if_pos (HOKB.out.2 hok)] at HRR
                  have HOW6 := Lib.hid how6
                  have HOV6 := Lib.hid hov6
                  have HB6 := Lib.hid hb6
                  have hs6 := hsN.below hb6
                  have hr6 := hrN.below hb6
                  have hn6 := HNBX.out.below hb6
                  obtain ⟨lp, lcap, rfl⟩ := how6.form
                  obtain ⟨vp, vcap, rfl, hvx⟩ := hov6
                  have hcpv := hcp6 _ _ _ rfl
                  have hlv1 : (es.map (raiE (upU (upT 3 x)))).length = m := by rw [List.length_map]; exact HM.out.symm
                  have hlv2 : (e.map (upU (upT 3 x))).length = k := by rw [List.length_map]; exact HL.out.symm
                  rw [hlv1] at HOW6 ⊢
                  rw [hlv2] at HOV6 hcpv ⊢
                  obtain ⟨qv, ov', hvp, _⟩ := hvx a (upU (upT 3 x) x) (by rw [List.getElem?_map, HXA.out]; rfl)
                  subst hvp
                  obtain ⟨s0, s1, s2, sf, sl⟩ := hs6.cells
                  have sf0 := sf 0
                  have sf1 := sf 1
                  have sf2 := sf 2
                  have HCV : Hid (a ≤ vcap) := Lib.hid (by omega)
                  clear how6 hvx hb6 hsN hrN sf hok hcp6 hcpv
                  go_wp2_with fail
                  have hsP := hs6.put3 (.string ver) (.slice rp n rc) (.slice lp m lcap)
                  have hoP : Only (fun b => b = w.heap.size) w6 (((w6.setCell ⟨w.heap.size, 0, none⟩ (.string ver)).setCell ⟨w.heap.size, 1, none⟩ (.slice rp n rc)).setCell ⟨w.heap.size, 2, none⟩ (.slice lp m lcap)) :=
                    (((Only.refl (fun b => b = w.heap.size) w6).setCell (p := ⟨w.heap.size, 0, none⟩) rfl _).setCell (p := ⟨w.heap.size, 1, none⟩) rfl _).setCell (p := ⟨w.heap.size, 2, none⟩) rfl _
                  generalize (((w6.setCell ⟨w.heap.size, 0, none⟩ (.string ver)).setCell ⟨w.heap.size, 1, none⟩ (.slice rp n rc)).setCell ⟨w.heap.size, 2, none⟩ (.slice lp m lcap)) = WP at *
                  have hw0 : w.heap.size + 2 = W0.heap.size := HZ0.out.symm
                  have hwn : wr.heap.size + 2 = WN.heap.size := HZN.out.symm
                  have HOWP := Lib.hid (HOW6.out.only hoP (fun b hb => .inl (by omega)))
                  have HOVP := Lib.hid (HOV6.out.kept (Kept.only hoP (fun b hb hs => by omega)))
                  have hrP := hr6.only hoP (by omega)
                  have hnP : ElBox WP (wr.heap.size + 1) (x.1, x.2.1, x.2.2.1 + 1, x.2.2.2) := (hoP.block _ hn6.cells.2.2.2.2.2 (by omega)).trans hn6
                  have HBP : Hid (Below w.heap.size w WP) := by
                    have b1 := HB0.out.trans (HBW.out.mono HB0.out.size)
                    have b2 := b1.trans (HBN.out.mono b1.size)
                    have b3 := b2.trans (HB6.out.mono b2.size)
                    exact Only.toBelow b3 (Nat.le_refl _) hoP (fun i hi => by omega)
                  have HRP := Lib.hid hrP
                  have HNP := Lib.hid hnP
                  have HSP := Lib.hid hsP
                  have HWZ := Lib.hid (And.intro hw0 hwn)
                  have HSV : Hid (∀ V : World, V.heap[w.heap.size]? = WP.heap[w.heap.size]? → V.heap[wr.heap.size + 1]? = WP.heap[wr.heap.size + 1]? → V.cell? ⟨w.heap.size, 0, none⟩ = some (.string ver) ∧ V.cell? ⟨w.heap.size, 1, none⟩ = some (.slice rp n rc) ∧ V.cell? ⟨w.heap.size, 2, none⟩ = some (.slice lp m lcap) ∧
                      V.cell? ⟨wr.heap.size + 1, 0, none⟩ = some (.int .i64 (x.1)) ∧ V.cell? ⟨wr.heap.size + 1, 1, none⟩ = some (.int .i64 (x.2.1)) ∧ V.cell? ⟨wr.heap.size + 1, 2, none⟩ = some (.int .i64 (x.2.2.1 + 1)) ∧ V.cell? ⟨wr.heap.size + 1, 3, none⟩ = some (.bool x.2.2.2)) := Lib.hid (fun V e1 e2 => by
                    obtain ⟨a0, a1, a2, _, _⟩ := SrcAt.cells (W := V) (e1.trans HSP.out)
                    obtain ⟨b0, b1, b2, b3, _, _⟩ := ElBox.cells (W := V) (e2.trans HNP.out)
                    exact ⟨a0, a1, a2, b0, b1, b2, b3⟩)
                  have HLT : Hid (w.heap.size + 1 < WP.heap.size ∧ wr.heap.size + 1 < WP.heap.size) := Lib.hid ⟨hrP.cells.2.2.2.2, hnP.cells.2.2.2.2.2⟩
                  have HHI : Hid (w.heap.size + 1 < wr.heap.size + 1) := Lib.hid (by omega)
                  have hsl := fun W => slice_cut qv ov' k vcap a HCV.out W
                  clear s0 s1 s2 sf0 sf1 sf2 sl hs6 hr6 hn6 hsP hrP hnP hoP hw0 hwn
                  refine wp_region_held_drew (S := (fun V : World => V.cell? ⟨w.heap.size, 0, none⟩ = some (.string ver) ∧ V.cell? ⟨w.heap.size, 1, none⟩ = some (.slice rp n rc) ∧ V.cell? ⟨w.heap.size, 2, none⟩ = some (.slice lp m lcap) ∧
                      V.cell? ⟨wr.heap.size + 1, 0, none⟩ = some (.int .i64 (x.1)) ∧ V.cell? ⟨wr.heap.size + 1, 1, none⟩ = some (.int .i64 (x.2.1)) ∧ V.cell? ⟨wr.heap.size + 1, 2, none⟩ = some (.int .i64 (x.2.2.1 + 1)) ∧ V.cell? ⟨wr.heap.size + 1, 3, none⟩ = some (.bool x.2.2.2))) (by kernel_rfl) (HSV.out WP.drew rfl rfl) (fun hH => ?_)
                  refine gTakeL (i := 0) (v := ?_) rfl (by kernel_rfl) (by kernel_rfl) (by kernel_rfl) (fun _ _ _ h => h) (Or.inl ⟨by first | rfl | kernel_rfl, ?_⟩) hH ?_; rotate_left 1; (first | (focus (intro w hSw; (try dsimp only at hSw); go_simp; done)) | (focus (intro w hSw; (try dsimp only at hSw); go_simp; with_reducible rfl)) | (focus (intro w hSw; (try dsimp only at hSw); simp [hSw, go_sem]; done))); (try simp only [Act.put, List.setIfInBounds_toArray, List.set_cons_zero, List.set_cons_succ])
                  refine gTakeL (i := 1) (v := ?_) rfl (by kernel_rfl) (by kernel_rfl) (by kernel_rfl) (fun _ _ _ h => h) (Or.inl ⟨by first | rfl | kernel_rfl, ?_⟩) hH ?_; rotate_left 1; (first | (focus (intro w hSw; (try dsimp only at hSw); go_simp; done)) | (focus (intro w hSw; (try dsimp only at hSw); go_simp; with_reducible rfl)) | (focus (intro w hSw; (try dsimp only at hSw); simp [hSw, go_sem]; done))); (try simp only [Act.put, List.setIfInBounds_toArray, List.set_cons_zero, List.set_cons_succ])
                  refine gTakeL (i := 2) (v := ?_) rfl (by kernel_rfl) (by kernel_rfl) (by kernel_rfl) (fun _ _ _ h => h) (Or.inl ⟨by first | rfl | kernel_rfl, ?_⟩) hH ?_; rotate_left 1; (first | (focus (intro w hSw; (try dsimp only at hSw); go_simp; done)) | (focus (intro w hSw; (try dsimp only at hSw); go_simp; with_reducible rfl)) | (focus (intro w hSw; (try dsimp only at hSw); simp [hSw, go_sem]; done))); (try simp only [Act.put, List.setIfInBounds_toArray, List.set_cons_zero, List.set_cons_succ])
                  refine gTakeL (i := 3) (v := ?_) rfl (by kernel_rfl) (by kernel_rfl) (by kernel_rfl) (fun _ _ _ h => h) (Or.inl ⟨by first | rfl | kernel_rfl, ?_⟩) hH ?_; rotate_left 1; (first | (focus (intro w hSw; (try dsimp only at hSw); go_simp; done)) | (focus (intro w hSw; (try dsimp only at hSw); go_simp; with_reducible rfl)) | (focus (intro w hSw; (try dsimp only at hSw); simp [hSw, go_sem]; done))); (try simp only [Act.put, List.setIfInBounds_toArray, List.set_cons_zero, List.set_cons_succ])
                  refine gTakeL (i := 5) (v := ?_) rfl (by kernel_rfl) (by kernel_rfl) (by kernel_rfl) (fun _ _ _ h => h) (Or.inl ⟨by first | rfl | kernel_rfl, ?_⟩) hH ?_; rotate_left 1; (first | (focus (intro w hSw; (try dsimp only at hSw); go_simp; done)) | (focus (intro w hSw; (try dsimp only at hSw); go_simp; with_reducible rfl)) | (focus (intro w hSw; (try dsimp only at hSw); simp [hSw, go_sem]; done))); (try simp only [Act.put, List.setIfInBounds_toArray, List.set_cons_zero, List.set_cons_succ])
                  refine gTakeL (i := 4) (v := ?_) rfl (by kernel_rfl) (by kernel_rfl) (by kernel_rfl) (fun _ _ _ h => h) (Or.inl ⟨by first | rfl | kernel_rfl, ?_⟩) hH ?_; rotate_left 1; (first | (focus (intro w hSw; (try dsimp only at hSw); go_simp; done)) | (focus (intro w hSw; (try dsimp only at hSw); go_simp; with_reducible rfl)) | (focus (intro w hSw; (try dsimp only at hSw); simp [hSw, go_sem]; done))); (try simp only [Act.put, List.setIfInBounds_toArray, List.set_cons_zero, List.set_cons_succ])
                  have HBL : Hid (Below WP.heap.size WP ((WP.drew).alloc (.cells #[.int .i64 (x.1), .int .i64 (x.2.1), .int .i64 (x.2.2.1 + 1), .bool x.2.2.2] 36))) := Lib.hid ((Below.refl _ WP).drew.alloc (Nat.le_refl _) _)
                  have HNW : Hid (∀ (j : Nat) u, (elCells (x.1, x.2.1, x.2.2.1 + 1, x.2.2.2))[j]? = some u → ((WP.drew).alloc (.cells #[.int .i64 (x.1), .int .i64 (x.2.1), .int .i64 (x.2.2.1 + 1), .bool x.2.2.2] 36)).cell? ((⟨WP.heap.size, 0, none⟩ : Addr).add j) = some u) := cells_new WP.drew (elCells (x.1, x.2.1, x.2.2.1 + 1, x.2.2.2)) 36
                  refine gOneL (i := 6) (by kernel_rfl) rfl (by rfl) (fun K hK => ?_)
                  have HK := Lib.hid hK
                  clear hK
                  go_simp
                  refine HK.out _ _ (HSV.out _ (HBL.out.block _ (by have := HLT.out.1; omega)) (HBL.out.block _ HLT.out.2)) ?_
                  clear HK
                  (try simp only [Act.put, List.setIfInBounds_toArray, List.set_cons_zero, List.set_cons_succ])
                  refine gOneL (i := 7) (by kernel_rfl) rfl (by rfl) (fun K hK => ?_)
                  have HK := Lib.hid hK
                  clear hK
                  refine wp_append_els _ (.tmp 106) (.tmp 108) rfl qv ov' k vcap a (e.map (upU (upT 3 x))) WP.heap.size (x.1, x.2.1, x.2.2.1 + 1, x.2.2.2) rfl rfl (HOVP.out.kept (Kept.below HBL.out)) (by rw [List.length_map]; have := HL.out; omega) (by rw [List.length_map]; exact hel2s) HNW.out ?_
                  intro p7 n7 c7 w7 he7 hb7
                  have HB7 : Hid (Below WP.heap.size WP w7) := Lib.hid (HBL.out.trans (hb7.mono HBL.out.size))
                  have HE7 := Lib.hid he7
                  have HZ7 : Hid (WP.heap.size ≤ ((WP.drew).alloc (.cells #[.int .i64 (x.1), .int .i64 (x.2.1), .int .i64 (x.2.2.1 + 1), .bool x.2.2.2] 36)).heap.size) := Lib.hid HBL.out.size
                  refine HK.out _ _ (HSV.out _ (HB7.out.block _ (by have := HLT.out.1; omega)) (HB7.out.block _ HLT.out.2)) ?_
                  have hr7 := HRP.out.below HB7.out
                  obtain ⟨_, _, _, rf, rl⟩ := hr7.cells
                  have rf0 := rf 0
                  have rf1 := rf 1
                  have rf2 := rf 2
                  clear HK rf hb7 he7
                  (try simp only [Act.put, List.setIfInBounds_toArray, List.set_cons_zero, List.set_cons_succ])
                  refine gOneL (i := 8) (by kernel_rfl) rfl (by rfl) (fun K hK => ?_)
                  have HK := Lib.hid hK
                  clear hK
                  go_simp
                  have hoR : Only (fun b => b = w.heap.size + 1) w7 (((w7.setCell ⟨w.heap.size + 1, 0, none⟩ (.string ver)).setCell ⟨w.heap.size + 1, 1, none⟩ (.slice rp n rc)).setCell ⟨w.heap.size + 1, 2, none⟩ (.slice lp m lcap)) :=
                    (((Only.refl (fun b => b = w.heap.size + 1) w7).setCell (p := ⟨w.heap.size + 1, 0, none⟩) rfl _).setCell (p := ⟨w.heap.size + 1, 1, none⟩) rfl _).setCell (p := ⟨w.heap.size + 1, 2, none⟩) rfl _
                  have hsR := hr7.put3 (.string ver) (.slice rp n rc) (.slice lp m lcap)
                  generalize (((w7.setCell ⟨w.heap.size + 1, 0, none⟩ (.string ver)).setCell ⟨w.heap.size + 1, 1, none⟩ (.slice rp n rc)).setCell ⟨w.heap.size + 1, 2, none⟩ (.slice lp m lcap)) = WR at *
                  have hS7 := HSV.out WR ((hoR.block _ (by have := HLT.out.1; have := HB7.out.size; omega) (by omega)).trans (HB7.out.block _ (by have := HLT.out.1; omega))) ((hoR.block _ (by have := HLT.out.2; have := HB7.out.size; omega) (by have := HHI.out; omega)).trans (HB7.out.block _ HLT.out.2))
                  have HS7 := Lib.hid hS7
                  have HBF : Hid (Below w.heap.size w WR) := Lib.hid (Only.toBelow (HBP.out.trans (HB7.out.mono HBP.out.size)) (Nat.le_refl _) hoR (fun i hi => by omega))
                  have HEF : Hid (EntsOwnC w.heap.size WR (.slice lp m lcap) (es.map (raiE (upU (upT 3 x)))) ts cs) := Lib.hid (((HOWP.out.below HB7.out).only hoR (fun b hb => .inl (by have := HWZ.out; omega))).weak (by have := HWZ.out; omega))
                  have HOF : Hid (ElsIn (fun b => w.heap.size ≤ b) WR (.slice p7 n7 c7) ((e.take a).map (upU (upT 3 x)) ++ [(x.1, x.2.1, x.2.2.1 + 1, x.2.2.2)])) := Lib.hid (by
                    have h1 := ElsIn.mono (HE7.out.kept (Kept.only hoR (fun b hb hs => by have := HLT.out.1; have := HZ7.out; have hb' : _ ≤ b := hb; simp at hb' this; omega))) (S := fun b => w.heap.size ≤ b) (fun b hb _ => by have hb' : _ ≤ b := hb; have := HLT.out.1; simp at hb'; show w.heap.size ≤ b; omega)
                    rwa [← List.map_take] at h1)
                  have HQ := Lib.hid hsR.cells
                  refine HK.out _ _ hS7 ?_
                  clear HK hr7 rf0 rf1 rf2 rl hS7 hsR hoR
                  (try simp only [Act.put, List.setIfInBounds_toArray, List.set_cons_zero, List.set_cons_succ])
                  refine gOneL (i := 9) (by kernel_rfl) rfl (by rfl) (fun K hK => ?_)
                  have HK := Lib.hid hK
                  clear hK
                  go_simp
                  refine HK.out _ _ HS7.out ?_
                  clear HK
                  refine wpAnyH_done (by kernel_rfl) ?_ _
                  obtain ⟨q0, q1, q2, _, _⟩ := HQ.out
                  clear hH
                  go_wp2_with fail
                  refine bodyPost_ret (v := .tuple #[.agg #[.string ver, .slice rp n rc, .slice lp m lcap], .slice p7 n7 c7]) (by simp [results, Tryz.results34, go_sem, q0, q1, q2]) rfl ?_
                  exact ⟨HBF.out, .inl ⟨_, _, _, _, _, _, _, _, _, HRR.out, rfl, HEF.out, HOF.out⟩⟩
                · rw [if_neg (fun h => hok (HOKB.out.1 h))] at HRR
                  exact ⟨rfl, (HB0.out.trans (HBW.out.mono HB0.out.size)).trans ((HBN.out.trans (hb6.mono HBN.out.size)).mono (HB0.out.trans (HBW.out.mono HB0.out.size)).size), .inr ⟨_, HRR.out, rfl⟩⟩
              · have d6 : decide (x.2.2.1 < 63) = false := decide_eq_false hnx
                have HRR : Hid (behR es e 3 = .inr 102) := behR_full HL13.out HAT.out HXX.out HP.out (by rw [next3, if_neg hnx])
                go_upto_region 15 with (first | (go_at_call 57; refine (must_ok _ _ _).mono ?_; rintro e w' ⟨rfl, rfl⟩))
                go_wp2_with (go_at_call 57; refine (must_no _ _ _).mono ?_; rintro e w' ⟨rfl, h5⟩)
                subst h5
                exact ⟨rfl, (HB0.out.trans (HBW.out.mono HB0.out.size)).trans (by refine Below.mono (B := wr.heap.size) (by (repeat' (first | (with_reducible exact Below.refl _ _) | (with_reducible assumption) | (with_reducible refine Below.alloc ?_ ?_ _) | (with_reducible refine Below.drew ?_) | (with_reducible refine below_drewN ?_ _) | (with_reducible refine Below.setCell ?_ ?_ _) | (with_reducible refine Below.trans ?_ (Below.mono (by assumption) ?_)) | go_size))) (HB0.out.trans (HBW.out.mono HB0.out.size)).size), .inr ⟨_, HRR.out, rfl⟩⟩
          · have d5 : decide (x.1 < 64256) = false := decide_eq_false hp
            have HRR : Hid (behR es e lv = .inr 101) := behR_big HL13.out HAT.out HXX.out hp
            clear hp
            go_wp2_with (go_at_call 57; refine (must_no _ _ _).mono ?_; rintro e w' ⟨rfl, h5⟩)
            subst h5
            exact ⟨rfl, HB0.out.trans (HBW.out.mono HB0.out.size), .inr ⟨_, HRR.out, rfl⟩⟩
  · have HE1 : Hid (behR es e lv = .inr 101) := behR_lv hlv
    by_cases l1 : 1 ≤ lv
    · have d1 : decide (1 ≤ lv) = true := decide_eq_true l1
      have d3 : decide (lv ≤ 3) = false := decide_eq_false (by omega)
      clear hlv l1
      go_enter Tryz.func34, Tryz.ntmps34
      go_wp2_with (go_at_call 57; refine (must_no _ _ _).mono ?_; rintro e w' ⟨rfl, rfl⟩)
      exact ⟨rfl, HB0.out, .inr ⟨_, HE1.out, rfl⟩⟩
    · have d1 : decide (1 ≤ lv) = false := decide_eq_false l1
      clear hlv l1
      go_enter Tryz.func34, Tryz.ntmps34
      go_wp2_with (go_at_call 57; refine (must_no _ _ _).mono ?_; rintro e w' ⟨rfl, rfl⟩)
      exact ⟨rfl, HB0.out, .inr ⟨_, HE1.out, rfl⟩⟩
end Go.Proofs.YtchjjfjjcdjjcaaGreatDoor
