/- Package tailor: a rule is read: the walk. -/
import Derived.Test.YtchjjfjjcdjjcaaDoorGl
import Derived.Deep.Cut
import Derived.Deep.CutRange
import Derived.Deep.AppendLies
namespace Go.Proofs.YtchjjfjjcdjjcaaDoor
open Go.RowKit
open PlainAid (bt)

/-- how a rule's reader ends -/
def RuleEnd (s : ByteArray) (pb B i : Nat) (rs : List Rul) (w : World) (e : Ending) (w' : World) : Prop :=
  Only (fun k => k = pb ∨ B ≤ k) w w' ∧
    ((∃ x j lv', ruleT s i rs.length = .inl (x, j) ∧ e = .returned (.tuple #[]) ∧ PsAt w' pb s j lv' ∧ RulsOwn B w' lv' (rs ++ [x]) ∧ i < j ∧ j ≤ s.size ∧ BD s j = none) ∨
      (∃ (a : Nat) (x : Int), ruleT s i rs.length = .inr (a, x) ∧ e = .panicked (chainT a x)))
/-- a rule that is being read, in memory -/
def XrAt (W : World) (xb : Nat) (k : Int) (tv xv : Value) : Prop := W.heap[xb]? = some (.cells #[.int .i64 k, tv, xv] 62 (0, 0))
theorem XrAt.cells {W : World} {xb : Nat} {k : Int} {tv xv : Value} (h : XrAt W xb k tv xv) : W.cell? ⟨xb, 0, none⟩ = some (.int .i64 k) ∧ W.cell? ⟨xb, 1, none⟩ = some tv ∧ W.cell? ⟨xb, 2, none⟩ = some xv ∧ (∀ o, W.frozen? ⟨xb, o, none⟩ = false) ∧ xb < W.heap.size :=
  ⟨by simp [World.cell?, show W.heap[xb]? = _ from h], by simp [World.cell?, show W.heap[xb]? = _ from h], by simp [World.cell?, show W.heap[xb]? = _ from h], fun o => by simp [World.frozen?, show W.heap[xb]? = _ from h], (Array.getElem?_eq_some_iff.1 h).1⟩
theorem XrAt.put1 {W : World} {xb : Nat} {k : Int} {tv xv : Value} (h : XrAt W xb k tv xv) (v : Value) : XrAt (W.setCell ⟨xb, 1, none⟩ v) xb k v xv := by
  unfold XrAt at *
  unfold World.setCell
  simp [Array.getElem?_modify, h]
theorem XrAt.put2 {W : World} {xb : Nat} {k : Int} {tv xv : Value} (h : XrAt W xb k tv xv) (v : Value) : XrAt (W.setCell ⟨xb, 2, none⟩ v) xb k tv v := by
  unfold XrAt at *
  unfold World.setCell
  simp [Array.getElem?_modify, h]
theorem XrAt.only {W W' : World} {xb : Nat} {k : Int} {tv xv : Value} (h : XrAt W xb k tv xv) {S : Nat → Prop} (ho : Only S W W') (hx : ¬ S xb) : XrAt W' xb k tv xv := (ho.block xb h.cells.2.2.2.2 hx).trans h
theorem PsAt.only {W W' : World} {pb : Nat} {s : ByteArray} {i : Nat} {lv : Value} (h : PsAt W pb s i lv) {S : Nat → Prop} (ho : Only S W W') (hx : ¬ S pb) : PsAt W' pb s i lv := (ho.block pb h.cells.2.2.2.2 hx).trans h
/-- a rule's text is read -/
structure RuAt (s : ByteArray) (pb xb : Nat) (lv : Value) (k : Int) (tv : Value) (tx : List Int) (N : Nat) (w : World) (j : Nat) (xv : Value) (W : World) : Prop where
  ps : PsAt W pb s j lv
  x : XrAt W xb k tv xv
  run : Runes N W tv tx
  only : Only (fun k => k = pb ∨ k = xb) w W
  pbx : pb < xb
  xbN : xb < N
  hN : N ≤ W.heap.size
section
variable {s : ByteArray} {pb xb : Nat} {lv : Value} {k : Int} {tv : Value} {tx : List Int} {N : Nat} {w : World} {j : Nat} {xv : Value} {W W' : World}
theorem RuAt.call (h : RuAt s pb xb lv k tv tx N w j xv W) (ho : Only (fun k => k = pb) W W') {j' : Nat} (hp : PsAt W' pb s j' lv) : RuAt s pb xb lv k tv tx N w j' xv W' :=
  ⟨hp, h.x.only ho (by have := h.pbx; omega), h.run.only ho (fun k e => by have := h.pbx; have := h.xbN; omega), h.only.trans (ho.mono fun _ e => .inl e), h.pbx, h.xbN, Nat.le_trans h.hN ho.size⟩
theorem RuAt.drewN (h : RuAt s pb xb lv k tv tx N w j xv W) (n : Nat) : RuAt s pb xb lv k tv tx N w j xv (W.drewN n) := h.call (only_drewN (Only.refl _ _) n) (h.ps.drewN n)
theorem RuAt.go (h : RuAt s pb xb lv k tv tx N w j xv W) (i : Nat) : RuAt s pb xb lv k tv tx N w i xv (W.setCell ⟨pb, 1, none⟩ (.int .i64 (i : Nat))) :=
  h.call ((Only.refl (fun k => k = pb) W).setCell (p := ⟨pb, 1, none⟩) rfl _) (h.ps.go i)
theorem RuAt.put2 (h : RuAt s pb xb lv k tv tx N w j xv W) (v : Value) : RuAt s pb xb lv k tv tx N w j v (W.setCell ⟨xb, 2, none⟩ v) := by
  have ho : Only (fun k => k = xb) W (W.setCell ⟨xb, 2, none⟩ v) := (Only.refl (fun k => k = xb) W).setCell (p := ⟨xb, 2, none⟩) rfl _
  exact ⟨h.ps.only ho (by have := h.pbx; omega), h.x.put2 v, h.run.only ho (fun k e => by have := h.xbN; omega), h.only.trans (ho.mono fun _ e => .inr e), h.pbx, h.xbN, Nat.le_trans h.hN ho.size⟩
end
theorem Tryd.infoK : (Tryd.prog.info? 62).map (fun i => (i.zero, i.size, i.bytes)) = some (some (.agg #[.int .i64 0, .slice none 0 0, .slice none 0 0]), 3, 56) := by kernel_rfl
set_option maxHeartbeats 4000000 in
set_option maxRecDepth 100000 in
theorem rule_any (s : ByteArray) (pb B i : Nat) (lv : Value) (rs : List Rul) (w : World) (h : PsAt w pb s i lv) (hr : RulsOwn B w lv rs) (hpB : pb < B) (hBw : B ≤ w.heap.size) (hi : i < s.size) (hs : s.size ≤ 1000000) (hb : BD s i = none) (hrl : rs.length ≤ 1000000) :
    Calls Tryd.prog 18 #[.pointer (some ⟨pb, 0, none⟩)] w (RuleEnd s pb B i rs w) := by
  obtain ⟨p3, cap3, rfl⟩ := hr.form
  have hbt := PlainAid.get_bt s
  obtain ⟨c0, c1, c2, cf, hpl⟩ := h.cells
  obtain ⟨n3, hn3⟩ : ∃ n3, n3 = rs.length := ⟨_, rfl⟩
  have HSG := fun b => sign_any s pb i (.slice p3 rs.length cap3) b w h (Nat.le_of_lt hi) hs
  have HSB := fun b => sign_bd (reset := b) hi hb
  have HRT : Hid (ruleT s i rs.length = if sgnOk s i (rs.length == 0) = true then
    if rs.length < 2000 then
      match textT s (endS s i) with
      | (none, a) => .inr (a, 100)
      | (some l, j) =>
        if (sgnT s i).getD 0 ≠ 0 ∧ skipT s j < s.size ∧ bt s (skipT s j) = 47 then
          match textT s (skipT s j + 1) with
          | (none, a) => .inr (a, 100)
          | (some x, k) => .inl (((sgnT s i).getD 0, l, x), skipT s k)
        else .inl (((sgnT s i).getD 0, l, []), skipT s j)
    else .inr (i, 2)
  else .inr (i, 100)) := rfl
  have HR := Lib.hid hr
  clear h hr cf
  obtain ⟨k, hk⟩ : ∃ k, (sgnT s i).getD 0 = k := ⟨_, rfl⟩
  obtain ⟨q, hq⟩ : ∃ q, (rs.length == 0) = q := ⟨_, rfl⟩
  obtain ⟨E, hE⟩ : ∃ E, endS s i = E := ⟨_, rfl⟩
  have HSG2 := HSG q
  have HSB2 := HSB q
  rw [hk, hE] at HSG2
  rw [hE] at HSB2
  rw [hk, hE, hq] at HRT
  rw [← hn3] at HSG2 HRT hq hrl HR c2
  have HN3 := Lib.hid hn3
  have hqz : ((n3 : Int) == 0) = q := by rw [← hq]; cases n3 <;> rfl
  have HSBD := Lib.hid HSB2
  clear hn3 hk hE HSG HSB HSB2 hq
  go_enter Tryd.func18, Tryd.ntmps18
  go_wp2_with fail
  refine HSG2.mono ?_
  rintro e w1 ⟨ho1, ⟨hok, rfl, hp1⟩ | ⟨hok, rfl⟩⟩
  rotate_left 1
  · have HE : Hid (ruleT s i n3 = .inr (i, 100)) := by
      show _ = _
      rw [HRT.out, hok]; rfl
    exact ⟨rfl, ho1.mono (fun k hk => .inl hk), .inr ⟨i, 100, by rw [← HN3.out]; exact HE.out, rfl⟩⟩
  rw [hok, if_pos rfl] at HRT
  have hsb := HSBD.out hok
  have HSB := Lib.hid hsb
  have HO1 : Hid (Only (fun k => k = pb) w w1) := ho1
  have HP1 := Lib.hid hp1
  obtain ⟨_, d1, d2, df, dpl⟩ := hp1.cells
  clear HSG2 HSBD hok hsb c0 c1 c2 ho1 hp1 df hqz
  by_cases hlen : n3 < 2000
  · have hlz : decide ((n3 : Int) < 2000) = true := decide_eq_true (by omega)
    go_wp2_with (go_at_call 36; refine (must_ok _ _ _).mono ?_; rintro e w' ⟨rfl, h5⟩)
    have hx2 : XrAt w' w1.heap.size k (.slice none 0 0) (.slice none 0 0) := by rw [← h5]; exact World.alloc_heap_new _ _
    have ho2 : Only (fun k => k = pb) w1 w' := by rw [← h5]; exact (Only.refl _ w1).alloc _
    have hp2 : PsAt w' pb s E (.slice p3 n3 cap3) := HP1.out.only (S := fun _ => False) (by rw [← h5]; exact (Only.refl _ w1).alloc _) id
    obtain ⟨xb, hxb⟩ : ∃ xb, xb = w1.heap.size := ⟨_, rfl⟩
    have hxp : pb < xb := by omega
    have hxw : w.heap.size ≤ xb := by rw [hxb]; exact HO1.out.size
    have hxl : xb < w'.heap.size := by have := hx2.cells.2.2.2.2; omega
    rw [← hxb] at hx2 ⊢
    have HX2 := Lib.hid hx2
    have HO2 := Lib.hid (HO1.out.trans ho2)
    rw [if_pos hlen] at HRT
    refine (text_any s pb E _ _ hp2 HSB.out.2.1 hs HSB.out.2.2).mono ?_
    clear h5 hxb ho2 hp2 hx2 HP1 HO1 d1 d2 dpl hlz hlen
    rintro e w3 ⟨ho3, ⟨tx, a, tv, htx, rfl, hr3, hne, hlen, hp3, hEa, has, hba⟩ | ⟨a, htx, rfl⟩⟩
    · rw [htx] at HRT
      obtain ⟨tp, tcap, rfl⟩ : ∃ tp tcap, tv = .slice tp tx.length tcap := ⟨_, _, hr3.choose_spec.choose_spec.1⟩
      have hx3 := HX2.out.only ho3 (by omega)
      have HR3 := Lib.hid hr3
      have HTX : Hid (tx ≠ [] ∧ tx.length ≤ s.size ∧ E ≤ a ∧ BD s a = none) := ⟨hne, hlen, hEa, hba⟩
      have HO3 := Lib.hid (HO2.out.trans ho3)
      have HP3 := Lib.hid hp3
      have HX3 := Lib.hid hx3
      obtain ⟨e0, e1, e2, ef, expl⟩ := hx3.cells
      have ef1 := ef 1
      have hw3 : w'.heap.size ≤ w3.heap.size := ho3.size
      clear hx3 ef hr3 htx hne hlen hEa hba ho3 hp3 HX2 HO2
      generalize tx.length = tl at *
      go_wp2_with fail
      have hRU : RuAt s pb xb (.slice p3 n3 cap3) k (.slice tp tl tcap) tx w'.heap.size w a (.slice none 0 0) (w3.setCell ⟨xb, 1, none⟩ (.slice tp tl tcap)) := by
        have ho : Only (fun k => k = xb) w3 (w3.setCell ⟨xb, 1, none⟩ (.slice tp tl tcap)) := (Only.refl (fun k => k = xb) w3).setCell (p := ⟨xb, 1, none⟩) rfl _
        exact ⟨HP3.out.only ho (by omega), HX3.out.put1 _, HR3.out.only ho (fun k e => by omega), (HO3.out.mono fun _ e => .inl e).trans (ho.mono fun _ e => .inr e), hxp, hxl, Nat.le_trans hw3 ho.size⟩
      have HRU := Lib.hid hRU
      have hsk := skip_any s pb a (.slice p3 n3 cap3) _ hRU.ps has hs
      have HBS := Lib.hid (And.intro (skip_ge s a has) (skip_bd has HTX.out.2.2.2))
      generalize hb4 : skipT s a = b at *
      clear hRU HP3 HX3 HR3 HO3 e0 e1 e2 expl ef1 hw3 hb4
      refine hsk.mono ?_
      clear hsk
      rintro e w5 ⟨rfl, hp5, hbs, ho5⟩
      have hRU5 := HRU.out.call ho5 hp5
      have HR5 := Lib.hid hRU5
      obtain ⟨c0, c1, c2, cf, cpl⟩ := hRU5.ps.cells
      obtain ⟨d0, d1, d2, df, dpl⟩ := hRU5.x.cells
      have f1 := cf 1
      have f2 := cf 2
      clear ho5 hp5 HRU hRU5 cf df
      go_upto_region 5 with fail
      go_cut [56] from 30 to 56 (fun s56 wx => s56 = .bool (decide (k ≠ 0 ∧ b < s.size ∧ bt s b = 47)) ∧ RuAt s pb xb (.slice p3 n3 cap3) k (.slice tp tl tcap) tx w'.heap.size w b (.slice none 0 0) wx)
      case first =>
        by_cases hk0 : k = 0
        · subst hk0
          go_wp2_with fail
          go_quiet (fail)
          go_wp2_with fail
          go_meet
          case rel => exact ⟨by rw [decide_eq_false (fun h => h.1 rfl)], HR5.out.drewN _⟩
        · have g1 : (k == 0) = false := by simpa using hk0
          have g1' : (k != 0) = true := by simpa using hk0
          have HK0 := Lib.hid hk0
          clear hk0
          by_cases hbl : b < s.size
          · have g2 : decide ((b : Int) < (s.size : Int)) = true := decide_eq_true (by omega)
            have g3 : decide (b < s.size) = true := decide_eq_true hbl
            by_cases h47 : bt s b = 47
            · have g4 : (bt s b == 47) = true := by simpa using h47
              go_wp2_with fail
              go_quiet (fail)
              go_wp2_with fail
              go_meet
              case rel => exact ⟨by rw [decide_eq_true ⟨HK0.out, hbl, h47⟩], HR5.out.drewN _⟩
            · have g4 : (bt s b == 47) = false := by simpa using h47
              go_wp2_with fail
              go_quiet (fail)
              go_wp2_with fail
              go_meet
              case rel => exact ⟨by rw [decide_eq_false (fun h => h47 h.2.2)], HR5.out.drewN _⟩
          · have g2 : decide ((b : Int) < (s.size : Int)) = false := decide_eq_false (by omega)
            have g3 : decide (b < s.size) = false := decide_eq_false hbl
            go_wp2_with fail
            go_quiet (fail)
            go_wp2_with fail
            go_meet
            case rel => exact ⟨by rw [decide_eq_false (fun h => hbl h.2.1)], HR5.out.drewN _⟩
      case rest =>
      obtain ⟨rfl, hRU6⟩ := hcut
      have HR6 := Lib.hid hRU6
      clear hRU6 HR5 c0 c1 c2 d0 d1 d2 f1 f2 dpl cpl
      generalize hQ : decide (k ≠ 0 ∧ b < s.size ∧ bt s b = 47) = Q at *
      have HQ := Lib.hid hQ
      clear hQ
      go_upto_if 56 with fail
      go_cut [] from 57 to 68 (fun wx => ∃ ex j xp xl xcap, ruleT s i n3 = .inl ((k, tx, ex), j) ∧ RuAt s pb xb (.slice p3 n3 cap3) k (.slice tp tl tcap) tx w'.heap.size w j (.slice xp xl xcap) wx ∧ Runes w'.heap.size wx (.slice xp xl xcap) ex ∧ i < j ∧ j ≤ s.size ∧ BD s j = none)
      case first =>
        cases Q with
        | true =>
          have hc : k ≠ 0 ∧ b < s.size ∧ bt s b = 47 := of_decide_eq_true HQ.out
          rw [if_pos hc] at HRT
          have hbl := hc.2.1
          have HB1 := Lib.hid (bd_next HBS.out.2 hc.2.1 (by rw [hc.2.2]; decide))
          obtain ⟨c0, c1, c2, cf, cpl⟩ := HR6.out.ps.cells
          have f1 := cf 1
          clear hc cf
          go_wp2_with fail
          have hRU7 := HR6.out.go (b + 1)
          rw [show ((b + 1 : Nat) : Int) = (b : Int) + 1 from rfl] at hRU7
          have HR7 := Lib.hid hRU7
          refine (text_any s pb (b + 1) _ _ hRU7.ps (by omega) hs HB1.out).mono ?_
          clear c0 c1 c2 f1 hRU7 HR6
          rintro e w8 ⟨ho8, ⟨ex, a2, xv, hex, rfl, hr8, hne8, hlen8, hp8, hEa8, has8, hba8⟩ | ⟨a2, hex, rfl⟩⟩
          · rw [hex] at HRT
            obtain ⟨xp, xcap, rfl⟩ : ∃ xp xcap, xv = .slice xp ex.length xcap := ⟨_, _, hr8.choose_spec.choose_spec.1⟩
            have hRU8 := HR7.out.call ho8 hp8
            have HR8 := Lib.hid hRU8
            obtain ⟨d0, d1, d2, df, dpl⟩ := hRU8.x.cells
            have f2 := df 2
            have HX8 := Lib.hid hr8
            have hN8 : w'.heap.size ≤ (wc.setCell ⟨pb, 1, none⟩ (.int .i64 ((b : Int) + 1))).heap.size := HR7.out.hN
            have HEX : Hid (E ≤ a ∧ a ≤ b ∧ b + 1 ≤ a2 ∧ BD s a2 = none) := ⟨HTX.out.2.2.1, HBS.out.1, hEa8, hba8⟩
            clear hRU8 ho8 hp8 hr8 df hne8 hlen8 hEa8 hba8 hex HB1 HR7
            go_wp2_with fail
            have ho9 : Only (fun k => k = xb) w8 (w8.setCell ⟨xb, 2, none⟩ (.slice xp ex.length xcap)) := (Only.refl (fun k => k = xb) w8).setCell (p := ⟨xb, 2, none⟩) rfl _
            have HR9 := Lib.hid (HR8.out.put2 (.slice xp ex.length xcap))
            have HX9 := Lib.hid (Runes.mono (HX8.out.only ho9 (fun k e => by omega)) hN8)
            clear d0 d1 d2 dpl f2 ho9 HX8 HR8 hN8
            generalize ex.length = el at *
            refine (skip_any s pb a2 _ _ HR9.out.ps has8 hs).mono ?_
            rintro e w10 ⟨rfl, hp10, hbs10, ho10⟩
            have HRA := Lib.hid (HR9.out.call ho10 hp10)
            have HXA := Lib.hid (HX9.out.only ho10 (fun k e => by have := HR9.out.pbx; have := HR9.out.xbN; omega))
            clear ho10 hp10 HR9 HX9
            go_wp2_with fail
            go_meet
            case rel =>
              exact ⟨ex, skipT s a2, xp, el, xcap, HRT.out, HRA.out, HXA.out, by have := HSB.out; have := HEX.out; have := skip_ge s a2 has8; omega, hbs10, skip_bd has8 HEX.out.2.2.2⟩
          · have HE : Hid (ruleT s i n3 = .inr (a2, 100)) := by
              show _ = _
              rw [HRT.out, hex]
            refine ⟨rfl, ?_, .inr ⟨a2, 100, by rw [← HN3.out]; exact HE.out, rfl⟩⟩
            exact (HR7.out.only.trans (ho8.mono fun _ e => .inl e)).mono (fun k hk => by rcases hk with hk | hk; exact .inl hk; exact .inr (by omega))
        | false =>
          have hc : ¬ (k ≠ 0 ∧ b < s.size ∧ bt s b = 47) := of_decide_eq_false HQ.out
          rw [if_neg hc] at HRT
          clear hc
          go_wp2_with fail
          go_meet
          case rel => exact ⟨[], b, none, 0, 0, HRT.out, HR6.out, .nil _ _ _, by have := HSB.out; have := HTX.out; have := HBS.out; omega, hbs, HBS.out.2⟩
      case rest =>
      obtain ⟨ex, j, xp, xl, xcap, hE, hRU, hX, hij, hjs, hbj⟩ := hcut
      have HE := Lib.hid hE
      have hRD : RuAt s pb xb (.slice p3 n3 cap3) k (.slice tp tl tcap) tx w'.heap.size w j (.slice xp xl xcap) (wc.drewN 1) := hRU.drewN 1
      have hXD : Runes w'.heap.size (wc.drewN 1) (.slice xp xl xcap) ex := hX
      go_upto_region 9 with fail
      obtain ⟨i0, hti, hz0, hz1, hz2⟩ := info_parts Tryd.infoK
      obtain ⟨_, _, c2, cf, cpl⟩ := hRU.ps.cells
      obtain ⟨d0, d1, d2, _, dpl⟩ := hRU.x.cells
      have hRO : RulsOwn B wc (.slice p3 n3 cap3) rs := HR.out.only hpB (hRU.only.mono fun k hk => by omega)
      obtain ⟨cs, hcs, hin, hrow⟩ := hRO
      have hsz : w.heap.size ≤ wc.heap.size := hRU.only.size
      have HROW : Hid (((wc.drew).alloc (.cells #[.int .i64 k, .slice tp tl tcap, .slice xp xl xcap] 62)).ownsRow B 62 3 (.slice p3 n3 cap3) n3 (flatR cs)) := by
        have := hrow.drew.alloc (.cells #[.int .i64 k, .slice tp tl tcap, .slice xp xl xcap] 62)
        rw [← HN3.out] at this; exact this
      have hownlt : ∀ j, (Value.slice p3 n3 cap3).ownBlock = some j → B ≤ j ∧ j < w.heap.size := by
        obtain ⟨cs', _, _, hrow'⟩ := HR.out
        intro j hj
        refine ⟨ownBlock_ge hrow' hj, ?_⟩
        rcases hrow'.2 with ⟨e, _⟩ | ⟨g, cap, cur, e, hg, hgb, _⟩
        · rw [e] at hj; cases hj
        · rw [e] at hj; cases hj; exact (Array.getElem?_eq_some_iff.1 hgb).1
      have HF6 : Hid (∀ W6, ((wc.drew).alloc (.cells #[.int .i64 k, .slice tp tl tcap, .slice xp xl xcap] 62)).grownBy W6 (Value.slice p3 n3 cap3).ownBlock → PsAt W6 pb s j (.slice p3 n3 cap3)) := by
        intro W6 hg
        have hp : PsAt ((wc.drew).alloc (.cells #[.int .i64 k, .slice tp tl tcap, .slice xp xl xcap] 62)) pb s j (.slice p3 n3 cap3) := hRU.ps.below ((Below.refl _ wc).drew.alloc (Nat.le_refl _) _)
        exact (hg.block pb hp.cells.2.2.2.2 (fun e => by have := (hownlt pb e.symm).1; omega)).trans hp
      have HIN := Lib.hid hin
      have HCS := Lib.hid hcs
      have HRU := Lib.hid hRU
      have HX := Lib.hid hX
      have HOL := Lib.hid hownlt
      clear hrow hRU hX hE hRD hXD hin hownlt cf
      have HNW : Hid (∀ (j : Nat) u, [Value.int .i64 k, .slice tp tl tcap, .slice xp xl xcap][j]? = some u → ((wc.drew).alloc (.cells #[.int .i64 k, .slice tp tl tcap, .slice xp xl xcap] 62)).cell? ((⟨wc.heap.size, 0, none⟩ : Addr).add j) = some u) := gCells wc _ _
      have HBZ : Hid (B ≤ ((wc.drew).alloc (.cells #[.int .i64 k, .slice tp tl tcap, .slice xp xl xcap] 62)).heap.size) := Nat.le_trans (Nat.le_trans hBw hsz) (by simp)
      have hxne : ∀ W6, ((wc.drew).alloc (.cells #[.int .i64 k, .slice tp tl tcap, .slice xp xl xcap] 62)).grownBy W6 (Value.slice p3 n3 cap3).ownBlock → W6.heap[xb]? = ((wc.drew).alloc (.cells #[.int .i64 k, .slice tp tl tcap, .slice xp xl xcap] 62)).heap[xb]? := fun W6 hg => hg.block xb (by have := HRU.out.x.cells.2.2.2.2; simp; omega) (fun e => by have := (HOL.out xb e.symm).2; omega)
      have HSA : Hid (((wc.drew).alloc (.cells #[.int .i64 k, .slice tp tl tcap, .slice xp xl xcap] 62)).cell? ⟨xb, 0, none⟩ = some (.int .i64 k) ∧ ((wc.drew).alloc (.cells #[.int .i64 k, .slice tp tl tcap, .slice xp xl xcap] 62)).cell? ⟨xb, 1, none⟩ = some (.slice tp tl tcap) ∧ ((wc.drew).alloc (.cells #[.int .i64 k, .slice tp tl tcap, .slice xp xl xcap] 62)).cell? ⟨xb, 2, none⟩ = some (.slice xp xl xcap)) := by
        have hb : Below wc.heap.size wc ((wc.drew).alloc (.cells #[.int .i64 k, .slice tp tl tcap, .slice xp xl xcap] 62)) := (Below.refl _ wc).drew.alloc (Nat.le_refl _) _
        exact ⟨(hb.cell (p := ⟨xb, 0, none⟩) dpl).trans d0, (hb.cell (p := ⟨xb, 1, none⟩) dpl).trans d1, (hb.cell (p := ⟨xb, 2, none⟩) dpl).trans d2⟩
      have HC2 : Hid (((wc.drew).alloc (.cells #[.int .i64 k, .slice tp tl tcap, .slice xp xl xcap] 62)).cell? ⟨pb, 2, none⟩ = some (.slice p3 n3 cap3)) := by
        have hb : Below wc.heap.size wc ((wc.drew).alloc (.cells #[.int .i64 k, .slice tp tl tcap, .slice xp xl xcap] 62)) := (Below.refl _ wc).drew.alloc (Nat.le_refl _) _
        exact (hb.cell (p := ⟨pb, 2, none⟩) cpl).trans c2
      have HS6 : Hid (∀ W6, ((wc.drew).alloc (.cells #[.int .i64 k, .slice tp tl tcap, .slice xp xl xcap] 62)).grownBy W6 (Value.slice p3 n3 cap3).ownBlock → (W6.cell? ⟨xb, 0, none⟩ = some (.int .i64 k) ∧ W6.cell? ⟨xb, 1, none⟩ = some (.slice tp tl tcap) ∧ W6.cell? ⟨xb, 2, none⟩ = some (.slice xp xl xcap))) := fun W6 hg =>
        ⟨(World.cell?_of_block (a := ⟨xb, 0, none⟩) (hxne W6 hg)).trans HSA.out.1, (World.cell?_of_block (a := ⟨xb, 1, none⟩) (hxne W6 hg)).trans HSA.out.2.1, (World.cell?_of_block (a := ⟨xb, 2, none⟩) (hxne W6 hg)).trans HSA.out.2.2⟩
      have HS7 : Hid (∀ W6 v, ((wc.drew).alloc (.cells #[.int .i64 k, .slice tp tl tcap, .slice xp xl xcap] 62)).grownBy W6 (Value.slice p3 n3 cap3).ownBlock → ((W6.setCell ⟨pb, 2, none⟩ v).cell? ⟨xb, 0, none⟩ = some (.int .i64 k) ∧ (W6.setCell ⟨pb, 2, none⟩ v).cell? ⟨xb, 1, none⟩ = some (.slice tp tl tcap) ∧ (W6.setCell ⟨pb, 2, none⟩ v).cell? ⟨xb, 2, none⟩ = some (.slice xp xl xcap))) := fun W6 v hg => by
        have h := HS6.out W6 hg
        refine ⟨?_, ?_, ?_⟩
        · rw [World.cell?_setCell_far _ _ _ _ (by show pb ≠ xb; omega)]; exact h.1
        · rw [World.cell?_setCell_far _ _ _ _ (by show pb ≠ xb; omega)]; exact h.2.1
        · rw [World.cell?_setCell_far _ _ _ _ (by show pb ≠ xb; omega)]; exact h.2.2
      have HOO : Hid (∀ W6 v, ((wc.drew).alloc (.cells #[.int .i64 k, .slice tp tl tcap, .slice xp xl xcap] 62)).grownBy W6 (Value.slice p3 n3 cap3).ownBlock → Only (fun k => k = pb ∨ B ≤ k) w (W6.setCell ⟨pb, 2, none⟩ v)) := fun W6 v hg => by
        have h1 : Only (fun k => k = pb ∨ B ≤ k) w wc := HRU.out.only.mono (fun k hk => by omega)
        have h2 : Only (fun k => k = pb ∨ B ≤ k) wc ((wc.drew).alloc (.cells #[.int .i64 k, .slice tp tl tcap, .slice xp xl xcap] 62)) := (Only.refl _ wc).drew.alloc _
        have h3 : Only (fun k => k = pb ∨ B ≤ k) ((wc.drew).alloc (.cells #[.int .i64 k, .slice tp tl tcap, .slice xp xl xcap] 62)) W6 := ⟨hg.os, hg.tape, hg.output, hg.size, fun k hk hn => hg.block k hk (fun e => hn (.inr (HOL.out k e.symm).1))⟩
        exact ((h1.trans h2).trans h3).setCell (p := ⟨pb, 2, none⟩) (.inl rfl) _
      have HPU : Hid (∀ g6 cap6 W6, W6.ownsRow B 62 3 (.slice (some ⟨g6, 0, none⟩) (n3 + 1) cap6) (n3 + 1) (flatR cs ++ [.int .i64 k, .slice tp tl tcap, .slice xp xl xcap]) → ((wc.drew).alloc (.cells #[.int .i64 k, .slice tp tl tcap, .slice xp xl xcap] 62)).grownBy W6 (Value.slice p3 n3 cap3).ownBlock → ((Value.slice p3 n3 cap3).ownBlock = some g6 ∨ g6 = ((wc.drew).alloc (.cells #[.int .i64 k, .slice tp tl tcap, .slice xp xl xcap] 62)).heap.size) →
          RulsOwn B (W6.setCell ⟨pb, 2, none⟩ (.slice (some ⟨g6, 0, none⟩) (n3 + 1) cap6)) (.slice (some ⟨g6, 0, none⟩) (n3 + 1) cap6) (rs ++ [(k, tx, ex)])) := fun g6 cap6 W6 ho hg hor => by
        have hb : Below wc.heap.size wc ((wc.drew).alloc (.cells #[.int .i64 k, .slice tp tl tcap, .slice xp xl xcap] 62)) := (Below.refl _ wc).drew.alloc (Nat.le_refl _) _
        have hN := HRU.out.hN
        have hk : Kept (fun b => B ≤ b ∧ (Value.slice p3 n3 cap3).ownBlock ≠ some b) wc ((wc.drew).alloc (.cells #[.int .i64 k, .slice tp tl tcap, .slice xp xl xcap] 62)) := Kept.below hb
        have hw : w.heap.size ≤ w'.heap.size := by omega
        have hrn : ∀ u xs, Runes w'.heap.size wc u xs → IntsIn (fun b => B ≤ b ∧ (Value.slice p3 n3 cap3).ownBlock ≠ some b) .i32 ((wc.drew).alloc (.cells #[.int .i64 k, .slice tp tl tcap, .slice xp xl xcap] 62)) u xs := fun u xs h =>
          (IntsIn.mono h (fun b hb _ => ⟨by have : w'.heap.size ≤ b := hb; omega, fun e => by have := (HOL.out b e).2; have : w'.heap.size ≤ b := hb; omega⟩)).kept hk
        have := RulsOwn.push (B := B) (W := ((wc.drew).alloc (.cells #[.int .i64 k, .slice tp tl tcap, .slice xp xl xcap] 62))) (W' := W6) (lv := .slice p3 n3 cap3) (rs := rs) (cs := cs) (k := k) HCS.out (fun i r c h1 h2 => by
          obtain ⟨a1, a2, a3⟩ := HIN.out i r c h1 h2
          exact ⟨a1, a2.kept hk, a3.kept hk⟩) (hrn _ _ HRU.out.run) (hrn _ _ HX.out) (by rw [← HN3.out]; exact ho) hg (by
          rcases hor with e | e
          · exact .inl e.symm
          · exact .inr ⟨g6, by omega, rfl⟩)
        refine this.only hpB ((Only.refl (fun k => k = pb ∨ W6.heap.size ≤ k) W6).setCell (p := ⟨pb, 2, none⟩) (.inl rfl) _)
      have c2' := c2
      clear hxne hsz
      have HS0 : Hid (wc.drew.cell? ⟨xb, 0, none⟩ = some (.int .i64 k) ∧ wc.drew.cell? ⟨xb, 1, none⟩ = some (.slice tp tl tcap) ∧ wc.drew.cell? ⟨xb, 2, none⟩ = some (.slice xp xl xcap)) := ⟨d0, d1, d2⟩
      refine wp_region_held_drew (S := (fun V : World => V.cell? ⟨xb, 0, none⟩ = some (.int .i64 k) ∧ V.cell? ⟨xb, 1, none⟩ = some (.slice tp tl tcap) ∧ V.cell? ⟨xb, 2, none⟩ = some (.slice xp xl xcap))) (by kernel_rfl) HS0.out (fun hH => ?_)
      refine gTakeL (i := 0) (v := ?_) rfl (by kernel_rfl) (by kernel_rfl) (by kernel_rfl) (fun _ _ _ h => h) (Or.inl ⟨by first | rfl | kernel_rfl, ?_⟩) hH ?_; rotate_left 1; (first | (focus (intro w hSw; (try dsimp only at hSw); go_simp; done)) | (focus (intro w hSw; (try dsimp only at hSw); go_simp; with_reducible rfl)) | (focus (intro w hSw; (try dsimp only at hSw); simp [hSw, go_sem]; done))); (try simp only [Act.put, List.setIfInBounds_toArray, List.set_cons_zero, List.set_cons_succ])
      refine gTakeL (i := 1) (v := ?_) rfl (by kernel_rfl) (by kernel_rfl) (by kernel_rfl) (fun _ _ _ h => h) (Or.inl ⟨by first | rfl | kernel_rfl, ?_⟩) hH ?_; rotate_left 1; (first | (focus (intro w hSw; (try dsimp only at hSw); go_simp; done)) | (focus (intro w hSw; (try dsimp only at hSw); go_simp; with_reducible rfl)) | (focus (intro w hSw; (try dsimp only at hSw); simp [hSw, go_sem]; done))); (try simp only [Act.put, List.setIfInBounds_toArray, List.set_cons_zero, List.set_cons_succ])
      refine gTakeL (i := 2) (v := ?_) rfl (by kernel_rfl) (by kernel_rfl) (by kernel_rfl) (fun _ _ _ h => h) (Or.inl ⟨by first | rfl | kernel_rfl, ?_⟩) hH ?_; rotate_left 1; (first | (focus (intro w hSw; (try dsimp only at hSw); go_simp; done)) | (focus (intro w hSw; (try dsimp only at hSw); go_simp; with_reducible rfl)) | (focus (intro w hSw; (try dsimp only at hSw); simp [hSw, go_sem]; done))); (try simp only [Act.put, List.setIfInBounds_toArray, List.set_cons_zero, List.set_cons_succ])
      refine gTakeL (i := 3) (v := ?_) rfl (by kernel_rfl) (by kernel_rfl) (by kernel_rfl) (fun _ _ _ h => h) (Or.inl ⟨by first | rfl | kernel_rfl, ?_⟩) hH ?_; rotate_left 1; (first | (focus (intro w hSw; (try dsimp only at hSw); go_simp; done)) | (focus (intro w hSw; (try dsimp only at hSw); go_simp; with_reducible rfl)) | (focus (intro w hSw; (try dsimp only at hSw); simp [hSw, go_sem]; done))); (try simp only [Act.put, List.setIfInBounds_toArray, List.set_cons_zero, List.set_cons_succ])
      refine gTakeL (i := 5) (v := ?_) rfl (by kernel_rfl) (by kernel_rfl) (by kernel_rfl) (fun _ _ _ h => h) (Or.inl ⟨by first | rfl | kernel_rfl, ?_⟩) hH ?_; rotate_left 1; (first | (focus (intro w hSw; (try dsimp only at hSw); go_simp; done)) | (focus (intro w hSw; (try dsimp only at hSw); go_simp; with_reducible rfl)) | (focus (intro w hSw; (try dsimp only at hSw); simp [hSw, go_sem]; done))); (try simp only [Act.put, List.setIfInBounds_toArray, List.set_cons_zero, List.set_cons_succ])
      refine gTwoL (i := 4) (j := 6) (by kernel_rfl) rfl rfl (by rfl) (by rfl) (fun K hK => ?_) (fun K hK => ?_)
      · have HK := Lib.hid hK
        clear hK
        have c2' := c2
        go_simp
        refine HK.out _ _ hH ?_
        clear HK
        (try simp only [Act.put, List.setIfInBounds_toArray, List.set_cons_zero, List.set_cons_succ])
        refine gOneL (i := 6) (by kernel_rfl) rfl (by rfl) (fun K hK => ?_)
        have HK := Lib.hid hK
        clear hK
        go_simp
        refine HK.out _ _ HSA.out ?_
        clear HK
        (try simp only [Act.put, List.setIfInBounds_toArray, List.set_cons_zero, List.set_cons_succ])
        refine gOneL (i := 7) (by kernel_rfl) rfl (by rfl) (fun K hK => ?_)
        have HK := Lib.hid hK
        clear hK
        refine Go.wp_append_lies _ (.tmp 73) (.tmp 75) 23 rfl B 62 i0 (.agg #[.int .i64 0, .slice none 0 0, .slice none 0 0]) 3 56 Tryd.underlying23 hti hz0 hz1 hz2 rfl (by decide) (.slice p3 n3 cap3) n3 (flatR cs) rfl HROW.out ⟨wc.heap.size, 0, none⟩ 1 1 [.int .i64 k, .slice tp tl tcap, .slice xp xl xcap] rfl rfl HNW.out (by simp [Value.oneCell']) (by decide) (by unfold maxLen; omega) (by omega) HBZ.out _ rfl ?_
        intro g6 cap6 w6 hown6 hgrow6 hor6 hlt6
        obtain ⟨_, _, e2, ef, _⟩ := (HF6.out _ hgrow6).cells
        have ef2 := ef 2
        refine HK.out _ _ (HS6.out _ hgrow6) ?_
        clear HK ef
        (try simp only [Act.put, List.setIfInBounds_toArray, List.set_cons_zero, List.set_cons_succ])
        refine gOneL (i := 8) (by kernel_rfl) rfl (by rfl) (fun K hK => ?_)
        have HK := Lib.hid hK
        clear hK
        go_simp
        refine HK.out _ _ (HS6.out _ hgrow6) ?_
        clear HK
        (try simp only [Act.put, List.setIfInBounds_toArray, List.set_cons_zero, List.set_cons_succ])
        refine gOneL (i := 9) (by kernel_rfl) rfl (by rfl) (fun K hK => ?_)
        have HK := Lib.hid hK
        clear hK
        go_simp
        refine HK.out _ _ (HS6.out _ hgrow6) ?_
        clear HK
        (try simp only [Act.put, List.setIfInBounds_toArray, List.set_cons_zero, List.set_cons_succ])
        refine gOneL (i := 10) (by kernel_rfl) rfl (by rfl) (fun K hK => ?_)
        have HK := Lib.hid hK
        clear hK
        go_simp
        refine HK.out _ _ (HS7.out _ _ hgrow6) ?_
        clear HK e2 ef2
        refine wpAnyH_done (by kernel_rfl) ?_ _
        have HPS := Lib.hid ((HF6.out _ hgrow6).put (.slice (some ⟨g6, 0, none⟩) (n3 + 1) cap6))
        have HRS : Hid (RulsOwn B (w6.setCell ⟨pb, 2, none⟩ (.slice (some ⟨g6, 0, none⟩) (n3 + 1) cap6)) (.slice (some ⟨g6, 0, none⟩) (n3 + 1) cap6) (rs ++ [(k, tx, ex)])) := HPU.out _ _ _ hown6 hgrow6 hor6
        have HON : Hid (Only (fun k => k = pb ∨ B ≤ k) w (w6.setCell ⟨pb, 2, none⟩ (.slice (some ⟨g6, 0, none⟩) (n3 + 1) cap6))) := HOO.out _ _ hgrow6
        clear hown6 hgrow6 hor6 hlt6
        go_wp2_with fail
        go_end0
        exact ⟨HON.out, .inl ⟨(k, tx, ex), j, _, by rw [← HN3.out]; exact HE.out, rfl, HPS.out, HRS.out, hij, hjs, hbj⟩⟩
      · have HK := Lib.hid hK
        clear hK
        go_simp
        refine HK.out _ _ HSA.out ?_
        clear HK
        (try simp only [Act.put, List.setIfInBounds_toArray, List.set_cons_zero, List.set_cons_succ])
        refine gOneL (i := 4) (by kernel_rfl) rfl (by rfl) (fun K hK => ?_)
        have HK := Lib.hid hK
        clear hK
        have c2' := HC2.out
        go_simp
        refine HK.out _ _ HSA.out ?_
        clear HK
        (try simp only [Act.put, List.setIfInBounds_toArray, List.set_cons_zero, List.set_cons_succ])
        refine gOneL (i := 7) (by kernel_rfl) rfl (by rfl) (fun K hK => ?_)
        have HK := Lib.hid hK
        clear hK
        refine Go.wp_append_lies _ (.tmp 73) (.tmp 75) 23 rfl B 62 i0 (.agg #[.int .i64 0, .slice none 0 0, .slice none 0 0]) 3 56 Tryd.underlying23 hti hz0 hz1 hz2 rfl (by decide) (.slice p3 n3 cap3) n3 (flatR cs) rfl HROW.out ⟨wc.heap.size, 0, none⟩ 1 1 [.int .i64 k, .slice tp tl tcap, .slice xp xl xcap] rfl rfl HNW.out (by simp [Value.oneCell']) (by decide) (by unfold maxLen; omega) (by omega) HBZ.out _ rfl ?_
        intro g6 cap6 w6 hown6 hgrow6 hor6 hlt6
        obtain ⟨_, _, e2, ef, _⟩ := (HF6.out _ hgrow6).cells
        have ef2 := ef 2
        refine HK.out _ _ (HS6.out _ hgrow6) ?_
        clear HK ef
        (try simp only [Act.put, List.setIfInBounds_toArray, List.set_cons_zero, List.set_cons_succ])
        refine gOneL (i := 8) (by kernel_rfl) rfl (by rfl) (fun K hK => ?_)
        have HK := Lib.hid hK
        clear hK
        go_simp
        refine HK.out _ _ (HS6.out _ hgrow6) ?_
        clear HK
        (try simp only [Act.put, List.setIfInBounds_toArray, List.set_cons_zero, List.set_cons_succ])
        refine gOneL (i := 9) (by kernel_rfl) rfl (by rfl) (fun K hK => ?_)
        have HK := Lib.hid hK
        clear hK
        go_simp
        refine HK.out _ _ (HS6.out _ hgrow6) ?_
        clear HK
        (try simp only [Act.put, List.setIfInBounds_toArray, List.set_cons_zero, List.set_cons_succ])
        refine gOneL (i := 10) (by kernel_rfl) rfl (by rfl) (fun K hK => ?_)
        have HK := Lib.hid hK
        clear hK
        go_simp
        refine HK.out _ _ (HS7.out _ _ hgrow6) ?_
        clear HK e2 ef2
        refine wpAnyH_done (by kernel_rfl) ?_ _
        have HPS := Lib.hid ((HF6.out _ hgrow6).put (.slice (some ⟨g6, 0, none⟩) (n3 + 1) cap6))
        have HRS : Hid (RulsOwn B (w6.setCell ⟨pb, 2, none⟩ (.slice (some ⟨g6, 0, none⟩) (n3 + 1) cap6)) (.slice (some ⟨g6, 0, none⟩) (n3 + 1) cap6) (rs ++ [(k, tx, ex)])) := HPU.out _ _ _ hown6 hgrow6 hor6
        have HON : Hid (Only (fun k => k = pb ∨ B ≤ k) w (w6.setCell ⟨pb, 2, none⟩ (.slice (some ⟨g6, 0, none⟩) (n3 + 1) cap6))) := HOO.out _ _ hgrow6
        clear hown6 hgrow6 hor6 hlt6
        go_wp2_with fail
        go_end0
        exact ⟨HON.out, .inl ⟨(k, tx, ex), j, _, by rw [← HN3.out]; exact HE.out, rfl, HPS.out, HRS.out, hij, hjs, hbj⟩⟩
    · have HE : Hid (ruleT s i n3 = .inr (a, 100)) := by
        show _ = _
        rw [HRT.out, htx]
      exact ⟨rfl, (HO2.out.trans ho3).mono (fun k hk => .inl hk), .inr ⟨a, 100, by rw [← HN3.out]; exact HE.out, rfl⟩⟩
  · have hlz : decide ((n3 : Int) < 2000) = false := decide_eq_false (by omega)
    have HE : Hid (ruleT s i n3 = .inr (i, 2)) := by
      show _ = _
      rw [HRT.out, if_neg hlen]
    clear HRT
    go_wp2_with (go_at_call 36; refine (must_no _ _ _).mono ?_; rintro e w' ⟨rfl, h5⟩)
    have ho2 : Only (fun k => k = pb) w1 w' := by rw [← h5]; exact (Only.refl _ w1).alloc _
    exact ⟨rfl, (HO1.out.trans ho2).mono (fun k hk => .inl hk), .inr ⟨i, 2, by rw [← HN3.out]; exact HE.out, rfl⟩⟩
end Go.Proofs.YtchjjfjjcdjjcaaDoor
