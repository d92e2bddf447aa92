/- The reference's reader of rules: Parse: the walk. The reference: rules alike. -/
import Derived.Test.YtchjjfjjcdjjcaaGreatDoorHf
import Derived.Deep.Cut
import Derived.Deep.CutRange
import Derived.Test.YtchjjfjjcdjjcaaGreatDoorVj
/-! The reference's reader of rules: Parse: the walk. -/
namespace Go.Proofs.YtchjjfjjcdjjcaaGreatDoor
open Go.RowKit
open PlainAid (bt)

/-- what both readers of rules answer -/
def ParsePost (s : ByteArray) (w : World) (e : Ending) (w' : World) : Prop :=
  ∃ lv, e = .returned (.tuple #[lv, .int .i64 (parA s), .int .i64 (parE s)]) ∧ RulsIn (fun b => w.heap.size ≤ b) w' lv (parV s) ∧ Below w.heap.size w w'
set_option maxHeartbeats 8000000 in
set_option maxRecDepth 100000 in
theorem rparse_any (s : ByteArray) (w : World) (hs : s.size ≤ 65536) : Calls Tryz.prog 10 #[.string s] w (ParsePost s w) := by
  have hsz : decide (65536 < s.size) = false := decide_eq_false (by omega)
  have HUC := Lib.hid (fun W => rCheck_any s W (by omega))
  cases hbd : BD s 0 with
  | some a =>
    have hv := bd_some hbd
    have hp : parseT s = .inr (a, 40) := by unfold parseT; rw [hbd]
    have HPB := Lib.hid (par_bad hp)
    rw [hv.1, hv.2] at HUC
    clear hv hp hbd
    go_enter Tryz.func10, Tryz.ntmps10
    go_wp2_with fail
    refine (HUC.out _).mono ?_
    rintro e w2 ⟨rfl, hb2⟩
    go_wp2_with fail
    go_ret3
    exact ⟨_, by rw [HPB.out.2.1, HPB.out.2.2]; rfl, by rw [HPB.out.1]; exact .nil _ _, hb2⟩
  | none =>
    have hv := bd_none hbd
    have HPT : Hid (parseT s = parseF s (s.size - skipT s 0) (skipT s 0) []) := by show _ = _; unfold parseT; rw [hbd]
    rw [hv.1, hv.2] at HUC
    have HBD := Lib.hid hbd
    obtain ⟨ik, htk, hk0, hk1, hk2⟩ := info_parts Tryz.infoK
    clear hv hbd
    go_enter Tryz.func10, Tryz.ntmps10
    go_wp2_with fail
    refine (HUC.out _).mono ?_
    rintro e w2 ⟨rfl, hb2⟩
    have HB2 := Lib.hid hb2
    clear HUC hb2
    go_wp2_with fail
    have hb3 : Below w2.heap.size w2 (w2.alloc (.cells #[.string s, .int .i64 0, .int .i64 0, .int .i64 0] 69)) := (Below.refl _ w2).alloc (Nat.le_refl _) _
    have hrd3 : RdAt (w2.alloc (.cells #[.string s, .int .i64 0, .int .i64 0, .int .i64 0] 69)) w2.heap.size s 0 0 0 := by
      unfold RdAt; rw [World.alloc_heap_new]; rfl
    have hz3 : (w2.alloc (.cells #[.string s, .int .i64 0, .int .i64 0, .int .i64 0] 69)).heap.size = w2.heap.size + 1 := by simp
    generalize w2.alloc (.cells #[.string s, .int .i64 0, .int .i64 0, .int .i64 0] 69) = w3 at *
    have HB3 : Hid (Below w.heap.size w w3) := HB2.out.trans (hb3.mono HB2.out.size)
    have hwz : w.heap.size ≤ w2.heap.size := HB2.out.size
    have HRD3 := Lib.hid hrd3
    clear HB2 hb3 hrd3
    generalize w2.heap.size = pb at *
    go_loopg [8] (s.size - skipT s 0) (fun g lv wr => ∃ (j : Nat) (a : Int) (rs : List Rul), RdAt wr pb s j a 0 ∧ RulsOwn (pb + 1) wr lv rs ∧ Only (fun k => k = pb ∨ pb + 1 ≤ k) w3 wr ∧ j ≤ s.size ∧ s.size - skipT s j ≤ g ∧ BD s j = none ∧ parseF s g (skipT s j) rs = parseT s ∧ rs.length ≤ j ∧ rs.length ≤ 2000)
    case atStart => exact ⟨0, 0, [], HRD3.out, .nil _ _, Only.refl _ _, Nat.zero_le _, Nat.le_refl _, HBD.out, HPT.out.symm, Nat.zero_le _, Nat.zero_le _⟩
    case round =>
      obtain ⟨j, a, rs, hrd, hrs, ho, hj, hjg, hbj, hF, hrj, hr2⟩ := hrel
      obtain ⟨p3, cap3, rfl⟩ := hrs.form
      obtain ⟨n3, hn3⟩ : ∃ n3, n3 = rs.length := ⟨_, rfl⟩
      rw [← hn3] at hrs hrj hr2 ⊢
      have HRS := Lib.hid hrs
      have HO := Lib.hid ho
      have HF := Lib.hid hF
      have HRD := Lib.hid hrd
      have HN3 := Lib.hid hn3
      have hSF := skip_fix hj
      have hSB := skip_bd hj hbj
      have hSG := skip_ge s j hj
      have hSL := skip_le s j hj
      have hSI := skip_idem hj
      clear hrs ho hF hrd hn3 HRD3 hbj
      go_wp2_with fail
      refine (rskip_any s pb j a 0 _ HRD.out hj (by omega)).mono ?_
      rintro e w4 ⟨rfl, hrd4, ho4⟩
      generalize skipT s j = i at *
      have hpw3 : pb < w3.heap.size := by omega
      have hpwr : w3.heap.size ≤ wr.heap.size := HO.out.size
      have HRD4 := Lib.hid hrd4
      have HRS4 : Hid (RulsOwn (pb + 1) w4 (.slice p3 n3 cap3) rs) := HRS.out.only (by omega) (ho4.mono fun _ e => .inl e)
      have HO4 : Hid (Only (fun k => k = pb ∨ pb + 1 ≤ k) w3 w4) := HO.out.trans (ho4.mono fun _ e => .inl e)
      clear HRD HRS HO ho4 hrd4
      obtain ⟨c0, c1, _, _, _, cpl⟩ := HRD4.out.cells
      by_cases hend : i = s.size
      · have g1 : ((i : Int) == (s.size : Int)) = true := by rw [hend]; simp
        have HPV := Lib.hid (par_ok (s := s) (l := rs) (by
          rw [← HF.out]
          cases gk with
          | zero => rfl
          | succ n => rw [parseF, if_neg (by omega)]))
        clear hend hSF
        go_wp2_with fail
        go_quiet (fail)
        go_wp2_with fail
        go_ret3
        refine ⟨_, by rw [HPV.out.2.1, HPV.out.2.2]; rfl, ?_, ?_⟩
        · rw [HPV.out.1]
          exact (((HRS4.out.only (pb := pb) (by omega) (only_drewN (Only.refl _ _) _)).ruls).mono (fun b hb _ => by omega))
        · exact Only.toBelow HB3.out (by omega) (HO4.out.trans (only_drewN (Only.refl _ _) _)) (fun i hi => by omega)
      · have hlt : i < s.size := by omega
        have g1 : ((i : Int) == (s.size : Int)) = false := by simp; omega
        obtain ⟨g, rfl⟩ : ∃ g, gk = g + 1 := ⟨gk - 1, by omega⟩
        have HEQ : Hid (parseF s (g + 1) i rs = (match ruleT s i n3 with | .inr e => .inr e | .inl x => parseF s g x.2 (rs ++ [x.1]))) := by
          show _ = _
          rw [parseF, if_pos hlt, HN3.out]; rfl
        have HRT : Hid (ruleT s i n3 = if sgnOk s i (n3 == 0) = true then
          if n3 < 2000 then
            match textT s (endS s i) with
            | (none, a) => .inr (a, 100)
            | (some l, j) =>
              if (sgnT s i).getD 0 ≠ 0 ∧ skipT s j < s.size ∧ bt s (skipT s j) = 47 then
                match textT s (skipT s j + 1) with
                | (none, a) => .inr (a, 100)
                | (some x, k) => .inl (((sgnT s i).getD 0, l, x), skipT s k)
              else .inl (((sgnT s i).getD 0, l, []), skipT s j)
          else .inr (i, 2)
        else .inr (i, 100)) := rfl
        have HSR := Lib.hid (sgn_rel s i hlt)
        have HSO := Lib.hid (sgnOk_rel (n := n3) hlt)
        have HSB := Lib.hid (sign_bd (reset := (n3 == 0)) hlt hSB)
        have HSGN := Lib.hid (fun W h => rsign_any s pb i a 0 W h hSL (by omega))
        unfold SgnEnd at HSGN
        obtain ⟨k, hk⟩ : ∃ k, rSgn s i = k := ⟨_, rfl⟩
        rw [hk] at HSR HSO HSGN
        clear hk hSF
        go_wp2_with fail
        go_quiet (fail)
        go_wp2_with fail
        refine (HSGN.out _ (HRD4.out.drewN _)).mono ?_
        rintro e w5 ⟨rfl, hrd5, ho5⟩
        have HRD5 := Lib.hid hrd5
        have HRS5 : Hid (RulsOwn (pb + 1) w5 (.slice p3 n3 cap3) rs) := HRS4.out.only (by omega) ((only_drewN (Only.refl _ _) _).trans (ho5.mono fun _ e => .inl e))
        have HO5 : Hid (Only (fun k => k = pb ∨ pb + 1 ≤ k) w3 w5) := HO4.out.trans ((only_drewN (Only.refl _ _) _).trans (ho5.mono fun _ e => .inl e))
        clear HSGN HRD4 HRS4 HO4 ho5 hrd5 c0 c1 cpl
        generalize hQ : sgnOk s i (n3 == 0) = ok at *
        clear hQ
        go_upto_region 13 with fail
        go_cut [56] from 46 to 56 (fun s56 wx => s56 = .bool (!ok) ∧ wx = w5)
        case first =>
          by_cases hk1 : k < 0
          · have d1 : decide (k < 0) = true := decide_eq_true hk1
            have HOK : Hid (ok = false) := by
              show _ = _
              cases ok with
              | false => rfl
              | true => exact absurd (.inl hk1) (HSO.out.1 rfl)
            clear hk1
            go_wp2_with fail
            go_meet
            case rel => exact ⟨by rw [HOK.out]; rfl, rfl⟩
          · have d1 : decide (k < 0) = false := decide_eq_false hk1
            by_cases hk2 : 0 < k
            · have d2 : decide (0 < k) = true := decide_eq_true hk2
              by_cases hn0 : n3 = 0
              · have d3 : ((n3 : Int) == 0) = true := by rw [hn0]; rfl
                have HOK : Hid (ok = false) := by
                  show _ = _
                  cases ok with
                  | false => rfl
                  | true => exact absurd (.inr ⟨hk2, hn0⟩) (HSO.out.1 rfl)
                clear hk1 hk2 hn0
                go_wp2_with fail
                go_meet
                case rel => exact ⟨by rw [HOK.out]; rfl, rfl⟩
              · have d3 : ((n3 : Int) == 0) = false := by simp; omega
                have HOK : Hid (ok = true) := HSO.out.2 (fun h => by omega)
                clear hk1 hk2 hn0
                go_wp2_with fail
                go_meet
                case rel => exact ⟨by rw [HOK.out]; rfl, rfl⟩
            · have d2 : decide (0 < k) = false := decide_eq_false hk2
              have HOK : Hid (ok = true) := HSO.out.2 (fun h => by omega)
              clear hk1 hk2
              go_wp2_with fail
              go_meet
              case rel => exact ⟨by rw [HOK.out]; rfl, rfl⟩
        case rest =>
        obtain ⟨rfl, hwc⟩ := hcut
        subst wc
        have HBAD : Hid (∀ (at' : Nat) (x : Int), ruleT s i n3 = .inr (at', x) → parV s = [] ∧ parA s = at' ∧ parE s = x) := fun at' x h => par_bad (by rw [← HF.out, HEQ.out, h])
        cases ok with
        | false =>
          have HPV := Lib.hid (HBAD.out i 100 (by rw [HRT.out, if_neg (by simp)]))
          go_wp2_with fail
          go_ret3
          refine ⟨_, by rw [HPV.out.2.1, HPV.out.2.2]; rfl, by rw [HPV.out.1]; exact .nil _ _, ?_⟩
          exact Only.toBelow HB3.out (by omega) HO5.out (fun i hi => by omega)
        | true =>
          rw [if_pos rfl] at HRT
          have hgood := HSO.out.1 rfl
          have hsb := HSB.out rfl
          have hkk : 0 ≤ k := by omega
          have hrel3 : sgnT s i = some k ∧ endS s i = i + sgL k := by
            rcases HSR.out with ⟨h, _⟩ | ⟨_, h1, h2, _⟩
            · omega
            · exact ⟨h1, h2⟩
          have hrd5 := HRD5.out
          rw [if_neg (by omega), ← hrel3.2] at hrd5
          rw [hrel3.1] at HRT
          simp only [Option.getD_some] at HRT
          generalize endS s i = E at *
          have HRD6 := Lib.hid hrd5
          have HSBE := Lib.hid hsb
          clear hrd5 hrel3 hgood hsb HSR HSO HSB HRD5
          by_cases hn2 : n3 = 2000
          · have d1 : ((n3 : Int) == 2000) = true := by rw [hn2]; rfl
            have HPV := Lib.hid (HBAD.out i 2 (by rw [HRT.out, if_neg (by omega)]))
            clear hn2
            go_wp2_with fail
            go_ret3
            refine ⟨_, by rw [HPV.out.2.1, HPV.out.2.2]; rfl, by rw [HPV.out.1]; exact .nil _ _, ?_⟩
            exact Only.toBelow HB3.out (by omega) HO5.out (fun i hi => by omega)
          · have d1 : ((n3 : Int) == 2000) = false := by simp; omega
            rw [if_pos (by omega)] at HRT
            have HN2 : Hid (n3 + 1 ≤ 2000) := by show _ ≤ _; omega
            clear hn2
            go_wp2_with fail
            refine (rtext_any s pb E a _ HRD6.out HSBE.out.2.1 (by omega) HSBE.out.2.2).mono ?_
            rintro e w7 ⟨ho7, ⟨tx, j7, tv, a7, htx, rfl, hr7, hne7, hlen7, hrd7, hEj7, hjs7, hbj7⟩ | ⟨j7, k7, tp, tcap, htx, rfl, htc, hrd7, hks7⟩⟩
            · rw [htx] at HRT
              obtain ⟨tp, tcap, rfl⟩ : ∃ tp tcap, tv = .slice tp tx.length tcap := ⟨_, _, hr7.choose_spec.choose_spec.1⟩
              have HRD7 := Lib.hid hrd7
              have HR7 := Lib.hid hr7
              have HO7 := Lib.hid ho7
              have HTX : Hid (tx ≠ [] ∧ tx.length ≤ s.size ∧ E ≤ j7 ∧ BD s j7 = none) := ⟨hne7, hlen7, hEj7, hbj7⟩
              have hz7 : w5.heap.size ≤ w7.heap.size := ho7.size
              clear hr7 hrd7 ho7 hne7 hlen7 hEj7 hbj7 htx HRD6
              generalize tx.length = tl at *
              go_wp2_with fail
              have hb8 : Below w7.heap.size w7 (w7.alloc (.cells #[.int .i64 k, .slice tp tl tcap, .slice none 0 0] 47)) := (Below.refl _ w7).alloc (Nat.le_refl _) _
              have hrr8 : RrAt s pb w7.heap.size k (.slice tp tl tcap) tx w5 j7 a7 0 (.slice none 0 0) (w7.alloc (.cells #[.int .i64 k, .slice tp tl tcap, .slice none 0 0] 47)) := by
                refine ⟨HRD7.out.below hb8, World.alloc_heap_new _ _, ?_, ?_, ?_, hz7⟩
                · exact (IntsIn.mono HR7.out (fun b hb hl => ⟨hb, hl⟩)).kept (Kept.below hb8)
                · exact (HO7.out.mono fun _ e => .inl e).below hb8
                · have := HO5.out.size; omega
              have HRR8 := Lib.hid hrr8
              have hSF7 := skip_bd hjs7 HTX.out.2.2.2
              have hSG7 := skip_ge s j7 hjs7
              have hSI7 := skip_idem hjs7
              have HSK := Lib.hid (rskip_any s pb j7 a7 0 _ hrr8.rd hjs7 (by omega))
              have hSL7 := skip_le s j7 hjs7
              obtain ⟨xb, hxb⟩ : ∃ xb, xb = w7.heap.size := ⟨_, rfl⟩
              rw [← hxb] at HRR8 ⊢
              clear hb8 hrr8 HRD7 HR7 HO7 hz7 hxb
              generalize skipT s j7 = b at *
              refine HSK.out.mono ?_
              clear HSK
              rintro e w9 ⟨rfl, hrd9, ho9⟩
              have HRR9 := Lib.hid (HRR8.out.call ho9 hrd9)
              clear HRR8 hrd9 ho9
              have HAS := Lib.hid (fun W h => rhas_any s ⟨#[47]⟩ pb b a7 0 W h hSL7 (by omega) (by decide))
              rw [hasT1] at HAS
              go_upto_region 19 with fail
              go_cut [80] from 68 to 80 (fun s80 wx => s80 = .bool (decide (k ≠ 0 ∧ b < s.size ∧ bt s b = 47)) ∧ RrAt s pb xb k (.slice tp tl tcap) tx w5 b a7 0 (.slice none 0 0) wx)
              case first =>
                obtain ⟨_, _, _, c3, _, cpl⟩ := HRR9.out.rd.cells
                by_cases hk0 : 0 < k
                · have d2 : decide (0 < k) = true := decide_eq_true hk0
                  have HDD : Hid (decide (b + 1 ≤ s.size ∧ bt s b = ((47 : UInt8).toNat : Int)) = decide (k ≠ 0 ∧ b < s.size ∧ bt s b = 47)) := by
                    show _ = _
                    refine decide_eq_decide.2 ⟨fun h => ⟨by omega, by omega, h.2⟩, fun h => ⟨by omega, h.2.2⟩⟩
                  rw [HDD.out] at HAS
                  clear hk0 HDD
                  go_wp2_with fail
                  refine (HAS.out _ HRR9.out.rd).mono ?_
                  rintro e w10 ⟨rfl, hb10⟩
                  have HRR10 := Lib.hid (HRR9.out.below hb10)
                  clear hb10 c3 cpl
                  generalize decide (k ≠ 0 ∧ b < s.size ∧ bt s b = 47) = Q at *
                  go_wp2_with fail
                  go_meet
                  case rel => exact ⟨by first | rfl | simp, HRR10.out⟩
                · have d2 : decide (0 < k) = false := decide_eq_false hk0
                  have HDD : Hid (decide (k ≠ 0 ∧ b < s.size ∧ bt s b = 47) = false) := decide_eq_false (fun h => by omega)
                  clear hk0
                  go_wp2_with fail
                  go_meet
                  case rel => exact ⟨by rw [HDD.out], HRR9.out⟩
              case rest =>
              obtain ⟨rfl, hRR⟩ := hcut
              have HRR := Lib.hid hRR
              clear hRR HRR9 HAS
              obtain ⟨W9, hW9⟩ : ∃ W9, W9 = wc := ⟨_, rfl⟩
              subst hW9
              generalize hQ : decide (k ≠ 0 ∧ b < s.size ∧ bt s b = 47) = Q at *
              have HQ := Lib.hid hQ
              clear hQ
              go_upto_if 80 with fail
              go_cut [] from 81 to 90 (fun wx => (∃ (ex : List Int) (jr : Nat) (aa : Int) (xp : Option Addr) (xl xcap : Nat), ruleT s i n3 = .inl ((k, tx, ex), skipT s jr) ∧ RrAt s pb xb k (.slice tp tl tcap) tx w5 jr aa 0 (.slice xp xl xcap) wx ∧ IntsIn (fun b => w5.heap.size ≤ b) .i32 wx (.slice xp xl xcap) ex ∧ (i < jr ∧ i < skipT s jr) ∧ jr ≤ s.size ∧ BD s jr = none) ∨
                (∃ a2 k2 : Nat, ruleT s i n3 = .inr (a2, 100) ∧ RdAt wx pb s k2 a2 100 ∧ Only (fun k => k = pb ∨ w5.heap.size ≤ k) w5 wx))
              case first =>
                cases Q with
                | true =>
                  have hc : k ≠ 0 ∧ b < s.size ∧ bt s b = 47 := of_decide_eq_true HQ.out
                  rw [if_pos hc] at HRT
                  have hbl := hc.2.1
                  have HB1 := Lib.hid (bd_next hSF7 hc.2.1 (by rw [hc.2.2]; decide))
                  obtain ⟨c0, c1, _, _, cf, cpl⟩ := HRR.out.rd.cells
                  have f1 := cf 1
                  clear hc cf
                  go_wp2_with fail
                  have hRU7 := HRR.out.go (b + 1)
                  rw [show ((b + 1 : Nat) : Int) = (b : Int) + 1 from rfl] at hRU7
                  have HR7 := Lib.hid hRU7
                  refine (rtext_any s pb (b + 1) _ _ hRU7.rd (by omega) (by omega) HB1.out).mono ?_
                  clear c0 c1 f1 hRU7 HRR
                  rintro e w8 ⟨ho8, ⟨ex, j8, xv, a8, hex, rfl, hr8, hne8, hlen8, hrd8, hEj8, hjs8, hbj8⟩ | ⟨j8, k8, xp, xcap, hex, rfl, hxc, hrd8, hks8⟩⟩
                  · rw [hex] at HRT
                    obtain ⟨xp, xcap, rfl⟩ : ∃ xp xcap, xv = .slice xp ex.length xcap := ⟨_, _, hr8.choose_spec.choose_spec.1⟩
                    have hRU8 := HR7.out.call ho8 hrd8
                    have HR8 := Lib.hid hRU8
                    obtain ⟨d0, d1', d2, df, dpl⟩ := hRU8.x.cells
                    have f2 := df 2
                    have HX8 := Lib.hid hr8
                    have hxs : xb < (W9.setCell ⟨pb, 1, none⟩ (.int .i64 ((b : Int) + 1))).heap.size := HR7.out.x.cells.2.2.2.2
                    have hws : w5.heap.size ≤ (W9.setCell ⟨pb, 1, none⟩ (.int .i64 ((b : Int) + 1))).heap.size := HR7.out.only.size
                    have HEX : Hid (b + 1 ≤ j8 ∧ BD s j8 = none) := ⟨hEj8, hbj8⟩
                    clear hRU8 ho8 hrd8 hr8 df hne8 hlen8 hEj8 hbj8 hex HB1 HR7
                    go_wp2_with fail
                    have ho9 : Only (fun k => k = xb) w8 (w8.setCell ⟨xb, 2, none⟩ (.slice xp ex.length xcap)) := (Only.refl (fun k => k = xb) w8).setCell (p := ⟨xb, 2, none⟩) rfl _
                    have HR9 := Lib.hid (HR8.out.put2 (.slice xp ex.length xcap))
                    have HX9 := Lib.hid (IntsIn.mono (S := fun b => w5.heap.size ≤ b) (HX8.out.only ho9 (fun k e => by omega)) (fun c hc _ => Nat.le_trans hws hc))
                    clear d0 d1' d2 dpl f2 ho9 HX8 HR8 hxs hws
                    generalize ex.length = el at *
                    go_meet
                    case rel => exact .inl ⟨ex, j8, a8, xp, el, xcap, HRT.out, HR9.out, HX9.out, by have := HSBE.out; have := HTX.out; have := HEX.out; have := skip_ge s j8 hjs8; constructor <;> omega, hjs8, HEX.out.2⟩
                  · rw [hex] at HRT
                    have hRU8 := HR7.out.call ho8 hrd8
                    have HR8 := Lib.hid hRU8
                    obtain ⟨d0, d1', d2, df, dpl⟩ := hRU8.x.cells
                    have f2 := df 2
                    clear hRU8 ho8 hrd8 df hex HB1 HR7
                    go_wp2_with fail
                    have HR9 := Lib.hid (HR8.out.put2 (.slice xp 0 xcap))
                    clear d0 d1' d2 dpl f2 HR8
                    go_meet
                    case rel => exact .inr ⟨j8, k8, HRT.out, HR9.out.rd, HR9.out.only⟩
                | false =>
                  have hc : ¬ (k ≠ 0 ∧ b < s.size ∧ bt s b = 47) := of_decide_eq_false HQ.out
                  rw [if_neg hc] at HRT
                  clear hc
                  go_wp2_with fail
                  go_meet
                  case rel => exact .inl ⟨[], b, a7, none, 0, 0, by rw [hSI7]; exact HRT.out, HRR.out, .nil _ _ _, by have := HSBE.out; have := HTX.out; constructor <;> omega, hSL7, hSF7⟩
              case rest =>
              rcases hcut with ⟨ex, jr, aa, xp, xl, xcap, hE, hRR, hX, hij, hjrs, hbjr⟩ | ⟨a2, k2, hE, hRR, hOO⟩
              · have HE := Lib.hid hE
                have HX := Lib.hid hX
                have HRR2 := Lib.hid hRR
                obtain ⟨_, _, _, c3, _, cpl⟩ := hRR.rd.cells
                obtain ⟨x0, x1, x2, _, xpl⟩ := hRR.x.cells
                have hRO : RulsOwn (pb + 1) wc (.slice p3 n3 cap3) rs := HRS5.out.only (pb := pb) (by omega) hRR.only
                obtain ⟨cs, hcs, hin, hrow⟩ := hRO
                have HCS := Lib.hid (And.intro hcs hin)
                rw [← HN3.out] at hrow
                have HROW := Lib.hid (hrow.alloc (.cells #[.int .i64 k, .slice tp tl tcap, .slice xp xl xcap] 47))
                have hownlt : ∀ j, (Value.slice p3 n3 cap3).ownBlock = some j → pb + 1 ≤ j ∧ j < w5.heap.size := by
                  obtain ⟨cs', _, _, hrow'⟩ := HRS5.out
                  intro j hj
                  refine ⟨ownBlock_ge hrow' hj, ?_⟩
                  rcases hrow'.2 with ⟨e, _⟩ | ⟨g, cap, cur, e, hg, hgb, _⟩
                  · rw [e] at hj; cases hj
                  · rw [e] at hj; cases hj; exact (Array.getElem?_eq_some_iff.1 hgb).1
                have HOL := Lib.hid hownlt
                have hsz5 : w3.heap.size ≤ w5.heap.size := HO5.out.size
                have hszc : w5.heap.size ≤ wc.heap.size := hRR.only.size
                have HBZ : Hid (pb + 1 ≤ (wc.alloc (.cells #[.int .i64 k, .slice tp tl tcap, .slice xp xl xcap] 47)).heap.size) := by show _ ≤ _; simp; omega
                clear hRR hX hE hrow hownlt hin hcs
                go_wp2_with (at_builtin; refine gStop ⟨_, _, rfl⟩ ?_)
                refine Lib.hid ?_
                refine wpList_append_own_at _ rfl _ _ 22 rfl (pb + 1) 47 ik (.agg #[.int .i64 0, .slice none 0 0, .slice none 0 0]) 3 56 Tryz.underlying22 htk hk0 hk1 hk2 rfl (by decide) _ n3 (flatR cs) rfl HROW.out ⟨wc.heap.size, 0, none⟩ 1 1 [.int .i64 k, .slice tp tl tcap, .slice xp xl xcap] rfl rfl (gCells _ _ _) (by simp [Value.oneCell']) (by unfold maxLen; omega) (by omega) HBZ.out ?_
                intro v7 w7' hrow7 hg7 _ how7
                have hb : Below wc.heap.size wc (wc.alloc (.cells #[.int .i64 k, .slice tp tl tcap, .slice xp xl xcap] 47)) := (Below.refl _ wc).alloc (Nat.le_refl _) _
                have hne : ∀ k, k = pb ∨ (k < w5.heap.size ∧ (Value.slice p3 n3 cap3).ownBlock ≠ some k) → some k ≠ (Value.slice p3 n3 cap3).ownBlock := fun k hk e => by
                  rcases hk with rfl | ⟨_, h⟩
                  · have := (HOL.out _ e.symm).1; omega
                  · exact h e.symm
                have HRD : Hid (RdAt w7' pb s jr aa 0) := by
                  have h1 := HRR2.out.rd.below hb
                  exact (hg7.block pb h1.cells.2.2.2.2.2 (hne pb (.inl rfl))).trans h1
                have HRN : Hid (RulsOwn (pb + 1) w7' v7 (rs ++ [(k, tx, ex)])) := by
                  have hkp : Kept (fun b => pb + 1 ≤ b ∧ (Value.slice p3 n3 cap3).ownBlock ≠ some b) wc (wc.alloc (.cells #[.int .i64 k, .slice tp tl tcap, .slice xp xl xcap] 47)) := Kept.below hb
                  have hrn : ∀ (R : Nat → Prop) u xs, (∀ b, R b → w5.heap.size ≤ b) → IntsIn R .i32 wc u xs → IntsIn (fun b => pb + 1 ≤ b ∧ (Value.slice p3 n3 cap3).ownBlock ≠ some b) .i32 (wc.alloc (.cells #[.int .i64 k, .slice tp tl tcap, .slice xp xl xcap] 47)) u xs := fun R u xs hR h =>
                    (IntsIn.mono h (fun b hb _ => ⟨by have := hR b hb; omega, fun e => by have := (HOL.out b e).2; have := hR b hb; omega⟩)).kept hkp
                  exact RulsOwn.push (W := (wc.alloc (.cells #[.int .i64 k, .slice tp tl tcap, .slice xp xl xcap] 47))) HCS.out.1 (fun i r c h1 h2 => by
                    obtain ⟨a1, a2, a3⟩ := HCS.out.2 i r c h1 h2
                    exact ⟨a1, a2.kept hkp, a3.kept hkp⟩) (hrn _ _ _ (fun b hb => hb.1) HRR2.out.run) (hrn _ _ _ (fun b hb => hb) HX.out) (by rw [← HN3.out]; exact hrow7) hg7 (by
                    rcases how7 with e | e
                    · exact .inl e
                    · exact .inr ⟨_, Nat.le_refl _, e⟩)
                have HON : Hid (Only (fun k => k = pb ∨ pb + 1 ≤ k) w3 w7') := by
                  have h1 : Only (fun k => k = pb ∨ pb + 1 ≤ k) w5 wc := HRR2.out.only.mono (fun k hk => by omega)
                  have h3 : Only (fun k => k = pb ∨ pb + 1 ≤ k) (wc.alloc (.cells #[.int .i64 k, .slice tp tl tcap, .slice xp xl xcap] 47)) w7' := ⟨hg7.os, hg7.tape, hg7.output, hg7.size, fun k hk hn => hg7.block k hk (fun e => hn (.inr (HOL.out k e.symm).1))⟩
                  exact ((HO5.out.trans h1).below hb).trans h3
                have HEF : Hid (parseF s g (skipT s jr) (rs ++ [(k, tx, ex)]) = parseT s) := by
                  show _ = _
                  rw [← HF.out, HEQ.out, HE.out]
                have HLN : Hid ((rs ++ [(k, tx, ex)]).length = n3 + 1) := by show _ = _; rw [List.length_append, ← HN3.out]; rfl
                have HJR : Hid (n3 + 1 ≤ jr) := by
                  show _ ≤ _
                  omega
                clear hrow7 hg7 how7 hne hb HROW HRR2 HX x0 x1 x2 c3 HCS
                go_wp2_with fail
                go_roundg g
                case measure => omega
                case rel => exact ⟨jr, aa, rs ++ [(k, tx, ex)], HRD.out, HRN.out, HON.out, hjrs, by omega, hbjr, HEF.out, by rw [HLN.out]; exact HJR.out, by rw [HLN.out]; exact HN2.out⟩
              · have HPV := Lib.hid (HBAD.out a2 100 hE)
                have HO9 : Hid (Only (fun k => k = pb ∨ pb + 1 ≤ k) w3 wc) := HO5.out.trans (hOO.mono fun k hk => by have := HO5.out.size; omega)
                obtain ⟨_, _, c2, c3, _, cpl⟩ := hRR.cells
                clear hE hRR hOO
                go_wp2_with fail
                go_quiet (fail)
                go_wp2_with fail
                go_ret3
                refine ⟨_, by rw [HPV.out.2.1, HPV.out.2.2]; rfl, by rw [HPV.out.1]; exact .nil _ _, ?_⟩
                exact Only.toBelow HB3.out (by omega) (HO9.out.trans (only_drewN (Only.refl _ _) _)) (fun i hi => by omega)
            · have HPV := Lib.hid (HBAD.out j7 100 (by rw [HRT.out, htx]))
              have HRD7 := Lib.hid hrd7
              have HO7 := Lib.hid ho7
              clear hrd7 ho7 htx HRD6
              go_wp2_with fail
              have hb8 : Below w7.heap.size w7 (w7.alloc (.cells #[.int .i64 k, .slice tp 0 tcap, .slice none 0 0] 47)) := (Below.refl _ w7).alloc (Nat.le_refl _) _
              refine (rskip_any s pb k7 _ _ _ (HRD7.out.below hb8) hks7 (by omega)).mono ?_
              rintro e w9 ⟨rfl, hrd9, ho9⟩
              have HRD9 := Lib.hid hrd9
              obtain ⟨_, _, c2, c3, _, cpl⟩ := hrd9.cells
              have HO9 : Hid (Only (fun k => k = pb ∨ pb + 1 ≤ k) w3 w9) := ((HO5.out.trans (HO7.out.mono fun _ e => .inl e)).below hb8).trans (ho9.mono fun _ e => .inl e)
              clear hrd9 ho9 hb8 HRD7 HO7 HO5
              by_cases hk0 : 0 < k
              · have d2 : decide (0 < k) = true := decide_eq_true hk0
                clear hk0
                go_wp2_with fail
                go_quiet (fail)
                go_wp2_with fail
                go_ret3
                refine ⟨_, by rw [HPV.out.2.1, HPV.out.2.2]; rfl, by rw [HPV.out.1]; exact .nil _ _, ?_⟩
                exact Only.toBelow HB3.out (by omega) (HO9.out.trans (only_drewN (Only.refl _ _) _)) (fun i hi => by omega)
              · have d2 : decide (0 < k) = false := decide_eq_false hk0
                clear hk0
                go_wp2_with fail
                go_quiet (fail)
                go_wp2_with fail
                go_ret3
                refine ⟨_, by rw [HPV.out.2.1, HPV.out.2.2]; rfl, by rw [HPV.out.1]; exact .nil _ _, ?_⟩
                exact Only.toBelow HB3.out (by omega) (HO9.out.trans (only_drewN (Only.refl _ _) _)) (fun i hi => by omega)
end Go.Proofs.YtchjjfjjcdjjcaaGreatDoor
/-! The reference: rules alike. -/
namespace Go.Proofs.YtchjjfjjcdjjcaaGreatDoor
open Go.RowKit
open PlainAid (bt)

theorem takeR_eq_step {xs ys : List Rul} {k : Nat} {x y : Rul} (hx : xs[k]? = some x) (hy : ys[k]? = some y) (h : xs.take k = ys.take k) : (xs.take (k + 1) = ys.take (k + 1) ↔ x = y) := by
  have e1 : xs.take (k + 1) = xs.take k ++ [x] := by rw [List.take_add_one, hx]; rfl
  have e2 : ys.take (k + 1) = ys.take k ++ [y] := by rw [List.take_add_one, hy]; rfl
  rw [e1, e2, h]
  constructor
  · intro e; have := List.append_cancel_left e; simpa using this
  · intro e; rw [e]
theorem RulsIn.at {R : Nat → Prop} {w : World} {p : Option Addr} {len cap : Nat} {rs : List Rul} (h : RulsIn R w (.slice p len cap) rs) (i : Nat) (r : Rul) (hi : rs[i]? = some r) :
    ∃ b o t x, p = some ⟨b, o, none⟩ ∧ R b ∧ b < w.heap.size ∧ w.cell? ⟨b, o + i * 3, none⟩ = some (.int .i64 r.1) ∧ w.cell? ⟨b, o + i * 3 + 1, none⟩ = some t ∧ w.cell? ⟨b, o + i * 3 + 2, none⟩ = some x ∧ IntsIn R .i32 w t r.2.1 ∧ IntsIn R .i32 w x r.2.2 := by
  obtain ⟨p', cap', h1, h2⟩ := h
  cases h1
  exact h2 i r hi
set_option maxHeartbeats 4000000 in
set_option maxRecDepth 100000 in
theorem rsame10_any (R Q : Nat → Prop) (xs ys : List Rul) (v u : Value) (w : World) (hv : RulsIn R w v xs) (hu : RulsIn Q w u ys) (hx : xs.length ≤ 140737488351232) (hy : ys.length ≤ 140737488351232) :
    Calls Tryz.prog 7 #[v, u] w fun e w' => e = .returned (.bool (decide (xs = ys))) ∧ Below w.heap.size w w' := by
  have HV := Lib.hid hv
  have HU := Lib.hid hu
  obtain ⟨p, cp, rfl, _⟩ := hv
  obtain ⟨q, cq, rfl, _⟩ := hu
  obtain ⟨n, hn⟩ : ∃ n, n = xs.length := ⟨_, rfl⟩
  obtain ⟨m, hm⟩ : ∃ m, m = ys.length := ⟨_, rfl⟩
  rw [← hn] at HV hx ⊢
  rw [← hm] at HU hy ⊢
  have HNM := Lib.hid (And.intro hn hm)
  clear hn hm
  by_cases hlen : n = m
  · subst hlen
    go_enter Tryz.func7, Tryz.ntmps7
    go_wp2_with fail
    go_loopw [5] (fun i wr => ∃ k : Nat, i = .int .i64 k ∧ (k ≤ n ∧ xs.take k = ys.take k) ∧ Below w.heap.size w wr) (fun i _ => n - (intOf i).toNat)
    case atStart => exact ⟨0, rfl, ⟨Nat.zero_le _, by simp⟩, Below.refl _ _⟩
    case round =>
      obtain ⟨k, rfl, hr, hbr⟩ := hrel
      have HR := Lib.hid hr
      have HB := Lib.hid hbr
      by_cases hlt : k < n
      · have g1 : (k : Int) < (n : Int) := by omega
        obtain ⟨x, hxk⟩ : ∃ x, xs[k]? = some x := ⟨xs[k]'(by rw [← HNM.out.1]; exact hlt), List.getElem?_eq_getElem _⟩
        obtain ⟨y, hyk⟩ : ∃ y, ys[k]? = some y := ⟨ys[k]'(by rw [← HNM.out.2]; exact hlt), List.getElem?_eq_getElem _⟩
        obtain ⟨b, o, t1, x1, rfl, _, hb, c0, c1, c2, it1, ix1⟩ := (HV.out.kept (Kept.below hbr)).at k x hxk
        obtain ⟨b2, o2, t2, x2, rfl, _, hbl2, d0, d1, d2, it2, ix2⟩ := (HU.out.kept (Kept.below hbr)).at k y hyk
        have HT := Lib.hid (takeR_eq_step hxk hyk hr.2)
        have HNE : Hid (x ≠ y → decide (xs = ys) = false) := fun hne => by
          rw [decide_eq_false_iff_not]; intro e; exact hne (HT.out.1 (by rw [e]))
        have HS1 := Lib.hid (fun u' => r4same_any _ _ _ _ t1 t2 (over wr u') (it1.kept (Kept.below (below_over wr u'))) (it2.kept (Kept.below (below_over wr u'))))
        have HS2 := Lib.hid (fun u' => r4same_any _ _ _ _ x1 x2 (over wr u') (ix1.kept (Kept.below (below_over wr u'))) (ix2.kept (Kept.below (below_over wr u'))))
        obtain ⟨xk, xt, xx⟩ := x
        obtain ⟨yk, yt, yx⟩ := y
        simp only at c0 d0 HS1 HS2
        have hsl : ∀ {R : Nat → Prop} {W v} {l : List Int}, IntsIn R .i32 W v l → ∃ p a c, v = .slice p a c := fun h => ⟨_, _, _, h.choose_spec.choose_spec.1⟩
        obtain ⟨tp1, ta1, tc1, rfl⟩ := hsl it1
        obtain ⟨tp2, ta2, tc2, rfl⟩ := hsl it2
        obtain ⟨xp1, xa1, xc1, rfl⟩ := hsl ix1
        obtain ⟨xp2, xa2, xc2, rfl⟩ := hsl ix2
        clear hr hbr hxk hyk it1 it2 ix1 ix2 hsl
        by_cases hk : xk = yk
        · have e1 : (xk == yk) = true := by simpa using hk
          have e1' : (xk != yk) = false := by simpa using hk
          by_cases ht : xt = yt
          · have HTE : Hid (decide (xt = yt) = true) := decide_eq_true ht
            rw [HTE.out] at HS1
            by_cases hxx : xx = yx
            · have HXE : Hid (decide (xx = yx) = true) := decide_eq_true hxx
              rw [HXE.out] at HS2
              have HN := Lib.hid (HT.out.2 (by rw [hk, ht, hxx]))
              clear hk ht hxx
              go_wp2_with fail
              refine wp_region_over (by kernel_rfl) (by kernel_rfl) ?_
              iterate 23 (go_big_quiet_step ((go_at_call 16; exact over_of (HS1.out _))))
              (repeat (go_big_quiet_step ((go_at_call 16; exact over_of (HS2.out _)))))
              refine wpQuiet_nil ?_
              intro w2 hb2'
              have HB2 := Lib.hid (HB.out.trans (hb2'.mono HB.out.size))
              clear hb2' c0 c1 c2 d0 d1 d2
              go_wp2_with fail
              go_roundw
              case rel => exact ⟨k + 1, by go_num, ⟨by omega, HN.out⟩, HB2.out⟩
              case measure => (show n - ((k : Int) + 1).toNat < n - (k : Int).toNat; omega)
            · have HXE : Hid (decide (xx = yx) = false) := decide_eq_false hxx
              rw [HXE.out] at HS2
              have HN := Lib.hid (HNE.out (fun e => hxx (by cases e; rfl)))
              clear hk ht hxx
              go_wp2_with fail
              refine wp_region_over (by kernel_rfl) (by kernel_rfl) ?_
              iterate 23 (go_big_quiet_step ((go_at_call 16; exact over_of (HS1.out _))))
              (repeat (go_big_quiet_step ((go_at_call 16; exact over_of (HS2.out _)))))
              refine wpQuiet_nil ?_
              intro w2 hb2'
              have HB2 := Lib.hid (HB.out.trans (hb2'.mono HB.out.size))
              clear hb2' c0 c1 c2 d0 d1 d2
              go_wp2_with fail
              go_ret
              exact ⟨by rw [HN.out]; rfl, HB2.out⟩
          · have HTE : Hid (decide (xt = yt) = false) := decide_eq_false ht
            rw [HTE.out] at HS1
            have HN := Lib.hid (HNE.out (fun e => ht (by cases e; rfl)))
            clear hk ht
            go_wp2_with fail
            refine wp_region_over (by kernel_rfl) (by kernel_rfl) ?_; (repeat (go_big_quiet_step (((go_at_call 16; exact over_of (HS1.out _)))))); refine wpQuiet_nil ?_; intro w2 hb2
            have HB2 := Lib.hid (HB.out.trans (hb2.mono HB.out.size))
            clear c0 c1 c2 d0 d1 d2
            go_wp2_with fail
            go_ret
            exact ⟨by rw [HN.out]; rfl, HB2.out⟩
        · have e1 : (xk == yk) = false := by simpa using hk
          have e1' : (xk != yk) = true := by simpa using hk
          have HN := Lib.hid (HNE.out (fun e => hk (by cases e; rfl)))
          clear hk
          go_wp2_with fail
          refine wp_region_over (by kernel_rfl) (by kernel_rfl) ?_; (repeat (go_big_quiet_step ((fail)))); refine wpQuiet_nil ?_; intro w2 hb2
          have HB2 := Lib.hid (HB.out.trans (hb2.mono HB.out.size))
          clear c0 c1 c2 d0 d1 d2
          go_wp2_with fail
          go_ret
          exact ⟨by rw [HN.out]; rfl, HB2.out⟩
      · have g1 : ¬ (k : Int) < (n : Int) := by omega
        obtain rfl : k = n := by have := hr.1; omega
        have HN : Hid (decide (xs = ys) = true) := by
          show _ = _
          rw [decide_eq_true_eq]
          have := hr.2
          rwa [List.take_of_length_le (by rw [← HNM.out.1]; exact Nat.le_refl _), List.take_of_length_le (by rw [← HNM.out.2]; exact Nat.le_refl _)] at this
        clear hlt hr hbr
        go_wp2_with fail
        go_ret
        exact ⟨by rw [HN.out]; rfl, HB.out⟩
  · have e1 : ((n : Int) == (m : Int)) = false := by simp; omega
    have e1' : ((n : Int) != (m : Int)) = true := by simp; omega
    have g1 : ¬ ((n : Int) = (m : Int)) := by omega
    have HN : Hid (decide (xs = ys) = false) := by
      show _ = _
      rw [decide_eq_false_iff_not]; intro e; exact hlen (by rw [HNM.out.1, HNM.out.2, e])
    clear hlen
    go_enter Tryz.func7, Tryz.ntmps7
    go_wp2_with fail
    go_ret
    exact ⟨by rw [HN.out]; rfl, Below.refl _ _⟩
end Go.Proofs.YtchjjfjjcdjjcaaGreatDoor
