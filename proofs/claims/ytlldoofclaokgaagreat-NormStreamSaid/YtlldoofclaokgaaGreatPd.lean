/- NormStream. -/
import Derived.Test.YtlldoofclaokgaaGreatPc
namespace Go.Proofs.YtlldoofclaokgaaGreat
open Go.RowKit

theorem row_slice {W : World} {B : Nat} {e : TypeId} {size : Nat} {v : Value} {n : Nat} {xs : List Value} (h : W.ownsRow B e size v n xs) : ∃ p c, v = .slice p n c := by
  rcases h.2 with ⟨rfl, rfl⟩ | ⟨g, cap, cur, rfl, _⟩
  · exact ⟨none, 0, rfl⟩
  · exact ⟨_, _, rfl⟩
theorem ints_slice {R : Nat → Prop} {W : World} {v : Value} {xs : List Int} (h : IntsIn R .i32 W v xs) : ∃ p c, v = .slice p xs.length c := by
  obtain ⟨p, c, e, _⟩ := h; exact ⟨p, c, e⟩
set_option maxHeartbeats 8000000 in
set_option maxRecDepth 1000000 in
theorem stream_law (c d : List T3) (L : List Int) (u v lv : Value) (w : World) (hu : TrisIn (· < w.heap.size) .i64 w u c) (hv : TrisIn (· < w.heap.size) .i32 w v d) (hL : IntsIn (· < w.heap.size) .i32 w lv L) (hll : L.length * 4 ≤ 140737488351232) :
    Calls Tryz.prog 4 #[u, v, lv] w fun e w' => e = .returned (.bool true) ∧ Below w.heap.size w w' := by
  obtain ⟨i0, hi, hz0, hz1, hz2⟩ := info_parts Tryz.infoI32
  have haw := awake6_any w
  have HU := Lib.hid hu
  have HV := Lib.hid hv
  have HL := Lib.hid hL
  obtain ⟨q, cq, rfl, _, _⟩ := hu
  obtain ⟨p, cp, rfl, _, _⟩ := hv
  obtain ⟨lp, lc, rfl, hlc, _⟩ := hL
  obtain ⟨n, hn⟩ : ∃ n, n = L.length := ⟨_, rfl⟩
  rw [← hn] at HL hll hlc ⊢
  have HNL := Lib.hid hn
  clear hn
  go_enter Tryz.func4, Tryz.ntmps4
  go_wp2_with fail
  refine haw.mono ?_
  rintro e w1 ⟨rfl, hb1⟩
  have HB1 := Lib.hid hb1
  have hda := data_any _ _ c d _ _ w1 (HU.out.kept (Kept.below hb1)) (HV.out.kept (Kept.below hb1))
  clear haw hb1
  go_wp2_with fail
  refine hda.mono ?_
  rintro e w2 ⟨hb2, hh⟩
  have HB2 := Lib.hid (HB1.out.trans (hb2.mono HB1.out.size))
  have HB12 := Lib.hid hb2
  have hsz1 := HB1.out.size
  have hsz2 := hb2.size
  rcases hh with ⟨hc1, hd1, hok, pb, rfl, hnr⟩ | ⟨_, x, rfl⟩
  rotate_left
  · clear hda hb2
    go_wp2_with fail
    go_ret
    exact ⟨rfl, HB2.out.alloc HB2.out.size _⟩
  · have HN2 := Lib.hid hnr
    have HOK := Lib.hid hok
    have HC1 := Lib.hid hc1
    have hpl := hnr.lt
    have hpw : w1.heap.size ≤ pb := hnr.1
    clear hda hnr hok hd1 hc1 hb2
    by_cases hlong : 500 < n
    · have g1 : (500 : Int) < (n : Int) := by omega
      go_wp2_with fail
      go_ret
      exact ⟨rfl, HB2.out.alloc HB2.out.size _⟩
    · have g1 : ¬ ((500 : Int) < (n : Int)) := by omega
      have hsn := snew_any (some ⟨pb, 0, none⟩)
      go_wp2_with fail
      have hal : Below w2.heap.size w2 (w2.alloc (.cells #[.slice q c.length cq, .slice p d.length cp] 57)) := (Below.refl _ _).alloc (Nat.le_refl _) _
      have hxd : (w2.alloc (.cells #[.slice q c.length cq, .slice p d.length cp] 57)).heap[w2.heap.size]? = some (.cells #[.slice q c.length cq, .slice p d.length cp] 57 (0, 0)) := World.alloc_heap_new _ _
      have HN3 := Lib.hid (HN2.out.kept (Kept.below hal))
      have HAL := Lib.hid hal
      generalize w2.alloc (.cells #[.slice q c.length cq, .slice p d.length cp] 57) = w3 at *
      obtain ⟨xb, hxb⟩ : ∃ xb, xb = w2.heap.size := ⟨_, rfl⟩
      rw [← hxb] at hxd ⊢
      have hN := norm_made pb c d HOK.out
      have HN := Lib.hid hN
      have hxl3 := (Array.getElem?_eq_some_iff.1 hxd).1
      have hal' := hal
      refine (hsn w3).mono ?_
      rintro e w4 ⟨rfl, hst4, hb4⟩
      have hz3 := hal.size
      have hz4 := hb4.size
      have hlt4 := hst4.lt
      have HB4 : Hid (Below w.heap.size w w4) := (HB2.out.trans (hal.mono HB2.out.size)).trans (hb4.mono (by omega))
      have hb14 : Below w1.heap.size w1 w4 := (HB12.out.trans (hal.mono HB12.out.size)).trans (hb4.mono (by omega))
      have HAT0 : Hid (StrAt (fun R W => Nrm R W pb c d) (.pointer (some ⟨pb, 0, none⟩)) pb w3.heap.size w1 c d (.slice q c.length cq) (.slice p d.length cp) xb (.slice lp n lc) L [] (.slice none 0 0) [] (.slice none 0 0) [] (.slice none 0 0) [] (.slice none 0 0) [] (.slice none 0 0) w4) := by
        have hRf : ∀ b, b < w1.heap.size → Rf pb w3.heap.size (.slice none 0 0) (.slice none 0 0) (.slice none 0 0) b := fun b hb => ⟨by omega, by omega, fun e => (by cases e), fun e => (by cases e), fun e => (by cases e)⟩
        refine ⟨⟨rfl, .inl ⟨rfl, rfl⟩⟩, ⟨rfl, .inl ⟨rfl, rfl⟩⟩, ⟨⟨rfl, .inl ⟨rfl, rfl⟩⟩, fun _ => rfl, hst4, fun e => (by cases e), ?_⟩, ⟨.nil _ _ _, ?_, ?_, ?_, (hb4.block xb hxl3).trans hxd, ⟨by omega, by omega, fun e => (by cases e), fun e => (by cases e), fun e => (by cases e)⟩, .nil _ _ _⟩, fun j e => (by cases e), fun j e => (by cases e), hpw, by omega, by omega, hb14⟩
        · exact (HN3.out.bound.kept (Kept.below hb4)).mono (fun b hb => ⟨⟨hb.1, fun e => (by cases e), fun e => (by cases e)⟩, by have := hb.2; omega, fun e => (by cases e)⟩)
        · exact (HL.out.kept (Kept.below HB4.out)).mono (fun b hb _ => hRf b (by omega))
        · exact (HU.out.kept (Kept.below HB4.out)).mono (fun b hb _ => hRf b (by omega))
        · exact (HV.out.kept (Kept.below HB4.out)).mono (fun b hb _ => hRf b (by omega))
      obtain ⟨sb, hsb⟩ : ∃ sb, sb = w3.heap.size := ⟨_, rfl⟩
      rw [← hsb] at HAT0 ⊢
      have HFN := Lib.hid (fun r => (clsOf_bound (data_parts HOK.out).2.2.1 r).1)
      have hdl := hN.dlen
      have HDL := Lib.hid hdl
      have HFIN : Hid (∀ W, Below w1.heap.size w1 W → Below w.heap.size w W) := fun W h => HB1.out.trans (h.mono hsz1)
      clear hsn hal hal' hxd HN3 HAL hxb hN hxl3 hst4 hb4 hz3 hz4 hlt4 hb14 hsb hdl hpl hpw HB4 HN2 HB2 HB12 HL HU HV hsz2 HC1
      go_wp2_with fail
      go_loopw [11, 12, 13, 15, 16, 17, 18, 43] (fun av hr tv _ _ _ _ iv W => ∃ (i : Nat) (hv2 : Value) (E : List Int) (ev : Value) (T : List Int), iv = .int .i64 i ∧ i ≤ n ∧ T = (L.take i).filter sc ∧ StrAt (fun R W => Nrm R W pb c d) (.pointer (some ⟨pb, 0, none⟩)) pb sb w1 c d (.slice q c.length cq) (.slice p d.length cp) xb (.slice lp n lc) L (strm (clsOf c) (fun r => (deep d 4 r).1) T).1 av T tv (strm (clsOf c) (fun r => (deep d 4 r).1) T).2 hv2 (strm (clsOf c) (fun r => (deep d 4 r).1) T).2 hr E ev W) (fun _ _ _ _ _ _ _ iv _ => n - (intOf iv).toNat)
      case atStart => exact ⟨0, _, _, _, [], rfl, Nat.zero_le _, rfl, HAT0.out⟩
      case round =>
        obtain ⟨i, hv2, E, ev, T, rfl, hin, hT, hat⟩ := hrel
        have hTl : T.length ≤ i := by
          rw [hT]
          have := List.length_filter_le sc (L.take i)
          rw [List.length_take] at this; omega
        have hsl := strm_len (f := clsOf c) HDL.out T
        have HTT := Lib.hid hT
        obtain ⟨A, hA⟩ : ∃ A, A = (strm (clsOf c) (fun r => (deep d 4 r).1) T).1 := ⟨_, rfl⟩
        obtain ⟨H, hH⟩ : ∃ H, H = (strm (clsOf c) (fun r => (deep d 4 r).1) T).2 := ⟨_, rfl⟩
        rw [← hA, ← hH] at hat hsl
        have HAH := Lib.hid (And.intro hA hH)
        have HAT := Lib.hid hat
        obtain ⟨hp1, hc1, hhv⟩ := row_slice hat.stm.row
        subst hhv
        obtain ⟨rp1, rc1, hhr⟩ := ints_slice hat.refs.h
        subst hhr
        clear hA hH hT
        by_cases hlt : i < n
        · have g2 : (i : Int) < (n : Int) := by omega
          obtain ⟨x, hx⟩ : ∃ x, L[i]? = some x := ⟨L[i]'(by rw [← HNL.out]; exact hlt), List.getElem?_eq_getElem _⟩
          obtain ⟨lb, lo, e1, hbl, c0⟩ := hat.refs.l.atC hx
          subst e1
          have HX := Lib.hid hx
          have hrs := r4scalar_any x
          clear hat hx
          by_cases hs : sc x = true
          · have hpu := push_any (clsOf c) (fun r => (deep d 4 r).1) (some ⟨pb, 0, none⟩) _ _ (Rz w1 _ _) sb w1.heap.size _ H x wr HN.out (fun b hb => ⟨by have := HAT.out.below.size; omega, fun e => by have := (ownsRow_own HAT.out.arow e).2; omega, fun e => by have := (ownsRow_own HAT.out.trow e).2; omega⟩) HAT.out.below.size HAT.out.stm hs (by omega)
            have hdx : (deep d 4 x).1.length ≤ 7 := (HDL.out x).2
            have HSS : Hid (strm (clsOf c) (fun r => (deep d 4 r).1) (T ++ [x]) = (A ++ (pushL (clsOf c) H (deep d 4 x).1).1, (pushL (clsOf c) H (deep d 4 x).1).2)) := by
              show _ = _
              rw [strm_step, ← HAH.out.1, ← HAH.out.2]
            have hpll := pushL_len (clsOf c) H (deep d 4 x).1
            rw [hs] at hrs
            have HRS := Lib.hid hrs
            have HSX := Lib.hid hs
            unfold PushTold at hpu
            clear hrs hs
            go_wp2_with fail
            with_reducible refine hpu.mono ?_
            rintro e w5 ⟨ov, hv3, rfl, hio, hso, ho5, hown5⟩
            have HAT5 := Lib.hid (HAT.out.pushed HN.out hso (ho5.weaken (fun k hk => hk)) hown5 hio)
            clear hpu hio hso ho5 hown5 HAT c0
            obtain ⟨op1, oc1, hov⟩ := ints_slice HAT5.out.refs.e
            subst hov
            obtain ⟨hp2, hc2, hhv⟩ := row_slice HAT5.out.stm.row
            subst hhv
            have hrp := rpush_any _ _ _ c d (.slice q c.length cq) (.slice p d.length cp) H x _ w5 HAT5.out.refs.c HAT5.out.refs.d HOK.out HAT5.out.refs.h (by omega)
            obtain ⟨d0, d1, _, _⟩ := two_cells HAT5.out.refs.x
            go_wp2_with fail
            refine (HRS.out _).mono ?_
            rintro e w6 ⟨rfl, rfl⟩
            go_wp2_with fail
            with_reducible refine hrp.mono ?_
            rintro e w6 ⟨⟨wv, hr6, rfl, hiw, hih⟩, hb6⟩
            have HAT6 := Lib.hid (HAT5.out.rheld HN.out hb6 hih)
            have HIW := Lib.hid hiw
            clear hrp hih hb6 d0 d1 HAT5
            obtain ⟨rp2, rc2, hhr⟩ := ints_slice HAT6.out.refs.h
            subst hhr
            have hru := runes5_any _ _ _ _ _ _ w6 HAT6.out.refs.e hiw (by omega) (by omega)
            rw [decide_eq_true rfl] at hru
            generalize pushL (clsOf c) H (deep d 4 x).1 = PL at *
            go_wp2_with fail
            with_reducible refine hru.mono ?_
            rintro e w7 ⟨rfl, hb7⟩
            have HAT7 := Lib.hid (HAT6.out.under HN.out hb7)
            have hhe := held_any sb _ hp2 PL.2.length hc2 w7 HAT7.out.stm.stm
            clear hru hb7 HAT6 hiw HIW
            go_wp2_with fail
            refine hhe.mono ?_
            rintro e w8 ⟨rfl, rfl⟩
            have hszw := HAT7.out.below.size
            clear hhe
            go_wp2_with (at_builtin; refine app_stop ⟨_, _, rfl⟩ ?_)
            refine Lib.hid ?_
            refine wpList_append_to _ rfl _ _ rfl w1.heap.size _ A rfl HAT7.out.arow _ PL.1 _ rfl HAT7.out.refs.e (by omega) hszw ?_
            intro v9 w9 hrow9 hg9 how9
            have HAT9 := Lib.hid (HAT7.out.growA HN.out hrow9 hg9 how9)
            clear hrow9 hg9 how9 HAT7 hszw
            have HATA := Lib.hid (HAT9.out.under HN.out ((Below.refl _ w9).alloc (Nat.le_refl _) (.cells #[.int .i32 x] 21)))
            have hza := HATA.out.below.size
            go_wp2_with (at_builtin; refine app_stop ⟨_, _, rfl⟩ ?_)
            refine Lib.hid ?_
            refine wpList_append_own_at _ rfl _ _ 48 rfl w1.heap.size 21 i0 (.int .i32 0) 1 4 Tryz.underlying48 hi hz0 hz1 hz2 rfl (by decide) _ T.length (T.map (Value.int .i32)) rfl HATA.out.trow ⟨w9.heap.size, 0, none⟩ 1 1 [.int .i32 x] rfl rfl (cell_one_new _ _ _) (by simp [Value.oneCell']) (by unfold maxLen; omega) (by omega) hza ?_
            intro v10 w10 hrow10 hg10 _ how10
            have HATB := Lib.hid (HATA.out.growT HN.out (T2 := T ++ [x]) (by rw [List.length_append, List.map_append]; exact hrow10) hg10 (fun j hj => by
              rcases how10 with e | e
              · exact .inl (e ▸ hj)
              · rw [e] at hj; cases hj; exact .inr (Nat.le_refl _)))
            clear hrow10 hg10 how10 HATA HAT9 hza
            go_wp2_with fail
            go_roundw
            case rel => exact ⟨i + 1, _, _, _, T ++ [x], by go_num, by omega, by rw [filter_take HX.out, if_pos HSX.out, ← HTT.out], by rw [HSS.out]; exact HATB.out⟩
            case measure => (show n - ((i : Int) + 1).toNat < n - (i : Int).toNat; omega)
          · have hs' : sc x = false := by simpa using hs
            have hpu := push_bad sb _ _ x wr HAT.out.stm.stm hs'
            have hhe := held_any sb _ hp1 H.length hc1 wr HAT.out.stm.stm
            rw [hs'] at hrs
            have HRS := Lib.hid hrs
            have HSX := Lib.hid hs
            clear hrs hs hs'
            go_wp2_with fail
            refine hpu.mono ?_
            rintro e w5 ⟨rfl, rfl⟩
            go_wp2_with fail
            refine (HRS.out _).mono ?_
            rintro e w6 ⟨rfl, rfl⟩
            go_wp2_with fail
            refine hhe.mono ?_
            rintro e w8 ⟨rfl, rfl⟩
            go_wp2_with fail
            go_roundw
            case rel => exact ⟨i + 1, _, _, _, T, by go_num, by omega, by rw [filter_take HX.out, if_neg HSX.out]; exact HTT.out, by rw [← HAH.out.1, ← HAH.out.2]; exact HAT.out⟩
            case measure => (show n - ((i : Int) + 1).toNat < n - (i : Int).toNat; omega)
        · have g2 : ¬ ((i : Int) < (n : Int)) := by omega
          have hTs : ∀ y ∈ T, sc y = true := fun y hy => by
            rw [HTT.out] at hy; exact (List.mem_filter.1 hy).2
          have HE0 : Hid (nfdE T = 0) := by
            show _ = _
            unfold nfdE
            rw [if_pos (List.all_eq_true.2 hTs), if_neg (by omega)]
          have HEQ : Hid (nfdOf (clsOf c) (fun r => (deep d 4 r).1) T = A ++ ordL (clsOf c) H) := by
            show _ = _
            have h1 := strm_ord HFN.out (fun r => (deep d 4 r).1) T
            rw [← HAH.out.1, ← HAH.out.2] at h1
            unfold nfdOf
            rw [if_pos HE0.out, h1]
          have hen := end_any (clsOf c) (fun r => (deep d 4 r).1) (some ⟨pb, 0, none⟩) _ _ _ sb w1.heap.size _ H wr HN.out HAT.out.stm.stm HAT.out.stm.row HAT.out.stm.nil (by omega) HAT.out.stm.data (fun b hb => hb.2.1) HAT.out.stm.hsb
          clear hat hTs
          go_wp2_with fail
          with_reducible refine hen.mono ?_
          rintro e w5 ⟨⟨v5, rfl, hi5, _⟩, hst5, _, ho5⟩
          have HA5 := Lib.hid (ownsRow_block HAT.out.arow (W' := w5) (fun j hj hl => ho5.block j hl (fun e => (HAT.out.aa j hj).2.1 e)))
          have HT5 := Lib.hid (ownsRow_block HAT.out.trow (W' := w5) (fun j hj hl => ho5.block j hl (fun e => (HAT.out.tt j hj).2.1 e)))
          have HR5 := Lib.hid (HAT.out.refs.move (W1 := w5) (Kept.only ho5 (fun b hb e => hb.2.1 e)) (fun b hb _ => hb))
          have HB5 : Hid (Below w1.heap.size w1 w5) := below_of_only HAT.out.below ho5 (fun b hb => by rw [hb]; exact HAT.out.sw)
          have HI5 := Lib.hid hi5
          have HST5 := Lib.hid hst5
          have hsz5 := HB5.out.size
          have hol5 : A.length + (ordL (clsOf c) H).length ≤ 100000000 := by rw [ordL_len]; omega
          clear hen hi5 hst5 ho5
          go_wp2_with (at_builtin; refine app_stop ⟨_, _, rfl⟩ ?_)
          refine Lib.hid ?_
          refine wpList_append_to _ rfl _ _ rfl w1.heap.size _ A rfl HA5.out v5 (ordL (clsOf c) H) _ rfl HI5.out hol5 hsz5 ?_
          intro v6 w6 hrow6 hg6 how6
          have HB6 : Hid (Below w1.heap.size w1 w6) := below_grown HB5.out hg6 hsz5 (fun j hj => (ownsRow_own HA5.out hj).1)
          have HT6 := Lib.hid (ownsRow_block HT5.out (W' := w6) (fun j hj hl => hg6.block j hl (fun e => (HAT.out.aa j e.symm).2.2.2 hj)))
          have HR6 := Lib.hid (HR5.out.move (W1 := w6) (Kept.grown hg6 (fun b hb e => hb.2.2.2.1 e.symm)) (fun b hb _ => hb))
          have HST6 : Hid (StmAt w6 sb (.pointer (some ⟨pb, 0, none⟩)) (.slice none 0 0)) := HST5.out.block (hg6.block sb HST5.out.lt (fun e => (HAT.out.aa sb e.symm).2.1 rfl))
          obtain ⟨Z, hZ⟩ : ∃ Z, Z = A ++ ordL (clsOf c) H := ⟨_, rfl⟩
          have hlen7 : Z.length ≤ 1000000000 := by rw [hZ, List.length_append]; omega
          rw [← hZ] at hrow6 HEQ
          clear hZ
          have HROW6 := Lib.hid hrow6
          obtain ⟨ap, ac, hav⟩ := row_slice hrow6
          subst hav
          obtain ⟨tp, tc, htv⟩ := row_slice HT6.out
          subst htv
          have hnf := rnfd_any _ _ _ c d (.slice q c.length cq) (.slice p d.length cp) T _ w6 HR6.out.c HR6.out.d HOK.out (ints_of_own32 HT6.out) (by omega)
          unfold RNfdTold at hnf
          rw [HE0.out, HEQ.out] at hnf
          obtain ⟨d0, d1, _, _⟩ := two_cells HR6.out.x
          clear hrow6 hg6 how6 HA5 HT5 HR5 HST5 HI5
          go_wp2_with fail
          with_reducible refine hnf.mono ?_
          rintro e w7 ⟨⟨v7, rfl, hi7⟩, hb7⟩
          have HB7 := Lib.hid (HB6.out.trans (hb7.mono HB6.out.size))
          have hst7 : StmAt w7 sb (.pointer (some ⟨pb, 0, none⟩)) (.slice none 0 0) := HST6.out.block (hb7.block _ HST6.out.lt)
          have hhe := held_any sb _ none 0 0 w7 hst7
          have hru := runes5_any _ _ _ _ _ _ w7 (ints_of_own32 (ownsRow_block HROW6.out (fun j _ hl => hb7.block j hl))) hi7 hlen7 hlen7
          rw [decide_eq_true rfl] at hru
          obtain ⟨vp7, vc7, hv7⟩ := ints_slice hi7
          subst hv7
          clear hnf hi7 hb7 hst7 d0 d1
          go_wp2_with fail
          refine hhe.mono ?_
          rintro e w8 ⟨rfl, rfl⟩
          go_wp2_with fail
          with_reducible refine hru.mono ?_
          rintro e w9 ⟨rfl, hb9⟩
          have HB9 := Lib.hid (HB7.out.trans (hb9.mono HB7.out.size))
          clear hru hhe hb9
          go_wp2_with fail
          go_ret
          exact ⟨rfl, HFIN.out _ HB9.out⟩
end Go.Proofs.YtlldoofclaokgaaGreat
