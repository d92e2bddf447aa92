/- lecternref06: Text, Same, Compare; norm.Compare. -/
import Derived.Test.YtlldoofclaokgaaGreatOx
import Derived.Test.YtlldoofclaokgaaGreatOq
import Derived.Test.YtlldoofclaokgaaGreatVf
namespace Go.Proofs.YtlldoofclaokgaaGreat
open Go.RowKit

/-- the small data as the reference has them -/
structure RD (u v : Value) (W : World) : Prop where
  cls : TrisIn (fun _ => True) .i64 W u smallC
  dec : TrisIn (fun _ => True) .i32 W v smallD
theorem RD.below {u v : Value} {W W' : World} (h : RD u v W) (hb : Below W.heap.size W W') : RD u v W' := ⟨h.cls.kept (Kept.below hb), h.dec.kept (Kept.below hb)⟩
set_option maxHeartbeats 4000000 in
set_option maxRecDepth 1000000 in
theorem rtext6 {u v : Value} {w : World} (s : ByteArray) (hs : s.size ≤ 1000000) (h : RD u v w) :
    Calls Tryz.prog 37 #[.agg #[u, v], .string s] w fun e w' => e = .returned (.tuple #[.string (tS s), .int .i64 (textE s)]) ∧ Below w.heap.size w w' := by
  have HD := Lib.hid h
  obtain ⟨q, cq, rfl, _, _⟩ := h.cls
  obtain ⟨p, cp, rfl, _, _⟩ := h.dec
  have hal : Below w.heap.size w (w.alloc (.cells #[.slice q smallC.length cq, .slice p smallD.length cp] 57)) := (Below.refl _ w).alloc (Nat.le_refl _) _
  have hxd : (w.alloc (.cells #[.slice q smallC.length cq, .slice p smallD.length cp] 57)).heap[w.heap.size]? = some (.cells #[.slice q smallC.length cq, .slice p smallD.length cp] 57 (0, 0)) := World.alloc_heap_new _ _
  have HXD := Lib.hid hxd
  have hxl := (Array.getElem?_eq_some_iff.1 hxd).1
  have HXL := Lib.hid hxl
  have HAL := Lib.hid hal
  have hde := rDecode_any s (w.alloc (.cells #[.slice q smallC.length cq, .slice p smallD.length cp] 57)) (by omega)
  have hdl := dcV_len s
  clear h hal hxd
  rcases bdE_two s with hb | hb
  · by_cases hlong : 1000 < s.size
    · have g1 : (1000 : Int) < (s.size : Int) := by omega
      have HE : Hid (textE s = 2) := by show _ = _; unfold textE; rw [if_neg (by omega), if_pos hlong]
      have HT : Hid (tS s = ⟨#[]⟩) := by show _ = _; unfold tS textS; rw [HE.out, if_neg (by decide)]
      unfold DecPost at hde
      rw [hb] at hde
      clear hb hlong
      go_enter Tryz.func37, Tryz.ntmps37
      go_wp2_with fail
      refine hde.mono ?_
      rintro e w1 ⟨vv, rfl, hru, hb1⟩
      have HB1 := Lib.hid (HAL.out.trans (hb1.mono HAL.out.size))
      clear hde hru hb1
      go_wp2_with fail
      go_ret2
      exact ⟨by rw [HE.out, HT.out]; rfl, HB1.out⟩
    · have g1 : ¬ ((1000 : Int) < (s.size : Int)) := by omega
      have HE : Hid (textE s = nfdE (dcV s)) := by show _ = _; unfold textE; rw [if_neg (by omega), if_neg hlong]
      unfold DecPost at hde
      rw [hb] at hde
      clear hb
      go_enter Tryz.func37, Tryz.ntmps37
      go_wp2_with fail
      refine hde.mono ?_
      rintro e w1 ⟨vv, rfl, hru, hb1⟩
      have HB1 := Lib.hid (HAL.out.trans (hb1.mono HAL.out.size))
      have hrd := HD.out.below HB1.out
      obtain ⟨c0, c1, _, _⟩ := two_cells ((hb1.block _ HXL.out).trans HXD.out)
      have hnf := rnfd_any _ _ _ smallC smallD _ _ (dcV s) vv w1 hrd.cls hrd.dec small_ok hru (by omega)
      clear hde hb1 hrd
      by_cases hz : nfdE (dcV s) = 0
      · have HZ := Lib.hid hz
        unfold RNfdTold at hnf
        rw [hz] at hnf
        clear hz
        go_wp2_with fail
        with_reducible refine hnf.mono ?_
        rintro e w2 ⟨⟨v2, rfl, hi2⟩, hb2⟩
        have hT : textE s = 0 := by rw [HE.out, HZ.out]
        have hL : nfdOf (clsOf smallC) (fun r => (deep smallD 4 r).1) (dcV s) = textL sF sD s := by
          unfold nfdOf textL; rw [HZ.out, if_pos rfl, hT, if_pos rfl]; rfl
        rw [hL] at hi2
        have hen := rEncode_any (textL sF sD s) v2 w2 (ints_at_in hi2) (by
          have h1 : (textL sF sD s).length ≤ 7 * (dcV s).length := by
            unfold textL
            rw [if_pos hT, ordL_len]
            exact (flat_len (norm_made 0 smallC smallD small_ok).dlen _).2
          omega)
        unfold EncPost at hen
        have HS : Hid (tS s = ecS (textL sF sD s)) := by show _ = _; unfold tS textS; rw [if_pos hT]
        have HT := Lib.hid hT
        have HB2 := Lib.hid (HB1.out.trans (hb2.mono HB1.out.size))
        clear hnf hi2 hb2 hL hT
        go_wp2_with fail
        refine hen.mono ?_
        rintro e w3 ⟨rfl, hb3⟩
        have HB3 := Lib.hid (HB2.out.trans (hb3.mono HB2.out.size))
        clear hen hb3
        go_wp2_with fail
        go_ret2
        exact ⟨by rw [HT.out, HS.out]; rfl, HB3.out⟩
      · have HT : Hid (tS s = ⟨#[]⟩) := by show _ = _; unfold tS textS; rw [HE.out, if_neg hz]
        unfold RNfdTold at hnf
        obtain ⟨z, hzz⟩ : ∃ z, z = nfdE (dcV s) := ⟨_, rfl⟩
        rw [← hzz] at hnf HE hz
        clear hzz
        go_wp2_with fail
        with_reducible refine hnf.mono ?_
        rintro e w2 ⟨⟨v2, rfl, hi2⟩, hb2⟩
        have HB2 := Lib.hid (HB1.out.trans (hb2.mono HB1.out.size))
        clear hnf hi2 hb2
        go_wp2_with fail
        go_ret2
        exact ⟨by rw [HE.out, HT.out]; rfl, HB2.out⟩
  · have HE : Hid (textE s = 40) := by show _ = _; unfold textE; rw [if_pos (by omega)]
    have HT : Hid (tS s = ⟨#[]⟩) := by show _ = _; unfold tS textS; rw [HE.out, if_neg (by decide)]
    unfold DecPost at hde
    rw [hb] at hde
    clear hb
    go_enter Tryz.func37, Tryz.ntmps37
    go_wp2_with fail
    refine hde.mono ?_
    rintro e w1 ⟨vv, rfl, hru, hb1⟩
    have HB1 := Lib.hid (HAL.out.trans (hb1.mono HAL.out.size))
    clear hde hru hb1
    go_wp2_with fail
    go_ret2
    exact ⟨by rw [HE.out, HT.out]; rfl, HB1.out⟩
def cmp6V (a b : ByteArray) : Int := if sameE a b = 0 then cmpV (tS a) (tS b) else 0
def cmp6E (a b : ByteArray) : Int := if sameE a b = 0 then cmpE (tS a) (tS b) else sameE a b
/-- what Same and Compare of the reference walk alike -/
theorem same_cases (a b : ByteArray) : (textE a ≠ 0 ∧ sameE a b = textE a ∧ sameE a b ≠ 0) ∨ (textE a = 0 ∧ textE b ≠ 0 ∧ sameE a b = textE b) ∨ (textE a = 0 ∧ textE b = 0 ∧ sameE a b = 0) := by
  by_cases h1 : textE a = 0
  · have h : sameE a b = textE b := by unfold sameE; rw [if_neg (by simp [h1])]
    by_cases h2 : textE b = 0
    · exact .inr (.inr ⟨h1, h2, by rw [h, h2]⟩)
    · exact .inr (.inl ⟨h1, h2, h⟩)
  · have h : sameE a b = textE a := by unfold sameE; rw [if_pos h1]
    exact .inl ⟨h1, h, by rw [h]; exact h1⟩
theorem sameB_no {a b : ByteArray} (h : sameE a b ≠ 0) : sameB a b = false := by unfold sameB; simp [h]
theorem sameB_yes {a b : ByteArray} (h : sameE a b = 0) : sameB a b = ((tS a).toList == (tS b).toList) := by unfold sameB; simp [h]
set_option maxHeartbeats 8000000 in
set_option maxRecDepth 1000000 in
theorem rsame6 {u v : Value} {w : World} (a b : ByteArray) (ha : a.size ≤ 1000000) (hb : b.size ≤ 1000000) (h : RD u v w) :
    Calls Tryz.prog 38 #[.agg #[u, v], .string a, .string b] w fun e w' => e = .returned (.tuple #[.bool (sameB a b), .int .i64 (sameE a b)]) ∧ Below w.heap.size w w' := by
  have HD := Lib.hid h
  obtain ⟨q, cq, rfl, _, _⟩ := h.cls
  obtain ⟨p, cp, rfl, _, _⟩ := h.dec
  have hal : Below w.heap.size w (w.alloc (.cells #[.slice q smallC.length cq, .slice p smallD.length cp] 57)) := (Below.refl _ w).alloc (Nat.le_refl _) _
  have hxd : (w.alloc (.cells #[.slice q smallC.length cq, .slice p smallD.length cp] 57)).heap[w.heap.size]? = some (.cells #[.slice q smallC.length cq, .slice p smallD.length cp] 57 (0, 0)) := World.alloc_heap_new _ _
  have HXD := Lib.hid hxd
  have hxl := (Array.getElem?_eq_some_iff.1 hxd).1
  have HXL := Lib.hid hxl
  have HAL := Lib.hid hal
  have hta := rtext6 a ha (h.below hal)
  have HTB : Hid (∀ W, Below w.heap.size w W → Calls Tryz.prog 37 #[.agg #[.slice q smallC.length cq, .slice p smallD.length cp], .string b] W fun e w' => e = .returned (.tuple #[.string (tS b), .int .i64 (textE b)]) ∧ Below W.heap.size W w') := fun W hW => rtext6 b hb (h.below hW)
  clear h hal hxd
  rcases same_cases a b with ⟨k1, k2, k3⟩ | ⟨k1, k2, k3⟩ | ⟨k1, k2, k3⟩
  · have HS := Lib.hid (sameB_no k3)
    have HE := Lib.hid k2
    clear k2 k3
    generalize tS a = x at *
    generalize textE a = z at *
    go_enter Tryz.func38, Tryz.ntmps38
    go_wp2_with fail
    refine hta.mono ?_
    rintro e w1 ⟨rfl, hb1⟩
    have HB1 := Lib.hid (HAL.out.trans (hb1.mono HAL.out.size))
    clear hta hb1
    go_wp2_with fail
    go_ret2
    exact ⟨by rw [HS.out, HE.out]; rfl, HB1.out⟩
  · have HS := Lib.hid (sameB_no (by rw [k3]; exact k2))
    have HE := Lib.hid k3
    rw [k1] at hta
    clear k1 k3
    generalize tS a = x at *
    generalize tS b = y at *
    generalize textE b = z at *
    go_enter Tryz.func38, Tryz.ntmps38
    go_wp2_with fail
    refine hta.mono ?_
    rintro e w1 ⟨rfl, hb1⟩
    have HB1 := Lib.hid (HAL.out.trans (hb1.mono HAL.out.size))
    obtain ⟨c0, c1, _, _⟩ := two_cells ((hb1.block _ HXL.out).trans HXD.out)
    have htb := HTB.out w1 HB1.out
    clear hta hb1
    go_wp2_with fail
    refine htb.mono ?_
    rintro e w2 ⟨rfl, hb2⟩
    have HB2 := Lib.hid (HB1.out.trans (hb2.mono HB1.out.size))
    clear htb hb2 c0 c1
    go_wp2_with fail
    go_ret2
    exact ⟨by rw [HS.out, HE.out]; rfl, HB2.out⟩
  · have HS := Lib.hid (sameB_yes k3)
    have HE := Lib.hid k3
    rw [k1] at hta
    rw [k2] at HTB
    clear k1 k2 k3
    generalize tS a = x at *
    generalize tS b = y at *
    go_enter Tryz.func38, Tryz.ntmps38
    go_wp2_with fail
    refine hta.mono ?_
    rintro e w1 ⟨rfl, hb1⟩
    have HB1 := Lib.hid (HAL.out.trans (hb1.mono HAL.out.size))
    obtain ⟨c0, c1, _, _⟩ := two_cells ((hb1.block _ HXL.out).trans HXD.out)
    have htb := HTB.out w1 HB1.out
    clear hta hb1
    go_wp2_with fail
    refine htb.mono ?_
    rintro e w2 ⟨rfl, hb2⟩
    have HB2 := Lib.hid (HB1.out.trans (hb2.mono HB1.out.size))
    clear htb hb2 c0 c1
    go_wp2_with fail
    go_ret2
    exact ⟨by rw [HS.out, HE.out]; rfl, HB2.out⟩
set_option maxHeartbeats 8000000 in
set_option maxRecDepth 1000000 in
theorem rcmp6 {u v : Value} {w : World} (a b : ByteArray) (ha : a.size ≤ 1000000) (hb : b.size ≤ 1000000) (h : RD u v w) :
    Calls Tryz.prog 40 #[.agg #[u, v], .string a, .string b] w fun e w' => e = .returned (.tuple #[.int .i64 (cmp6V a b), .int .i64 (cmp6E a b)]) ∧ Below w.heap.size w w' := by
  have HD := Lib.hid h
  obtain ⟨q, cq, rfl, _, _⟩ := h.cls
  obtain ⟨p, cp, rfl, _, _⟩ := h.dec
  have hal : Below w.heap.size w (w.alloc (.cells #[.slice q smallC.length cq, .slice p smallD.length cp] 57)) := (Below.refl _ w).alloc (Nat.le_refl _) _
  have hxd : (w.alloc (.cells #[.slice q smallC.length cq, .slice p smallD.length cp] 57)).heap[w.heap.size]? = some (.cells #[.slice q smallC.length cq, .slice p smallD.length cp] 57 (0, 0)) := World.alloc_heap_new _ _
  have HXD := Lib.hid hxd
  have hxl := (Array.getElem?_eq_some_iff.1 hxd).1
  have HXL := Lib.hid hxl
  have HAL := Lib.hid hal
  have hta := rtext6 a ha (h.below hal)
  have HTB : Hid (∀ W, Below w.heap.size w W → Calls Tryz.prog 37 #[.agg #[.slice q smallC.length cq, .slice p smallD.length cp], .string b] W fun e w' => e = .returned (.tuple #[.string (tS b), .int .i64 (textE b)]) ∧ Below W.heap.size W w') := fun W hW => rtext6 b hb (h.below hW)
  have hza := tS_size a
  have hzb := tS_size b
  clear h hal hxd
  rcases same_cases a b with ⟨k1, k2, k3⟩ | ⟨k1, k2, k3⟩ | ⟨k1, k2, k3⟩
  · have HS : Hid (cmp6V a b = 0 ∧ cmp6E a b = textE a) := ⟨by unfold cmp6V; rw [if_neg k3], by unfold cmp6E; rw [if_neg k3, k2]⟩
    clear k2 k3
    generalize tS a = x at *
    generalize textE a = z at *
    go_enter Tryz.func40, Tryz.ntmps40
    go_wp2_with fail
    refine hta.mono ?_
    rintro e w1 ⟨rfl, hb1⟩
    have HB1 := Lib.hid (HAL.out.trans (hb1.mono HAL.out.size))
    clear hta hb1
    go_wp2_with fail
    go_ret2
    exact ⟨by rw [HS.out.1, HS.out.2]; rfl, HB1.out⟩
  · have k4 : sameE a b ≠ 0 := by rw [k3]; exact k2
    have HS : Hid (cmp6V a b = 0 ∧ cmp6E a b = textE b) := ⟨by unfold cmp6V; rw [if_neg k4], by unfold cmp6E; rw [if_neg k4, k3]⟩
    rw [k1] at hta
    clear k1 k3 k4
    generalize tS a = x at *
    generalize tS b = y at *
    generalize textE b = z at *
    go_enter Tryz.func40, Tryz.ntmps40
    go_wp2_with fail
    refine hta.mono ?_
    rintro e w1 ⟨rfl, hb1⟩
    have HB1 := Lib.hid (HAL.out.trans (hb1.mono HAL.out.size))
    obtain ⟨c0, c1, _, _⟩ := two_cells ((hb1.block _ HXL.out).trans HXD.out)
    have htb := HTB.out w1 HB1.out
    clear hta hb1
    go_wp2_with fail
    refine htb.mono ?_
    rintro e w2 ⟨rfl, hb2⟩
    have HB2 := Lib.hid (HB1.out.trans (hb2.mono HB1.out.size))
    clear htb hb2 c0 c1
    go_wp2_with fail
    go_ret2
    exact ⟨by rw [HS.out.1, HS.out.2]; rfl, HB2.out⟩
  · have HS : Hid (cmp6V a b = cmpV (tS a) (tS b) ∧ cmp6E a b = cmpE (tS a) (tS b)) := ⟨by unfold cmp6V; rw [if_pos k3], by unfold cmp6E; rw [if_pos k3]⟩
    have HRC := Lib.hid (fun W => rCompare_any (tS a) (tS b) W (by omega) (by omega))
    rw [k1] at hta
    rw [k2] at HTB
    clear k1 k2 k3
    generalize tS a = x at *
    generalize tS b = y at *
    go_enter Tryz.func40, Tryz.ntmps40
    go_wp2_with fail
    refine hta.mono ?_
    rintro e w1 ⟨rfl, hb1⟩
    have HB1 := Lib.hid (HAL.out.trans (hb1.mono HAL.out.size))
    obtain ⟨c0, c1, _, _⟩ := two_cells ((hb1.block _ HXL.out).trans HXD.out)
    have htb := HTB.out w1 HB1.out
    clear hta hb1
    go_wp2_with fail
    refine htb.mono ?_
    rintro e w2 ⟨rfl, hb2⟩
    have HB2 := Lib.hid (HB1.out.trans (hb2.mono HB1.out.size))
    have hrc := HRC.out w2
    clear htb hb2 c0 c1
    go_wp2_with fail
    refine hrc.mono ?_
    rintro e w3 ⟨rfl, hb3⟩
    have HB3 := Lib.hid (HB2.out.trans (hb3.mono HB2.out.size))
    clear hrc hb3
    go_wp2_with fail
    go_ret2
    exact ⟨by rw [HS.out.1, HS.out.2]; rfl, HB3.out⟩
set_option maxHeartbeats 4000000 in
set_option maxRecDepth 1000000 in
theorem cmp6 {w V : World} {pb : Nat} {W : World} (a b : ByteArray) (ha : a.size ≤ 1000000) (hb : b.size ≤ 1000000) (h : St w V pb W) :
    Calls Tryz.prog 39 #[.pointer (some ⟨pb, 0, none⟩), .string a, .string b] W fun e w' => e = .returned (.tuple #[.int .i64 (cmp6V a b), .int .i64 (cmp6E a b)]) ∧ St w V pb w' := by
  have hbo := both6 a b ha hb h
  have hza := tS_size a
  have hzb := tS_size b
  clear h
  by_cases hz : sameE a b = 0
  · have hz1 : textE a = 0 := (sameE_zero.1 hz).1
    have HE : Hid (bothA a = tS a ∧ bothB a b = tS b) := ⟨by unfold bothA; rw [if_neg (by simp [hz1])], by unfold bothB; rw [if_neg (by simp [hz1])]⟩
    have HS : Hid (cmp6V a b = cmpV (tS a) (tS b) ∧ cmp6E a b = cmpE (tS a) (tS b)) := ⟨by unfold cmp6V; rw [if_pos hz], by unfold cmp6E; rw [if_pos hz]⟩
    have HUC := Lib.hid (fun W => uCompare_any (tS a) (tS b) W (by omega) (by omega))
    rw [hz, HE.out.1, HE.out.2] at hbo
    clear hz hz1 HE
    generalize tS a = x at *
    generalize tS b = y at *
    go_enter Tryz.func39, Tryz.ntmps39
    go_wp2_with fail
    with_reducible refine hbo.mono ?_
    rintro e w1 ⟨rfl, hs1⟩
    have HS1 := Lib.hid hs1
    have huc := HUC.out w1
    clear hbo hs1
    go_wp2_with fail
    refine huc.mono ?_
    rintro e w2 ⟨rfl, hb2⟩
    have HS2 := Lib.hid (HS1.out.below hb2)
    clear huc hb2
    go_wp2_with fail
    go_ret2
    exact ⟨by rw [HS.out.1, HS.out.2]; rfl, HS2.out⟩
  · have HS : Hid (cmp6V a b = 0 ∧ cmp6E a b = sameE a b) := ⟨by unfold cmp6V; rw [if_neg hz], by unfold cmp6E; rw [if_neg hz]⟩
    generalize sameE a b = z at *
    generalize bothA a = x at *
    generalize bothB a b = y at *
    go_enter Tryz.func39, Tryz.ntmps39
    go_wp2_with fail
    with_reducible refine hbo.mono ?_
    rintro e w1 ⟨rfl, hs1⟩
    have HS1 := Lib.hid hs1
    clear hbo hs1
    go_wp2_with fail
    go_ret2
    exact ⟨by rw [HS.out.1, HS.out.2]; rfl, HS1.out⟩
theorem cmp6_same (a b : ByteArray) : cmp6E a b ≠ 0 ∨ ((cmp6V a b == 0) = sameB a b) := by
  by_cases hz : sameE a b = 0
  · unfold cmp6E cmp6V
    rw [if_pos hz, if_pos hz, sameB_yes hz]
    cases h1 : BD (tS a) 0 with
    | some x => left; rw [(cmp_some h1).2]; decide
    | none =>
      cases h2 : BD (tS b) 0 with
      | some x => left; rw [(cmp_none h1 h2).2]; decide
      | none =>
        right
        rw [(cmp_both h1 h2).1]
        show _ = ((tS a).toList == (tS b).toList)
        have := eq_cb (tS a).toList (tS b).toList
        rw [this]
        rw [Bool.eq_iff_iff]
        have e : ∀ s : ByteArray, s.toList = s.data.toList := fun s => by first | rfl | exact ByteArray.toList_eq s | simp
        simp [e]
  · left; unfold cmp6E; rw [if_neg hz]; exact hz
end Go.Proofs.YtlldoofclaokgaaGreat
