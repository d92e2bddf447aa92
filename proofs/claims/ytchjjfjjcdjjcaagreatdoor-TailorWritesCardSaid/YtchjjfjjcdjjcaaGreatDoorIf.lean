/- Package tailor: raised: the walk. Package tailor: behind, in plain words. -/
import Derived.Test.YtchjjfjjcdjjcaaGreatDoorId
/-! Package tailor: raised: the walk. -/
namespace Go.Proofs.YtchjjfjjcdjjcaaGreatDoor
open Go.RowKit

/-- may all be raised? -/
def okAll (f : El → Option El) (es : List Ent) (e : List El) : Prop := (∀ x ∈ es, ∀ y ∈ x.2, (f y).isSome = true) ∧ ∀ y ∈ e, (f y).isSome = true
def upU (f : El → Option El) (y : El) : El := (f y).getD y
def RaEnd (f : El → Option El) (es : List Ent) (e : List El) (ver : ByteArray) (n : Nat) (w : World) (e' : Ending) (w' : World) : Prop :=
  Below w.heap.size w w' ∧
    ((∃ p c lv ts cs ov, okAll f es e ∧ e' = .returned (.tuple #[.agg #[.string ver, .slice p n c, lv], ov]) ∧ EntsOwnC w.heap.size w' lv (es.map (raiE (upU f))) ts cs ∧ ElsIn (fun b => w.heap.size ≤ b) w' ov (e.map (upU f)) ∧ (∀ p n c, ov = .slice p n c → n ≤ c)) ∨
      (¬ okAll f es e ∧ e' = .panicked (chainT 0 102)))
set_option maxHeartbeats 8000000 in
set_option maxRecDepth 100000 in
theorem raised_any (R Q : Nat → Prop) (f : El → Option El) (x : El) (xb g : Nat) (es : List Ent) (e : List El) (ver : ByteArray) (n : Nat) (rv ev e2v : Value) (w : World)
    (eg : ∀ args w, (callFunc g args).run Tryz.prog w = .ok (.enter g args) w)
    (hup : ∀ W y, El4 W xb 0 x → xb < W.heap.size → ElB y → Calls Tryz.prog g #[elAgg y, .pointer (some ⟨xb, 0, none⟩)] W (UpEnd (f y) W))
    (hx4 : El4 w xb 0 x) (hxl : xb < w.heap.size)
    (hr : CellsIn w rv n 4) (he : EntsIn R w ev es) (h2 : ElsIn Q w e2v e) (hn : n ≤ 1000000000) (hel : es.length ≤ 1000000000) (hx : ∀ x ∈ es, x.1.length ≤ 1000000000 ∧ x.2.length ≤ 1000000000) (hel2 : e.length ≤ 1000000000)
    (hb : ∀ x ∈ es, ∀ y ∈ x.2, ElB y) (hb2 : ∀ y ∈ e, ElB y) :
    Calls Tryz.prog 63 #[.agg #[.string ver, rv, ev], e2v, .func (.func g) #[] #[.pointer (some ⟨xb, 0, none⟩)]] w (RaEnd f es e ver n w) := by
  have HUP := Lib.hid hup
  have HX4 := Lib.hid hx4
  have HR := Lib.hid hr
  have HE := Lib.hid he
  have H2 := Lib.hid h2
  have HX := Lib.hid hx
  have HB := Lib.hid hb
  have HB2 := Lib.hid hb2
  obtain ⟨p1, c1, rfl, _⟩ := hr
  obtain ⟨p2, c2, rfl, _⟩ := he
  obtain ⟨p3, c3, rfl, _⟩ := h2
  have hels := hel
  obtain ⟨m, hm⟩ : ∃ m, m = es.length := ⟨_, rfl⟩
  obtain ⟨l, hl⟩ : ∃ l, l = e.length := ⟨_, rfl⟩
  rw [← hm] at HE hel ⊢
  rw [← hl] at H2 hel2 ⊢
  have HM := Lib.hid hm
  have HL := Lib.hid hl
  clear hm hl hx hb hb2 hup hx4
  go_enter Tryz.func63, Tryz.ntmps63
  go_wp2_with fail
  have hb0 : Below w.heap.size w ((w.alloc (.cells #[.string ver, .slice p1 n c1, .slice p2 m c2] 43)).alloc (.cells #[.string ⟨#[]⟩, .slice none 0 0, .slice none 0 0] 43)) := ((Below.refl _ w).alloc (Nat.le_refl _) _).alloc (by simp) _
  have hs0 : SrcAt ((w.alloc (.cells #[.string ver, .slice p1 n c1, .slice p2 m c2] 43)).alloc (.cells #[.string ⟨#[]⟩, .slice none 0 0, .slice none 0 0] 43)) w.heap.size (.string ver) (.slice p1 n c1) (.slice p2 m c2) := by
    unfold SrcAt
    rw [Below.heap_alloc _ _ _ (by simp), World.alloc_heap_new]
  have hr0 : SrcAt ((w.alloc (.cells #[.string ver, .slice p1 n c1, .slice p2 m c2] 43)).alloc (.cells #[.string ⟨#[]⟩, .slice none 0 0, .slice none 0 0] 43)) (w.heap.size + 1) (.string ⟨#[]⟩) (.slice none 0 0) (.slice none 0 0) := by
    have := World.alloc_heap_new (w.alloc (.cells #[.string ver, .slice p1 n c1, .slice p2 m c2] 43)) (.cells #[.string ⟨#[]⟩, .slice none 0 0, .slice none 0 0] 43)
    rw [World.size_alloc] at this; exact this
  have hz0 : ((w.alloc (.cells #[.string ver, .slice p1 n c1, .slice p2 m c2] 43)).alloc (.cells #[.string ⟨#[]⟩, .slice none 0 0, .slice none 0 0] 43)).heap.size = w.heap.size + 2 := by simp
  generalize ((w.alloc (.cells #[.string ver, .slice p1 n c1, .slice p2 m c2] 43)).alloc (.cells #[.string ⟨#[]⟩, .slice none 0 0, .slice none 0 0] 43)) = W0 at *
  have HB0 := Lib.hid hb0
  have HS0 := Lib.hid hs0
  have HR0 := Lib.hid hr0
  have HZ0 := Lib.hid hz0
  clear hb0 hs0 hr0 hz0
  refine (twin_any R es ver n (.slice p1 n c1) (.slice p2 m c2) W0 (HR.out.below HB0.out) (HE.out.kept (Kept.below HB0.out)) hn hels HX.out).mono ?_
  rintro e' w1 ⟨rp, rc, lv, ts, cs, rfl, how1, hb1⟩
  have HOW1 := Lib.hid how1
  have HB1 := Lib.hid hb1
  clear how1 hb1
  go_wp2_with fail
  refine (cloneEc_any Q e (.slice p3 l c3) w1 ((H2.out.kept (Kept.below HB0.out)).kept (Kept.below HB1.out)) (by have := HL.out; omega)).mono ?_
  rintro e' w2 ⟨ov, rfl, hov, hb2, hcp⟩
  have HCP := Lib.hid hcp
  clear hcp
  have HOV := Lib.hid hov
  have HB2' := Lib.hid hb2
  obtain ⟨op, oc, rfl, _⟩ := hov
  have hs2 := (HS0.out.below HB1.out).below hb2
  obtain ⟨d0, d1, d2, df, dl⟩ := hs2.cells
  have f0 := df 0
  have f1 := df 1
  have f2 := df 2
  obtain ⟨lp, lcap, rfl⟩ := HOW1.out.form
  rw [← HL.out] at HOV HCP ⊢
  rw [← HM.out] at HOW1 ⊢
  clear hb2 df
  go_wp2_with fail
  have hs3 := hs2.put3 (.string ver) (.slice rp n rc) (.slice lp m lcap)
  have ho3 : Only (fun b => b = w.heap.size) w2 (((w2.setCell ⟨w.heap.size, 0, none⟩ (.string ver)).setCell ⟨w.heap.size, 1, none⟩ (.slice rp n rc)).setCell ⟨w.heap.size, 2, none⟩ (.slice lp m lcap)) :=
    (((Only.refl (fun b => b = w.heap.size) w2).setCell (p := ⟨w.heap.size, 0, none⟩) rfl _).setCell (p := ⟨w.heap.size, 1, none⟩) rfl _).setCell (p := ⟨w.heap.size, 2, none⟩) rfl _
  have hz2 : W0.heap.size ≤ w1.heap.size ∧ w1.heap.size ≤ w2.heap.size := ⟨HB1.out.size, HB2'.out.size⟩
  have hw0 : w.heap.size < W0.heap.size := by have := HZ0.out; omega
  have HOW3 := Lib.hid ((HOW1.out.below HB2'.out).only ho3 (fun b hb => .inl (by omega)))
  have HTB : Hid (∀ (i : Nat) t, ts[i]? = some t → t.2.2 ≤ w1.heap.size) := fun i t ht => (HOW1.out.bnd i t ht).2.2.2
  have HOG : Hid (∀ g, (Value.slice lp m lcap).ownBlock = some g → W0.heap.size ≤ g ∧ g < w1.heap.size) := fun g hg => ⟨(HOW1.out.own g hg).1, (HOW1.out.own g hg).2.1⟩
  have HR3 := Lib.hid (((HR0.out.below HB1.out).below HB2'.out).only ho3 (by omega))
  have HX3 : Hid (El4 _ xb 0 x) := (((HX4.out.below hxl HB0.out).below (by have := HB0.out.size; omega) HB1.out).below (by omega) HB2'.out).of (ho3.block xb (by omega) (by omega))
  have HBL : Hid (Below w.heap.size w _) := Only.toBelow (HB0.out.trans ((HB1.out.trans (HB2'.out.mono HB1.out.size)).mono HB0.out.size)) (Nat.le_refl _) ho3 (fun i hi => by omega)
  have hzz := ho3.size
  have HS3 := Lib.hid hs3
  clear d0 d1 d2 dl f0 f1 f2 hs2 hs3 HOW1 HS0 HR0 HX4
  generalize hW3 : (((w2.setCell ⟨w.heap.size, 0, none⟩ (.string ver)).setCell ⟨w.heap.size, 1, none⟩ (.slice rp n rc)).setCell ⟨w.heap.size, 2, none⟩ (.slice lp m lcap)) = W3 at *
  have HOV3 : Hid (ElsFz w1.heap.size w2.heap.size W3 (.slice op l oc) e) := by
    refine ElsFz.keep (W := w2) (ElsIn.mono HOV.out (fun b hb hl => ⟨hb.1, hl, fun o => ?_⟩)) (fun b h1 h2 hl => ho3.block b hl (by omega)) ho3.size
    obtain ⟨_, c', t', hc', _⟩ := hb
    simp [World.frozen?, hc']
  clear ho3 hW3 HB2' HOV
  go_loopw [19] (fun kv wx => ∃ i : Nat, kv = .int .i64 i ∧ i ≤ m ∧ EntsOwnC W0.heap.size wx (.slice lp m lcap) (curE (upU f) es i 0) ts cs ∧ ElsFz w1.heap.size w2.heap.size wx (.slice op l oc) e ∧ Only (fun k => W0.heap.size ≤ k) W3 wx ∧
    (∀ (a : Nat) z, a < i → es[a]? = some z → ∀ y ∈ z.2, (f y).isSome = true)) (fun kv _ => m - (intOf kv).toNat)
  case atStart => exact ⟨0, rfl, Nat.zero_le _, by rw [curE_start]; exact HOW3.out, HOV3.out, Only.refl _ _, fun a z ha => absurd ha (by omega)⟩
  case round =>
    obtain ⟨i, rfl, him, hown, hov, honly, hok⟩ := hrel
    have HOW := Lib.hid hown
    have HOVr := Lib.hid hov
    have HON := Lib.hid honly
    have HOK := Lib.hid hok
    have hwz : W3.heap.size ≤ wr.heap.size := honly.size
    clear hown hov honly hok
    by_cases hlt : i < m
    · have g1 : (i : Int) < (m : Int) := by omega
      obtain ⟨ei, hei⟩ : ∃ ei, es[i]? = some ei := ⟨es[i]'(by rw [← HM.out]; exact hlt), List.getElem?_eq_getElem _⟩
      obtain ⟨c, tt, hcs, hts, hci, hee, gg, cap, hlv, hg0, hg1, k0, k1⟩ := HOW.out.get (curE_at (upU f) (j := 0) hei)
      have hlen : (curE (upU f) es i 0).length = m := by rw [curE_len]; exact HM.out.symm
      rw [hlen] at hlv
      injection hlv with hlv1 _ hlv3
      subst hlv1 hlv3
      obtain ⟨cv, evv⟩ := c
      simp only at k0 k1 hci hee
      obtain ⟨cvp, cvc, rfl, _⟩ := hci
      have hee' := hee
      obtain ⟨evp, evc, rfl, _⟩ := hee'
      rw [halE_len] at hee k1 hcs
      have HEI := Lib.hid hei
      have HCS := Lib.hid hcs
      have HTS := Lib.hid hts
      clear hcs hts hlen hei
      generalize hel0 : ei.2.length = el at *
      have HEL := Lib.hid hel0
      generalize ei.1.length = cl at *
      clear hel0
      have hell : el ≤ 1000000000 := by have := HX.out ei (List.mem_iff_getElem?.2 ⟨i, HEI.out⟩); have := HEL.out; omega
      go_wp2_with fail
      have hxe : (wr.alloc (.cells #[.slice cvp cl cvc, .slice evp el evc] 39)).heap[wr.heap.size]? = some (.cells #[.slice cvp cl cvc, .slice evp el evc] 39 (0, 0)) := World.alloc_heap_new _ _
      have hbx : Below wr.heap.size wr (wr.alloc (.cells #[.slice cvp cl cvc, .slice evp el evc] 39)) := (Below.refl _ wr).alloc (Nat.le_refl _) _
      have HXE := Lib.hid hxe
      have HOW1 := Lib.hid (HOW.out.below hbx)
      have HOV1 := Lib.hid (HOVr.out.keep (fun b _ _ hl => hbx.block b hl) hbx.size)
      have HON1 := Lib.hid (HON.out.below2 hbx (fun k hk => by omega))
      have hxeb : w2.heap.size ≤ wr.heap.size := by omega
      generalize wr.heap.size = xe at *
      clear hxe hbx HOW HOVr HON
      go_loopw [26] (fun kv wx => ∃ j : Nat, kv = .int .i64 j ∧ j ≤ el ∧ EntsOwnC W0.heap.size wx (.slice (some ⟨gg, 0, none⟩) m lcap) (curE (upU f) es i j) ts cs ∧ ElsFz w1.heap.size w2.heap.size wx (.slice op l oc) e ∧ Only (fun k => W0.heap.size ≤ k) W3 wx ∧
        wx.heap[xe]? = some (.cells #[.slice cvp cl cvc, .slice evp el evc] 39 (0, 0)) ∧ (∀ (b : Nat) y, b < j → ei.2[b]? = some y → (f y).isSome = true)) (fun kv _ => el - (intOf kv).toNat)
      case atStart => exact ⟨0, rfl, Nat.zero_le _, HOW1.out, HOV1.out, HON1.out, HXE.out, fun b y hb => absurd hb (by omega)⟩
      case round =>
        obtain ⟨j, rfl, hje, hown, hov, honly, hxe, hok2⟩ := hrel
        have HOW2 := Lib.hid hown
        have HOV2 := Lib.hid hov
        have HON2 := Lib.hid honly
        have HXE2 := Lib.hid hxe
        have HOK2 := Lib.hid hok2
        have hx1 : wr.cell? ⟨xe, 1, none⟩ = some (.slice evp el evc) := by simp [World.cell?, hxe]
        have hxl2 : xe < wr.heap.size := (Array.getElem?_eq_some_iff.1 hxe).1
        clear hown hov honly hxe hok2 HOW1 HOV1 HON1 HXE
        by_cases hlt2 : j < el
        · have g2 : (j : Int) < (el : Int) := by omega
          obtain ⟨y, hy⟩ : ∃ y, ei.2[j]? = some y := ⟨ei.2[j]'(by rw [HEL.out]; exact hlt2), List.getElem?_eq_getElem _⟩
          obtain ⟨c', tt', hcs', hts', _, hee2, _⟩ := HOW2.out.get (curE_at (upU f) (j := j) HEI.out)
          rw [HCS.out] at hcs'; cases hcs'
          rw [HTS.out] at hts'; cases hts'
          simp only at hee2
          obtain ⟨q, o, rfl, ⟨hqt1, hqt2, hqf⟩, hql, e0, e1, e2, e3⟩ := ElsIn.at hee2 j y (halE_at _ hy)
          have hqt := And.intro hqt1 hqt2
          have HQF := Lib.hid hqf
          clear hqt1 hqt2 hqf
          have HYB : Hid (ElB y) := HB.out ei (List.mem_iff_getElem?.2 ⟨i, HEI.out⟩) y (List.mem_iff_getElem?.2 ⟨j, hy⟩)
          have HY := Lib.hid hy
          have HQT := Lib.hid hqt
          have hqw1 : q < w1.heap.size := by have := HTB.out i tt HTS.out; omega
          have HSS : Hid (∀ V, Below wr.heap.size wr V → V.cell? ⟨xe, 1, none⟩ = some (.slice (some ⟨q, o, none⟩) el evc) ∧ V.cell? ⟨q, o + j * 4, none⟩ = some (.int .i64 y.1) ∧ V.cell? ⟨q, o + j * 4 + 1, none⟩ = some (.int .i64 y.2.1) ∧ V.cell? ⟨q, o + j * 4 + 2, none⟩ = some (.int .i64 y.2.2.1) ∧ V.cell? ⟨q, o + j * 4 + 3, none⟩ = some (.bool y.2.2.2)) :=
            fun V h => ⟨(h.cell (p := ⟨xe, 1, none⟩) hxl2).trans hx1, (h.cell (p := ⟨q, o + j * 4, none⟩) hql).trans e0, (h.cell (p := ⟨q, o + j * 4 + 1, none⟩) hql).trans e1, (h.cell (p := ⟨q, o + j * 4 + 2, none⟩) hql).trans e2, (h.cell (p := ⟨q, o + j * 4 + 3, none⟩) hql).trans e3⟩
          have hS0 := HSS.out _ ((Below.refl _ wr).drew)
          clear hy hqt hee2 hlt2
          go_wp2_with fail
          refine wp_region_S (fun V : World => V.cell? ⟨xe, 1, none⟩ = some (.slice (some ⟨q, o, none⟩) el evc) ∧ V.cell? ⟨q, o + j * 4, none⟩ = some (.int .i64 y.1) ∧ V.cell? ⟨q, o + j * 4 + 1, none⟩ = some (.int .i64 y.2.1) ∧ V.cell? ⟨q, o + j * 4 + 2, none⟩ = some (.int .i64 y.2.2.1) ∧ V.cell? ⟨q, o + j * 4 + 3, none⟩ = some (.bool y.2.2.2)) 11 (by kernel_rfl) ?_
          refine sTake (i := 0) (v := ?_) rfl (by kernel_rfl) (by kernel_rfl) (by kernel_rfl) (by kernel_rfl) (fun _ _ _ h => h) (Or.inl ⟨by first | rfl | kernel_rfl, ?_⟩) hS0 ?_; rotate_left 1; (first | (focus (intro w hSw; (try dsimp only at hSw); go_simp; done)) | (focus (intro w hSw; (try dsimp only at hSw); go_simp; with_reducible rfl)) | (focus (intro w hSw; (try dsimp only at hSw); simp [hSw, go_sem]; done))); (try simp only [Act.put, List.setIfInBounds_toArray, List.set_cons_zero, List.set_cons_succ])
          refine sTake (i := 1) (v := ?_) rfl (by kernel_rfl) (by kernel_rfl) (by kernel_rfl) (by kernel_rfl) (fun _ _ _ h => h) (Or.inl ⟨by first | rfl | kernel_rfl, ?_⟩) hS0 ?_; rotate_left 1; (first | (focus (intro w hSw; (try dsimp only at hSw); go_simp; done)) | (focus (intro w hSw; (try dsimp only at hSw); go_simp; with_reducible rfl)) | (focus (intro w hSw; (try dsimp only at hSw); simp [hSw, go_sem]; done))); (try simp only [Act.put, List.setIfInBounds_toArray, List.set_cons_zero, List.set_cons_succ])
          refine sTake (i := 2) (v := ?_) rfl (by kernel_rfl) (by kernel_rfl) (by kernel_rfl) (by kernel_rfl) (fun _ _ _ h => h) (Or.inl ⟨by first | rfl | kernel_rfl, ?_⟩) hS0 ?_; rotate_left 1; (first | (focus (intro w hSw; (try dsimp only at hSw); go_simp; done)) | (focus (intro w hSw; (try dsimp only at hSw); go_simp; with_reducible rfl)) | (focus (intro w hSw; (try dsimp only at hSw); simp [hSw, go_sem]; done))); (try simp only [Act.put, List.setIfInBounds_toArray, List.set_cons_zero, List.set_cons_succ])
          refine sTake (i := 3) (v := ?_) rfl (by kernel_rfl) (by kernel_rfl) (by kernel_rfl) (by kernel_rfl) (fun _ _ _ h => h) (Or.inl ⟨by first | rfl | kernel_rfl, ?_⟩) hS0 ?_; rotate_left 1; (first | (focus (intro w hSw; (try dsimp only at hSw); go_simp; done)) | (focus (intro w hSw; (try dsimp only at hSw); go_simp; with_reducible rfl)) | (focus (intro w hSw; (try dsimp only at hSw); simp [hSw, go_sem]; done))); (try simp only [Act.put, List.setIfInBounds_toArray, List.set_cons_zero, List.set_cons_succ])
          refine sTake (i := 4) (v := ?_) rfl (by kernel_rfl) (by kernel_rfl) (by kernel_rfl) (by kernel_rfl) (fun _ _ _ h => h) (Or.inl ⟨by first | rfl | kernel_rfl, ?_⟩) hS0 ?_; rotate_left 1; (first | (focus (intro w hSw; (try dsimp only at hSw); go_simp; done)) | (focus (intro w hSw; (try dsimp only at hSw); go_simp; with_reducible rfl)) | (focus (intro w hSw; (try dsimp only at hSw); simp [hSw, go_sem]; done))); (try simp only [Act.put, List.setIfInBounds_toArray, List.set_cons_zero, List.set_cons_succ])
          refine sTake (i := 5) (v := ?_) rfl (by kernel_rfl) (by kernel_rfl) (by kernel_rfl) (by kernel_rfl) (fun _ _ _ h => h) (Or.inl ⟨by first | rfl | kernel_rfl, ?_⟩) hS0 ?_; rotate_left 1; (first | (focus (intro w hSw; (try dsimp only at hSw); go_simp; done)) | (focus (intro w hSw; (try dsimp only at hSw); go_simp; with_reducible rfl)) | (focus (intro w hSw; (try dsimp only at hSw); simp [hSw, go_sem]; done))); (try simp only [Act.put, List.setIfInBounds_toArray, List.set_cons_zero, List.set_cons_succ])
          refine sTake (i := 6) (v := ?_) rfl (by kernel_rfl) (by kernel_rfl) (by kernel_rfl) (by kernel_rfl) (fun _ _ _ h => h) (Or.inl ⟨by first | rfl | kernel_rfl, ?_⟩) hS0 ?_; rotate_left 1; (first | (focus (intro w hSw; (try dsimp only at hSw); go_simp; done)) | (focus (intro w hSw; (try dsimp only at hSw); go_simp; with_reducible rfl)) | (focus (intro w hSw; (try dsimp only at hSw); simp [hSw, go_sem]; done))); (try simp only [Act.put, List.setIfInBounds_toArray, List.set_cons_zero, List.set_cons_succ])
          refine sTake (i := 7) (v := ?_) rfl (by kernel_rfl) (by kernel_rfl) (by kernel_rfl) (by kernel_rfl) (fun _ _ _ h => h) (Or.inl ⟨by first | rfl | kernel_rfl, ?_⟩) hS0 ?_; rotate_left 1; (first | (focus (intro w hSw; (try dsimp only at hSw); go_simp; done)) | (focus (intro w hSw; (try dsimp only at hSw); go_simp; with_reducible rfl)) | (focus (intro w hSw; (try dsimp only at hSw); simp [hSw, go_sem]; done))); (try simp only [Act.put, List.setIfInBounds_toArray, List.set_cons_zero, List.set_cons_succ])
          refine sTake (i := 8) (v := ?_) rfl (by kernel_rfl) (by kernel_rfl) (by kernel_rfl) (by kernel_rfl) (fun _ _ _ h => h) (Or.inl ⟨by first | rfl | kernel_rfl, ?_⟩) hS0 ?_; rotate_left 1; (first | (focus (intro w hSw; (try dsimp only at hSw); go_simp; done)) | (focus (intro w hSw; (try dsimp only at hSw); go_simp; with_reducible rfl)) | (focus (intro w hSw; (try dsimp only at hSw); simp [hSw, go_sem]; done))); (try simp only [Act.put, List.setIfInBounds_toArray, List.set_cons_zero, List.set_cons_succ])
          refine sOne (i := 9) (by kernel_rfl) rfl (by rfl) (fun K hK => ?_)
          have HK := Lib.hid hK
          clear hK hS0
          have hx4r : El4 wr.drew xb 0 x := by
            have h1 : El4 wr xb 0 x := HX3.out.of (HON2.out.block xb (by omega) (by omega))
            exact h1
          have hcall := HUP.out wr.drew y hx4r (by show xb < wr.heap.size; omega) HYB.out
          unfold elAgg at hcall
          go_simp
          refine hcall.mono ?_
          clear hcall
          rintro e' w5 ⟨hb5, ⟨z, hz, rfl⟩ | ⟨hz, rfl⟩⟩
          · have HB5 : Hid (Below wr.heap.size wr w5) := (Below.refl _ wr).drew.trans hb5
            have HZ : Hid (f y = some z) := hz
            refine HK.out _ _ (HSS.out _ HB5.out) ?_
            clear HK hb5 hz
            unfold elAgg
            (try simp only [Act.put, List.setIfInBounds_toArray, List.set_cons_zero, List.set_cons_succ])
            refine sOne (i := 10) (by kernel_rfl) rfl (by rfl) (fun K hK => ?_)
            have HK := Lib.hid hK
            clear hK
            go_simp
            refine HK.out _ _ (HSS.out _ HB5.out) ?_
            clear HK
            (try simp only [Act.put, List.setIfInBounds_toArray, List.set_cons_zero, List.set_cons_succ])
            refine sLast (by kernel_rfl) rfl (by rfl) (fun K hK => ?_)
            have HK := Lib.hid hK
            clear hK
            have HOW5 := Lib.hid (HOW2.out.below HB5.out)
            have HOV5 := Lib.hid (HOV2.out.keep (fun b _ _ hl => HB5.out.block b hl) HB5.out.size)
            obtain ⟨c', tt', hcs', hts', _, hee5, _⟩ := HOW5.out.get (curE_at (upU f) (j := j) HEI.out)
            rw [HCS.out] at hcs'; cases hcs'
            rw [HTS.out] at hts'; cases hts'
            simp only at hee5
            have HEE5 := Lib.hid hee5
            obtain ⟨_, k1', k2', k3', k4'⟩ := HSS.out _ HB5.out
            have hfz : ∀ k, w5.frozen? ⟨q, k, none⟩ = false := fun k => (HB5.out.frozen (p := ⟨q, k, none⟩) hql).trans (HQF.out k)
            have z0 := hfz (o + j * 4)
            have z1 := hfz (o + j * 4 + 1)
            have z2 := hfz (o + j * 4 + 2)
            have z3 := hfz (o + j * 4 + 3)
            have hq5 : q < w5.heap.size := by have := HB5.out.size; omega
            clear hfz hee5
            go_simp
            refine HK.out _ _ ?_
            clear HK
            (try simp only [Act.put, List.setIfInBounds_toArray, List.set_cons_zero, List.set_cons_succ])
            refine sDone (by kernel_rfl) ?_ _
            have hput : ((((w5.setCell ⟨q, o + j * 4, none⟩ (.int .i64 z.1)).setCell ⟨q, o + j * 4 + 1, none⟩ (.int .i64 z.2.1)).setCell ⟨q, o + j * 4 + 2, none⟩ (.int .i64 z.2.2.1)).setCell ⟨q, o + j * 4 + 3, none⟩ (.bool z.2.2.2)) = putEl w5 q (o + j * 4) z := rfl
            rw [hput]
            have hpo := putEl_only w5 q (o + j * 4) z
            have HUZ : Hid (upU f y = z) := by show _ = _; unfold upU; rw [HZ.out]; rfl
            have HOWN : Hid (EntsOwnC W0.heap.size (putEl w5 q (o + j * 4) z) (.slice (some ⟨gg, 0, none⟩) m lcap) (curE (upU f) es i (j + 1)) ts cs) := by
              have hs := HOW5.out.set (y := z) (o := o) (curE_at (upU f) HEI.out) HTS.out (halE_at (upU f) HY.out) HQT.out (fun c hc => by rw [HCS.out] at hc; cases hc; exact ⟨evc, by simp only [halE_len, HEL.out]⟩) hpo (putEl_is ⟨k1', k2', k3', k4'⟩ z) (fun k hk => putEl_other _ _ _ _ _ hk) (fun k => putEl_frozen _ _ _ _ _)
              rw [← HUZ.out] at hs ⊢
              have he := curE_set (upU f) HEI.out HY.out
              show EntsOwnC _ _ _ (curE (upU f) es i (j + 1)) _ _
              rw [← he]
              exact hs
            have HOVN : Hid (ElsFz w1.heap.size w2.heap.size (putEl w5 q (o + j * 4) z) (.slice op l oc) e) := HOV5.out.keep (fun b h1 h2 hl => hpo.block b hl (by omega)) hpo.size
            have HONN : Hid (Only (fun k => W0.heap.size ≤ k) W3 (putEl w5 q (o + j * 4) z)) := (HON2.out.below2 HB5.out (fun k hk => by omega)).trans (hpo.mono fun k hk => by have := (HOW5.out.bnd i tt HTS.out); have := HQT.out; omega)
            have HXEN : Hid ((putEl w5 q (o + j * 4) z).heap[xe]? = some (.cells #[.slice cvp cl cvc, .slice (some ⟨q, o, none⟩) el evc] 39 (0, 0))) := by
              have h1 := HB5.out.block xe hxl2
              have h2 := hpo.block xe (by have := HB5.out.size; omega) (by omega)
              show _ = _
              rw [h2, h1]; exact HXE2.out
            clear k1' k2' k3' k4' z0 z1 z2 z3 hput hpo hx1 e0 e1 e2 e3
            go_wp2_with fail
            go_roundw
            case rel => exact ⟨j + 1, by go_num, by omega, HOWN.out, HOVN.out, HONN.out, HXEN.out, fun b y' hb hy' => by
              rcases Nat.lt_succ_iff_lt_or_eq.1 hb with h | rfl
              · exact HOK2.out b y' h hy'
              · rw [HY.out] at hy'; cases hy'; rw [HZ.out]; rfl⟩
            case measure => (show el - ((j : Int) + 1).toNat < el - (j : Int).toNat; omega)
          · have HB5 : Hid (Below wr.heap.size wr w5) := (Below.refl _ wr).drew.trans hb5
            clear HK
            have HEND : Hid (RaEnd f es e ver n w (.panicked (chainT 0 102)) w5) := by
              refine ⟨Only.toBelow HBL.out (Nat.le_refl _) (HON2.out.below2 HB5.out (fun k hk => by omega)) (fun i hi => by omega), .inr ⟨fun hh => ?_, rfl⟩⟩
              have h1 := hh.1 ei (List.mem_iff_getElem?.2 ⟨i, HEI.out⟩) y (List.mem_iff_getElem?.2 ⟨j, HY.out⟩)
              rw [hz] at h1; cases h1
            exact ⟨rfl, HEND.out⟩
        · obtain rfl : j = el := by omega
          have HNX : Hid (curE (upU f) es i j = curE (upU f) es (i + 1) 0) := curE_next (upU f) HEI.out (by rw [HEL.out]; exact Nat.le_refl _)
          have HOKN : Hid (∀ (a : Nat) z, a < i + 1 → es[a]? = some z → ∀ y ∈ z.2, (f y).isSome = true) := fun a z ha hz y hy => by
            rcases Nat.lt_succ_iff_lt_or_eq.1 ha with h | rfl
            · exact HOK.out a z h hz y hy
            · rw [HEI.out] at hz; cases hz
              obtain ⟨b, hb⟩ := List.mem_iff_getElem?.1 hy
              exact HOK2.out b y (by have := (List.getElem?_eq_some_iff.1 hb).1; have := HEL.out; omega) hb
          have g2 : ¬ ((j : Int) < (j : Int)) := by omega
          clear hlt2
          go_wp2_with fail
          go_roundw
          case rel => exact ⟨i + 1, by go_num, by omega, by rw [← HNX.out]; exact HOW2.out, HOV2.out, HON2.out, HOKN.out⟩
          case measure => (show m - ((i : Int) + 1).toNat < m - (i : Int).toNat; omega)
    · obtain rfl : i = m := by omega
      have HOKE : Hid (∀ x ∈ es, ∀ y ∈ x.2, (f y).isSome = true) := fun x hx y hy => by
        obtain ⟨a, ha⟩ := List.mem_iff_getElem?.1 hx
        exact HOK.out a x (by have := (List.getElem?_eq_some_iff.1 ha).1; have := HM.out; omega) ha y hy
      have HOWE : Hid (EntsOwnC W0.heap.size wr (.slice lp i lcap) (es.map (raiE (upU f))) ts cs) := by
        have h := HOW.out
        have hi : i = es.length := HM.out
        rw [hi, curE_end] at h
        rw [hi]; exact h
      have g1 : ¬ ((i : Int) < (i : Int)) := by omega
      clear hlt HOW HOK
      go_wp2_with fail
      have HW0 : Hid (Only (fun k => W0.heap.size ≤ k) W3 wr) := HON.out
      clear HON
      go_loopw [44] (fun kv wx => ∃ j : Nat, kv = .int .i64 j ∧ j ≤ l ∧ EntsOwnC W0.heap.size wx (.slice lp i lcap) (es.map (raiE (upU f))) ts cs ∧ ElsFz w1.heap.size w2.heap.size wx (.slice op l oc) (halE (upU f) e j) ∧ Only (fun k => W0.heap.size ≤ k) W3 wx ∧
        (∀ (b : Nat) y, b < j → e[b]? = some y → (f y).isSome = true)) (fun kv _ => l - (intOf kv).toNat)
      case atStart => exact ⟨0, rfl, Nat.zero_le _, HOWE.out, by rw [halE_zero]; exact HOVr.out, HW0.out, fun b y hb => absurd hb (by omega)⟩
      case round =>
        obtain ⟨j, rfl, hjl, hown, hov, honly, hok2⟩ := hrel
        have HOW2 := Lib.hid hown
        have HOV2 := Lib.hid hov
        have HON2 := Lib.hid honly
        have HOK2 := Lib.hid hok2
        have hwz2 : W3.heap.size ≤ wr.heap.size := honly.size
        clear hown hov honly hok2 HOWE HOVr HW0
        by_cases hlt2 : j < l
        · have g2 : (j : Int) < (l : Int) := by omega
          obtain ⟨y, hy⟩ : ∃ y, e[j]? = some y := ⟨e[j]'(by rw [← HL.out]; exact hlt2), List.getElem?_eq_getElem _⟩
          obtain ⟨q, o, rfl, ⟨hqt1, hqt2, hqf⟩, hql, e0, e1, e2, e3⟩ := ElsIn.at HOV2.out j y (halE_at _ hy)
          have HQF := Lib.hid hqf
          have HYB : Hid (ElB y) := HB2.out y (List.mem_iff_getElem?.2 ⟨j, hy⟩)
          have HY := Lib.hid hy
          have HE4 : Hid (El4 wr q (o + j * 4) y) := ⟨e0, e1, e2, e3⟩
          have hx4r : El4 wr xb 0 x := HX3.out.of (HON2.out.block xb (by omega) (by omega))
          have hcall := HUP.out wr y hx4r (by omega) HYB.out
          unfold elAgg at hcall
          have HC := Lib.hid hcall
          clear hy hqf hlt2 hcall hx4r
          go_wp2_with fail
          refine HC.out.mono ?_
          clear HC
          rintro e' w5 ⟨hb5, ⟨z, hz, rfl⟩ | ⟨hz, rfl⟩⟩
          · have HB5 := Lib.hid hb5
            have HZ : Hid (f y = some z) := hz
            obtain ⟨k1', k2', k3', k4'⟩ : El4 w5 q (o + j * 4) y := HE4.out.below hql hb5
            have hfz : ∀ k, w5.frozen? ⟨q, k, none⟩ = false := fun k => (hb5.frozen (p := ⟨q, k, none⟩) hql).trans (HQF.out k)
            have z0 := hfz (o + j * 4)
            have z1 := hfz (o + j * 4 + 1)
            have z2 := hfz (o + j * 4 + 2)
            have z3 := hfz (o + j * 4 + 3)
            have hq5 : q < w5.heap.size := by have := hb5.size; omega
            have HOW5 := Lib.hid (HOW2.out.below hb5)
            have HOV5 := Lib.hid (HOV2.out.keep (fun b _ _ hl => hb5.block b hl) hb5.size)
            clear hfz hb5 hz e0 e1 e2 e3
            unfold elAgg
            go_wp2_with fail
            have hput : ((((w5.setCell ⟨q, o + j * 4, none⟩ (.int .i64 z.1)).setCell ⟨q, o + j * 4 + 1, none⟩ (.int .i64 z.2.1)).setCell ⟨q, o + j * 4 + 2, none⟩ (.int .i64 z.2.2.1)).setCell ⟨q, o + j * 4 + 3, none⟩ (.bool z.2.2.2)) = putEl w5 q (o + j * 4) z := rfl
            rw [hput]
            have hpo := putEl_only w5 q (o + j * 4) z
            have HUZ : Hid (upU f y = z) := by show _ = _; unfold upU; rw [HZ.out]; rfl
            have HOWN : Hid (EntsOwnC W0.heap.size (putEl w5 q (o + j * 4) z) (.slice lp i lcap) (es.map (raiE (upU f))) ts cs) :=
              HOW5.out.far hpo (fun b hb => ⟨fun k t ht => by have := HTB.out k t ht; omega, fun hh => by have := HOG.out b hh; omega⟩)
            have HOVN : Hid (ElsFz w1.heap.size w2.heap.size (putEl w5 q (o + j * 4) z) (.slice (some ⟨q, o, none⟩) l oc) (halE (upU f) e (j + 1))) := by
              have hs := els_set HOV5.out (halE_at (upU f) HY.out) z
              rw [← halE_set (upU f) HY.out, HUZ.out]
              refine ElsIn.mono hs (fun b hb _ => ⟨hb.1, hb.2.1, fun k => ?_⟩)
              rw [putEl_frozen]; exact hb.2.2 k
            have HONN : Hid (Only (fun k => W0.heap.size ≤ k) W3 (putEl w5 q (o + j * 4) z)) := (HON2.out.below2 HB5.out (fun k hk => by omega)).trans (hpo.mono fun k hk => by omega)
            clear k1' k2' k3' k4' z0 z1 z2 z3 hput hpo
            go_wp2_with fail
            go_roundw
            case rel => exact ⟨j + 1, by go_num, by omega, HOWN.out, HOVN.out, HONN.out, fun b y' hb hy' => by
              rcases Nat.lt_succ_iff_lt_or_eq.1 hb with h | rfl
              · exact HOK2.out b y' h hy'
              · rw [HY.out] at hy'; cases hy'; rw [HZ.out]; rfl⟩
            case measure => (show l - ((j : Int) + 1).toNat < l - (j : Int).toNat; omega)
          · have HEND : Hid (RaEnd f es e ver n w (.panicked (chainT 0 102)) w5) := by
              refine ⟨Only.toBelow HBL.out (Nat.le_refl _) (HON2.out.below2 hb5 (fun k hk => by omega)) (fun i hi => by omega), .inr ⟨fun hh => ?_, rfl⟩⟩
              have h1 := hh.2 y (List.mem_iff_getElem?.2 ⟨j, HY.out⟩)
              rw [hz] at h1; cases h1
            exact ⟨rfl, HEND.out⟩
        · obtain rfl : j = l := by omega
          have g2 : ¬ ((j : Int) < (j : Int)) := by omega
          have HOKF : Hid (okAll f es e) := ⟨HOKE.out, fun y hy => by
            obtain ⟨b, hb⟩ := List.mem_iff_getElem?.1 hy
            exact HOK2.out b y (by have := (List.getElem?_eq_some_iff.1 hb).1; have := HL.out; omega) hb⟩
          have HOVF : Hid (ElsFz w1.heap.size w2.heap.size wr (.slice op j oc) (e.map (upU f))) := by
            have h := HOV2.out
            rwa [halE_all (upU f) e (by rw [← HL.out]; exact Nat.le_refl _)] at h
          have hw01 : w.heap.size + 1 < W0.heap.size := by have := HZ0.out; omega
          have hss := HS3.out.only HON2.out (by omega)
          have hrr := HR3.out.only HON2.out (by omega)
          obtain ⟨s0, s1, s2, _, sl⟩ := hss.cells
          obtain ⟨r0, r1, r2, rf, rl⟩ := hrr.cells
          have rf0 := rf 0
          have rf1 := rf 1
          have rf2 := rf 2
          clear rf hlt2 hss
          go_wp2_with fail
          have hsf := hrr.put3 (.string ver) (.slice rp n rc) (.slice lp i lcap)
          have hpo : Only (fun b => b = w.heap.size + 1) wr (((wr.setCell ⟨w.heap.size + 1, 0, none⟩ (.string ver)).setCell ⟨w.heap.size + 1, 1, none⟩ (.slice rp n rc)).setCell ⟨w.heap.size + 1, 2, none⟩ (.slice lp i lcap)) :=
            (((Only.refl (fun b => b = w.heap.size + 1) wr).setCell (p := ⟨w.heap.size + 1, 0, none⟩) rfl _).setCell (p := ⟨w.heap.size + 1, 1, none⟩) rfl _).setCell (p := ⟨w.heap.size + 1, 2, none⟩) rfl _
          have HBF : Hid (Below w.heap.size w (((wr.setCell ⟨w.heap.size + 1, 0, none⟩ (.string ver)).setCell ⟨w.heap.size + 1, 1, none⟩ (.slice rp n rc)).setCell ⟨w.heap.size + 1, 2, none⟩ (.slice lp i lcap))) :=
            Only.toBelow (Only.toBelow HBL.out (Nat.le_refl _) HON2.out (fun i hi => by omega)) (by omega) hpo (fun i hi => by omega)
          have HEF := Lib.hid (HOW2.out.only hpo (fun b hb => .inl (by omega)))
          have HOF := Lib.hid (HOVF.out.keep (fun b h1 h2 hl => hpo.block b hl (by omega)) hpo.size)
          obtain ⟨q0, q1, q2, _, _⟩ := hsf.cells
          clear s0 s1 s2 r0 r1 r2 rf0 rf1 rf2 hrr hsf hpo
          generalize (((wr.setCell ⟨w.heap.size + 1, 0, none⟩ (.string ver)).setCell ⟨w.heap.size + 1, 1, none⟩ (.slice rp n rc)).setCell ⟨w.heap.size + 1, 2, none⟩ (.slice lp i lcap)) = WF at *
          refine bodyPost_ret (v := .tuple #[.agg #[.string ver, .slice rp n rc, .slice lp i lcap], .slice op j oc]) (by simp [results, Tryz.results63, go_sem, q0, q1, q2]) rfl ?_
          refine ⟨HBF.out, .inl ⟨_, _, _, _, _, _, HOKF.out, rfl, HEF.out.weak (by omega), ?_, HCP.out⟩⟩
          exact ElsIn.mono HOF.out (fun b hb _ => by have h1 : w1.heap.size ≤ b := hb.1; show w.heap.size ≤ b; omega)
end Go.Proofs.YtchjjfjjcdjjcaaGreatDoor
/-! Package tailor: behind, in plain words. -/
namespace Go.Proofs.YtchjjfjjcdjjcaaGreatDoor
open Go.RowKit

/-- does an element count at a level? -/
def cntT (lv : Int) (x : El) : Bool := decide (1 ≤ lvlT x) && decide (lvlT x ≤ lv)
/-- the last element that counts, of the first so many -/
def bAtF (e : List El) (lv : Int) : Nat → Option Nat
  | 0 => none
  | k + 1 => match e[k]? with | some x => if cntT lv x = true then some k else bAtF e lv k | none => bAtF e lv k
def bAtI (e : List El) (lv : Int) (k : Nat) : Int := match bAtF e lv k with | none => -1 | some a => a
theorem bAtF_lt (e : List El) (lv : Int) : ∀ (k a : Nat), bAtF e lv k = some a → a < k ∧ ∃ x, e[a]? = some x
  | 0, a, h => by cases h
  | k + 1, a, h => by
    rw [bAtF] at h
    split at h
    · rename_i x hx
      split at h
      · cases h; exact ⟨by omega, x, hx⟩
      · have := bAtF_lt e lv k a h; exact ⟨by omega, this.2⟩
    · have := bAtF_lt e lv k a h; exact ⟨by omega, this.2⟩
theorem bAtI_step {e : List El} {lv : Int} {k : Nat} {x : El} (h : e[k]? = some x) : bAtI e lv (k + 1) = if cntT lv x = true then (k : Int) else bAtI e lv k := by
  unfold bAtI
  rw [bAtF, h]
  by_cases hc : cntT lv x = true
  · simp only [if_pos hc]
  · simp only [if_neg hc]
def nextT (lv : Int) (x : El) : Option El :=
  if lv = 1 then (if x.1 + 1 < 64256 then some (x.1 + 1, 32, 2, x.2.2.2) else none)
  else if lv = 2 then (if x.2.1 < 511 then some (x.1, x.2.1 + 1, 2, x.2.2.2) else none)
  else (if x.2.2.1 < 63 then some (x.1, x.2.1, x.2.2.1 + 1, x.2.2.2) else none)
def okB (f : El → Option El) (es : List Ent) (e : List El) : Bool := (es.all fun x => x.2.all fun y => (f y).isSome) && e.all fun y => (f y).isSome
theorem okB_iff (f : El → Option El) (es : List Ent) (e : List El) : okB f es e = true ↔ okAll f es e := by
  unfold okB okAll
  simp only [Bool.and_eq_true, List.all_eq_true]
/-- where the next one stands, what it stands behind, what it is; or the error -/
def behR (es : List Ent) (e : List El) (lv : Int) : (Nat × El × El) ⊕ Int :=
  if 1 ≤ lv ∧ lv ≤ 3 then
    match bAtF e lv e.length with
    | none => .inr 101
    | some a => match e[a]? with
      | none => .inr 101
      | some x => if x.1 < 64256 then (match nextT lv x with | none => .inr 102 | some nx => if okB (upT lv x) es e = true then .inl (a, x, nx) else .inr 102) else .inr 101
  else .inr 101
/-- how behind ends -/
def BhEnd (es : List Ent) (e : List El) (lv : Int) (ver : ByteArray) (n : Nat) (w : World) (e' : Ending) (w' : World) : Prop :=
  Below w.heap.size w w' ∧
    ((∃ a x nx p c v ts cs ov, behR es e lv = .inl (a, x, nx) ∧ e' = .returned (.tuple #[.agg #[.string ver, .slice p n c, v], ov]) ∧ EntsOwnC w.heap.size w' v (es.map (raiE (upU (upT lv x)))) ts cs ∧ ElsIn (fun b => w.heap.size ≤ b) w' ov ((e.take a).map (upU (upT lv x)) ++ [nx])) ∨
      (∃ z, behR es e lv = .inr z ∧ e' = .panicked (chainT 0 z)))
theorem Tryz.infoEl : (Tryz.prog.info? 36).map (fun i => (i.zero, i.size, i.bytes)) = some (some (.agg #[.int .i64 0, .int .i64 0, .int .i64 0, .bool false]), 4, 32) := by kernel_rfl
/-- the cells of elements -/
theorem els_cells {R : Nat → Prop} {w : World} {q o len cap : Nat} {xs : List El} (h : ElsIn R w (.slice (some ⟨q, o, none⟩) len cap) xs) : ∀ (j : Nat) u, (xs.flatMap elCells)[j]? = some u → w.cell? ((⟨q, o, none⟩ : Addr).add j) = some u := by
  intro j u hj
  have hjl := (List.getElem?_eq_some_iff.1 hj).1
  rw [tflat_len elCells 4 (fun _ => rfl)] at hjl
  obtain ⟨x, hx⟩ : ∃ x, xs[j / 4]? = some x := ⟨xs[j / 4]'(by omega), List.getElem?_eq_getElem (by omega)⟩
  obtain ⟨b, o', e, _, hl, h0, h1, h2, h3⟩ := h.at (j / 4) x hx
  cases e
  rw [addr_add]
  have key : ∀ (m : Nat) (z : Value), (elCells x)[m]? = some z → j = j / 4 * 4 + m → u = z := fun m z hz hm => by
    have := flat_at elCells 4 (fun _ => rfl) xs (j / 4) m x z hx hz
    rw [← hm, hj] at this; cases this; rfl
  have hd : j % 4 = 0 ∨ j % 4 = 1 ∨ j % 4 = 2 ∨ j % 4 = 3 := by omega
  rcases hd with hd | hd | hd | hd
  · rw [key 0 _ rfl (by omega), show o + j = o + j / 4 * 4 by omega]; exact h0
  · rw [key 1 _ rfl (by omega), show o + j = o + j / 4 * 4 + 1 by omega]; exact h1
  · rw [key 2 _ rfl (by omega), show o + j = o + j / 4 * 4 + 2 by omega]; exact h2
  · rw [key 3 _ rfl (by omega), show o + j = o + j / 4 * 4 + 3 by omega]; exact h3
theorem run_append_els {R : Nat → Prop} (w : World) (ty : TypeId) (q o len cap a : Nat) (xs : List El) (h : ElsIn R w (.slice (some ⟨q, o, none⟩) len cap) xs) (ha : a ≤ xs.length) (hx : xs.length ≤ 1000000000) (nb : Nat) (y : El)
    (hy : ∀ (j : Nat) u, (elCells y)[j]? = some u → w.cell? ((⟨nb, 0, none⟩ : Addr).add j) = some u) :
    ∃ p n c w', (Builtin.append_ #[37, 37] ty #[.slice (some ⟨q, o, none⟩) a a, .slice (some ⟨nb, 0, none⟩) 1 1]).run Tryz.prog w = .ok (.slice p n c) w' ∧ ElsIn (fun b => w.heap.size ≤ b) w' (.slice p n c) (xs.take a ++ [y]) ∧ Below w.heap.size w w' := by
  obtain ⟨i0, hi, hz0, hz1, hz2⟩ := info_parts Tryz.infoEl
  have htl : (xs.take a).length = a := by rw [List.length_take]; omega
  have htk : ElsIn R w (.slice (some ⟨q, o, none⟩) (xs.take a).length cap) (xs.take a) := by
    refine ⟨_, _, rfl, fun i x hx => ?_⟩
    have h1 : xs[i]? = some x := by
      have hil := (List.getElem?_eq_some_iff.1 hx).1
      rw [List.getElem?_take] at hx
      split at hx
      · exact hx
      · cases hx
    exact h.at i x h1
  have hr := run_append_grow (P := Tryz.prog) w 37 ty 36 i0 (.agg #[.int .i64 0, .int .i64 0, .int .i64 0, .bool false]) Tryz.underlying37 hi hz0 ⟨q, o, none⟩ a a ((xs.take a).flatMap elCells) (by rw [hz1, tflat_len elCells 4 (fun _ => rfl), htl]) (els_cells htk) ⟨nb, 0, none⟩ 1 1 (elCells y) (by rw [hz1]; rfl) hy (by omega) (by omega) (growslice_fits (by omega) (by rw [hz2]; omega))
  have hcs : ((xs.take a).flatMap elCells).toArray ++ (elCells y).toArray = ((xs.take a ++ [y]).flatMap elCells).toArray := by simp
  rw [hcs] at hr
  refine ⟨_, _, _, _, hr, ?_, ((Below.refl _ w).drew).alloc (Nat.le_refl _) _⟩
  have hbk : (w.drew.alloc (.cells (((xs.take a ++ [y]).flatMap elCells).toArray ++ Builtin.zeroCells (Value.agg #[.int .i64 0, .int .i64 0, .int .i64 0, .bool false]).cells (grownCap w (a + 1) a 36 - (a + 1))) 36)).heap[w.heap.size]? = some (.cells (((xs.take a ++ [y]).flatMap elCells).toArray ++ Builtin.zeroCells (Value.agg #[.int .i64 0, .int .i64 0, .int .i64 0, .bool false]).cells (grownCap w (a + 1) a 36 - (a + 1))) 36 (0, 0)) := World.alloc_heap_new w.drew _
  have hn : (xs.take a ++ [y]).length = a + 1 := by rw [List.length_append, htl]; rfl
  generalize w.drew.alloc (.cells (((xs.take a ++ [y]).flatMap elCells).toArray ++ Builtin.zeroCells (Value.agg #[.int .i64 0, .int .i64 0, .int .i64 0, .bool false]).cells (grownCap w (a + 1) a 36 - (a + 1))) 36) = W' at *
  refine ⟨_, _, by rw [hn], fun i x hx => ⟨w.heap.size, 0, rfl, Nat.le_refl _, (Array.getElem?_eq_some_iff.1 hbk).1, ?_⟩⟩
  have at' : ∀ j u, (elCells x)[j]? = some u → W'.cell? ⟨w.heap.size, 0 + i * 4 + j, none⟩ = some u := fun j u hu => by
    have h1 := flat_at elCells 4 (fun _ => rfl) (xs.take a ++ [y]) i j x u hx hu
    have h2 := (List.getElem?_eq_some_iff.1 h1).1
    unfold World.cell?
    simp only [hbk, Nat.zero_add]
    rw [Array.getElem?_append_left (by simpa using h2)]
    simpa using h1
  exact ⟨at' 0 _ rfl, at' 1 _ rfl, at' 2 _ rfl, at' 3 _ rfl⟩
theorem wp_append_els {R : Nat → Prop} (w : World) {o : Oper} {a : Act} {K : Act → World → Prop} {Q : Exit → Act → World → Prop} (s x : Operand)
    (ho : o.op = .call { callee := .builtin .append, args := #[s, x], argTypes := #[37, 37] })
    (q f len cap m : Nat) (xs : List El) (nb : Nat) (y : El) (hs : a.eval s = .slice (some ⟨q, f, none⟩) m m) (hx : a.eval x = .slice (some ⟨nb, 0, none⟩) 1 1)
    (h : ElsIn R w (.slice (some ⟨q, f, none⟩) len cap) xs) (ha : m ≤ xs.length) (hxl : xs.length ≤ 1000000000)
    (hy : ∀ (j : Nat) u, (elCells y)[j]? = some u → w.cell? ((⟨nb, 0, none⟩ : Addr).add j) = some u)
    (hk : ∀ p n c w', ElsIn (fun b => w.heap.size ≤ b) w' (.slice p n c) (xs.take m ++ [y]) → Below w.heap.size w w' → K (a.put o.dst (.slice p n c)) w') : o.wp Tryz.prog a w K Q := by
  obtain ⟨p, n, c, w', hr, h1, h2⟩ := run_append_els w o.type q f len cap m xs h ha hxl nb y hy
  unfold Oper.wp execOp
  simp only [ho, Go.resolve, Go.invoke, Go.builtin, Sem.run_bind, Sem.run_pure, Result.andThen_ok, List.map_toArray, List.map_cons, List.map_nil, hs, hx, hr]
  exact hk p n c w' h1 h2
theorem slice_cut (q f len cap a : Nat) (h : a ≤ cap) (W : World) : (Instr.slice 37 (.slice (some ⟨q, f, none⟩) len cap) none (some (.int .i64 (a : Int))) (some (.int .i64 (a : Int)))).run Tryz.prog W = .ok (.slice (some ⟨q, f, none⟩) a a) W := by
  rw [run_slice_hm (w := W) 37 (some ⟨q, f, none⟩) len cap (by simp [Program.elem, Tryz.underlying37]) .i64 .i64 a a (by omega) (by omega) (by omega)]
  simp [go_sem, sliced]
end Go.Proofs.YtchjjfjjcdjjcaaGreatDoor
