/- lecternref11.Check: the walk. -/
import Derived.Test.YtnglhgogkemgbaaGreatDoorG44
import Derived.Deep.RegionHeld
import Derived.Deep.QuietTactic
import Derived.BigQuiet
namespace Go.Proofs.YtnglhgogkemgbaaGreatDoor
open Go.RowKit

set_option maxHeartbeats 16000000 in
set_option maxRecDepth 100000 in
theorem rcheck11_any (Ru Rv Rr Re : Nat → Prop) (c d : List T3) (rs : List Rng) (es : List Ent) (ver : ByteArray) (u v rv ev : Value) (w : World) (hu : TrisIn Ru .i64 w u c) (hv : TrisIn Rv .i32 w v d) (hdo : dataOk c d = true) (hr : RngsIn Rr w rv rs) (hes : EntsIn Re w ev es)
    (hok : ∀ x ∈ es, EntOk x) (hrl : rs.length ≤ 140737488351232) (hel : es.length ≤ 140737488351232) (hvl : ver.size ≤ 140737488351232) :
    Calls Tryz.prog 10 #[.agg #[u, v], .agg #[.string ver, rv, ev]] w fun e w' => e = .returned (.tuple #[.int .i64 (rres c d ver rs es).1, .int .i64 (rres c d ver rs es).2]) ∧ Below w.heap.size w w' := by
  have hba : Below w.heap.size w ((w.alloc (.cells #[u, v] 32)).alloc (.cells #[.string ver, rv, ev] 25)) := ((Below.refl _ w).alloc (Nat.le_refl _) _).alloc (by simp) _
  have hd0 : ((w.alloc (.cells #[u, v] 32)).alloc (.cells #[.string ver, rv, ev] 25)).heap[w.heap.size]? = some (.cells #[u, v] 32 (0, 0)) :=
    (Below.heap_alloc _ _ _ (by simp)).trans (World.alloc_heap_new w _)
  have hs0 : ((w.alloc (.cells #[u, v] 32)).alloc (.cells #[.string ver, rv, ev] 25)).heap[w.heap.size + 1]? = some (.cells #[.string ver, rv, ev] 25 (0, 0)) := by
    have := World.alloc_heap_new (w.alloc (.cells #[u, v] 32)) (.cells #[.string ver, rv, ev] 25)
    rwa [World.size_alloc] at this
  have HB0 := Lib.hid hba
  have HU := Lib.hid (hu.kept (Kept.below hba))
  have HV := Lib.hid (hv.kept (Kept.below hba))
  have HR := Lib.hid (hr.kept (Kept.below hba))
  have HES := Lib.hid (hes.kept (Kept.below hba))
  obtain ⟨up, uc, rfl, _⟩ := hu
  obtain ⟨vp, vc, rfl, _⟩ := hv
  obtain ⟨rp, rc, rfl, _⟩ := hr
  obtain ⟨ep, ec, rfl, _⟩ := hes
  obtain ⟨nu, hnu⟩ : ∃ n, n = c.length := ⟨_, rfl⟩
  obtain ⟨nv, hnv⟩ : ∃ n, n = d.length := ⟨_, rfl⟩
  obtain ⟨nr, hnr⟩ : ∃ n, n = rs.length := ⟨_, rfl⟩
  obtain ⟨n, hn⟩ : ∃ n, n = es.length := ⟨_, rfl⟩
  rw [← hnu, ← hnv, ← hnr, ← hn] at hd0 hs0
  rw [← hnu, ← hnv, ← hnr, ← hn] at HB0
  rw [← hnu, ← hnv, ← hnr, ← hn] at HU HV HR HES
  rw [← hnu, ← hnv, ← hnr, ← hn]
  have HNN := Lib.hid hn
  have HVER := Lib.hid (fun W => rversion11_any ver W hvl)
  have HDO := Lib.hid hdo
  have HOK := Lib.hid hok
  have HL := Lib.hid (And.intro hrl hel)
  clear hnu hnv hnr hn hba hdo hok hrl hel hvl
  go_enter Tryz.func10, Tryz.ntmps10
  go_wp2_with fail
  generalize (w.alloc (.cells #[.slice up nu uc, .slice vp nv vc] 32)).alloc (.cells #[.string ver, .slice rp nr rc, .slice ep n ec] 25) = V0 at *
  have HX : Hid (∀ V, Below V0.heap.size V0 V → V.cell? ⟨w.heap.size, 0, none⟩ = some (.slice up nu uc) ∧ V.cell? ⟨w.heap.size, 1, none⟩ = some (.slice vp nv vc) ∧ V.cell? ⟨w.heap.size + 1, 0, none⟩ = some (.string ver) ∧ V.cell? ⟨w.heap.size + 1, 1, none⟩ = some (.slice rp nr rc) ∧ V.cell? ⟨w.heap.size + 1, 2, none⟩ = some (.slice ep n ec) ∧ w.heap.size < V.heap.size ∧ w.heap.size + 1 < V.heap.size) := by
    show ∀ V, _
    intro V hV
    have h1 := cellG hd0 hV
    have h2 := cellG hs0 hV
    refine ⟨?_, ?_, ?_, ?_, ?_, (Array.getElem?_eq_some_iff.1 h1).1, (Array.getElem?_eq_some_iff.1 h2).1⟩ <;> simp [World.cell?, h1, h2]
  obtain ⟨db, hdb⟩ : ∃ db, db = w.heap.size := ⟨_, rfl⟩
  obtain ⟨sb, hsb⟩ : ∃ sb, sb = w.heap.size + 1 := ⟨_, rfl⟩
  have HBW : Hid (∀ V, Below V0.heap.size V0 V → Below w.heap.size w V) := fun V hV => HB0.out.trans (hV.mono HB0.out.size)
  rw [← hsb, ← hdb] at HX
  rw [← hsb, ← hdb]
  obtain ⟨d0, d1, s0, s1, s2, dl, sl⟩ := HX.out V0 (Below.refl _ _)
  clear hd0 hs0 hdb hsb HB0
  go_wp2_with fail
  with_reducible refine (HVER.out _).mono ?_
  rintro e w' ⟨rfl, rfl⟩
  cases hver : verB ver.data.toList with
  | false =>
    have HE := Lib.hid (rres_ver (c := c) (d := d) (rs := rs) (es := es) hver)
    clear hver
    go_wp2_with fail
    go_ret2
    exact ⟨by rw [HE.out] <;> rfl, HBW.out _ (Below.refl _ _)⟩
  | true =>
  have HV1 := Lib.hid hver
  clear hver HVER
  have hrg := rRanges_any _ rs (.slice rp nr rc) V0 HR.out HL.out.1
  obtain ⟨z, hz⟩ : ∃ z, rngC rs = z := ⟨_, rfl⟩
  rw [hz] at hrg
  have HRZ := Lib.hid hz
  clear hz
  go_wp2_with fail
  with_reducible refine hrg.mono ?_
  rintro e w1 ⟨rfl, hb1⟩
  clear hrg
  rcases (Decidable.em (z = 0)).symm with hz0 | hz0
  · have HE := Lib.hid (rres_rng (c := c) (d := d) (es := es) HV1.out (by rw [HRZ.out]; exact hz0))
    have g1 : (z == 0) = false := beq_eq_false_iff_ne.2 hz0
    have g2 : (z != 0) = true := bne_iff_ne.2 hz0
    have HB1 := Lib.hid (HBW.out _ hb1)
    clear hz0 hb1
    go_wp2_with fail
    go_ret2
    exact ⟨by rw [HE.out, HRZ.out] <;> rfl, HB1.out⟩
  subst hz0
  obtain ⟨e0, e1, t0, t1, t2, el, tl⟩ := HX.out w1 hb1
  have hck := rCheck_any _ es (.slice ep n ec) w1 (HES.out.kept (Kept.below hb1)) HOK.out HL.out.2
  obtain ⟨ka, hka⟩ : ∃ z, ckA es = z := ⟨_, rfl⟩
  obtain ⟨ke, hke⟩ : ∃ z, ckE es = z := ⟨_, rfl⟩
  rw [hka, hke] at hck
  have HCK := Lib.hid (And.intro hka hke)
  clear hka hke d0 d1 s0 s1 s2 dl sl
  go_wp2_with fail
  with_reducible refine hck.mono ?_
  rintro e w2 ⟨rfl, hb2⟩
  clear hck
  have hb2' : Below V0.heap.size V0 w2 := hb1.trans (hb2.mono hb1.size)
  rcases (Decidable.em (ke = 0)).symm with hk0 | hk0
  · have HE := Lib.hid (rres_ent (c := c) (d := d) HV1.out HRZ.out (by rw [HCK.out.2]; exact hk0))
    have g1 : (ke == 0) = false := beq_eq_false_iff_ne.2 hk0
    have g2 : (ke != 0) = true := bne_iff_ne.2 hk0
    have HB1 := Lib.hid (HBW.out _ hb2')
    clear hk0 hb1 hb2 hb2'
    go_wp2_with fail
    go_ret2
    exact ⟨by rw [HE.out, HCK.out.1, HCK.out.2] <;> rfl, HB1.out⟩
  subst hk0
  have HZ := Lib.hid (ck_zero HCK.out.2)
  have hn4 : n ≤ 4000 := by have := HZ.out.1; have := HNN.out; omega
  have HB2 := Lib.hid hb2'
  obtain ⟨d0, d1, s0, s1, s2, dl, sl⟩ := HX.out w2 hb2'
  clear hb1 hb2 hb2' e0 e1 t0 t1 t2 el tl
  obtain ⟨F, hF⟩ : ∃ F, frmZ (clsOf c) (isNf (clsOf c) (fun r => (deep d 4 r).1)) es = F := ⟨_, rfl⟩
  have HF := Lib.hid hF
  clear hF
  go_wp2_with fail
  go_loopw [51] (fun iv wr => ∃ k : Nat, iv = .int .i64 k ∧ k ≤ n ∧ (∀ (j : Nat) x, j < k → es[j]? = some x → F x = 0) ∧ Below V0.heap.size V0 wr) (fun iv _ => n - (intOf iv).toNat)
  case atStart => exact ⟨0, rfl, Nat.zero_le _, fun j x hj => absurd hj (Nat.not_lt_zero _), HB2.out⟩
  case round =>
    obtain ⟨k, rfl, hk, hd, hb⟩ := hrel
    have HD := Lib.hid hd
    have HB := Lib.hid hb
    by_cases hlt : k < n
    · have q1 : (k : Int) < (n : Int) := by omega
      obtain ⟨x, hx⟩ : ∃ x, es[k]? = some x := ⟨_, List.getElem?_eq_getElem (by have := HNN.out; omega)⟩
      obtain ⟨b, o, cv, uv, rfl, hbR, hbl, c0, c1, hci, hui⟩ := (HES.out.kept (Kept.below hb)).at k x hx
      have HC := Lib.hid hci
      have hez := eErr_zero (HZ.out.2.1 x (List.mem_of_getElem? hx))
      have hx1 := hez.1
      have hx8 := hez.2.1
      have HX1 := Lib.hid hx
      obtain ⟨pc, cc, rfl, _⟩ := hci
      obtain ⟨pu, cu, rfl, _⟩ := hui
      obtain ⟨m, hm⟩ : ∃ m, m = x.2.length := ⟨_, rfl⟩
      rw [← hm] at c1
      have HLT := Lib.hid hlt
      obtain ⟨l, hcl⟩ : ∃ l, l = x.1.length := ⟨_, rfl⟩
      rw [← hcl] at c0 HC hx1 hx8
      have HLL := Lib.hid hcl
      have hba : Below wr.heap.size wr (wr.alloc (.cells #[.slice pc l cc, .slice pu m cu] 45)) := (Below.refl _ wr).alloc (Nat.le_refl _) _
      have HBA : Hid (Below V0.heap.size V0 (wr.alloc (.cells #[.slice pc l cc, .slice pu m cu] 45))) := hb.trans (hba.mono hb.size)
      have e0 : (wr.alloc (.cells #[.slice pc l cc, .slice pu m cu] 45)).cell? ⟨wr.heap.size, 0, none⟩ = some (.slice pc l cc) := by rw [World.cell?_alloc_at _ _ _ _ rfl]; rfl
      have ez : wr.heap.size < (wr.alloc (.cells #[.slice pc l cc, .slice pu m cu] 45)).heap.size := by simp
      have HCA := Lib.hid (HC.out.kept (Kept.below hba))
      clear hx hd hlt hk hm hcl hez hb d0 d1 s0 s1 s2 dl sl hba
      obtain ⟨d0, d1, s0, s1, s2, dl, sl⟩ := HX.out _ HBA.out
      go_wp2_with fail
      generalize wr.alloc (.cells #[.slice pc l cc, .slice pu m cu] 45) = W0 at *
      generalize wr.heap.size = eb at *
      have hco : l ≤ cc := by obtain ⟨_, _, e, h, _⟩ := HCA.out; injection e with _ e2 e3; have := HLL.out; omega
      have his := rIs_any _ _ _ c d _ _ x.1 (.slice pc l cc) W0 (HU.out.kept (Kept.below HBA.out)) (HV.out.kept (Kept.below HBA.out)) HDO.out HCA.out (by have := HLL.out; omega)
      obtain ⟨bN, hbN⟩ : ∃ bN, isNf (clsOf c) (fun r => (deep d 4 r).1) x.1 = bN := ⟨_, rfl⟩
      rw [hbN] at his
      have HBN := Lib.hid hbN
      clear hbN
      with_reducible refine his.mono ?_
      rintro e w5 ⟨rfl, hb5⟩
      have HB5 : Hid (Below V0.heap.size V0 w5) := HBA.out.trans (hb5.mono HBA.out.size)
      have HC5 := Lib.hid (HCA.out.kept (Kept.below hb5))
      have g1 := (hb5.cell (p := ⟨eb, 0, none⟩) ez).trans e0
      have hz5 : eb < w5.heap.size := Nat.lt_of_lt_of_le ez hb5.size
      clear his hb5 d0 d1 s0 s1 s2 dl sl e0 ez c0 c1
      cases bN with
      | false =>
        have HE := Lib.hid (rres_frm (ver := ver) HV1.out HRZ.out HCK.out.2 HX1.out (by rw [HF.out]; exact HD.out) (frmZ_bad HBN.out) (by decide))
        go_wp2_with fail
        go_ret2
        exact ⟨by rw [HE.out] <;> rfl, HBW.out _ HB5.out⟩
      | true =>
        obtain ⟨j, hlj⟩ : ∃ j : Nat, (l : Int) - 1 = (j : Int) := ⟨l - 1, by omega⟩
        have hj7 : j ≤ 7 := by omega
        have HLJ : Hid (l = j + 1 ∧ x.1.length = j + 1) := ⟨by omega, by have := HLL.out; omega⟩
        have HGO : Hid (F x = 0 → ∀ W, Below V0.heap.size V0 W → ∃ k' : Nat, Value.int .i64 ((k : Int) + 1) = .int .i64 k' ∧ k' ≤ n ∧ (∀ (j : Nat) x, j < k' → es[j]? = some x → F x = 0) ∧ Below V0.heap.size V0 W) := by
          show _ → ∀ W, _
          intro hz W hW
          refine ⟨k + 1, by simp, HLT.out, fun i z hi hzz => ?_, hW⟩
          rcases Nat.lt_succ_iff_lt_or_eq.1 hi with h | rfl
          · exact HD.out i z h hzz
          · rw [HX1.out] at hzz; cases hzz; exact hz
        by_cases hj2 : j < 2
        · have HZ0 : Hid (F x = 0) := by show _ = _; rw [← HF.out]; exact frmZ_ok HBN.out (preV_short (by have := HLJ.out.2; omega))
          have q3 : decide ((l : Int) ≥ 3) = false := decide_eq_false (by omega)
          have q4 : decide (l ≥ 3) = false := decide_eq_false (by have := HLJ.out.1; omega)
          have q5 : decide (3 ≤ l) = false := decide_eq_false (by have := HLJ.out.1; omega)
          clear hj2
          go_wp2_with fail
          go_quiet (fail)
          go_wp2_with fail
          go_roundw
          case rel => exact HGO.out HZ0.out _ (HB5.out.trans ((below_drewM _ _).mono HB5.out.size))
          case measure => (have := HLT.out; simp [intOf]; omega)
        · have q3 : decide ((l : Int) ≥ 3) = true := decide_eq_true (by omega)
          have q4 : decide (l ≥ 3) = true := decide_eq_true (by have := HLJ.out.1; omega)
          have q5 : decide (3 ≤ l) = true := decide_eq_true (by have := HLJ.out.1; omega)
          have HJ2 : Hid (2 ≤ j) := by show _ ≤ _; omega
          obtain ⟨r, hr⟩ : ∃ r, x.1[j]? = some r := ⟨_, List.getElem?_eq_getElem (by have := HLJ.out.2; omega)⟩
          obtain ⟨p', cap', e, _, hcc⟩ := HC5.out
          injection e with e1 e2 e3
          clear e2 e3
          subst e1
          obtain ⟨cb, co, rfl, hcR, hcl, hcr⟩ := hcc j r hr
          have hjl : j < l := by have := HLJ.out.1; omega
          have HPV := Lib.hid (preV_long (cls := clsOf c) (es := es) HLJ.out.2 HJ2.out hr)
          have HCLS := Lib.hid (rclass_any _ c (.slice up nu uc) r w5.drew (HU.out.kept (Kept.below (HB5.out.drew))) (data_parts HDO.out).1)
          obtain ⟨cz, hcz⟩ : ∃ cz, clsOf c r = cz := ⟨_, rfl⟩
          rw [hcz] at HCLS HPV
          clear hcz hr hj2 hcc
          obtain ⟨d0, d1, s0, s1, s2, dl, sl⟩ := HX.out w5 HB5.out
          have hq0 : w5.drew.cell? ⟨db, 0, none⟩ = some (.slice up nu uc) := d0
          have hq1 : w5.drew.cell? ⟨eb, 0, none⟩ = some (.slice (some ⟨cb, co, none⟩) l cc) := g1
          have hq2 : w5.drew.cell? ⟨cb, co + j, none⟩ = some (.int .i32 r) := hcr
          go_wp2_with fail
          have hwj : IntKind.i64.wrap (j : Int) = (j : Int) := IntWalk.i64_in _ (by omega)
          go_region_held (fun V : World => V.cell? ⟨db, 0, none⟩ = some (.slice up nu uc) ∧ V.cell? ⟨eb, 0, none⟩ = some (.slice (some ⟨cb, co, none⟩) l cc) ∧ V.cell? ⟨cb, co + j, none⟩ = some (.int .i32 r)) (first | exact ⟨hq0, hq1, hq2⟩ | assumption) ((refine HCLS.out.mono ?_; rintro e w6 ⟨rfl, hb6⟩; have HB6 := Lib.hid hb6; have hs6 := And.intro ((hb6.cell (p := ⟨db, 0, none⟩) dl).trans hq0) (And.intro ((hb6.cell (p := ⟨eb, 0, none⟩) hz5).trans hq1) ((hb6.cell (p := ⟨cb, co + j, none⟩) hcl).trans hcr))))
          rename_i hdup
          have HB6' : Hid (Below w5.heap.size w5 w6) := ((Below.refl _ w5).drew).trans HB6.out
          have HBV6 : Hid (Below V0.heap.size V0 w6) := HB5.out.trans (HB6'.out.mono HB5.out.size)
          have HC6 := Lib.hid (HC5.out.kept (Kept.below HB6'.out))
          have hz6 : eb < w6.heap.size := Nat.lt_of_lt_of_le hz5 HB6'.out.size
          obtain ⟨m0, m1, m2⟩ := hs6
          clear hwj hdup hb6 HB6 HB6' HC5 hq0 hq1 hq2 hcr hcl hz5 HCLS g1 d0 d1 s0 s1 s2 dl sl
          by_cases hc0 : cz = 0
          · subst hc0
            have HZ0 : Hid (F x = 0) := by show _ = _; rw [← HF.out]; exact frmZ_ok HBN.out (by rw [HPV.out]; rfl)
            go_wp2_with fail
            go_roundw
            case rel => exact HGO.out HZ0.out _ HBV6.out
            case measure => (have := HLT.out; simp [intOf]; omega)
          · have q6 : (cz == 0) = false := beq_eq_false_iff_ne.2 hc0
            have q7 : (cz != 0) = true := bne_iff_ne.2 hc0
            have HPV2 : Hid (preV (clsOf c) es x = (idx es (x.1.take j)).isSome) := by show _ = _; rw [HPV.out, decide_eq_false hc0, Bool.false_or]
            have hsl := fun w => slice_to32 w (some ⟨cb, co, none⟩) l cc j (by omega)
            have him : IntsIn Re .i32 w6 (sliced (some ⟨cb, co, none⟩) 0 j cc 1) (x.1.take j) := by
              have h2 : IntsIn Re .i32 w6 (.slice (some ⟨cb, co, none⟩) l cc) x.1 := HC6.out
              have h3 := h2.mid 0 j (Nat.zero_le _) (by have := HLJ.out.2; omega)
              simpa using h3
            have HGE := Lib.hid (rGet_any _ _ es (x.1.take j) (.slice (some ⟨b, o, none⟩) n ec) (sliced (some ⟨cb, co, none⟩) 0 j cc 1) w6.drew (HES.out.kept (Kept.below HBV6.out.drew)) (him.kept (Kept.below ((Below.refl _ w6).drew))) HOK.out HL.out.2 (by rw [List.length_take]; omega))
            obtain ⟨d0, d1, s0, s1, s2, dl, sl⟩ := HX.out w6 HBV6.out
            have hq0 : w6.drew.cell? ⟨sb, 2, none⟩ = some (.slice (some ⟨b, o, none⟩) n ec) := s2
            have hq1 : w6.drew.cell? ⟨eb, 0, none⟩ = some (.slice (some ⟨cb, co, none⟩) l cc) := m1
            generalize sliced (some ⟨cb, co, none⟩) 0 j cc 1 = sd at *
            clear him HPV hc0 m0 m2
            go_wp2_with fail
            have hwj : IntKind.i64.wrap (j : Int) = (j : Int) := IntWalk.i64_in _ (by omega)
            go_region_held (fun V : World => V.cell? ⟨sb, 2, none⟩ = some (.slice (some ⟨b, o, none⟩) n ec) ∧ V.cell? ⟨eb, 0, none⟩ = some (.slice (some ⟨cb, co, none⟩) l cc)) (first | exact ⟨hq0, hq1⟩ | assumption) ((refine HGE.out.mono ?_; rintro e w7 ⟨u7, rfl, hu7, hb7⟩; have HB7 := Lib.hid hb7; have hs7 := And.intro ((hb7.cell (p := ⟨sb, 2, none⟩) sl).trans hq0) ((hb7.cell (p := ⟨eb, 0, none⟩) hz6).trans hq1)))
            rename_i hdup
            have HBV7 : Hid (Below V0.heap.size V0 w7) := HBV6.out.trans ((((Below.refl _ w6).drew).trans HB7.out).mono HBV6.out.size)
            clear hwj hdup hs7 hq0 hq1 m1 hsl hb7 hu7 HGE d0 d1 s0 s1 s2 dl sl
            cases hid : (idx es (x.1.take j)).isSome with
            | true =>
              have HZ0 : Hid (F x = 0) := by show _ = _; rw [← HF.out]; exact frmZ_ok HBN.out (by rw [HPV2.out, hid])
              clear hid
              go_wp2_with fail
              go_roundw
              case rel => exact HGO.out HZ0.out _ HBV7.out
              case measure => (have := HLT.out; simp [intOf]; omega)
            | false =>
              have HE := Lib.hid (rres_frm (ver := ver) HV1.out HRZ.out HCK.out.2 HX1.out (by rw [HF.out]; exact HD.out) (frmZ_pre HBN.out (by rw [HPV2.out, hid])) (by decide))
              clear hid
              go_wp2_with fail
              go_ret2
              exact ⟨by rw [HE.out] <;> rfl, HBW.out _ HBV7.out⟩
    · have q1 : ¬ (k : Int) < (n : Int) := by omega
      have HF0 : Hid (fstZ (frmZ (clsOf c) (isNf (clsOf c) (fun r => (deep d 4 r).1)) es) 0 es = none) := by
        show _ = _
        rw [HF.out]
        exact fst_all (fun j y hj hy => HD.out j y (by have := HNN.out; omega) hy)
      clear hlt hk hb hd d0 d1 s0 s1 s2 dl sl HD HF HB2
      have HBV := Lib.hid HB.out
      clear HB
      generalize wr = W3 at *
      have HHE : Hid (∀ x ∈ es, x.2.length ≤ 16) := fun x hx => (eErr_zero (HZ.out.2.1 x hx)).2.2.2.1
      have hgr := rgreatest_any _ es (.slice ep n ec) W3 (HES.out.kept (Kept.below HBV.out)) (by have := HNN.out; omega) HHE.out
      obtain ⟨g, hg⟩ : ∃ g, greatV 1073741824 es = g := ⟨_, rfl⟩
      rw [hg] at hgr
      have HG := Lib.hid hg
      clear hg
      obtain ⟨sg, tg, pg⟩ := g
      dsimp only at hgr
      obtain ⟨d0, d1, s0, s1, s2, dl, sl⟩ := HX.out W3 HBV.out
      go_wp2_with fail
      with_reducible refine hgr.mono ?_
      rintro e w4 ⟨rfl, hb4⟩
      have hb4' : Below V0.heap.size V0 w4 := HBV.out.trans (hb4.mono HBV.out.size)
      have HB4 := Lib.hid hb4'
      clear hgr hb4 d0 d1 s0 s1 s2 dl sl
      obtain ⟨d0, d1, s0, s1, s2, dl, sl⟩ := HX.out w4 hb4'
      clear hb4' HBV
      go_wp2_with fail
      go_loopw [104] (fun iv wr => ∃ k : Nat, iv = .int .i64 k ∧ k ≤ n ∧ (∀ (j : Nat) x, j < k → es[j]? = some x → ordZ (sg, tg, pg) x = 0) ∧ Below V0.heap.size V0 wr) (fun iv _ => n - (intOf iv).toNat)
      case atStart => exact ⟨0, rfl, Nat.zero_le _, fun j x hj => absurd hj (Nat.not_lt_zero _), HB4.out⟩
      case round =>
        obtain ⟨k, rfl, hk, hd, hb⟩ := hrel
        have HD := Lib.hid hd
        have HB := Lib.hid hb
        by_cases hlt : k < n
        · have q1 : (k : Int) < (n : Int) := by omega
          obtain ⟨x, hx⟩ : ∃ x, es[k]? = some x := ⟨_, List.getElem?_eq_getElem (by have := HNN.out; omega)⟩
          obtain ⟨b, o, cv, uv, rfl, _, hbl, c0, c1, hci, hui⟩ := (HES.out.kept (Kept.below hb)).at k x hx
          have HU1 := Lib.hid hui
          have hm16 := (eErr_zero (HZ.out.2.1 x (List.mem_of_getElem? hx))).2.2.2.1
          have HX1 := Lib.hid hx
          obtain ⟨pc, cc, rfl, _⟩ := hci
          obtain ⟨pu, cu, rfl, _⟩ := hui
          obtain ⟨m, hm⟩ : ∃ m, m = x.2.length := ⟨_, rfl⟩
          rw [← hm] at hm16 c1 HU1
          have HMM := Lib.hid hm
          have HLT := Lib.hid hlt
          obtain ⟨l, hcl⟩ : ∃ l, l = x.1.length := ⟨_, rfl⟩
          rw [← hcl] at c0
          clear hx hb hd hlt hk hm hcl
          go_wp2_with fail
          have ha : Below wr.heap.size wr (wr.alloc (.cells #[.slice pc l cc, .slice pu m cu] 45)) := (Below.refl _ wr).alloc (Nat.le_refl _) _
          have HBX : Hid (Below V0.heap.size V0 (wr.alloc (.cells #[.slice pc l cc, .slice pu m cu] 45))) := HB.out.trans (ha.mono HB.out.size)
          have HU0 := Lib.hid (HU1.out.kept (Kept.below ha))
          clear ha
          generalize wr.alloc (.cells #[.slice pc l cc, .slice pu m cu] 45) = W0 at *
          go_loopw [112] (fun jv wr => ∃ j : Nat, jv = .int .i64 j ∧ j ≤ m ∧ (∀ (i : Nat) y, i < j → x.2[i]? = some y → ordB (sg, tg, pg) y = true) ∧ Below W0.heap.size W0 wr) (fun jv _ => m - (intOf jv).toNat)
          case atStart => exact ⟨0, rfl, Nat.zero_le _, fun j x hj => absurd hj (Nat.not_lt_zero _), Below.refl _ _⟩
          case round =>
            obtain ⟨j, rfl, hj, hdj, hbj⟩ := hrel
            have HBJ := Lib.hid hbj
            have HDJ := Lib.hid hdj
            by_cases hjt : j < m
            · have q2 : (j : Int) < (m : Int) := by omega
              obtain ⟨y, hy⟩ : ∃ y, x.2[j]? = some y := ⟨_, List.getElem?_eq_getElem (by have := HMM.out; omega)⟩
              obtain ⟨b2, o2, rfl, _, hbl2, e0, e1, e2, e3⟩ := (HU0.out.kept (Kept.below hbj)).at j y hy
              have HY := Lib.hid hy
              have HJT := Lib.hid hjt
              obtain ⟨y1, y2, y3, y4⟩ := y
              dsimp only at e0 e1 e2 e3
              have HLV := Lib.hid (fun w => rlevel_any y1 y2 y3 y4 w)
              obtain ⟨lv, hlv⟩ : ∃ lv, lvl y1 y2 y3 = lv := ⟨_, rfl⟩
              have HL9 : Hid (lvE (y1, y2, y3, y4) = lv) := hlv
              rw [hlv] at HLV
              clear hy hlv hbj hjt hj hdj
              go_wp2_with fail
              have hx0 : ∀ i v, #[Value.int .i64 y1, .int .i64 y2, .int .i64 y3, .bool y4][i]? = some v → (wr.alloc (.cells #[.int .i64 y1, .int .i64 y2, .int .i64 y3, .bool y4] 73)).cell? ⟨wr.heap.size, i, none⟩ = some v := fun i v hi => by
                rw [World.cell?_alloc_at _ _ _ _ rfl]; exact hi
              have hzz : wr.heap.size < (wr.alloc (.cells #[.int .i64 y1, .int .i64 y2, .int .i64 y3, .bool y4] 73)).heap.size := by simp
              have HB1 : Hid (Below W0.heap.size W0 (wr.alloc (.cells #[.int .i64 y1, .int .i64 y2, .int .i64 y3, .bool y4] 73))) := HBJ.out.alloc HBJ.out.size _
              have x0 := hx0 0 (.int .i64 y1) rfl
              have x1 := hx0 1 (.int .i64 y2) rfl
              have x2 := hx0 2 (.int .i64 y3) rfl
              have x3 := hx0 3 (.bool y4) rfl
              clear hx0
              generalize wr.alloc (.cells #[.int .i64 y1, .int .i64 y2, .int .i64 y3, .bool y4] 73) = W1 at *
              refine (HLV.out _).mono ?_
              rintro e w5 ⟨rfl, hb5⟩
              have f1 := (hb5.cell (p := ⟨wr.heap.size, 1, none⟩) hzz).trans x1
              have f2 := (hb5.cell (p := ⟨wr.heap.size, 2, none⟩) hzz).trans x2
              have hz5 : wr.heap.size < w5.heap.size := Nat.lt_of_lt_of_le hzz hb5.size
              have HB5 := Lib.hid (HB1.out.trans (hb5.mono HB1.out.size))
              have HBZ := Lib.hid (HBW.out _ (HBX.out.trans (HB5.out.mono HBX.out.size)))
              clear hb5 x0 x1 x2 x3 hzz HB1 HLV e0 e1 e2 e3
              have HGO : Hid (ordB (sg, tg, pg) (y1, y2, y3, y4) = true → ∃ j' : Nat, Value.int .i64 ((j : Int) + 1) = .int .i64 j' ∧ j' ≤ m ∧ (∀ (i : Nat) y, i < j' → x.2[i]? = some y → ordB (sg, tg, pg) y = true) ∧ Below W0.heap.size W0 w5) := by
                show _ → _
                intro hyes
                refine ⟨j + 1, by simp, HJT.out, fun i y hi hy => ?_, HB5.out⟩
                rcases Nat.lt_succ_iff_lt_or_eq.1 hi with h | rfl
                · exact HDJ.out i y h hy
                · rw [HY.out] at hy; cases hy; exact hyes
              have HTH : Hid (ordB (sg, tg, pg) (y1, y2, y3, y4) = false → rres c d ver rs es = ((k : Int), 110)) := by
                show _ → _
                intro hno
                exact rres_ord HV1.out HRZ.out HCK.out.2 HF0.out HX1.out (by rw [HG.out]; exact HD.out) (by rw [HG.out]; exact ordZ_no HY.out hno) (by decide)
              by_cases hl2 : lv = 2
              · have HO := Lib.hid (ordB_2 (g := (sg, tg, pg)) HL9.out hl2)
                subst hl2
                clear HL9
                rcases Int.lt_or_le sg y2 with k1 | k1
                · have HYES : Hid (ordB (sg, tg, pg) (y1, y2, y3, y4) = true) := by show _ = _; rw [HO.out]; exact decide_eq_true k1
                  have g1 : decide (y2 ≤ sg) = false := decide_eq_false (by omega)
                  clear k1
                  go_wp2_with fail
                  go_roundw
                  case rel => exact HGO.out HYES.out
                  case measure => (have := HJT.out; simp [intOf]; omega)
                · have HNO : Hid (ordB (sg, tg, pg) (y1, y2, y3, y4) = false) := by show _ = _; rw [HO.out]; exact decide_eq_false (by dsimp only; omega)
                  have HE := Lib.hid (HTH.out HNO.out)
                  have g1 : decide (y2 ≤ sg) = true := decide_eq_true k1
                  clear k1
                  go_wp2_with fail
                  go_ret2
                  exact ⟨by rw [HE.out] <;> rfl, HBZ.out⟩
              · by_cases hl3 : lv = 3
                · have HO := Lib.hid (ordB_3 (g := (sg, tg, pg)) HL9.out hl3)
                  subst hl3
                  clear HL9 hl2
                  rcases Int.lt_or_le tg y3 with k1 | k1
                  · have HYES : Hid (ordB (sg, tg, pg) (y1, y2, y3, y4) = true) := by show _ = _; rw [HO.out]; exact decide_eq_true k1
                    have g1 : decide (y3 ≤ tg) = false := decide_eq_false (by omega)
                    clear k1
                    go_wp2_with fail
                    go_roundw
                    case rel => exact HGO.out HYES.out
                    case measure => (have := HJT.out; simp [intOf]; omega)
                  · have HNO : Hid (ordB (sg, tg, pg) (y1, y2, y3, y4) = false) := by show _ = _; rw [HO.out]; exact decide_eq_false (by dsimp only; omega)
                    have HE := Lib.hid (HTH.out HNO.out)
                    have g1 : decide (y3 ≤ tg) = true := decide_eq_true k1
                    clear k1
                    go_wp2_with fail
                    go_ret2
                    exact ⟨by rw [HE.out] <;> rfl, HBZ.out⟩
                · have HYES := Lib.hid (ordB_0 (g := (sg, tg, pg)) HL9.out hl2 hl3)
                  have g1 : (lv == 2) = false := beq_eq_false_iff_ne.2 hl2
                  have g2 : (lv == 3) = false := beq_eq_false_iff_ne.2 hl3
                  clear hl2 hl3 HL9
                  go_wp2_with fail
                  go_roundw
                  case rel => exact HGO.out HYES.out
                  case measure => (have := HJT.out; simp [intOf]; omega)
            · have q2 : ¬ (j : Int) < (m : Int) := by omega
              have HRO : Hid (∃ k' : Nat, Value.int .i64 ((k : Int) + 1) = .int .i64 k' ∧ k' ≤ n ∧ (∀ (i : Nat) x, i < k' → es[i]? = some x → ordZ (sg, tg, pg) x = 0) ∧ Below V0.heap.size V0 wr) := by
                refine ⟨k + 1, by simp, HLT.out, fun i z hi hz => ?_, HBX.out.trans (HBJ.out.mono HBX.out.size)⟩
                rcases Nat.lt_succ_iff_lt_or_eq.1 hi with h | rfl
                · exact HD.out i z h hz
                · rw [HX1.out] at hz; cases hz
                  refine ordZ_yes (fun i y hy => HDJ.out i y ?_ hy)
                  have := (List.getElem?_eq_some_iff.1 hy).1
                  have := HMM.out
                  omega
              clear hj hjt hbj hdj
              go_wp2_with fail
              go_roundw
              case rel => exact HRO.out
              case measure => (have := HLT.out; simp [intOf]; omega)
        · have q1 : ¬ (k : Int) < (n : Int) := by omega
          have HO0 : Hid (fstZ (ordZ (greatV 1073741824 es)) 0 es = none) := by
            show _ = _
            rw [HG.out]
            exact fst_all (fun j y hj hy => HD.out j y (by have := HNN.out; omega) hy)
          clear hlt hk hb hd d0 d1 s0 s1 s2 dl sl HD HB4
          have HBV := Lib.hid HB.out
          clear HB
          generalize wr = W5 at *
          obtain ⟨d0, d1, s0, s1, s2, dl, sl⟩ := HX.out W5 HBV.out
          go_wp2_with fail
          go_loopw [142] (fun iv wr => ∃ k : Nat, iv = .int .i64 k ∧ k ≤ n ∧ (∀ (j : Nat) x, j < k → es[j]? = some x → varZ (sg, tg, pg) x = 0) ∧ Below V0.heap.size V0 wr) (fun iv _ => n - (intOf iv).toNat)
          case atStart => exact ⟨0, rfl, Nat.zero_le _, fun j x hj => absurd hj (Nat.not_lt_zero _), HBV.out⟩
          case round =>
            obtain ⟨k, rfl, hk, hd, hb⟩ := hrel
            have HD := Lib.hid hd
            have HB := Lib.hid hb
            by_cases hlt : k < n
            · have q1 : (k : Int) < (n : Int) := by omega
              obtain ⟨x, hx⟩ : ∃ x, es[k]? = some x := ⟨_, List.getElem?_eq_getElem (by have := HNN.out; omega)⟩
              obtain ⟨b, o, cv, uv, rfl, _, hbl, c0, c1, hci, hui⟩ := (HES.out.kept (Kept.below hb)).at k x hx
              have HU1 := Lib.hid hui
              have hm16 := (eErr_zero (HZ.out.2.1 x (List.mem_of_getElem? hx))).2.2.2.1
              have HX1 := Lib.hid hx
              obtain ⟨pc, cc, rfl, _⟩ := hci
              obtain ⟨pu, cu, rfl, _⟩ := hui
              obtain ⟨m, hm⟩ : ∃ m, m = x.2.length := ⟨_, rfl⟩
              rw [← hm] at hm16 c1 HU1
              have HMM := Lib.hid hm
              have HLT := Lib.hid hlt
              obtain ⟨l, hcl⟩ : ∃ l, l = x.1.length := ⟨_, rfl⟩
              rw [← hcl] at c0
              clear hx hb hd hlt hk hm hcl
              go_wp2_with fail
              have ha : Below wr.heap.size wr (wr.alloc (.cells #[.slice pc l cc, .slice pu m cu] 45)) := (Below.refl _ wr).alloc (Nat.le_refl _) _
              have HBX : Hid (Below V0.heap.size V0 (wr.alloc (.cells #[.slice pc l cc, .slice pu m cu] 45))) := HB.out.trans (ha.mono HB.out.size)
              have HU0 := Lib.hid (HU1.out.kept (Kept.below ha))
              clear ha
              generalize wr.alloc (.cells #[.slice pc l cc, .slice pu m cu] 45) = W0 at *
              go_loopw [24, 25, 150] (fun hv pv jv wr => ∃ j : Nat, jv = .int .i64 j ∧ j ≤ m ∧ hv = .bool ((x.2.take j).any (fun y => y.2.2.2)) ∧ pv = .bool ((x.2.take j).any plnB) ∧ (∀ (i : Nat) y, i < j → x.2[i]? = some y → (y.2.2.2 && decide (pg ≤ y.1)) = false) ∧ Below W0.heap.size W0 wr) (fun _ _ jv _ => m - (intOf jv).toNat)
              case atStart => exact ⟨0, rfl, Nat.zero_le _, rfl, rfl, fun j x hj => absurd hj (Nat.not_lt_zero _), Below.refl _ _⟩
              case round =>
                obtain ⟨j, rfl, hj, rfl, rfl, hdj, hbj⟩ := hrel
                have HBJ := Lib.hid hbj
                have HDJ := Lib.hid hdj
                by_cases hjt : j < m
                · have q2 : (j : Int) < (m : Int) := by omega
                  obtain ⟨y, hy⟩ : ∃ y, x.2[j]? = some y := ⟨_, List.getElem?_eq_getElem (by have := HMM.out; omega)⟩
                  obtain ⟨b2, o2, rfl, _, hbl2, e0, e1, e2, e3⟩ := (HU0.out.kept (Kept.below hbj)).at j y hy
                  have HY := Lib.hid hy
                  have HJT := Lib.hid hjt
                  have HA1 : Hid ((x.2.take (j + 1)).any (fun y => y.2.2.2) = ((x.2.take j).any (fun y => y.2.2.2) || y.2.2.2)) := by show _ = _; rw [take_snocR hy, List.any_append]; simp
                  have HA2 : Hid ((x.2.take (j + 1)).any plnB = ((x.2.take j).any plnB || plnB y)) := by show _ = _; rw [take_snocR hy, List.any_append]; simp
                  obtain ⟨y1, y2, y3, y4⟩ := y
                  dsimp only at e0 e1 e2 e3 HA1
                  have HLV := Lib.hid (fun w => rlevel_any y1 y2 y3 y4 w)
                  obtain ⟨lv, hlv⟩ : ∃ lv, lvl y1 y2 y3 = lv := ⟨_, rfl⟩
                  have HP9 : Hid (plnB (y1, y2, y3, y4) = (decide (lv = 1) && !y4)) := by show _ = _; rw [← hlv]; rfl
                  rw [hlv] at HLV
                  have HGO : Hid (∀ (h2 p2 : Bool) (W : World), ((x.2.take j).any (fun y => y.2.2.2) || y4) = h2 → ((x.2.take j).any plnB || (decide (lv = 1) && !y4)) = p2 → (y4 && decide (pg ≤ y1)) = false → Below W0.heap.size W0 W → ∃ j' : Nat, Value.int .i64 ((j : Int) + 1) = .int .i64 j' ∧ j' ≤ m ∧ Value.bool h2 = .bool ((x.2.take j').any (fun y => y.2.2.2)) ∧ Value.bool p2 = .bool ((x.2.take j').any plnB) ∧ (∀ (i : Nat) y, i < j' → x.2[i]? = some y → (y.2.2.2 && decide (pg ≤ y.1)) = false) ∧ Below W0.heap.size W0 W) := by
                    show ∀ h2 p2 W, _
                    rintro h2 p2 W rfl rfl hno hW
                    refine ⟨j + 1, by simp, HJT.out, by rw [HA1.out], by rw [HA2.out, HP9.out], fun i z hi hz => ?_, hW⟩
                    rcases Nat.lt_succ_iff_lt_or_eq.1 hi with h | rfl
                    · exact HDJ.out i z h hz
                    · have e := Option.some.inj (HY.out.symm.trans hz); rw [← e]; exact hno
                  have HTH : Hid ((y4 && decide (pg ≤ y1)) = true → rres c d ver rs es = ((k : Int), 111)) := by
                    show _ → _
                    intro hyes
                    exact rres_var HV1.out HRZ.out HCK.out.2 HF0.out HO0.out HX1.out (by rw [HG.out]; exact HD.out) (by rw [HG.out]; exact varZ_over (List.any_eq_true.2 ⟨_, List.mem_of_getElem? HY.out, hyes⟩)) (by decide)
                  have HBZ : Hid (∀ W, Below W0.heap.size W0 W → Below w.heap.size w W) := fun W hW => HBW.out _ (HBX.out.trans (hW.mono HBX.out.size))
                  generalize (x.2.take j).any (fun y => y.2.2.2) = h1 at *
                  generalize (x.2.take j).any plnB = p1 at *
                  clear hy hlv hbj hjt hj hdj HA1 HA2 HP9
                  cases y4 with
                  | true =>
                    rcases Int.lt_or_le y1 pg with k1 | k1
                    · have g1 : decide (pg ≤ y1) = false := decide_eq_false (by omega)
                      have HNO : Hid ((true && decide (pg ≤ y1)) = false) := by show _ = _; rw [g1]; rfl
                      clear k1
                      cases h1 <;> cases p1
                      all_goals (
                        go_wp2_with fail
                        have HB1 : Hid (Below W0.heap.size W0 (wr.alloc (.cells #[.int .i64 y1, .int .i64 y2, .int .i64 y3, .bool true] 73))) := HBJ.out.alloc HBJ.out.size _
                        go_roundw
                        case rel => exact HGO.out _ _ _ rfl (by simp) HNO.out HB1.out
                        case measure => (have := HJT.out; simp [intOf]; omega))
                    · have g1 : decide (pg ≤ y1) = true := decide_eq_true k1
                      have HE : Hid (rres c d ver rs es = ((k : Int), 111)) := HTH.out (by rw [g1]; rfl)
                      have HB1 : Hid (Below W0.heap.size W0 (wr.alloc (.cells #[.int .i64 y1, .int .i64 y2, .int .i64 y3, .bool true] 73))) := HBJ.out.alloc HBJ.out.size _
                      clear k1
                      go_wp2_with fail
                      go_ret2
                      exact ⟨by rw [HE.out] <;> rfl, HBZ.out _ HB1.out⟩
                  | false =>
                    cases p1 with
                    | true =>
                      cases h1
                      all_goals (
                        go_wp2_with fail
                        have HB1 : Hid (Below W0.heap.size W0 (wr.alloc (.cells #[.int .i64 y1, .int .i64 y2, .int .i64 y3, .bool false] 73))) := HBJ.out.alloc HBJ.out.size _
                        go_roundw
                        case rel => exact HGO.out _ _ _ rfl rfl rfl HB1.out
                        case measure => (have := HJT.out; simp [intOf]; omega))
                    | false =>
                      by_cases hl1 : lv = 1
                      · subst hl1
                        cases h1
                        all_goals (
                          go_wp2_with fail
                          have HB1 : Hid (Below W0.heap.size W0 (wr.alloc (.cells #[.int .i64 y1, .int .i64 y2, .int .i64 y3, .bool false] 73))) := HBJ.out.alloc HBJ.out.size _
                          refine (HLV.out _).mono ?_
                          rintro e w6 ⟨rfl, hb6⟩
                          have HB6 := Lib.hid (HB1.out.trans (hb6.mono HB1.out.size))
                          clear hb6
                          go_wp2_with fail
                          go_roundw
                          case rel => exact HGO.out _ _ _ rfl rfl rfl HB6.out
                          case measure => (have := HJT.out; simp [intOf]; omega))
                      · have g1 : (lv == 1) = false := beq_eq_false_iff_ne.2 hl1
                        have HL1 : Hid (decide (lv = 1) = false) := decide_eq_false hl1
                        clear hl1
                        cases h1
                        all_goals (
                          go_wp2_with fail
                          have HB1 : Hid (Below W0.heap.size W0 (wr.alloc (.cells #[.int .i64 y1, .int .i64 y2, .int .i64 y3, .bool false] 73))) := HBJ.out.alloc HBJ.out.size _
                          refine (HLV.out _).mono ?_
                          rintro e w6 ⟨rfl, hb6⟩
                          have HB6 := Lib.hid (HB1.out.trans (hb6.mono HB1.out.size))
                          clear hb6
                          go_wp2_with fail
                          go_roundw
                          case rel => exact HGO.out _ _ _ rfl (by rw [HL1.out]; rfl) rfl HB6.out
                          case measure => (have := HJT.out; simp [intOf]; omega))
                · have q2 : ¬ (j : Int) < (m : Int) := by omega
                  have HJE : Hid (x.2.take j = x.2) := List.take_of_length_le (by have := HMM.out; omega)
                  have HOV : Hid (x.2.any (fun y => y.2.2.2 && decide (pg ≤ y.1)) = false) := by
                    show _ = _
                    rw [List.any_eq_false]
                    intro y hy
                    obtain ⟨i, hi⟩ := List.getElem?_of_mem hy
                    rw [HDJ.out i y (by have := (List.getElem?_eq_some_iff.1 hi).1; have := HMM.out; omega) hi]
                    exact Bool.false_ne_true
                  have HRO : Hid (varZ (sg, tg, pg) x = 0 → ∃ k' : Nat, Value.int .i64 ((k : Int) + 1) = .int .i64 k' ∧ k' ≤ n ∧ (∀ (i : Nat) x, i < k' → es[i]? = some x → varZ (sg, tg, pg) x = 0) ∧ Below V0.heap.size V0 wr) := by
                    show _ → _
                    intro hzz
                    refine ⟨k + 1, by simp, HLT.out, fun i z hi hz => ?_, HBX.out.trans (HBJ.out.mono HBX.out.size)⟩
                    rcases Nat.lt_succ_iff_lt_or_eq.1 hi with h | rfl
                    · exact HD.out i z h hz
                    · rw [HX1.out] at hz; cases hz; exact hzz
                  have HBZ := Lib.hid (HBW.out _ (HBX.out.trans (HBJ.out.mono HBX.out.size)))
                  rw [HJE.out]
                  clear hj hjt hbj hdj HJE
                  cases ha1 : x.2.any (fun y => y.2.2.2) with
                  | false =>
                    have HZ1 := Lib.hid (HRO.out (varZ_none ha1))
                    clear ha1
                    go_wp2_with fail
                    go_roundw
                    case rel => exact HZ1.out
                    case measure => (have := HLT.out; simp [intOf]; omega)
                  | true =>
                    cases ha2 : x.2.any plnB with
                    | true =>
                      have HE : Hid (rres c d ver rs es = ((k : Int), 111)) := rres_var HV1.out HRZ.out HCK.out.2 HF0.out HO0.out HX1.out (by rw [HG.out]; exact HD.out) (by rw [HG.out]; exact varZ_plain ha1 ha2) (by decide)
                      clear ha1 ha2
                      go_wp2_with fail
                      go_ret2
                      exact ⟨by rw [HE.out] <;> rfl, HBZ.out⟩
                    | false =>
                      have HZ1 := Lib.hid (HRO.out (varZ_ok ha2 HOV.out))
                      clear ha1 ha2
                      go_wp2_with fail
                      go_roundw
                      case rel => exact HZ1.out
                      case measure => (have := HLT.out; simp [intOf]; omega)
            · have q1 : ¬ (k : Int) < (n : Int) := by omega
              have HE : Hid (rres c d ver rs es = (0, 0)) := by
                refine rres_ok HV1.out HRZ.out HCK.out.2 HF0.out HO0.out ?_
                rw [HG.out]
                exact fst_all (fun j y hj hy => HD.out j y (by have := HNN.out; omega) hy)
              clear hlt hk hb hd
              go_wp2_with fail
              go_ret2
              exact ⟨by rw [HE.out] <;> rfl, HBW.out _ HB.out⟩
end Go.Proofs.YtnglhgogkemgbaaGreatDoor
