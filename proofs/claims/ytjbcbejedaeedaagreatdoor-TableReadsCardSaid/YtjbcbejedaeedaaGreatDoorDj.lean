/- Package table: Check, where nothing is wrong: walked. Package table: an entry's line, and Write, where nothing is wrong: walked. Package table: Write, where nothing is wrong and no range stands: walked. -/
import Derived.Test.YtjbcbejedaeedaaGreatDoorDh
import Derived.Test.YtjbcbejedaeedaaGreatDoorDf
import Derived.Test.YtjbcbejedaeedaaGreatDoorWc
/-! Package table: Check, where nothing is wrong: walked. -/
namespace Go.Proofs.YtjbcbejedaeedaaGreatDoor
open Go.RowKit

/-- entries that may stand, none twice -/
def EsOk (es : List Ent) : Prop := ∀ (k : Nat) x, es[k]? = some x → entOk x = true ∧ seenF (es.take k) (showW x.1) = 0
def ChkRel (es : List Ent) (mb : Nat) (W1 : World) (k : Nat) (W : World) : Prop := SMp W mb k (seenF (es.take k)) ∧ Only (fun i => i = mb) W1 W
set_option maxHeartbeats 8000000 in
set_option maxRecDepth 100000 in
theorem check_ok8 (R : Nat → Prop) (ver : ByteArray) (rs : List Rng) (es : List Ent) (rv ev : Value) (w : World) (hR : ∀ b, R b → b < w.heap.size) (hv : verB ver.data.toList = true) (hh : Lib.index ver.data.toList [35] = -1) (hr : RngsIn R w rv rs) (hrl : rs.length ≤ 1000000000) (hrc : rngC rs = 0) (he : EntsIn R w ev es) (hel : es.length ≤ 4000) (hok : EsOk es) (hm : ML w) :
    Calls Tryz.prog 37 #[.agg #[.string ver, rv, ev]] w fun e w' => e = .returned (.tuple #[.int .i64 0, .int .i64 0]) ∧ Below w.heap.size w w' := by
  have hvl : ver.size ≤ 32 := by
    unfold verB at hv
    simp only [Bool.and_eq_true, decide_eq_true_eq] at hv
    have := hv.1.2
    rwa [size_data] at this
  have HVR := Lib.hid (fun w => version_any ver w (by omega))
  rw [verI_yes hv] at HVR
  have HNH := Lib.hid (fun w hm => noHash_any ver w (by omega) hm hh)
  have hb0 : Below w.heap.size w (w.alloc (.cells #[.string ver, rv, ev] 26)) := (Below.refl _ w).alloc (Nat.le_refl _) _
  have hsrc : SrcIs (w.alloc (.cells #[.string ver, rv, ev] 26)) w.heap.size ver.data.toList rv ev := by
    have := World.alloc_heap_new w (.cells #[.string ver, rv, ev] 26)
    unfold SrcIs; rw [mkB_data]; exact this
  have HRG := Lib.hid (wRanges_any R rs rv _ (hr.kept (Kept.below hb0)) hrl)
  rw [hrc] at HRG
  have HE := Lib.hid (he.kept (Kept.below hb0))
  have HR := Lib.hid hR
  have HB0 := Lib.hid hb0
  have HM := Lib.hid hm
  have HOK := Lib.hid hok
  obtain ⟨rp, rc, rfl, _⟩ := hr
  obtain ⟨ep, ec, rfl, _⟩ := he
  obtain ⟨n, hn⟩ : ∃ n, n = es.length := ⟨_, rfl⟩
  rw [← hn] at hel HE hsrc HRG HB0 ⊢
  have HN := Lib.hid hn
  obtain ⟨s0, s1, s2, _, sl⟩ := hsrc.cells
  rw [mkB_data] at s0
  have HSC := Lib.hid hsrc
  have g1 : decide ((n : Int) > 4000) = false := decide_eq_false (by omega)
  have hmm := @run_makeMap Tryz.prog
  clear hn hv hh hrc hm hok hR hb0 hsrc hvl hrl
  go_enter Tryz.func37, Tryz.ntmps37
  go_wp2_with fail
  generalize w.alloc (.cells #[.string ver, .slice rp rs.length rc, .slice ep n ec] 26) = W0 at *
  refine (HVR.out _).mono ?_
  rintro e w' ⟨rfl, rfl⟩
  go_wp2_with fail
  refine (HNH.out _ (HM.out.below HB0.out)).mono ?_
  rintro e w' ⟨rfl, rfl⟩
  go_wp2_with fail
  refine HRG.out.mono ?_
  rintro e w1 ⟨rfl, hb1⟩
  have z2 := (hb1.cell (p := ⟨w.heap.size, 2, none⟩) sl).trans s2
  have zl : w.heap.size < w1.heap.size := Nat.lt_of_lt_of_le sl hb1.size
  have HB1 : Hid (Below w.heap.size w w1) := HB0.out.trans (hb1.mono HB0.out.size)
  have HE1 := Lib.hid (HE.out.kept (Kept.below hb1))
  clear hb1 s0 s1 s2 sl HRG HVR HNH
  go_wp2_with fail
  have hbW : Below w1.heap.size w1 ((w1.alloc (.map #[] 0)).alloc (.cells #[.map (some w1.heap.size)] 51)) := ((Below.refl _ w1).alloc (Nat.le_refl _) _).alloc (by simp) _
  have hmp : SMp ((w1.alloc (.map #[] 0)).alloc (.cells #[.map (some w1.heap.size)] 51)) w1.heap.size 0 (seenF []) := by
    have h0 : SMp (w1.alloc (.map #[] 0)) w1.heap.size 0 (seenF []) := KMap.made w1
    exact h0.same (Below.heap_alloc _ _ _ (by simp))
  have hmx0 : ((w1.alloc (.map #[] 0)).alloc (.cells #[.map (some w1.heap.size)] 51)).heap[w1.heap.size + 1]? = some (.cells #[.map (some w1.heap.size)] 51 (0, 0)) := by
    have := World.alloc_heap_new (w1.alloc (.map #[] 0)) (.cells #[.map (some w1.heap.size)] 51)
    rwa [World.size_alloc] at this
  generalize (w1.alloc (.map #[] 0)).alloc (.cells #[.map (some w1.heap.size)] 51) = W1 at *
  have y2 := (hbW.cell (p := ⟨w.heap.size, 2, none⟩) zl).trans z2
  have HEW := Lib.hid (HE1.out.kept (Kept.below hbW))
  have HBW : Hid (Below w.heap.size w W1) := HB1.out.trans (hbW.mono HB1.out.size)
  have hzb : w.heap.size ≤ w1.heap.size := HB1.out.size
  have HZB := Lib.hid hzb
  have hzl := (Array.getElem?_eq_some_iff.1 hmx0).1
  generalize w1.heap.size = mb at *
  have HM0 := Lib.hid hmp
  have HX0 := Lib.hid hmx0
  clear hmp hmx0 hbW z2 zl hmm
  go_loopw [33] (fun iv wr => ∃ k : Nat, iv = .int .i64 k ∧ k ≤ n ∧ ChkRel es mb W1 k wr) (fun iv _ => n - (intOf iv).toNat)
  case atStart => exact ⟨0, rfl, Nat.zero_le _, HM0.out, Only.refl _ _⟩
  case round =>
    obtain ⟨k, rfl, hk, hr⟩ := hrel
    have HRR := Lib.hid hr
    clear hr
    by_cases hlt : k < n
    · have q1 : (k : Int) < (n : Int) := by omega
      obtain ⟨x, hx⟩ : ∃ x, es[k]? = some x := ⟨_, List.getElem?_eq_getElem (by have := HN.out; omega)⟩
      have hRm : ∀ b, R b → b ≠ mb := fun b hb e => by have := HR.out b hb; have := HZB.out; omega
      have hko : Kept R W1 wr := ⟨HRR.out.2.size, fun b hb hl => HRR.out.2.block b hl (hRm b hb)⟩
      obtain ⟨b, o, c, u, rfl, _, hbl, c0, c1, hci, hui⟩ := (HEW.out.kept hko).at k x hx
      obtain ⟨hxo, hxs⟩ := HOK.out k x hx
      have hbX : Below wr.heap.size wr (wr.alloc (.cells #[c, u] 45)) := (Below.refl _ wr).alloc (Nat.le_refl _) _
      have h2 : TwoAt (wr.alloc (.cells #[c, u] 45)) wr.heap.size c u := World.alloc_heap_new wr _
      have hmx : wr.cell? ⟨mb + 1, 0, none⟩ = some (.map (some mb)) := by
        rw [World.cell?_of_block (a := ⟨mb + 1, 0, none⟩) (HRR.out.2.block (mb + 1) hzl (by omega))]
        simp [World.cell?, HX0.out]
      have hmw : ML wr := by
        have hb : Below w.heap.size w wr := ⟨HRR.out.2.os.trans HBW.out.os, HRR.out.2.tape.trans HBW.out.tape, HRR.out.2.output.trans HBW.out.output, Nat.le_trans HBW.out.size HRR.out.2.size, fun i hi => (HRR.out.2.block i (by have := HBW.out.size; omega) (by have := HZB.out; omega)).trans (HBW.out.block i hi)⟩
        exact HM.out.below hb
      have hg := gcheck_ok R wr.heap.size (mb + 1) mb k (es.take k) x c u (wr.alloc (.cells #[c, u] 45)) (hci.kept (Kept.below hbX)) (hui.kept (Kept.below hbX)) hRm hxo h2 ((hbX.cell (p := ⟨mb + 1, 0, none⟩) (cell_lt hmx)).trans hmx) (HRR.out.1.same (hbX.block mb HRR.out.1.lt)) (by omega) (hmw.below hbX) hxs
      rw [← take_snocR hx] at hg
      have HG := Lib.hid hg
      have HLT := Lib.hid hlt
      have HBX := Lib.hid hbX
      have hmf : ∀ (fn : Fn) (first cap : Array Value) (w : World), (Instr.makeFunc fn first cap).run Tryz.prog w = .ok (.func fn first cap) w := fun _ _ _ _ => rfl
      obtain ⟨cp, cc, rfl, _⟩ := hci
      obtain ⟨up, uc, rfl, _⟩ := hui
      clear hx hko hRm hxo hxs hbX h2 hmx hmw hg hk hlt
      go_wp2_with fail
      refine HG.out.mono ?_
      rintro e w3 ⟨rfl, hm3, ho3⟩
      have HH : Hid (ChkRel es mb W1 (k + 1) w3) := ⟨hm3, (HRR.out.2.below HBX.out).trans ho3⟩
      clear hm3 ho3
      go_wp2_with fail
      go_roundw
      case rel => exact ⟨k + 1, by go_num, HLT.out, HH.out⟩
      case measure => (have := HLT.out; simp [intOf]; omega)
    · have q1 : ¬ (k : Int) < (n : Int) := by omega
      clear hlt
      go_wp2_with fail
      go_ret2
      refine ⟨rfl, ⟨HRR.out.2.os.trans HBW.out.os, HRR.out.2.tape.trans HBW.out.tape, HRR.out.2.output.trans HBW.out.output, Nat.le_trans HBW.out.size HRR.out.2.size, fun i hi => (HRR.out.2.block i (by have := HBW.out.size; omega) (by have := HZB.out; omega)).trans (HBW.out.block i hi)⟩⟩
end Go.Proofs.YtjbcbejedaeedaaGreatDoor
/-! Package table: an entry's line, and Write, where nothing is wrong: walked. -/
namespace Go.Proofs.YtjbcbejedaeedaaGreatDoor
open Go.RowKit

theorem showL_len (p s t : Int) (v : Bool) : (strOfNums (showL p s t v)).size ≤ 17 := by
  rw [strOfNums_size]
  unfold showL
  split
  · simp [hex4]
  · simp
/-- between two rounds -/
def ShnRel (B : Nat) (w : World) (k : Nat) (W : World) : Prop := ∃ T : List UInt8, Bld B B T W ∧ T.length ≤ 9010 + 17 * k ∧ Below w.heap.size w W ∧ B < W.heap.size
set_option maxHeartbeats 4000000 in
set_option maxRecDepth 100000 in
theorem shown_any (R : Nat → Prop) (x : Ent) (c u : Value) (w : World) (hc : IntsIn R .i32 w c x.1) (hu : ElsIn R w u x.2) (h1 : x.1.length ≤ 1000) (h2 : x.2.length ≤ 1000) (hm : ML w) (hR : ∀ b, R b → b < w.heap.size) :
    Calls Tryz.prog 39 #[.agg #[c, u]] w fun e w' => (∃ s : ByteArray, e = .returned (.string s) ∧ s.size ≤ 1000000) ∧ Below w.heap.size w w' := by
  have hb0 : Below w.heap.size w (w.alloc (.cells #[c, u] 45)) := (Below.refl _ w).alloc (Nat.le_refl _) _
  have h20 : TwoAt (w.alloc (.cells #[c, u] 45)) w.heap.size c u := World.alloc_heap_new w _
  have HC := Lib.hid (hc.kept (Kept.below hb0))
  have HU := Lib.hid (hu.kept (Kept.below hb0))
  have HM := Lib.hid hm
  have HL1 := Lib.hid h1
  have HRB := Lib.hid hR
  obtain ⟨cp, cc, rfl, _⟩ := hc
  obtain ⟨up, uc, rfl, _⟩ := hu
  obtain ⟨m, hmm⟩ : ∃ m, m = x.2.length := ⟨_, rfl⟩
  rw [← hmm] at h2 HU h20 hb0 HC ⊢
  have HMM := Lib.hid hmm
  have HMS := Lib.hid h2
  have HB0 := Lib.hid hb0
  obtain ⟨t0, t1, _, tl⟩ := h20.cells
  clear hmm hb0 h20 hm h1 hR
  have hW0z : (w.alloc (.cells #[.slice cp x.1.length cc, .slice up m uc] 45)).heap.size = w.heap.size + 1 := by simp
  have HWZ := Lib.hid hW0z
  clear hW0z
  go_enter Tryz.func39, Tryz.ntmps39
  go_wp2_with fail
  generalize w.alloc (.cells #[.slice cp x.1.length cc, .slice up m uc] 45) = W0 at *
  have hbn := bld_new W0
  have hbb : Below W0.heap.size W0 (W0.alloc (.cells #[.pointer none, .slice none 0 0] 87)) := (Below.refl _ W0).alloc (Nat.le_refl _) _
  have hzz : W0.heap.size < (W0.alloc (.cells #[.pointer none, .slice none 0 0] 87)).heap.size := by simp
  generalize W0.alloc (.cells #[.pointer none, .slice none 0 0] 87) = W1 at *
  have HB1 : Hid (Below w.heap.size w W1) := HB0.out.trans (hbb.mono HB0.out.size)
  have HSH := Lib.hid (tshow_any R x.1 (.slice cp x.1.length cc) W1 (HC.out.kept (Kept.below hbb)) (by have := HL1.out; omega) (HM.out.below HB1.out))
  have u1 := (hbb.cell (p := ⟨w.heap.size, 1, none⟩) tl).trans t1
  have ul := Nat.lt_of_lt_of_le tl hbb.size
  have HU1 := Lib.hid (HU.out.kept (Kept.below hbb))
  rw [HWZ.out] at hbn hzz
  have HBN := Lib.hid hbn
  have HSL : Hid ((showW x.1).length ≤ 9000) := by show _ ≤ _; have := showW_len x.1; have := HL1.out; omega
  generalize showW x.1 = S at *
  clear hbn hbb t0 t1 tl
  refine HSH.out.mono ?_
  rintro e w2 ⟨rfl, hb2⟩
  have u2 := (hb2.cell (p := ⟨w.heap.size, 1, none⟩) ul).trans u1
  have ul2 := Nat.lt_of_lt_of_le ul hb2.size
  have hzz2 : w.heap.size + 1 < w2.heap.size := Nat.lt_of_lt_of_le hzz hb2.size
  have HBN2 := Lib.hid (bld_old HBN.out hb2)
  have HB2 : Hid (Below w.heap.size w w2) := HB1.out.trans (hb2.mono HB1.out.size)
  have HU2 := Lib.hid (HU1.out.kept (Kept.below hb2))
  have hsz : (mkB S).size ≤ 9000 := by rw [size_mkB]; exact HSL.out
  have HSZ := Lib.hid hsz
  clear hb2 u1 ul hzz HSH
  go_wp2_with fail
  have hws := bldWriteString_any (w.heap.size + 1) (w.heap.size + 1) [] (mkB S ++ ⟨#[32, 59, 32]⟩) w2 HBN2.out (by rw [ByteArray.size_append]; have := HSZ.out; show 0 + (_ + 3) ≤ _; omega) (Nat.le_of_lt hzz2)
  with_reducible refine hws.mono ?_
  clear hws
  rintro e w3 ⟨rfl, hbd3, hb3, _, hz3⟩
  have hB3 : Below w.heap.size w w3 := HB2.out.trans ⟨hb3.os, hb3.tape, hb3.output, hb3.size, fun k hk => hb3.block k (by omega)⟩
  have hU3 : ∃ Q : Nat → Prop, ElsIn Q w3 (.slice up m uc) x.2 ∧ ∀ b, Q b → b < w.heap.size + 1 := by
    refine ⟨fun b => b < w.heap.size, (HU2.out.mono (S := fun b => b < w.heap.size) (fun b hb _ => HRB.out b hb)).kept ⟨hb3.size, fun b hb _ => hb3.block b (Nat.lt_succ_of_lt hb)⟩, fun b hb => Nat.lt_succ_of_lt hb⟩
  obtain ⟨Q, hQ, hQB⟩ := hU3
  have HU3 := Lib.hid hQ
  have HQB := Lib.hid hQB
  have HR0 : Hid (ShnRel (w.heap.size + 1) w 0 w3) := ⟨_, hbd3, by
    rw [List.nil_append, ← Lib.size_eq, ByteArray.size_append]
    have := HSZ.out
    show _ + 3 ≤ _
    omega, hB3, by omega⟩
  have u3 := (hb3.cell (p := ⟨w.heap.size, 1, none⟩) (by show w.heap.size < w.heap.size + 1; omega)).trans u2
  have ul3 : w.heap.size < w3.heap.size := by omega
  clear hbd3 hb3 hB3 u2 ul2 hzz2 hsz hz3 hQ hQB
  go_wp2_with fail
  go_loopw [14] (fun iv wr => ∃ k : Nat, iv = .int .i64 k ∧ k ≤ m ∧ ShnRel (w.heap.size + 1) w k wr ∧ ElsIn Q wr (.slice up m uc) x.2) (fun iv _ => m - (intOf iv).toNat)
  case atStart => exact ⟨0, rfl, Nat.zero_le _, HR0.out, HU3.out⟩
  case round =>
    obtain ⟨k, rfl, hk, ⟨T, hbd, hT, hbw, hzw⟩, hu⟩ := hrel
    have HBD := Lib.hid hbd
    have HT := Lib.hid hT
    have HBW := Lib.hid hbw
    have HUW := Lib.hid hu
    by_cases hlt : k < m
    · have q1 : (k : Int) < (m : Int) := by omega
      obtain ⟨y, hy⟩ : ∃ y, x.2[k]? = some y := ⟨_, List.getElem?_eq_getElem (by have := HMM.out; omega)⟩
      obtain ⟨b, o, rfl, _, hbl, c0, c1, c2, c3⟩ := hu.at k y hy
      obtain ⟨y1, y2, y3, y4⟩ := y
      simp only at c0 c1 c2 c3
      have hbA : Below wr.heap.size wr (wr.alloc (.cells #[.int .i64 y1, .int .i64 y2, .int .i64 y3, .bool y4] 79)) := (Below.refl _ wr).alloc (Nat.le_refl _) _
      have HBA := Lib.hid hbA
      have HLT := Lib.hid hlt
      have HSL4 := Lib.hid (showL_len y1 y2 y3 y4)
      have HWS := Lib.hid (fun w => show_any y1 y2 y3 y4 w)
      generalize strOfNums (showL y1 y2 y3 y4) = z at *
      clear hbd hT hbw hu hy hbA hk hlt
      go_wp2_with fail
      generalize wr.alloc (.cells #[.int .i64 y1, .int .i64 y2, .int .i64 y3, .bool y4] 79) = W4 at *
      refine (HWS.out _).mono ?_
      rintro e w5 ⟨rfl, hb5⟩
      have hb45 : Below wr.heap.size wr w5 := HBA.out.trans (hb5.mono HBA.out.size)
      have HB45 := Lib.hid hb45
      clear hb5 hb45
      go_wp2_with fail
      have hws := bldWriteString_any (w.heap.size + 1) (w.heap.size + 1) T z w5 (bld_old HBD.out HB45.out) (by have := HT.out; have := HSL4.out; have := HMS.out; have := HLT.out; omega) (by have := HB45.out.size; omega)
      with_reducible refine hws.mono ?_
      clear hws
      rintro e w6 ⟨rfl, hbd6, hb6, _, hz6⟩
      have HR6 : Hid (ShnRel (w.heap.size + 1) w (k + 1) w6) := ⟨_, hbd6, by
        rw [List.length_append, size_data]
        have := HT.out; have := HSL4.out; omega, (HBW.out.trans (HB45.out.mono HBW.out.size)).trans (hb6.mono (Nat.le_succ _)), by have := HB45.out.size; omega⟩
      have HU6 : Hid (ElsIn Q w6 (.slice (some ⟨b, o, none⟩) m uc) x.2) := (HUW.out.kept (Kept.below HB45.out)).kept ⟨hz6, fun i hi _ => hb6.block i (HQB.out i hi)⟩
      clear hbd6 hb6 hz6
      go_wp2_with fail
      go_roundw
      case rel => exact ⟨k + 1, by go_num, HLT.out, HR6.out, HU6.out⟩
      case measure => (have := HLT.out; simp [intOf]; omega)
    · have q1 : ¬ (k : Int) < (m : Int) := by omega
      have HTL : Hid (T.length ≤ 30000) := by show _ ≤ _; have := HMS.out; omega
      clear hlt hbd hT hbw hu
      go_wp2_with fail
      have hst := bldString_any (w.heap.size + 1) (w.heap.size + 1) T wr HBD.out (by omega)
      with_reducible refine hst.mono ?_
      clear hst
      rintro e w3 ⟨rfl, hb3⟩
      have HB3 : Hid (Below w.heap.size w w3) := HBW.out.trans (hb3.mono (Nat.le_succ _))
      clear hb3
      go_wp2_with fail
      go_ret
      exact ⟨⟨_, rfl, by have := HTL.out; show T.toArray.size ≤ _; simp; omega⟩, HB3.out⟩
end Go.Proofs.YtjbcbejedaeedaaGreatDoor
/-! Package table: Write, where nothing is wrong and no range stands: walked. -/
namespace Go.Proofs.YtjbcbejedaeedaaGreatDoor
open Go.RowKit

theorem EntsIn.monoQ {R S : Nat → Prop} {w : World} {v : Value} {es : List Ent} (h : EntsIn R w v es) (hm : ∀ b, R b → S b) : EntsIn S w v es := h.monoP hm
/-- how Write ends -/
def WrEnd (w : World) (e : Ending) (w' : World) : Prop := (∃ s : ByteArray, e = .returned (.tuple #[.string s, .int .i64 0]) ∧ 10 < s.size ∧ s.size ≤ 9000000000) ∧ Below w.heap.size w w'
/-- between two rounds -/
def WrRel (B : Nat) (w : World) (k : Nat) (W : World) : Prop := ∃ T : List UInt8, Bld B B T W ∧ 11 ≤ T.length ∧ T.length ≤ 50 + 1000001 * k ∧ Below w.heap.size w W ∧ B < W.heap.size
set_option maxHeartbeats 8000000 in
set_option maxRecDepth 100000 in
theorem write_ok (R : Nat → Prop) (ver : ByteArray) (es : List Ent) (p : Option Addr) (rc : Nat) (ev : Value) (w : World) (hR : ∀ b, R b → b < w.heap.size) (hv : verB ver.data.toList = true) (hh : Lib.index ver.data.toList [35] = -1) (he : EntsIn R w ev es) (hel : es.length ≤ 4000) (hok : EsOk es) (hm : ML w) :
    Calls Tryz.prog 16 #[.agg #[.string ver, .slice p 0 rc, ev]] w (WrEnd w) := by
  have hvl : 1 ≤ ver.size ∧ ver.size ≤ 32 := by
    unfold verB at hv
    simp only [Bool.and_eq_true, decide_eq_true_eq] at hv
    have := hv.1
    rwa [size_data] at this
  have hb0 : Below w.heap.size w (w.alloc (.cells #[.string ver, .slice p 0 rc, ev] 26)) := (Below.refl _ w).alloc (Nat.le_refl _) _
  have hsrc : SrcIs (w.alloc (.cells #[.string ver, .slice p 0 rc, ev] 26)) w.heap.size ver.data.toList (.slice p 0 rc) ev := by
    have := World.alloc_heap_new w (.cells #[.string ver, .slice p 0 rc, ev] 26)
    unfold SrcIs; rw [mkB_data]; exact this
  have HCK := Lib.hid (check_ok8 R ver [] es (.slice p 0 rc) ev (w.alloc (.cells #[.string ver, .slice p 0 rc, ev] 26)) (fun b hb => Nat.lt_of_lt_of_le (hR b hb) hb0.size) hv hh ⟨p, rc, rfl, fun i x hx => by simp at hx⟩ (by simp) rfl (he.kept (Kept.below hb0)) hel hok (hm.below hb0))
  have HE := Lib.hid (he.kept (Kept.below hb0))
  have HR := Lib.hid hR
  have HB0 := Lib.hid hb0
  have HM := Lib.hid hm
  have HOK := Lib.hid hok
  have HVL := Lib.hid hvl
  obtain ⟨ep, ec, rfl, _⟩ := he
  obtain ⟨n, hn⟩ : ∃ n, n = es.length := ⟨_, rfl⟩
  rw [← hn] at hel HE hsrc HCK HB0 ⊢
  have HN := Lib.hid hn
  have HNL := Lib.hid hel
  obtain ⟨s0, s1, s2, _, sl⟩ := hsrc.cells
  rw [mkB_data] at s0
  have hvs : ver.size ≤ 32 := hvl.2
  clear hn hv hh hm hok hR hb0 hsrc hvl
  go_enter Tryz.func16, Tryz.ntmps16
  go_wp2_with fail
  generalize w.alloc (.cells #[.string ver, .slice p 0 rc, .slice ep n ec] 26) = W0 at *
  have hck := HCK.out
  with_reducible refine hck.mono ?_
  clear hck
  rintro e w1 ⟨rfl, hb1⟩
  have r0 := (hb1.cell (p := ⟨w.heap.size, 0, none⟩) sl).trans s0
  have r1 := (hb1.cell (p := ⟨w.heap.size, 1, none⟩) sl).trans s1
  have r2 := (hb1.cell (p := ⟨w.heap.size, 2, none⟩) sl).trans s2
  have rl : w.heap.size < w1.heap.size := Nat.lt_of_lt_of_le sl hb1.size
  have HB1 : Hid (Below w.heap.size w w1) := HB0.out.trans (hb1.mono HB0.out.size)
  have HE1 := Lib.hid (HE.out.kept (Kept.below hb1))
  clear hb1 s0 s1 s2 sl HCK
  go_wp2_with fail
  have hbn := bld_new w1
  have hbb : Below w1.heap.size w1 (w1.alloc (.cells #[.pointer none, .slice none 0 0] 87)) := (Below.refl _ w1).alloc (Nat.le_refl _) _
  have hzz : w1.heap.size < (w1.alloc (.cells #[.pointer none, .slice none 0 0] 87)).heap.size := by simp
  generalize w1.alloc (.cells #[.pointer none, .slice none 0 0] 87) = W2 at *
  have HB2 : Hid (Below w.heap.size w W2) := HB1.out.trans (hbb.mono HB1.out.size)
  have q1 := (hbb.cell (p := ⟨w.heap.size, 1, none⟩) rl).trans r1
  have q2 := (hbb.cell (p := ⟨w.heap.size, 2, none⟩) rl).trans r2
  have HE2 := Lib.hid (HE1.out.kept (Kept.below hbb))
  have HRL := Lib.hid rl
  have HBN := Lib.hid hbn
  have HZZ := Lib.hid hzz
  generalize w1.heap.size = B at *
  have hst : (⟨#[64, 118, 101, 114, 115, 105, 111, 110, 32]⟩ ++ ver ++ ⟨#[10]⟩ : ByteArray).size = 9 + ver.size + 1 := by rw [ByteArray.size_append, ByteArray.size_append]; rfl
  have HST := Lib.hid hst
  have hws := bldWriteString_any B B [] (⟨#[64, 118, 101, 114, 115, 105, 111, 110, 32]⟩ ++ ver ++ ⟨#[10]⟩) W2 HBN.out (by rw [HST.out, List.length_nil]; have := HVL.out; omega) (Nat.le_of_lt hzz)
  clear r0 r1 r2 rl hbn hbb hst
  with_reducible refine hws.mono ?_
  clear hws
  rintro e w3 ⟨rfl, hbd3, hb3, _, hz3⟩
  have u1 := (hb3.cell (p := ⟨w.heap.size, 1, none⟩) HRL.out).trans q1
  have u2 := (hb3.cell (p := ⟨w.heap.size, 2, none⟩) HRL.out).trans q2
  have HB3 : Hid (Below w.heap.size w w3) := HB2.out.trans (hb3.mono (Nat.le_of_lt HRL.out))
  have HR0 : Hid (WrRel B w 0 w3) := ⟨_, hbd3, by
    rw [List.nil_append, size_data, HST.out]; have := HVL.out; omega, by
    rw [List.nil_append, size_data, HST.out]; have := HVL.out; omega, HB3.out, by omega⟩
  have HE3 : Hid (EntsIn R w3 (.slice ep n ec) es) := HE2.out.kept ⟨hz3, fun b hb _ => hb3.block b (by have := HR.out b hb; have := HRL.out; omega)⟩
  have ul : w.heap.size < w3.heap.size := by have := HRL.out; omega
  clear hbd3 hb3 hz3 q1 q2 hzz HST hvs
  go_wp2_with fail
  refine wp_loop_rounds 1 ?_
  rw [rounds_succ]
  go_wp2_with fail
  have hnl := HNL.out
  clear u1 u2 ul
  go_loopw [59] (fun iv wr => ∃ k : Nat, iv = .int .i64 k ∧ k ≤ n ∧ WrRel B w k wr ∧ EntsIn R wr (.slice ep n ec) es) (fun iv _ => n - (intOf iv).toNat)
  case atStart => exact ⟨0, rfl, Nat.zero_le _, HR0.out, HE3.out⟩
  case round =>
    obtain ⟨k, rfl, hk, ⟨T, hbd, hT1, hT2, hbw, hzw⟩, hu⟩ := hrel
    have HBD := Lib.hid hbd
    have HT := Lib.hid (And.intro hT1 hT2)
    have HBW := Lib.hid hbw
    have HUW := Lib.hid hu
    by_cases hlt : k < n
    · have q1 : (k : Int) < (n : Int) := by omega
      obtain ⟨x, hx⟩ : ∃ x, es[k]? = some x := ⟨_, List.getElem?_eq_getElem (by have := HN.out; omega)⟩
      obtain ⟨b, o, c, u, rfl, _, hbl, c0, c1, hci, hui⟩ := hu.at k x hx
      have hxo := (HOK.out k x hx).1
      have hxl : x.1.length ≤ 8 ∧ x.2.length ≤ 16 := by
        unfold entOk at hxo
        simp only [Bool.and_eq_true, decide_eq_true_eq] at hxo
        exact ⟨hxo.1.1.1.2, hxo.1.2⟩
      have hbA : Below wr.heap.size wr (wr.alloc (.cells #[c, u] 45)) := (Below.refl _ wr).alloc (Nat.le_refl _) _
      have h2 : TwoAt (wr.alloc (.cells #[c, u] 45)) wr.heap.size c u := World.alloc_heap_new wr _
      have HSH := Lib.hid (shown_any R x c u (wr.alloc (.cells #[c, u] 45)) (hci.kept (Kept.below hbA)) (hui.kept (Kept.below hbA)) (by omega) (by omega) ((HM.out.below hbw).below hbA) (fun b hb => by have := HR.out b hb; have := hbw.size; have := hbA.size; omega))
      have HBA := Lib.hid hbA
      have HLT := Lib.hid hlt
      obtain ⟨t0, t1, _, tl⟩ := h2.cells
      obtain ⟨cp, cc, rfl, _⟩ := hci
      obtain ⟨up, uc, rfl, _⟩ := hui
      clear hbd hT1 hT2 hbw hu hx hbA hk hlt hxo hxl h2
      go_wp2_with fail
      generalize wr.alloc (.cells #[.slice cp x.1.length cc, .slice up x.2.length uc] 45) = W4 at *
      have hsh := HSH.out
      with_reducible refine hsh.mono ?_
      clear hsh
      rintro e w5 ⟨⟨z, rfl, hz⟩, hb5⟩
      have hb45 : Below wr.heap.size wr w5 := HBA.out.trans (hb5.mono HBA.out.size)
      have HB45 := Lib.hid hb45
      have HZL := Lib.hid hz
      have hz1 : z.size ≤ 1000000 := hz
      clear hb5 hb45 hz t0 t1 tl HSH
      go_wp2_with fail
      have hzz : (z ++ (⟨#[10]⟩ : ByteArray)).size = z.size + 1 := by rw [ByteArray.size_append]; rfl
      have hws := bldWriteString_any B B T (z ++ ⟨#[10]⟩) w5 (bld_old HBD.out HB45.out) (by rw [hzz]; have := HT.out.2; have := HZL.out; have := HNL.out; have := HLT.out; omega) (by have := HB45.out.size; omega)
      have HZZ2 := Lib.hid hzz
      clear hzz
      with_reducible refine hws.mono ?_
      clear hws
      rintro e w6 ⟨rfl, hbd6, hb6, _, hz6⟩
      have HR6 : Hid (WrRel B w (k + 1) w6) := ⟨_, hbd6, by rw [List.length_append]; have := HT.out.1; omega, by
        rw [List.length_append, size_data, HZZ2.out]
        have := HT.out.2; have := HZL.out; omega, (HBW.out.trans (HB45.out.mono HBW.out.size)).trans (hb6.mono (Nat.le_of_lt HRL.out)), by have := HB45.out.size; omega⟩
      have HU6 : Hid (EntsIn R w6 (.slice (some ⟨b, o, none⟩) n ec) es) := (HUW.out.kept (Kept.below HB45.out)).kept ⟨hz6, fun i hi _ => hb6.block i (by have := HR.out i hi; have := HRL.out; omega)⟩
      clear hbd6 hb6 hz6
      go_wp2_with fail
      go_roundw
      case rel => exact ⟨k + 1, by go_num, HLT.out, HR6.out, HU6.out⟩
      case measure => (have := HLT.out; simp [intOf]; omega)
    · have q1 : ¬ (k : Int) < (n : Int) := by omega
      have HTL : Hid (T.length ≤ 9000000000 ∧ 11 ≤ T.length) := by show _ ∧ _; have := HNL.out; omega
      clear hlt hbd hT1 hT2 hbw hu
      go_wp2_with fail
      have hst := bldString_any B B T wr HBD.out (Nat.le_of_lt hzw)
      with_reducible refine hst.mono ?_
      clear hst
      rintro e w3 ⟨rfl, hb3⟩
      have HB3 : Hid (Below w.heap.size w w3) := HBW.out.trans (hb3.mono (Nat.le_of_lt HRL.out))
      have HF : Hid (WrEnd w (.returned (.tuple #[.string ⟨T.toArray⟩, .int .i64 0])) w3) := ⟨⟨_, rfl, by have := HTL.out.2; show 10 < T.toArray.size; simp; omega, by have := HTL.out.1; show T.toArray.size ≤ _; simp; omega⟩, HB3.out⟩
      clear hb3
      go_wp2_with fail
      go_ret2
      exact HF.out
end Go.Proofs.YtjbcbejedaeedaaGreatDoor
