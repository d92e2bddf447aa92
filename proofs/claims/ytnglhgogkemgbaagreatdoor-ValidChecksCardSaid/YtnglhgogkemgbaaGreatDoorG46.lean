/- Any source is well formed, or not, for the reason that comes first, at the entry that it is: the law of chapter 11 walked. -/
import Derived.Test.YtnglhgogkemgbaaGreatDoorG43
import Derived.Test.YtnglhgogkemgbaaGreatDoorG45
namespace Go.Proofs.YtnglhgogkemgbaaGreatDoor
open Go.RowKit

set_option maxHeartbeats 4000000 in
set_option maxRecDepth 1000000 in
theorem validChecks_any (rs : List Rng) (es : List Ent) (ver : ByteArray) (rv ev : Value) (w : World) (hm : MS w) (hr : RngsIn (· < w.heap.size) w rv rs) (hv : EntsIn (· < w.heap.size) w ev es) (hok : ∀ x ∈ es, EntOk x) (hrl : rs.length ≤ 140737488351232) (hel : es.length ≤ 140737488351232) (hvl : ver.size ≤ 140737488351232) :
    Calls Tryz.prog 3 #[.agg #[.string ver, rv, ev]] w fun e w' => e = .returned (.bool true) ∧ Below w.heap.size w w' := by
  have HM := Lib.hid hm
  have HR := Lib.hid hr
  have HV := Lib.hid hv
  have HH := Lib.hid (And.intro hok (And.intro hrl (And.intro hel hvl)))
  obtain ⟨rp, rc, rfl, _⟩ := hr
  obtain ⟨ep, ec, rfl, _⟩ := hv
  obtain ⟨nr, hnr⟩ : ∃ n, n = rs.length := ⟨_, rfl⟩
  obtain ⟨ne, hne⟩ : ∃ n, n = es.length := ⟨_, rfl⟩
  rw [← hnr] at HR
  rw [← hne] at HV
  rw [← hnr, ← hne]
  have hfew := fun W h => few11_any (· < w.heap.size) es ver nr rc rp (.slice ep ne ec) W h hok hel (by rw [hnr]; exact hrl)
  have HFW := Lib.hid hfew
  have hb0 : Below w.heap.size w (w.alloc (.cells #[.string ver, .slice rp nr rc, .slice ep ne ec] 25)) := (Below.refl _ w).alloc (Nat.le_refl _) _
  have hbx : (w.alloc (.cells #[.string ver, .slice rp nr rc, .slice ep ne ec] 25)).heap[w.heap.size]? = some (.cells #[.string ver, .slice rp nr rc, .slice ep ne ec] 25 (0, 0)) := World.alloc_heap_new _ _
  have HB0 := Lib.hid hb0
  have HX := Lib.hid hbx
  clear hm hok hrl hel hvl hfew hb0 hbx hnr hne
  go_enter Tryz.func3, Tryz.ntmps3
  go_wp2_with fail
  generalize w.alloc (.cells #[.string ver, .slice rp nr rc, .slice ep ne ec] 25) = W0 at *
  refine (awake11_any _ (HM.out.below HB0.out)).mono ?_
  rintro e W1 ⟨rfl, hb1⟩
  have hbx1 := (hb1.block _ (Array.getElem?_eq_some_iff.1 HX.out).1).trans HX.out
  have HX1 := Lib.hid hbx1
  have HB1 := Lib.hid (HB0.out.trans (hb1.mono HB0.out.size))
  have s0 : W1.cell? ⟨w.heap.size, 0, none⟩ = some (.string ver) := by simp [World.cell?, hbx1]
  have s1 : W1.cell? ⟨w.heap.size, 1, none⟩ = some (.slice rp nr rc) := by simp [World.cell?, hbx1]
  have s2 : W1.cell? ⟨w.heap.size, 2, none⟩ = some (.slice ep ne ec) := by simp [World.cell?, hbx1]
  clear hb1 hbx1
  go_wp2_with fail
  refine (HFW.out _ (HV.out.kept (Kept.below HB1.out))).mono ?_
  rintro e W2 ⟨⟨q, rfl⟩, hb2⟩
  have hbx2 := (hb2.block _ (Array.getElem?_eq_some_iff.1 HX1.out).1).trans HX1.out
  have HX2 := Lib.hid hbx2
  have HB2 := Lib.hid (HB1.out.trans (hb2.mono HB1.out.size))
  clear hb2 hbx2 s0 s1 s2
  cases q with
  | false =>
    go_wp2_with fail
    go_ret
    exact ⟨rfl, HB2.out⟩
  | true =>
    go_wp2_with fail
    refine (data11_any _).mono ?_
    rintro e W3 ⟨pb, u, v, rfl, hn3, hu3, hv3, hb3⟩
    obtain ⟨pu, cu, rfl, _⟩ := id hu3
    obtain ⟨pv, cv, rfl, _⟩ := id hv3
    have hbx3 := (hb3.block _ (Array.getElem?_eq_some_iff.1 HX2.out).1).trans HX2.out
    have HX3 := Lib.hid hbx3
    have HB3 := Lib.hid (HB2.out.trans (hb3.mono HB2.out.size))
    have HN3 := Lib.hid hn3
    have HUV3 := Lib.hid (And.intro hu3 hv3)
    have HPW : Hid (W2.heap.size ≤ pb) := hn3.1
    have HWS : Hid (w.heap.size < W2.heap.size) := (Array.getElem?_eq_some_iff.1 HX2.out).1
    generalize smallC.length = nc at *
    generalize smallD.length = nd at *
    have s0 : W3.cell? ⟨w.heap.size, 0, none⟩ = some (.string ver) := by simp [World.cell?, hbx3]
    have s1 : W3.cell? ⟨w.heap.size, 1, none⟩ = some (.slice rp nr rc) := by simp [World.cell?, hbx3]
    have s2 : W3.cell? ⟨w.heap.size, 2, none⟩ = some (.slice ep ne ec) := by simp [World.cell?, hbx3]
    have sl := (Array.getElem?_eq_some_iff.1 hbx3).1
    obtain ⟨W4, hW4⟩ : ∃ W4, W3.alloc (.cells #[.slice pu nc cu, .slice pv nd cv] 32) = W4 := ⟨_, rfl⟩
    have hal : Below W3.heap.size W3 W4 := by rw [← hW4]; exact (Below.refl _ _).alloc (Nat.le_refl _) _
    have hdb : W4.heap[W3.heap.size]? = some (.cells #[.slice pu nc cu, .slice pv nd cv] 32 (0, 0)) := by rw [← hW4]; exact World.alloc_heap_new _ _
    have HB4 := Lib.hid (HB3.out.trans (hal.mono HB3.out.size))
    have HX4 := Lib.hid ((hal.block _ sl).trans hbx3)
    have HDB := Lib.hid hdb
    have hpl := HN3.out.lt
    have HUV4 := Lib.hid (And.intro (HUV3.out.1.kept (Kept.below hal)) (HUV3.out.2.kept (Kept.below hal)))
    have hvc := vcheck_any (· < w.heap.size) (· < w.heap.size) pb (fun b => W2.heap.size ≤ b) smallC smallD rs es ver (.slice rp nr rc) (.slice ep ne ec) W4 (HN3.out.below hal) (fun b hb => by have := HB4.out.size; have := hal.size; have := HWS.out; have := HPW.out; omega) (HR.out.kept (Kept.below HB4.out)) (fun b hb => by have := HWS.out; have := HPW.out; omega)
      (HV.out.kept (Kept.below HB4.out)) (fun b hb => by have := HWS.out; have := HPW.out; omega) HH.out.1 HH.out.2.1 HH.out.2.2.1 HH.out.2.2.2 small_ok
    have HPL : Hid (pb < W3.heap.size) := hpl
    have HVC := Lib.hid hvc
    obtain ⟨vr, hvr⟩ : ∃ r, r = vres smallC smallD ver rs es := ⟨_, rfl⟩
    have hrr := hvr.trans vres_rres
    rw [← hvr] at HVC
    have HRR := Lib.hid hrr
    have hx4 := HX4.out
    clear s0 s1 s2
    have s0 : W4.cell? ⟨w.heap.size, 0, none⟩ = some (.string ver) := by simp [World.cell?, hx4]
    have s1 : W4.cell? ⟨w.heap.size, 1, none⟩ = some (.slice rp nr rc) := by simp [World.cell?, hx4]
    have s2 : W4.cell? ⟨w.heap.size, 2, none⟩ = some (.slice ep ne ec) := by simp [World.cell?, hx4]
    clear hb3 hbx3 hn3 hu3 hv3 hal hdb hpl hvc hvr hrr HN3 HUV3 hx4
    go_wp2_with fail
    clear hW4
    refine HVC.out.mono ?_
    rintro e W5 ⟨rfl, _, ho5⟩
    have hk5 : ∀ k, k < W4.heap.size → k ≠ pb → W5.heap[k]? = W4.heap[k]? := fun k h1 h2 => ho5.block k h1 h2
    have hx5 := (hk5 _ (Array.getElem?_eq_some_iff.1 HX4.out).1 (by have := HWS.out; have := HPW.out; omega)).trans HX4.out
    have hd5 := (hk5 _ (Array.getElem?_eq_some_iff.1 HDB.out).1 (by have := HPL.out; omega)).trans HDB.out
    have t0 : W5.cell? ⟨w.heap.size, 0, none⟩ = some (.string ver) := by simp [World.cell?, hx5]
    have t1 : W5.cell? ⟨w.heap.size, 1, none⟩ = some (.slice rp nr rc) := by simp [World.cell?, hx5]
    have t2 : W5.cell? ⟨w.heap.size, 2, none⟩ = some (.slice ep ne ec) := by simp [World.cell?, hx5]
    have d0 : W5.cell? ⟨W3.heap.size, 0, none⟩ = some (.slice pu nc cu) := by simp [World.cell?, hd5]
    have d1 : W5.cell? ⟨W3.heap.size, 1, none⟩ = some (.slice pv nd cv) := by simp [World.cell?, hd5]
    have hBW5 : Below w.heap.size w W5 := ⟨ho5.os.trans HB4.out.os, ho5.tape.trans HB4.out.tape, ho5.output.trans HB4.out.output, Nat.le_trans HB4.out.size ho5.size, fun k hk => (ho5.block k (Nat.lt_of_lt_of_le hk HB4.out.size) (by have := HWS.out; have := HPW.out; omega)).trans (HB4.out.block k hk)⟩
    have hrc := rcheck11_any _ _ _ _ smallC smallD rs es ver (.slice pu nc cu) (.slice pv nd cv) (.slice rp nr rc) (.slice ep ne ec) W5 (HUV4.out.1.kept (Kept.only ho5 (fun b hb h => hb.2 h))) (HUV4.out.2.kept (Kept.only ho5 (fun b hb h => hb.2 h))) small_ok
      (HR.out.kept (Kept.below hBW5)) (HV.out.kept (Kept.below hBW5)) HH.out.1 HH.out.2.1 HH.out.2.2.1 HH.out.2.2.2
    rw [← HRR.out] at hrc
    have HRC := Lib.hid hrc
    have HB5 := Lib.hid hBW5
    clear hk5 hx5 hd5 hBW5 hrc ho5 s0 s1 s2 sl
    go_wp2_with fail
    refine HRC.out.mono ?_
    rintro e W6 ⟨rfl, hb6⟩
    have HB6 := Lib.hid (HB5.out.trans (hb6.mono HB5.out.size))
    clear hb6 t0 t1 t2 d0 d1
    go_wp2_with fail
    go_ret
    exact ⟨rfl, HB6.out⟩
end Go.Proofs.YtnglhgogkemgbaaGreatDoor
