/- Chapter 8: entries are found, and told in order: the law walked. -/
import Derived.Test.YtjbcbejedaeedaaGreatDoorDg
import Derived.Test.YtjbcbejedaeedaaGreatDoorDn
import Derived.Test.YtjbcbejedaeedaaGreatDoorDo
import Derived.Test.YtjbcbejedaeedaaGreatDoorDr
import Derived.Test.YtjbcbejedaeedaaGreatDoorKm
namespace Go.Proofs.YtjbcbejedaeedaaGreatDoor
open Go.RowKit
attribute [local go_sem] Oper.semAt_some
end Go.Proofs.YtjbcbejedaeedaaGreatDoor
namespace Go.Proofs.YtjbcbejedaeedaaGreatDoor
open Go.RowKit
attribute [local go_sem] Oper.semAt_some
theorem put_keepE {N D : Nat} (A : World) (o : Obj) (h : D < N) : KeepE N A (A.putObj D o) :=
  ⟨by simp [World.putObj], fun k c fr hk ha => by rw [World.putObj_heap_other (by omega)]; exact ha⟩
/-- what stands all the time -/
def Std8 (U W : World) : Prop := Below U.heap.size U W
theorem std_book (U : World) {σ : Type} : BookR U.heap.size (fun (_ : σ) W => Std8 U W) :=
  ⟨fun _ _ _ h _ => Below.alloc h h.size _, fun _ _ o h => below_putObj h (Nat.le_succ _) o⟩
set_option maxHeartbeats 8000000 in
set_option maxRecDepth 100000 in
theorem finds8_any (es : List Ent) (l : List Int) (rs : List Rng) (ver : ByteArray) (rv ev lv : Value) (w : World) (hm : ML w) (he : EntsIn (· < w.heap.size) w ev es) (hr : RngsIn (· < w.heap.size) w rv rs) (hl : IntsIn (· < w.heap.size) .i32 w lv l)
    (h1 : es.length ≤ 1048576) (h2 : ∀ x ∈ es, x.1.length ≤ 1048576 ∧ x.2.length ≤ 1048576) (h3 : rs.length ≤ 1048576) (h4 : l.length ≤ 1048576) :
    Calls Tryz.prog 5 #[.agg #[.string ver, rv, ev], lv] w fun e w' => e = .returned (.bool true) ∧ Below w.heap.size w w' := by
  have HM := Lib.hid hm
  have HE := Lib.hid he
  have HL := Lib.hid hl
  have HH := Lib.hid (And.intro h1 (And.intro h2 (And.intro h3 h4)))
  obtain ⟨ep, ec, rfl, _⟩ := he
  obtain ⟨rp, rc, rfl, _⟩ := hr
  obtain ⟨lp, lc, rfl, _⟩ := hl
  have hnf : ∀ (cap : Array Value) (w : World), (binOp .eql 40 (.func (.func 33) #[] cap) .nilFunc).run Tryz.prog w = .ok (.bool false) w := fun _ _ => by kernel_rfl
  have hb0 : Below w.heap.size w ((w.alloc (.cells #[.string ver, .slice rp rs.length rc, .slice ep es.length ec] 26)).alloc (.cells #[.bool false] 4)) := ((Below.refl _ w).alloc (Nat.le_refl _) _).alloc (by simp) _
  have hsr : SrcIs ((w.alloc (.cells #[.string ver, .slice rp rs.length rc, .slice ep es.length ec] 26)).alloc (.cells #[.bool false] 4)) w.heap.size ver.data.toList (.slice rp rs.length rc) (.slice ep es.length ec) := by
    unfold SrcIs
    rw [mkB_data, Below.heap_alloc _ _ _ (by simp)]
    exact World.alloc_heap_new w _
  have hbx : Boxed ((w.alloc (.cells #[.string ver, .slice rp rs.length rc, .slice ep es.length ec] 26)).alloc (.cells #[.bool false] 4)) (w.heap.size + 1) 4 (.bool false) := by
    have := World.alloc_heap_new (w.alloc (.cells #[.string ver, .slice rp rs.length rc, .slice ep es.length ec] 26)) (.cells #[.bool false] 4)
    rwa [World.size_alloc] at this
  have HAW := Lib.hid (fun w hm => awake8_any w hm)
  have HB0 := Lib.hid hb0
  have HSR := Lib.hid hsr
  have HBX := Lib.hid hbx
  clear hm h1 h2 h3 h4 hb0 hsr hbx
  refine callsIn_wide (n := 0) |>.1 ?_
  refine callsIn_of_wp_marks Tryz.func5 rfl trivial ?_ rfl
  simp only [Tryz.ntmps5, List.size_toArray, List.length_cons, List.length_nil, Nat.reduceAdd, Nat.reduceSub, Array.replicate_succ, Array.replicate_zero, List.push_toArray, List.append_toArray, List.nil_append, List.cons_append]
  gi_wp2_with fail
  generalize (w.alloc (.cells #[.string ver, .slice rp rs.length rc, .slice ep es.length ec] 26)).alloc (.cells #[.bool false] 4) = W0 at *
  refine ⟨trivial, rfl, (callsIn_wide.2 (HAW.out _ (HM.out.below HB0.out))).mono ?_⟩
  rintro e W1 ⟨rfl, hb1⟩
  have HB1 : Hid (Below w.heap.size w W1) := HB0.out.trans (hb1.mono HB0.out.size)
  have hsr1 : SrcIs W1 w.heap.size ver.data.toList (.slice rp rs.length rc) (.slice ep es.length ec) := (hb1.block _ HSR.out.cells.2.2.2.2).trans HSR.out
  have hbx1 : Boxed W1 (w.heap.size + 1) 4 (.bool false) := (hb1.block _ HBX.out.lt).trans HBX.out
  have HSR1 := Lib.hid hsr1
  have HBX1 := Lib.hid hbx1
  obtain ⟨s0, s1, s2, _, sl⟩ := hsr1.cells
  rw [mkB_data] at s0
  have b1c := hbx1.cell
  have b1f := hbx1.frozen
  have HFW := Lib.hid (few8_any _ es ver rs.length rc rp _ W1 (HE.out.kept (Kept.below HB1.out)) HH.out.2.1 HH.out.1 HH.out.2.2.1)
  clear hb1 hsr1 hbx1
  gi_wp2_with fail
  refine ⟨trivial, rfl, (callsIn_wide.2 HFW.out).mono ?_⟩
  rintro e W2 ⟨rfl, hb2⟩
  have HB2 : Hid (Below w.heap.size w W2) := HB1.out.trans (hb2.mono HB1.out.size)
  have hsr2 : SrcIs W2 w.heap.size ver.data.toList (.slice rp rs.length rc) (.slice ep es.length ec) := (hb2.block _ HSR1.out.cells.2.2.2.2).trans HSR1.out
  have hbx2 : Boxed W2 (w.heap.size + 1) 4 (.bool false) := (hb2.block _ HBX1.out.lt).trans HBX1.out
  have HSR2 := Lib.hid hsr2
  have HBX2 := Lib.hid hbx2
  have HBSET := Lib.hid (fun (v : Value) => hbx2.set v)
  clear hb2 s0 s1 s2 sl b1c b1f
  obtain ⟨s0, s1, s2, _, sl⟩ := hsr2.cells
  rw [mkB_data] at s0
  have b1c := hbx2.cell
  have b1f := hbx2.frozen
  clear hsr2 hbx2
  have HEARLY : Hid (∀ tmps : Array Value, tmps.getD 4 undef = .pointer (some ⟨w.heap.size + 1, 0, none⟩) → bodyPostM Fence.wide 0 Tryz.prog Tryz.f5 (fun e w' => e = .returned (.bool true) ∧ Below w.heap.size w w') .ret { tmps := tmps, defers := [] } (W2.setCell ⟨w.heap.size + 1, 0, none⟩ (.bool true))) := by
    intro tmps ht
    have ht' : tmps[4]?.getD undef = .pointer (some ⟨w.heap.size + 1, 0, none⟩) := by simpa using ht
    have hc := (HBSET.out (.bool true)).cell
    refine ⟨.bool true, by simp [results, Tryz.results5, go_sem, ht', hc], rfl, HB2.out.setCell (p := ⟨w.heap.size + 1, 0, none⟩) (Nat.le_succ _) _⟩
  cases hfew : decide (es.length + rs.length + sumQ es ≤ 1500) with
  | false =>
    clear hfew
    gi_wp2_with fail
    exact HEARLY.out _ rfl
  | true =>
    have hfw := of_decide_eq_true hfew
    clear hfew
    by_cases h500 : 500 < l.length
    · have q1 : decide ((l.length : Int) > 500) = true := decide_eq_true (by omega)
      have q2 : decide (500 < l.length) = true := decide_eq_true h500
      clear h500 hfw
      gi_wp2_with fail
      exact HEARLY.out _ rfl
    · have q1 : decide ((l.length : Int) > 500) = false := decide_eq_false (by omega)
      have q2 : decide (500 < l.length) = false := decide_eq_false h500
      have HSZ : Hid (es.length ≤ 1500 ∧ ∀ x ∈ es, x.1.length ≤ 1500 ∧ x.2.length ≤ 1500) := by
        show _ ∧ _
        refine ⟨by omega, fun x hx => ?_⟩
        have := sumQ_mem hx
        omega
      have HL5 : Hid (l.length ≤ 500) := by show _ ≤ _; omega
      have HFD := Lib.hid (find_any _ _ es l ver rp rs.length rc _ _ W2 (HE.out.kept (Kept.below HB2.out)) (HL.out.kept (Kept.below HB2.out)) (fun x hx => by have := (HSZ.out.2 x hx).1; omega) (by omega) (by omega))
      clear h500 hfw HEARLY
      gi_wp2_with fail
      refine ⟨trivial, rfl, (callsIn_wide.2 HFD.out).mono ?_⟩
      rintro e W3 ⟨rfl, hb3⟩
      have HB3 : Hid (Below w.heap.size w W3) := HB2.out.trans (hb3.mono HB2.out.size)
      have HB23 : Hid (Below W2.heap.size W2 W3) := hb3
      have hsr3 : SrcIs W3 w.heap.size ver.data.toList (.slice rp rs.length rc) (.slice ep es.length ec) := (hb3.block _ HSR2.out.cells.2.2.2.2).trans HSR2.out
      clear s0 s1 s2 sl b1c b1f hb3
      obtain ⟨s0, s1, s2, _, sl⟩ := hsr3.cells
      rw [mkB_data] at s0
      have HRF := Lib.hid (rFind_any _ _ es l ver rp rs.length rc _ _ W3 (HE.out.kept (Kept.below HB3.out)) (HL.out.kept (Kept.below HB3.out)) (fun x hx => by have := (HSZ.out.2 x hx).1; omega) (by have := HL5.out; omega) (by have := HSZ.out.1; omega))
      generalize fndI es l = fi at *
      generalize fndB es l = fb at *
      clear hsr3 HFD
      gi_wp2_with fail
      refine ⟨trivial, rfl, (callsIn_wide.2 HRF.out).mono ?_⟩
      rintro e W4 ⟨rfl, hb4⟩
      have HB4 : Hid (Below w.heap.size w W4) := HB3.out.trans (hb4.mono HB3.out.size)
      have hb24 : Below W2.heap.size W2 W4 := HB23.out.trans (hb4.mono HB23.out.size)
      have HB24 := Lib.hid hb24
      have hsr4 : SrcIs W4 w.heap.size ver.data.toList (.slice rp rs.length rc) (.slice ep es.length ec) := (hb24.block _ HSR2.out.cells.2.2.2.2).trans HSR2.out
      have hbx4 : Boxed W4 (w.heap.size + 1) 4 (.bool false) := (hb24.block _ HBX2.out.lt).trans HBX2.out
      have HSR4 := Lib.hid hsr4
      have HBX4 := Lib.hid hbx4
      clear s0 s1 s2 sl hb4 hb24 HRF
      obtain ⟨s0, s1, s2, _, sl⟩ := hsr4.cells
      rw [mkB_data] at s0
      have g1 : (fi == fi) = true := by simp
      have g2 : (fb == fb) = true := by simp
      have g3 : (fi != fi) = false := by simp
      have g4 : (fb != fb) = false := by simp
      clear hsr4 hbx4
      gi_wp2_with fail
      refine ⟨trivial, rfl, (callsIn_wide.2 (each8_fn ver _ _ W4 ⟨_, _, _, rfl⟩ ⟨_, _, _, rfl⟩)).mono ?_⟩
      rintro e W5 ⟨rfl, hw5⟩
      have hb5 : Below W4.heap.size W4 W5 := by rw [← hw5]; exact (Below.refl _ W4).alloc (Nat.le_refl _) _
      have hse : SrcIs W5 W4.heap.size ver.data.toList (.slice rp rs.length rc) (.slice ep es.length ec) := by
        unfold SrcIs
        rw [mkB_data, ← hw5]
        exact World.alloc_heap_new W4 _
      have HB5 : Hid (Below w.heap.size w W5) := HB4.out.trans (hb5.mono HB4.out.size)
      have HSE := Lib.hid hse
      have HSR5 : Hid (SrcIs W5 w.heap.size ver.data.toList (.slice rp rs.length rc) (.slice ep es.length ec)) := (hb5.block _ HSR4.out.cells.2.2.2.2).trans HSR4.out
      have HBX5 : Hid (Boxed W5 (w.heap.size + 1) 4 (.bool false)) := (hb5.block _ HBX4.out.lt).trans HBX4.out
      have hlt5 : W4.heap.size < W5.heap.size := hse.cells.2.2.2.2
      have HLT5 : Hid (w.heap.size + 1 < W5.heap.size) := HBX5.out.lt
      clear hw5 hb5 hse s0 s1 s2 sl g1 g2 g3 g4
      gi_wp2_with fail
      have HPRE : Hid (∀ A, Std8 W5 A → A.cell? ⟨W4.heap.size, 2, none⟩ = some (.slice ep es.length ec) ∧ EntsIn (· < w.heap.size) A (.slice ep es.length ec) es ∧ ML A) := by
        show ∀ A, _
        intro A hA
        have hb : Below W5.heap.size W5 A := hA
        exact ⟨(hb.cell (p := ⟨W4.heap.size, 2, none⟩) hlt5).trans HSE.out.cells.2.2.1, (HE.out.kept (Kept.below (HB5.out.trans (hb.mono HB5.out.size)))), HM.out.below (HB5.out.trans (hb.mono HB5.out.size))⟩
      refine wp_rangeR2 0 (gf := 33) (lb := #[.pointer (some ⟨W4.heap.size, 0, none⟩)]) rfl (enters_of Tryz.func33 (by kernel_rfl) rfl) (each8_iter (· < w.heap.size) es (.slice ep es.length ec) W4.heap.size (W5.heap.size + 2) (by have := HSZ.out.1; omega) (fun x hx => by have := HSZ.out.2 x hx; omega))
        (fun (A B C : World) (h : KeepE _ A B) k => h.trans k) (fun A o => put_keepE A o (by omega)) ?hps (fun _ W => Std8 W5 W) (Std8 W5) (std_book W5) (std_book W5) (fun _ A B (h : Std8 W5 A) hg => h.trans (Below.mono hg h.size)) (fun A B (h : Std8 W5 A) hg => h.trans (Below.mono hg h.size)) (fun A B hg k _ _ h3 => hg.block k h3) (fun _ A h => HPRE.out A h) (fun A h => HPRE.out A h) (Below.refl _ _) ?hround ?hafter ?hexit
      case hps => rintro i A vs j ⟨x, u, _, rfl, _⟩; rfl
      case hexit => intro a' W' h; exact h
      case hround =>
        rintro l' s A vs s' hA ⟨x, u, _, rfl, _, rfl⟩ hAs
        simp
        gi_wp2
        refine ⟨fun _ _ _ => trivial, KeepE.refl _ _, fun o => ?_⟩
        gi_wp2
        exact ⟨fun _ _ _ => rfl, KeepE.refl _ _, rfl, below_putObj hA (Nat.le_succ _) _⟩
      case hafter =>
        rintro D1 W6 hD1 hI hK1
        have h6 : Std8 W5 W6 := by
          rcases hI with ⟨_, _, h⟩ | h
          · exact h
          · exact h
        have hb6 : Below W5.heap.size W5 W6 := h6
        have HB6 : Hid (Below w.heap.size w W6) := HB5.out.trans (hb6.mono HB5.out.size)
        have HSR6 : Hid (SrcIs W6 w.heap.size ver.data.toList (.slice rp rs.length rc) (.slice ep es.length ec)) := (hb6.block _ HSR5.out.cells.2.2.2.2).trans HSR5.out
        have HBX6 : Hid (Boxed W6 (w.heap.size + 1) 4 (.bool false)) := (hb6.block _ HBX5.out.lt).trans HBX5.out
        have hsl4 : W4.heap.size < W6.heap.size := Nat.lt_of_lt_of_le hlt5 hb6.size
        have HK1 := Lib.hid hK1
        have HD1 : Hid (w.heap.size + 1 < D1) := by have := HLT5.out; show _ < _; omega
        have HPR6 : Hid (∀ A, Below W6.heap.size W6 A → A.cell? ⟨W4.heap.size, 2, none⟩ = some (.slice ep es.length ec) ∧ EntsIn (· < w.heap.size) A (.slice ep es.length ec) es ∧ ML A) := by
          show ∀ A, _
          intro A hA
          exact HPRE.out A (hb6.trans (hA.mono hb6.size))
        have hl6 : w.heap.size + 1 < W6.heap.size := HBX6.out.lt
        have HL6 := Lib.hid hl6
        have HDL : Hid (D1 < W6.heap.size) := (Array.getElem?_eq_some_iff.1 hK1).1
        clear hI h6 hb6 hK1 hD1 hlt5
        simp only [marked]
        gi_wp2_with fail
        have HSR6' := HSR6.out.cells
        obtain ⟨W7, hW7⟩ : ∃ W7, W6.alloc (.cells #[.int .i64 0] 3) = W7 := ⟨_, rfl⟩
        have hb7 : Below W6.heap.size W6 W7 := by rw [← hW7]; exact (Below.refl _ W6).alloc (Nat.le_refl _) _
        have hz7 : W7.heap.size = W6.heap.size + 1 := by rw [← hW7]; simp
        have b10 : Boxed W7 W6.heap.size 3 (.int .i64 (0 : Nat)) := by rw [← hW7]; exact Boxed.new _ _ _
        rw [hW7]
        clear hW7 HSR6'
        have hbk : BookR (σ := Nat) W7.heap.size (fun s A => Below W6.heap.size W6 A ∧ Boxed A W6.heap.size 3 (.int .i64 (s : Nat))) :=
          ⟨fun s A o h hs => ⟨h.1.alloc h.1.size o, h.2.alloc o⟩, fun s A o h => ⟨below_putObj h.1 (by omega) o, boxed_putObj h.2 (by omega) o⟩⟩
        refine wp_rangeR2 2 (gf := 33) (lb := #[.pointer (some ⟨W4.heap.size, 0, none⟩)]) rfl (enters_of Tryz.func33 (by kernel_rfl) rfl) (each8_iter (· < w.heap.size) es (.slice ep es.length ec) W4.heap.size (W7.heap.size + 2) (by have := HSZ.out.1; omega) (fun x hx => by have := HSZ.out.2 x hx; omega))
          (fun (A B C : World) (h : KeepE _ A B) k => h.trans k) (fun A o => put_keepE A o (by omega)) ?hps (fun s A => Below W6.heap.size W6 A ∧ Boxed A W6.heap.size 3 (.int .i64 (s : Nat))) (fun _ => False) hbk ⟨fun _ _ _ h _ => h, fun _ _ _ h => h⟩
          (fun s A B h hg => ⟨h.1.trans (Below.mono hg h.1.size), (Below.block hg _ h.2.lt).trans h.2⟩) (fun A B h _ => h) (fun A B hg k _ _ h3 => hg.block k h3) (fun s A h => HPR6.out A h.1) (fun A h => h.elim) ⟨hb7, b10⟩ ?hround ?hafter ?hexit
        case hps => rintro i A vs j ⟨x, u, _, rfl, _⟩; rfl
        case hexit => intro a' W' h; exact h
        case hround =>
          rintro l' s A vs s' ⟨hA, hAk⟩ ⟨x, u, hx, rfl, hu, rfl⟩ hAs
          have HX := Lib.hid hx
          have HU := Lib.hid hu
          obtain ⟨up, uc, rfl, _⟩ := hu
          clear hx
          have HA := Lib.hid hA
          have HAK := Lib.hid hAk
          have HZ := Lib.hid (And.intro hz7 hAs)
          have HSL := Lib.hid hsl4
          clear hbk hb7 b10 hA hAk hsl4 hz7 hAs
          simp
          gi_wp2
          refine ⟨KeepE.refl _ _, fun o => ?_⟩
          have hzz := HZ.out
          have hsl' := HSL.out
          obtain ⟨A2, hA2⟩ : ∃ A2, A.putObj (W7.heap.size + 1) o = A2 := ⟨_, rfl⟩
          have hB2 : Below W6.heap.size W6 A2 := by rw [← hA2]; exact below_putObj HA.out (by omega) o
          have k10 : Boxed A2 W6.heap.size 3 (.int .i64 (s : Nat)) := by rw [← hA2]; exact boxed_putObj HAK.out (by omega) o
          have hzA : A2.heap.size = A.heap.size := by rw [← hA2]; simp [World.putObj]
          have hkp : Kept (fun b => W7.heap.size + 2 ≤ b) A A2 := ⟨by omega, fun k h1 h2 => by rw [← hA2]; exact World.putObj_heap_other (by omega)⟩
          have hsr2 : SrcIs A2 w.heap.size ver.data.toList (.slice rp rs.length rc) (.slice ep es.length ec) := (hB2.block _ (by have := HL6.out; omega)).trans HSR6.out
          obtain ⟨bb, oo, cv, uv, hep, _, hbl, c0, c1, hci, hui⟩ := (HPR6.out A2 hB2).2.1.at s x HX.out
          obtain ⟨_, _, m2, _, _⟩ := hsr2.cells
          have m10 := k10.cell
          subst hep
          have hsl2 : s < es.length := (List.getElem?_eq_some_iff.1 HX.out).1
          have hxs := HSZ.out.2 x (List.mem_of_getElem? HX.out)
          have g1 : decide ((es.length : Int) ≤ (s : Int)) = false := decide_eq_false (by omega)
          have g1n : decide (es.length ≤ s) = false := decide_eq_false (by omega)
          rw [hA2]
          have HRS := Lib.hid (rshow_any _ x.1 cv A2 hci (by omega))
          have HSM := Lib.hid ((same7_any _ _ x.2 x.2 (.slice up x.2.length uc) uv A2 ((HU.out.kept hkp)) hui (by unfold maxLen; omega) (by unfold maxLen; omega)).mono (fun e w' h => (⟨by rw [h.1]; simp, h.2⟩ : e = .returned (.bool true) ∧ Below A2.heap.size A2 w')))
          obtain ⟨cp, cc, rfl, _⟩ := hci
          obtain ⟨uq, ucc, rfl, _⟩ := hui
          have HS : Hid (∀ U : World, Below A2.heap.size A2 U → U.cell? ⟨W6.heap.size, 0, none⟩ = some (.int .i64 (s : Nat)) ∧ U.cell? ⟨w.heap.size, 2, none⟩ = some (.slice (some ⟨bb, oo, none⟩) es.length ec) ∧ U.cell? ⟨bb, oo + s * 2, none⟩ = some (.slice cp x.1.length cc) ∧ U.cell? ⟨bb, oo + s * 2 + 1, none⟩ = some (.slice uq x.2.length ucc)) :=
            fun U h => ⟨(h.cell (p := ⟨W6.heap.size, 0, none⟩) k10.lt).trans m10, (h.cell (p := ⟨w.heap.size, 2, none⟩) hsr2.cells.2.2.2.2).trans m2, (h.cell (p := ⟨bb, oo + s * 2, none⟩) hbl).trans c0, (h.cell (p := ⟨bb, oo + s * 2 + 1, none⟩) hbl).trans c1⟩
          have hH := HS.out A2 (Below.refl _ A2)
          have HK10 := Lib.hid k10
          have HB2 := Lib.hid hB2
          have HZA := Lib.hid hzA
          clear hA2 hkp hzA hB2 k10 m10 m2 hsr2 c0 c1 hbl hxs hzz hsl'
          have g3 : ((mkB (showW x.1)).data.toList == (mkB (showW x.1)).data.toList) = true := by rw [beq_self_eq_true]
          generalize mkB (showW x.1) = sh at *
          have g4 : decide (s < es.length) = true := decide_eq_true hsl2
          gi_wp2_with fail
          refine ⟨trivial, rfl, (callsIn_round HRS.out).mono ?_⟩
          rintro e w8 ⟨rfl, rfl⟩
          gi_wp2_with fail
          refine ⟨trivial, rfl, (callsIn_round HSM.out).mono ?_⟩
          rintro e w8 ⟨rfl, hb8⟩
          have HB8 := Lib.hid hb8
          have k8 : Boxed w8 W6.heap.size 3 (.int .i64 (s : Nat)) := (hb8.block _ HK10.out.lt).trans HK10.out
          have HK8 := Lib.hid k8
          have m8 := k8.cell
          have f8 := k8.frozen
          have hh8 := HS.out w8 hb8
          clear hb8 k8 hH
          gi_wp2
          have hzz := HZ.out
          have hza := HZA.out
          have hz8 := HB8.out.size
          refine ⟨fun k h1 h2 => ?_, ⟨by simp [World.setCell]; omega, fun k c fr h1 h2 => ?_⟩, ((HB2.out.trans (HB8.out.mono (by have := HB2.out.size; omega))).setCell (Nat.le_refl _) _), ?_⟩
          · rw [Below.heap_setCell _ _ _ _ (show k ≠ W6.heap.size by omega)]; exact HB8.out.block k (by omega)
          · rw [Below.heap_setCell _ _ _ _ (show k ≠ W6.heap.size by omega)]; exact (HB8.out.block k (Array.getElem?_eq_some_iff.1 h2).1).trans h2
          · have h1 := HK8.out.set (.int .i64 ((s : Nat) + 1 : Nat))
            have hw : wrap64 ((s : Int) + 1) = (s : Int) + 1 := by have := HSZ.out.1; unfold wrap64; omega
            rw [hw]
            simpa using h1
        case hafter =>
          rintro D2 W8 hD2 hI2 hK2
          obtain ⟨hb8, k10⟩ : Below W6.heap.size W6 W8 ∧ Boxed W8 W6.heap.size 3 (.int .i64 (es.length : Nat)) := by
            rcases hI2 with ⟨s, h1, h2, h3⟩ | h
            · subst h1; exact ⟨h2, h3⟩
            · exact h.elim
          have hsr8 : SrcIs W8 w.heap.size ver.data.toList (.slice rp rs.length rc) (.slice ep es.length ec) := (hb8.block _ (by have := HL6.out; omega)).trans HSR6.out
          have hbx8 : Boxed W8 (w.heap.size + 1) 4 (.bool false) := (hb8.block _ HL6.out).trans HBX6.out
          have HB8 : Hid (Below w.heap.size w W8) := HB6.out.trans (hb8.mono HB6.out.size)
          have hD1 : W8.heap[D1]? = some (.deferred (some [])) := (hb8.block D1 HDL.out).trans HK1.out
          have HE : Hid (W8.heap[D1]? = some (.deferred (some [])) ∧ W8.heap[D2]? = some (.deferred (some [])) ∧ D1 ≠ w.heap.size + 1 ∧ D2 ≠ w.heap.size + 1 ∧ D1 ≠ D2 ∧ w.heap.size ≤ D1 ∧ w.heap.size ≤ D2) := by
            have := HD1.out; have := HDL.out
            exact ⟨hD1, hK2, by omega, by omega, by omega, by omega, by omega⟩
          obtain ⟨_, _, m2, _, _⟩ := hsr8.cells
          have m10 := k10.cell
          have HBX8 := Lib.hid hbx8
          have c8 := hbx8.cell
          have f8 := hbx8.frozen
          have g1 : ((es.length : Int) == (es.length : Int)) = true := by simp
          clear hI2 hK2 hD2 hb8 k10 hsr8 hbx8 hD1 hbk hb7 b10 hz7 hsl4
          simp only [marked]
          gi_wp2_with fail
          obtain ⟨k1, k2, n1, n2, n3, l1, l2⟩ := HE.out
          have q1 : Boxed (W8.setCell ⟨w.heap.size + 1, 0, none⟩ (.bool true)) (w.heap.size + 1) 4 (.bool true) := HBX8.out.set _
          refine leave_mark2 (v := .bool true) ?_ ?_ n3 ?_ ⟨rfl, ?_⟩
          · rw [Below.heap_setCell _ _ _ _ n2]; exact k2
          · rw [Below.heap_setCell _ _ _ _ n1]; exact k1
          · have q2 := (boxed_putObj (D := D1) (boxed_putObj (D := D2) q1 (Ne.symm n2) (.deferred none)) (Ne.symm n1) (.deferred none)).cell
            simp [results, Tryz.results5, go_sem, q2]
          · exact below_putObj (below_putObj (HB8.out.setCell (Nat.le_succ _) _) l2 _) l1 _
end Go.Proofs.YtjbcbejedaeedaaGreatDoor
