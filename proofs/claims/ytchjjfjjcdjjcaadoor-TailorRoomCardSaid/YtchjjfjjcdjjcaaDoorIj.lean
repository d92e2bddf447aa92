/- Package tailor: Behind: what it answers. -/
import Derived.Test.YtchjjfjjcdjjcaaDoorIi
namespace Go.Proofs.YtchjjfjjcdjjcaaDoor
open Go.RowKit

theorem at_more {W : World} {o x : Obj} {i : Nat} (h : W.heap[i]? = some x) : (W.alloc o).heap[i]? = some x := (Below.heap_alloc _ _ _ (Array.getElem?_eq_some_iff.1 h).1).trans h
theorem at_new {W : World} (cs : Array Value) (t : TypeId) {i : Nat} (h : i = W.heap.size) : (W.alloc (.cells cs t)).heap[i]? = some (.cells cs t (0, 0)) := by rw [h]; exact World.alloc_heap_new W _
theorem six_at (w : World) (c0 c1 c2 c3 c4 c5 : Array Value) (t0 t1 t2 t3 t4 t5 : TypeId) (W : World) (hW : W = (((((w.alloc (.cells c0 t0)).alloc (.cells c1 t1)).alloc (.cells c2 t2)).alloc (.cells c3 t3)).alloc (.cells c4 t4)).alloc (.cells c5 t5)) :
    W.heap[w.heap.size]? = some (.cells c0 t0 (0, 0)) ∧ W.heap[w.heap.size + 1]? = some (.cells c1 t1 (0, 0)) ∧ W.heap[w.heap.size + 1 + 1]? = some (.cells c2 t2 (0, 0)) ∧ W.heap[w.heap.size + 1 + 1 + 1]? = some (.cells c3 t3 (0, 0)) ∧ W.heap[w.heap.size + 1 + 1 + 1 + 1]? = some (.cells c4 t4 (0, 0)) ∧ W.heap[w.heap.size + 1 + 1 + 1 + 1 + 1]? = some (.cells c5 t5 (0, 0)) ∧
      W.heap.size = w.heap.size + 6 ∧ Below w.heap.size w W := by
  subst hW
  exact ⟨at_more (at_more (at_more (at_more (at_more (at_new _ _ rfl))))), at_more (at_more (at_more (at_more (at_new _ _ (by simp))))), at_more (at_more (at_more (at_new _ _ (by simp)))), at_more (at_more (at_new _ _ (by simp))), at_more (at_new _ _ (by simp)), at_new _ _ (by simp), by simp,
    ((((((Below.refl _ w).alloc (Nat.le_refl _) _).alloc (by simp) _).alloc (by simp; omega) _).alloc (by simp; omega) _).alloc (by simp; omega) _).alloc (by simp; omega) _⟩
theorem behR_err {es : List Ent} {e : List El} {lv z : Int} (h : behR es e lv = .inr z) : z = 101 ∨ z = 102 := by
  unfold behR at h
  repeat' split at h
  all_goals first | (cases h; exact .inl rfl) | (cases h; exact .inr rfl) | cases h
/-- what Behind answers -/
def BeEnd (es : List Ent) (e : List El) (lv : Int) (ver : ByteArray) (n : Nat) (w : World) (e' : Ending) (w' : World) : Prop :=
  Below w.heap.size w w' ∧
    ((∃ a x nx p c v ts cs ov, behR es e lv = .inl (a, x, nx) ∧ e' = .returned (.tuple #[.agg #[.string ver, .slice p n c, v], ov, .int .i64 0]) ∧ EntsOwnC w.heap.size w' v (es.map (raiE (upU (upT lv x)))) ts cs ∧ ElsIn (fun b => w.heap.size ≤ b) w' ov ((e.take a).map (upU (upT lv x)) ++ [nx])) ∨
      (∃ z, behR es e lv = .inr z ∧ e' = .returned (.tuple #[.agg #[.string ⟨#[]⟩, .slice none 0 0, .slice none 0 0], .slice none 0 0, .int .i64 z])))
set_option maxHeartbeats 8000000 in
set_option maxRecDepth 100000 in
theorem tbehind_any (R Q : Nat → Prop) (es : List Ent) (e : List El) (lv : Int) (ver : ByteArray) (n : Nat) (rv ev e2v : Value) (w : World)
    (hr : CellsIn w rv n 4) (he : EntsIn R w ev es) (hf : ElsIn Q w e2v e) (hn : n ≤ 1000000000) (hel : es.length ≤ 1000000000) (hx : ∀ x ∈ es, x.1.length ≤ 1000000000 ∧ x.2.length ≤ 1000000000) (hel2 : e.length ≤ 1000000000)
    (hb : ∀ x ∈ es, ∀ y ∈ x.2, ElB y) (hb2 : ∀ y ∈ e, ElB y) :
    Calls Tryd.prog 11 #[.agg #[.string ver, rv, ev], e2v, .int .i64 lv] w (BeEnd es e lv ver n w) := by
  have hmf : ∀ (fn : Fn) (first cap : Array Value) (w : World), (Instr.makeFunc fn first cap).run Tryd.prog w = .ok (.func fn first cap) w := fun _ _ _ _ => rfl
  have HR := Lib.hid hr
  have HE := Lib.hid he
  have HF := Lib.hid hf
  have HX := Lib.hid hx
  have HBB := Lib.hid (And.intro hb hb2)
  obtain ⟨p1, c1, rfl, _⟩ := hr
  obtain ⟨p2, c2, rfl, _⟩ := he
  obtain ⟨p3, c3, rfl, _⟩ := hf
  obtain ⟨m, hm⟩ : ∃ m, m = es.length := ⟨_, rfl⟩
  obtain ⟨l, hl⟩ : ∃ l, l = e.length := ⟨_, rfl⟩
  have HLN := Lib.hid (And.intro hn (And.intro hel hel2))
  rw [← hm] at HE ⊢
  rw [← hl] at HF ⊢
  clear hx hb hb2 hn hel hel2 hm hl
  go_enter Tryd.func11, Tryd.ntmps11
  go_wp2_with fail
  obtain ⟨a0, a1, a2, a3, a4, a5, hz0, hb0⟩ := six_at w _ _ _ _ _ _ _ _ _ _ _ _ ((((((w.alloc (.cells #[.string ver, .slice p1 n c1, .slice p2 m c2] 34)).alloc (.cells #[.slice p3 l c3] 35)).alloc (.cells #[.int .i64 lv] 3)).alloc (.cells #[.string ⟨#[]⟩, .slice none 0 0, .slice none 0 0] 34)).alloc (.cells #[.string ⟨#[]⟩, .slice none 0 0, .slice none 0 0] 34)).alloc (.cells #[.slice none 0 0] 35)) rfl
  generalize ((((((w.alloc (.cells #[.string ver, .slice p1 n c1, .slice p2 m c2] 34)).alloc (.cells #[.slice p3 l c3] 35)).alloc (.cells #[.int .i64 lv] 3)).alloc (.cells #[.string ⟨#[]⟩, .slice none 0 0, .slice none 0 0] 34)).alloc (.cells #[.string ⟨#[]⟩, .slice none 0 0, .slice none 0 0] 34)).alloc (.cells #[.slice none 0 0] 35)) = W0 at *
  have hbg : Below W0.heap.size W0 ((W0.alloc (.cells #[.int .i64 0] 3)).alloc (.cells #[.int .i64 0] 24)) := ((Below.refl _ W0).alloc (Nat.le_refl _) _).alloc (by simp) _
  have hg0 : ((W0.alloc (.cells #[.int .i64 0] 3)).alloc (.cells #[.int .i64 0] 24)).heap[W0.heap.size]? = some (.cells #[.int .i64 0] 3 (0, 0)) := at_more (at_new _ _ rfl)
  have hg1 : ((W0.alloc (.cells #[.int .i64 0] 3)).alloc (.cells #[.int .i64 0] 24)).heap[W0.heap.size + 1]? = some (.cells #[.int .i64 0] 24 (0, 0)) := at_new _ _ (by simp)
  have hgz : ((W0.alloc (.cells #[.int .i64 0] 3)).alloc (.cells #[.int .i64 0] 24)).heap.size = W0.heap.size + 2 := by simp
  have hall : Below w.heap.size w ((W0.alloc (.cells #[.int .i64 0] 3)).alloc (.cells #[.int .i64 0] 24)) := hb0.trans (hbg.mono hb0.size)
  have hA0 : SrcAt W0 w.heap.size (.string ver) (.slice p1 n c1) (.slice p2 m c2) := a0
  have hA1 : OneAt W0 (w.heap.size + 1) 35 (.slice p3 l c3) := a1
  have hA2 : OneAt W0 (w.heap.size + 1 + 1) 3 (.int .i64 lv) := a2
  have hA3 : SrcAt W0 (w.heap.size + 1 + 1 + 1) (.string ⟨#[]⟩) (.slice none 0 0) (.slice none 0 0) := a3
  have hA4 : SrcAt W0 (w.heap.size + 1 + 1 + 1 + 1) (.string ⟨#[]⟩) (.slice none 0 0) (.slice none 0 0) := a4
  have hA5 : OneAt W0 (w.heap.size + 1 + 1 + 1 + 1 + 1) 35 (.slice none 0 0) := a5
  have hcall := behind1_any R Q es e lv ver n w.heap.size (w.heap.size + 1) (w.heap.size + 1 + 1) (w.heap.size + 1 + 1 + 1 + 1) (w.heap.size + 1 + 1 + 1 + 1 + 1) (.slice p1 n c1) (.slice p2 m c2) (.slice p3 l c3) _ _ _ _ ((W0.alloc (.cells #[.int .i64 0] 3)).alloc (.cells #[.int .i64 0] 24)) (hA0.below hbg) (hA1.below hbg).cells.1 (hA2.below hbg).cells.1 (hA4.below hbg) (hA5.below hbg) (by omega)
    (HR.out.below hall) (HE.out.kept (Kept.below hall)) (HF.out.kept (Kept.below hall)) HLN.out.1 HLN.out.2.1 HX.out HLN.out.2.2 HBB.out.1 HBB.out.2
  refine (tguarded_any 27 #[.pointer (some ⟨w.heap.size, 0, none⟩), .pointer (some ⟨w.heap.size + 1, 0, none⟩), .pointer (some ⟨w.heap.size + 1 + 1, 0, none⟩), .pointer (some ⟨w.heap.size + 1 + 1 + 1 + 1, 0, none⟩), .pointer (some ⟨w.heap.size + 1 + 1 + 1 + 1 + 1, 0, none⟩)] _ W0 (enters_of Tryd.func27 (by kernel_rfl) rfl) hcall ?_).mono ?_
  · intro e w' ⟨ho, hend⟩
    rw [hgz] at ho
    have k0 := ho.block W0.heap.size (by omega) (by omega)
    have k1 := ho.block (W0.heap.size + 1) (by omega) (by omega)
    rw [hg0] at k0
    rw [hg1] at k1
    have hz := ho.size
    refine ⟨?_, by omega, by simp [World.cell?, k0], by simp [World.cell?, k1], by simp [World.frozen?, k0], by simp [World.frozen?, k1]⟩
    rcases hend with ⟨_, _, _, _, _, _, _, _, _, _, h, _⟩ | ⟨z, _, h⟩
    · exact .inl h
    · exact .inr ⟨_, _, h⟩
  · rintro e' w' ⟨e1, w1, ⟨ho, hend⟩, ho1, hq⟩
    rw [hgz] at ho
    have hz1 := ho.size
    have hz2 := ho1.size
    have HON : Hid (Below w.heap.size w w') := by
      have b3 := Only.toBelow hall (by omega) ho (fun i hi => by omega)
      exact Only.toBelow b3 (by omega) ho1 (fun i hi => by omega)
    have hres := ((hA3.below hbg).only ho (by omega)).only ho1 (by omega)
    have HRES := Lib.hid hres
    rcases hend with ⟨a, x, nx, p, c, v, ts, cs, ov, hF, he, hsv, hev, hen, hov⟩ | ⟨z, hF, he⟩
    · rcases hq with ⟨_, rfl⟩ | ⟨a', z', h1, _⟩
      · have HBR := Lib.hid hF
        obtain ⟨lp, lcap, rfl⟩ := hen.form
        obtain ⟨vp, vcap, rfl, _⟩ := id hov
        generalize (es.map (raiE (upU (upT lv x)))).length = l1 at *
        generalize ((e.take a).map (upU (upT lv x)) ++ [nx]).length = l2 at *
        have hs' := hsv.only ho1 (by omega)
        have he' := hev.only ho1 (by omega)
        have HEN := Lib.hid (hen.only ho1 (fun b hb => .inl (by omega)))
        have HOV := Lib.hid (ElsIn.mono (hov.kept (Kept.only ho1 (fun b hb hs => by omega))) (S := fun b => w.heap.size + 6 ≤ b) (fun b hb _ => by omega))
        obtain ⟨d0, d1, d2, _, dl⟩ := hs'.cells
        obtain ⟨f0, _, fl⟩ := he'.cells
        obtain ⟨_, _, _, rf, rl⟩ := hres.cells
        have rf0 := rf 0
        have rf1 := rf 1
        have rf2 := rf 2
        have hlt : w.heap.size + 1 + 1 + 1 < w'.heap.size := rl
        have hWW := Lib.hid hz0
        clear hF he hsv hev hen hov ho ho1 hcall hg0 hg1 hbg hb0 hall a0 a1 a2 a3 a4 a5 hA0 hA1 hA2 hA3 hA4 hA5 hgz hz0 hz1 hz2 hs' he' hres rf rl
        go_wp2_with fail
        go_region
        have hpo : Only (fun b => b = w.heap.size + 1 + 1 + 1) w' (((w'.setCell ⟨w.heap.size + 1 + 1 + 1, 0, none⟩ (.string ver)).setCell ⟨w.heap.size + 1 + 1 + 1, 1, none⟩ (.slice p n c)).setCell ⟨w.heap.size + 1 + 1 + 1, 2, none⟩ (.slice lp l1 lcap)) :=
          (((Only.refl (fun b => b = w.heap.size + 1 + 1 + 1) w').setCell (p := ⟨w.heap.size + 1 + 1 + 1, 0, none⟩) rfl _).setCell (p := ⟨w.heap.size + 1 + 1 + 1, 1, none⟩) rfl _).setCell (p := ⟨w.heap.size + 1 + 1 + 1, 2, none⟩) rfl _
        have hsf := HRES.out.put3 (.string ver) (.slice p n c) (.slice lp l1 lcap)
        generalize (((w'.setCell ⟨w.heap.size + 1 + 1 + 1, 0, none⟩ (.string ver)).setCell ⟨w.heap.size + 1 + 1 + 1, 1, none⟩ (.slice p n c)).setCell ⟨w.heap.size + 1 + 1 + 1, 2, none⟩ (.slice lp l1 lcap)) = WF at *
        have hpd : Only (fun b => b = w.heap.size + 1 + 1 + 1) w' WF.drew := hpo.drew
        have hsd : SrcAt WF.drew (w.heap.size + 1 + 1 + 1) (.string ver) (.slice p n c) (.slice lp l1 lcap) := hsf
        generalize WF.drew = WD at *
        have HBF : Hid (Below w.heap.size w WD) := Lib.hid (Only.toBelow HON.out (by omega) hpd (fun i hi => by omega))
        have HEF := Lib.hid ((HEN.out.only hpd (fun b hb => .inl (by have := hWW.out; simp; omega))).weak (B' := w.heap.size) (by have := hWW.out; simp; omega))
        have HOF := Lib.hid (ElsIn.mono (HOV.out.kept (Kept.only hpd (fun b hb hs => by have := hWW.out; omega))) (S := fun b => w.heap.size ≤ b) (fun b hb _ => by omega))
        obtain ⟨q0, q1, q2, _, _⟩ := hsd.cells
        clear hpo hsf hpd hsd d0 d1 d2 f0 fl rf0 rf1 rf2 hlt
        go_wp2_with fail
        refine bodyPost_ret (v := .tuple #[.agg #[.string ver, .slice p n c, .slice lp l1 lcap], .slice vp l2 vcap, .int .i64 0]) (by simp [results, Tryd.results11, go_sem, q0, q1, q2]) rfl ?_
        exact ⟨HBF.out, .inl ⟨_, _, _, _, _, _, _, _, _, HBR.out, rfl, HEF.out, HOF.out⟩⟩
      · rw [he] at h1; cases h1
    · rcases hq with ⟨h1, _⟩ | ⟨a', z', h1, rfl⟩
      · rw [he] at h1; cases h1
      · have HBR := Lib.hid hF
        rw [he] at h1
        have haz : (0 : Int) = a' ∧ z = z' := by
          simp only [Ending.panicked.injEq, chainT, List.cons.injEq, PanicEntry.mk.injEq, Value.iface.injEq, Value.agg.injEq, Array.mk.injEq, Value.int.injEq] at h1
          exact ⟨h1.1.1.2.1.2, h1.1.1.2.2.1.2⟩
        obtain ⟨rfl, rfl⟩ := haz
        have hxx := behR_err hF
        have hnz : (z == 0) = false := beq_eq_false_iff_ne.2 (by omega)
        obtain ⟨_, _, _, rf, rl⟩ := hres.cells
        have rf0 := rf 0
        have rf1 := rf 1
        have rf2 := rf 2
        have hWW := Lib.hid hz0
        clear hF he h1 ho ho1 hcall hg0 hg1 hbg hb0 hall a0 a1 a2 a3 a4 a5 hA0 hA1 hA2 hA3 hA4 hA5 hgz hz0 hz1 hz2 hres rf hxx
        go_wp2_with fail
        have hpo : Only (fun b => b = w.heap.size + 1 + 1 + 1) w' (((w'.setCell ⟨w.heap.size + 1 + 1 + 1, 0, none⟩ (.string ⟨#[]⟩)).setCell ⟨w.heap.size + 1 + 1 + 1, 1, none⟩ (.slice none 0 0)).setCell ⟨w.heap.size + 1 + 1 + 1, 2, none⟩ (.slice none 0 0)) :=
          (((Only.refl (fun b => b = w.heap.size + 1 + 1 + 1) w').setCell (p := ⟨w.heap.size + 1 + 1 + 1, 0, none⟩) rfl _).setCell (p := ⟨w.heap.size + 1 + 1 + 1, 1, none⟩) rfl _).setCell (p := ⟨w.heap.size + 1 + 1 + 1, 2, none⟩) rfl _
        have hsf := HRES.out.put3 (.string ⟨#[]⟩) (.slice none 0 0) (.slice none 0 0)
        have HBF := Only.toBelow HON.out (by omega) hpo (fun i hi => by omega)
        generalize (((w'.setCell ⟨w.heap.size + 1 + 1 + 1, 0, none⟩ (.string ⟨#[]⟩)).setCell ⟨w.heap.size + 1 + 1 + 1, 1, none⟩ (.slice none 0 0)).setCell ⟨w.heap.size + 1 + 1 + 1, 2, none⟩ (.slice none 0 0)) = WF at *
        obtain ⟨q0, q1, q2, _, _⟩ := hsf.cells
        refine bodyPost_ret (v := .tuple #[.agg #[.string ⟨#[]⟩, .slice none 0 0, .slice none 0 0], .slice none 0 0, .int .i64 z]) (by simp [results, Tryd.results11, go_sem, q0, q1, q2]) rfl ?_
        exact ⟨HBF, .inr ⟨_, HBR.out, rfl⟩⟩
end Go.Proofs.YtchjjfjjcdjjcaaDoor
