/- Package tailor: Behind: the closure that it guards. Package tailor: Behind: what it answers. Law 10: awake. -/
import Derived.Test.YtchjjfjjcdjjcaaGreatDoorIh
import Derived.Test.YtchjjfjjcdjjcaaGreatDoorGl
/-! Package tailor: Behind: the closure that it guards. -/
namespace Go.Proofs.YtchjjfjjcdjjcaaGreatDoor
open Go.RowKit

/-- a box that holds one value -/
def OneAt (W : World) (b : Nat) (t : TypeId) (v : Value) : Prop := W.heap[b]? = some (.cells #[v] t (0, 0))
theorem OneAt.cells {W : World} {b : Nat} {t : TypeId} {v : Value} (h : OneAt W b t v) : W.cell? ⟨b, 0, none⟩ = some v ∧ W.frozen? ⟨b, 0, none⟩ = false ∧ b < W.heap.size :=
  ⟨by simp [World.cell?, show W.heap[b]? = _ from h], by simp [World.frozen?, show W.heap[b]? = _ from h], (Array.getElem?_eq_some_iff.1 h).1⟩
theorem OneAt.below {W W' : World} {b : Nat} {t : TypeId} {v : Value} (h : OneAt W b t v) (hb : Below W.heap.size W W') : OneAt W' b t v := (hb.block b h.cells.2.2).trans h
theorem OneAt.only {W W' : World} {b : Nat} {t : TypeId} {v : Value} (h : OneAt W b t v) {S : Nat → Prop} (ho : Only S W W') (hx : ¬ S b) : OneAt W' b t v := (ho.block b h.cells.2.2 hx).trans h
theorem OneAt.put {W : World} {b : Nat} {t : TypeId} {v : Value} (h : OneAt W b t v) (u : Value) : OneAt (W.setCell ⟨b, 0, none⟩ u) b t u := by
  unfold OneAt at *
  unfold World.setCell
  simp [Array.getElem?_modify, h]
/-- how the closure ends -/
def BhOne (es : List Ent) (e : List El) (lv : Int) (ver : ByteArray) (n sb eb : Nat) (w : World) (e' : Ending) (w' : World) : Prop :=
  Only (fun k => k = sb ∨ k = eb ∨ w.heap.size ≤ k) w w' ∧
    ((∃ a x nx p c v ts cs ov, behR es e lv = .inl (a, x, nx) ∧ e' = .returned (.tuple #[]) ∧ SrcAt w' sb (.string ver) (.slice p n c) v ∧ OneAt w' eb 37 ov ∧ EntsOwnC w.heap.size w' v (es.map (raiE (upU (upT lv x)))) ts cs ∧ ElsIn (fun b => w.heap.size ≤ b) w' ov ((e.take a).map (upU (upT lv x)) ++ [nx])) ∨
      (∃ z, behR es e lv = .inr z ∧ e' = .panicked (chainT 0 z)))
set_option maxHeartbeats 8000000 in
set_option maxRecDepth 100000 in
theorem behind1_any (R Q : Nat → Prop) (es : List Ent) (e : List El) (lv : Int) (ver : ByteArray) (n b0 b1 b2 sb eb : Nat) (rv ev e2v x y z u : Value) (w : World)
    (h0 : SrcAt w b0 (.string ver) rv ev) (h1 : w.cell? ⟨b1, 0, none⟩ = some e2v) (h2 : w.cell? ⟨b2, 0, none⟩ = some (.int .i64 lv)) (h3 : SrcAt w sb x y z) (h4 : OneAt w eb 37 u) (hse : sb ≠ eb)
    (hr : CellsIn w rv n 4) (he : EntsIn R w ev es) (hf : ElsIn Q w e2v e) (hn : n ≤ 1000000000) (hel : es.length ≤ 1000000000) (hx : ∀ x ∈ es, x.1.length ≤ 1000000000 ∧ x.2.length ≤ 1000000000) (hel2 : e.length ≤ 1000000000)
    (hb : ∀ x ∈ es, ∀ y ∈ x.2, ElB y) (hb2 : ∀ y ∈ e, ElB y) :
    Calls Tryz.prog 33 #[.pointer (some ⟨b0, 0, none⟩), .pointer (some ⟨b1, 0, none⟩), .pointer (some ⟨b2, 0, none⟩), .pointer (some ⟨sb, 0, none⟩), .pointer (some ⟨eb, 0, none⟩)] w (BhOne es e lv ver n sb eb w) := by
  have HC := Lib.hid (behind_any R Q es e lv ver n rv ev e2v w hr he hf hn hel hx hel2 hb hb2)
  have H3 := Lib.hid h3
  have H4 := Lib.hid h4
  have HSE := Lib.hid hse
  obtain ⟨p1, c1, rfl, _⟩ := hr
  obtain ⟨p2, c2, rfl, _⟩ := he
  obtain ⟨p3, c3, rfl, _⟩ := hf
  obtain ⟨s0, s1, s2, _, sl⟩ := h0.cells
  clear hx hb hb2 h3 h4 hse h0 hel hel2 hn
  go_enter Tryz.func33, Tryz.ntmps33
  go_wp2_with fail
  refine HC.out.mono ?_
  clear HC
  rintro e' w2 ⟨hb2, ⟨a, x', nx, p, c, v, ts, cs, ov, hbr, rfl, hen, hov⟩ | ⟨z', hbr, rfl⟩⟩
  · have HB2 := Lib.hid hb2
    have HBR := Lib.hid hbr
    have HEN := Lib.hid hen
    have HOV := Lib.hid hov
    have h3' := H3.out.below hb2
    have h4' := H4.out.below hb2
    obtain ⟨_, _, _, tf, tl⟩ := h3'.cells
    obtain ⟨_, ef, el⟩ := h4'.cells
    have tf0 := tf 0
    have tf1 := tf 1
    have tf2 := tf 2
    have hse' : ¬ eb = sb := fun hh => HSE.out hh.symm
    have hse := HSE.out
    obtain ⟨lp, lcap, rfl⟩ := hen.form
    obtain ⟨vp, vcap, rfl, _⟩ := hov
    generalize (es.map (raiE (upU (upT lv x')))).length = l1 at *
    generalize ((e.take a).map (upU (upT lv x')) ++ [nx]).length = l2 at *
    clear hb2 hbr hen s0 s1 s2 sl h1 h2 tf
    go_wp2_with fail
    have ho3 : Only (fun b => b = sb) w2 (((w2.setCell ⟨sb, 0, none⟩ (.string ver)).setCell ⟨sb, 1, none⟩ (.slice p n c)).setCell ⟨sb, 2, none⟩ (.slice lp l1 lcap)) :=
      (((Only.refl (fun b => b = sb) w2).setCell (p := ⟨sb, 0, none⟩) rfl _).setCell (p := ⟨sb, 1, none⟩) rfl _).setCell (p := ⟨sb, 2, none⟩) rfl _
    have hs3 := h3'.put3 (.string ver) (.slice p n c) (.slice lp l1 lcap)
    have he3 := h4'.only ho3 hse'
    generalize (((w2.setCell ⟨sb, 0, none⟩ (.string ver)).setCell ⟨sb, 1, none⟩ (.slice p n c)).setCell ⟨sb, 2, none⟩ (.slice lp l1 lcap)) = W3 at *
    have ho4 : Only (fun b => b = eb) W3 (W3.setCell ⟨eb, 0, none⟩ (.slice vp l2 vcap)) := (Only.refl (fun b => b = eb) W3).setCell (p := ⟨eb, 0, none⟩) rfl _
    have he4 := he3.put (.slice vp l2 vcap)
    have hs4 := hs3.only ho4 hse
    generalize W3.setCell ⟨eb, 0, none⟩ (.slice vp l2 vcap) = W4 at *
    have hsl := H3.out.cells.2.2.2.2
    have hel := H4.out.cells.2.2
    have hbo : Only (fun k => k = sb ∨ k = eb ∨ w.heap.size ≤ k) w W4 :=
      ((((Only.refl _ w).below2 HB2.out (fun k hk => .inr (.inr hk))).trans (ho3.mono (fun k hk => .inl hk))).trans (ho4.mono (fun k hk => .inr (.inl hk))))
    go_end0
    exact ⟨hbo, .inl ⟨a, x', nx, _, _, _, _, _, _, HBR.out, rfl, hs4, he4, (HEN.out.only ho3 (fun b hb => .inl (by omega))).only ho4 (fun b hb => .inl (by omega)),
      (HOV.out.kept (Kept.only ho3 (fun b hb hs => by omega))).kept (Kept.only ho4 (fun b hb hs => by omega))⟩⟩
  · refine ⟨rfl, ⟨hb2.os, hb2.tape, hb2.output, hb2.size, fun k hk hn => hb2.block k (Nat.lt_of_not_le (fun hh => hn (.inr (.inr hh))))⟩, .inr ⟨z', hbr, rfl⟩⟩
end Go.Proofs.YtchjjfjjcdjjcaaGreatDoor
/-! Package tailor: Behind: what it answers. -/
namespace Go.Proofs.YtchjjfjjcdjjcaaGreatDoor
open Go.RowKit

theorem at_more {W : World} {o x : Obj} {i : Nat} (h : W.heap[i]? = some x) : (W.alloc o).heap[i]? = some x := (Below.heap_alloc _ _ _ (Array.getElem?_eq_some_iff.1 h).1).trans h
theorem at_new {W : World} (cs : Array Value) (t : TypeId) {i : Nat} (h : i = W.heap.size) : (W.alloc (.cells cs t)).heap[i]? = some (.cells cs t (0, 0)) := by rw [h]; exact World.alloc_heap_new W _
theorem six_at (w : World) (c0 c1 c2 c3 c4 c5 : Array Value) (t0 t1 t2 t3 t4 t5 : TypeId) (W : World) (hW : W = (((((w.alloc (.cells c0 t0)).alloc (.cells c1 t1)).alloc (.cells c2 t2)).alloc (.cells c3 t3)).alloc (.cells c4 t4)).alloc (.cells c5 t5)) :
    W.heap[w.heap.size]? = some (.cells c0 t0 (0, 0)) ∧ W.heap[w.heap.size + 1]? = some (.cells c1 t1 (0, 0)) ∧ W.heap[w.heap.size + 1 + 1]? = some (.cells c2 t2 (0, 0)) ∧ W.heap[w.heap.size + 1 + 1 + 1]? = some (.cells c3 t3 (0, 0)) ∧ W.heap[w.heap.size + 1 + 1 + 1 + 1]? = some (.cells c4 t4 (0, 0)) ∧ W.heap[w.heap.size + 1 + 1 + 1 + 1 + 1]? = some (.cells c5 t5 (0, 0)) ∧
      W.heap.size = w.heap.size + 6 ∧ Below w.heap.size w W := by
  subst hW
  exact ⟨at_more (at_more (at_more (at_more (at_more (at_new _ _ rfl))))), at_more (at_more (at_more (at_more (at_new _ _ (by simp))))), at_more (at_more (at_more (at_new _ _ (by simp)))), at_more (at_more (at_new _ _ (by simp))), at_more (at_new _ _ (by simp)), at_new _ _ (by simp), by simp,
    ((((((Below.refl _ w).alloc (Nat.le_refl _) _).alloc (by simp) _).alloc (by simp; omega) _).alloc (by simp; omega) _).alloc (by simp; omega) _).alloc (by simp; omega) _⟩
theorem behR_err {es : List Ent} {e : List El} {lv z : Int} (h : behR es e lv = .inr z) : z = 101 ∨ z = 102 := by
  unfold behR at h
  repeat' split at h
  all_goals first | (cases h; exact .inl rfl) | (cases h; exact .inr rfl) | cases h
/-- what Behind answers -/
def BeEnd (es : List Ent) (e : List El) (lv : Int) (ver : ByteArray) (n : Nat) (w : World) (e' : Ending) (w' : World) : Prop :=
  Below w.heap.size w w' ∧
    ((∃ a x nx p c v ts cs ov, behR es e lv = .inl (a, x, nx) ∧ e' = .returned (.tuple #[.agg #[.string ver, .slice p n c, v], ov, .int .i64 0]) ∧ EntsOwnC w.heap.size w' v (es.map (raiE (upU (upT lv x)))) ts cs ∧ ElsIn (fun b => w.heap.size ≤ b) w' ov ((e.take a).map (upU (upT lv x)) ++ [nx])) ∨
      (∃ z, behR es e lv = .inr z ∧ e' = .returned (.tuple #[.agg #[.string ⟨#[]⟩, .slice none 0 0, .slice none 0 0], .slice none 0 0, .int .i64 z])))
set_option maxHeartbeats 8000000 in
set_option maxRecDepth 100000 in
theorem tbehind_any (R Q : Nat → Prop) (es : List Ent) (e : List El) (lv : Int) (ver : ByteArray) (n : Nat) (rv ev e2v : Value) (w : World)
    (hr : CellsIn w rv n 4) (he : EntsIn R w ev es) (hf : ElsIn Q w e2v e) (hn : n ≤ 1000000000) (hel : es.length ≤ 1000000000) (hx : ∀ x ∈ es, x.1.length ≤ 1000000000 ∧ x.2.length ≤ 1000000000) (hel2 : e.length ≤ 1000000000)
    (hb : ∀ x ∈ es, ∀ y ∈ x.2, ElB y) (hb2 : ∀ y ∈ e, ElB y) :
    Calls Tryz.prog 12 #[.agg #[.string ver, rv, ev], e2v, .int .i64 lv] w (BeEnd es e lv ver n w) := by
  have hmf : ∀ (fn : Fn) (first cap : Array Value) (w : World), (Instr.makeFunc fn first cap).run Tryz.prog w = .ok (.func fn first cap) w := fun _ _ _ _ => rfl
  have HR := Lib.hid hr
  have HE := Lib.hid he
  have HF := Lib.hid hf
  have HX := Lib.hid hx
  have HBB := Lib.hid (And.intro hb hb2)
  obtain ⟨p1, c1, rfl, _⟩ := hr
  obtain ⟨p2, c2, rfl, _⟩ := he
  obtain ⟨p3, c3, rfl, _⟩ := hf
  obtain ⟨m, hm⟩ : ∃ m, m = es.length := ⟨_, rfl⟩
  obtain ⟨l, hl⟩ : ∃ l, l = e.length := ⟨_, rfl⟩
  have HLN := Lib.hid (And.intro hn (And.intro hel hel2))
  rw [← hm] at HE ⊢
  rw [← hl] at HF ⊢
  clear hx hb hb2 hn hel hel2 hm hl
  go_enter Tryz.func12, Tryz.ntmps12
  go_wp2_with fail
  obtain ⟨a0, a1, a2, a3, a4, a5, hz0, hb0⟩ := six_at w _ _ _ _ _ _ _ _ _ _ _ _ ((((((w.alloc (.cells #[.string ver, .slice p1 n c1, .slice p2 m c2] 43)).alloc (.cells #[.slice p3 l c3] 37)).alloc (.cells #[.int .i64 lv] 3)).alloc (.cells #[.string ⟨#[]⟩, .slice none 0 0, .slice none 0 0] 43)).alloc (.cells #[.string ⟨#[]⟩, .slice none 0 0, .slice none 0 0] 43)).alloc (.cells #[.slice none 0 0] 37)) rfl
  generalize ((((((w.alloc (.cells #[.string ver, .slice p1 n c1, .slice p2 m c2] 43)).alloc (.cells #[.slice p3 l c3] 37)).alloc (.cells #[.int .i64 lv] 3)).alloc (.cells #[.string ⟨#[]⟩, .slice none 0 0, .slice none 0 0] 43)).alloc (.cells #[.string ⟨#[]⟩, .slice none 0 0, .slice none 0 0] 43)).alloc (.cells #[.slice none 0 0] 37)) = W0 at *
  have hbg : Below W0.heap.size W0 ((W0.alloc (.cells #[.int .i64 0] 3)).alloc (.cells #[.int .i64 0] 26)) := ((Below.refl _ W0).alloc (Nat.le_refl _) _).alloc (by simp) _
  have hg0 : ((W0.alloc (.cells #[.int .i64 0] 3)).alloc (.cells #[.int .i64 0] 26)).heap[W0.heap.size]? = some (.cells #[.int .i64 0] 3 (0, 0)) := at_more (at_new _ _ rfl)
  have hg1 : ((W0.alloc (.cells #[.int .i64 0] 3)).alloc (.cells #[.int .i64 0] 26)).heap[W0.heap.size + 1]? = some (.cells #[.int .i64 0] 26 (0, 0)) := at_new _ _ (by simp)
  have hgz : ((W0.alloc (.cells #[.int .i64 0] 3)).alloc (.cells #[.int .i64 0] 26)).heap.size = W0.heap.size + 2 := by simp
  have hall : Below w.heap.size w ((W0.alloc (.cells #[.int .i64 0] 3)).alloc (.cells #[.int .i64 0] 26)) := hb0.trans (hbg.mono hb0.size)
  have hA0 : SrcAt W0 w.heap.size (.string ver) (.slice p1 n c1) (.slice p2 m c2) := a0
  have hA1 : OneAt W0 (w.heap.size + 1) 37 (.slice p3 l c3) := a1
  have hA2 : OneAt W0 (w.heap.size + 1 + 1) 3 (.int .i64 lv) := a2
  have hA3 : SrcAt W0 (w.heap.size + 1 + 1 + 1) (.string ⟨#[]⟩) (.slice none 0 0) (.slice none 0 0) := a3
  have hA4 : SrcAt W0 (w.heap.size + 1 + 1 + 1 + 1) (.string ⟨#[]⟩) (.slice none 0 0) (.slice none 0 0) := a4
  have hA5 : OneAt W0 (w.heap.size + 1 + 1 + 1 + 1 + 1) 37 (.slice none 0 0) := a5
  have hcall := behind1_any R Q es e lv ver n w.heap.size (w.heap.size + 1) (w.heap.size + 1 + 1) (w.heap.size + 1 + 1 + 1 + 1) (w.heap.size + 1 + 1 + 1 + 1 + 1) (.slice p1 n c1) (.slice p2 m c2) (.slice p3 l c3) _ _ _ _ ((W0.alloc (.cells #[.int .i64 0] 3)).alloc (.cells #[.int .i64 0] 26)) (hA0.below hbg) (hA1.below hbg).cells.1 (hA2.below hbg).cells.1 (hA4.below hbg) (hA5.below hbg) (by omega)
    (HR.out.below hall) (HE.out.kept (Kept.below hall)) (HF.out.kept (Kept.below hall)) HLN.out.1 HLN.out.2.1 HX.out HLN.out.2.2 HBB.out.1 HBB.out.2
  refine (tguarded_any 33 #[.pointer (some ⟨w.heap.size, 0, none⟩), .pointer (some ⟨w.heap.size + 1, 0, none⟩), .pointer (some ⟨w.heap.size + 1 + 1, 0, none⟩), .pointer (some ⟨w.heap.size + 1 + 1 + 1 + 1, 0, none⟩), .pointer (some ⟨w.heap.size + 1 + 1 + 1 + 1 + 1, 0, none⟩)] _ W0 (enters_of Tryz.func33 (by kernel_rfl) rfl) hcall ?_).mono ?_
  · intro e w' ⟨ho, hend⟩
    rw [hgz] at ho
    have k0 := ho.block W0.heap.size (by omega) (by omega)
    have k1 := ho.block (W0.heap.size + 1) (by omega) (by omega)
    rw [hg0] at k0
    rw [hg1] at k1
    have hz := ho.size
    refine ⟨?_, by omega, by simp [World.cell?, k0], by simp [World.cell?, k1], by simp [World.frozen?, k0], by simp [World.frozen?, k1]⟩
    rcases hend with ⟨_, _, _, _, _, _, _, _, _, _, h, _⟩ | ⟨z, _, h⟩
    · exact .inl h
    · exact .inr ⟨_, _, h⟩
  · rintro e' w' ⟨e1, w1, ⟨ho, hend⟩, ho1, hq⟩
    rw [hgz] at ho
    have hz1 := ho.size
    have hz2 := ho1.size
    have HON : Hid (Below w.heap.size w w') := by
      have b3 := Only.toBelow hall (by omega) ho (fun i hi => by omega)
      exact Only.toBelow b3 (by omega) ho1 (fun i hi => by omega)
    have hres := ((hA3.below hbg).only ho (by omega)).only ho1 (by omega)
    have HRES := Lib.hid hres
    rcases hend with ⟨a, x, nx, p, c, v, ts, cs, ov, hF, he, hsv, hev, hen, hov⟩ | ⟨z, hF, he⟩
    · rcases hq with ⟨_, rfl⟩ | ⟨a', z', h1, _⟩
      · have HBR := Lib.hid hF
        obtain ⟨lp, lcap, rfl⟩ := hen.form
        obtain ⟨vp, vcap, rfl, _⟩ := id hov
        generalize (es.map (raiE (upU (upT lv x)))).length = l1 at *
        generalize ((e.take a).map (upU (upT lv x)) ++ [nx]).length = l2 at *
        have hs' := hsv.only ho1 (by omega)
        have he' := hev.only ho1 (by omega)
        have HEN := Lib.hid (hen.only ho1 (fun b hb => .inl (by omega)))
        have HOV := Lib.hid (ElsIn.mono (hov.kept (Kept.only ho1 (fun b hb hs => by omega))) (S := fun b => w.heap.size + 6 ≤ b) (fun b hb _ => by omega))
        obtain ⟨d0, d1, d2, _, dl⟩ := hs'.cells
        obtain ⟨f0, _, fl⟩ := he'.cells
        obtain ⟨_, _, _, rf, rl⟩ := hres.cells
        have rf0 := rf 0
        have rf1 := rf 1
        have rf2 := rf 2
        have hlt : w.heap.size + 1 + 1 + 1 < w'.heap.size := rl
        have hWW := Lib.hid hz0
        clear hF he hsv hev hen hov ho ho1 hcall hg0 hg1 hbg hb0 hall a0 a1 a2 a3 a4 a5 hA0 hA1 hA2 hA3 hA4 hA5 hgz hz0 hz1 hz2 hs' he' hres rf rl
        go_wp2_with fail
        go_region
        have hpo : Only (fun b => b = w.heap.size + 1 + 1 + 1) w' (((w'.setCell ⟨w.heap.size + 1 + 1 + 1, 0, none⟩ (.string ver)).setCell ⟨w.heap.size + 1 + 1 + 1, 1, none⟩ (.slice p n c)).setCell ⟨w.heap.size + 1 + 1 + 1, 2, none⟩ (.slice lp l1 lcap)) :=
          (((Only.refl (fun b => b = w.heap.size + 1 + 1 + 1) w').setCell (p := ⟨w.heap.size + 1 + 1 + 1, 0, none⟩) rfl _).setCell (p := ⟨w.heap.size + 1 + 1 + 1, 1, none⟩) rfl _).setCell (p := ⟨w.heap.size + 1 + 1 + 1, 2, none⟩) rfl _
        have hsf := HRES.out.put3 (.string ver) (.slice p n c) (.slice lp l1 lcap)
        generalize (((w'.setCell ⟨w.heap.size + 1 + 1 + 1, 0, none⟩ (.string ver)).setCell ⟨w.heap.size + 1 + 1 + 1, 1, none⟩ (.slice p n c)).setCell ⟨w.heap.size + 1 + 1 + 1, 2, none⟩ (.slice lp l1 lcap)) = WF at *
        have hpd : Only (fun b => b = w.heap.size + 1 + 1 + 1) w' WF.drew := hpo.drew
        have hsd : SrcAt WF.drew (w.heap.size + 1 + 1 + 1) (.string ver) (.slice p n c) (.slice lp l1 lcap) := hsf
        generalize WF.drew = WD at *
        have HBF : Hid (Below w.heap.size w WD) := Lib.hid (Only.toBelow HON.out (by omega) hpd (fun i hi => by omega))
        have HEF := Lib.hid ((HEN.out.only hpd (fun b hb => .inl (by have := hWW.out; simp; omega))).weak (B' := w.heap.size) (by have := hWW.out; simp; omega))
        have HOF := Lib.hid (ElsIn.mono (HOV.out.kept (Kept.only hpd (fun b hb hs => by have := hWW.out; omega))) (S := fun b => w.heap.size ≤ b) (fun b hb _ => by omega))
        obtain ⟨q0, q1, q2, _, _⟩ := hsd.cells
        clear hpo hsf hpd hsd d0 d1 d2 f0 fl rf0 rf1 rf2 hlt
        go_wp2_with fail
        refine bodyPost_ret (v := .tuple #[.agg #[.string ver, .slice p n c, .slice lp l1 lcap], .slice vp l2 vcap, .int .i64 0]) (by simp [results, Tryz.results12, go_sem, q0, q1, q2]) rfl ?_
        exact ⟨HBF.out, .inl ⟨_, _, _, _, _, _, _, _, _, HBR.out, rfl, HEF.out, HOF.out⟩⟩
      · rw [he] at h1; cases h1
    · rcases hq with ⟨h1, _⟩ | ⟨a', z', h1, rfl⟩
      · rw [he] at h1; cases h1
      · have HBR := Lib.hid hF
        rw [he] at h1
        have haz : (0 : Int) = a' ∧ z = z' := by
          simp only [Ending.panicked.injEq, chainT, List.cons.injEq, PanicEntry.mk.injEq, Value.iface.injEq, Value.agg.injEq, Array.mk.injEq, Value.int.injEq] at h1
          exact ⟨h1.1.1.2.1.2, h1.1.1.2.2.1.2⟩
        obtain ⟨rfl, rfl⟩ := haz
        have hxx := behR_err hF
        have hnz : (z == 0) = false := beq_eq_false_iff_ne.2 (by omega)
        obtain ⟨_, _, _, rf, rl⟩ := hres.cells
        have rf0 := rf 0
        have rf1 := rf 1
        have rf2 := rf 2
        have hWW := Lib.hid hz0
        clear hF he h1 ho ho1 hcall hg0 hg1 hbg hb0 hall a0 a1 a2 a3 a4 a5 hA0 hA1 hA2 hA3 hA4 hA5 hgz hz0 hz1 hz2 hres rf hxx
        go_wp2_with fail
        have hpo : Only (fun b => b = w.heap.size + 1 + 1 + 1) w' (((w'.setCell ⟨w.heap.size + 1 + 1 + 1, 0, none⟩ (.string ⟨#[]⟩)).setCell ⟨w.heap.size + 1 + 1 + 1, 1, none⟩ (.slice none 0 0)).setCell ⟨w.heap.size + 1 + 1 + 1, 2, none⟩ (.slice none 0 0)) :=
          (((Only.refl (fun b => b = w.heap.size + 1 + 1 + 1) w').setCell (p := ⟨w.heap.size + 1 + 1 + 1, 0, none⟩) rfl _).setCell (p := ⟨w.heap.size + 1 + 1 + 1, 1, none⟩) rfl _).setCell (p := ⟨w.heap.size + 1 + 1 + 1, 2, none⟩) rfl _
        have hsf := HRES.out.put3 (.string ⟨#[]⟩) (.slice none 0 0) (.slice none 0 0)
        have HBF := Only.toBelow HON.out (by omega) hpo (fun i hi => by omega)
        generalize (((w'.setCell ⟨w.heap.size + 1 + 1 + 1, 0, none⟩ (.string ⟨#[]⟩)).setCell ⟨w.heap.size + 1 + 1 + 1, 1, none⟩ (.slice none 0 0)).setCell ⟨w.heap.size + 1 + 1 + 1, 2, none⟩ (.slice none 0 0)) = WF at *
        obtain ⟨q0, q1, q2, _, _⟩ := hsf.cells
        refine bodyPost_ret (v := .tuple #[.agg #[.string ⟨#[]⟩, .slice none 0 0, .slice none 0 0], .slice none 0 0, .int .i64 z]) (by simp [results, Tryz.results12, go_sem, q0, q1, q2]) rfl ?_
        exact ⟨HBF, .inr ⟨_, HBR.out, rfl⟩⟩
end Go.Proofs.YtchjjfjjcdjjcaaGreatDoor
/-! Law 10: awake. -/
namespace Go.Proofs.YtchjjfjjcdjjcaaGreatDoor
open Go.RowKit

theorem awk10_1 : (parV ⟨#[38, 97, 32, 60, 32, 98, 32, 60, 60, 32, 99]⟩).length = 3 ∧ parE ⟨#[38, 97, 32, 60, 32, 98, 32, 60, 60, 32, 99]⟩ = 0 := ⟨by kernel_rfl, by kernel_rfl⟩
theorem awk10_2 : parA ⟨#[38, 97, 32, 60]⟩ = 4 ∧ parE ⟨#[38, 97, 32, 60]⟩ = 100 := ⟨by kernel_rfl, by kernel_rfl⟩
def awE : List Ent := [([97], [(16, 32, 2, false)]), ([98], [(17, 32, 2, false)])]
theorem awk10_3 : behR awE [(16, 32, 2, false)] 1 = .inl (0, (16, 32, 2, false), (17, 32, 2, false)) := by kernel_rfl
theorem awk10_4 : awE.map (raiE (upU (upT 1 (16, 32, 2, false)))) = [([97], [(16, 32, 2, false)]), ([98], [(18, 32, 2, false)])] := by kernel_rfl
set_option maxHeartbeats 8000000 in
set_option maxRecDepth 100000 in
theorem awake10_any (w : World) : Calls Tryz.prog 4 #[] w fun e w' => e = .returned (.bool true) ∧ Below w.heap.size w w' := by
  have h1 := fun W => parse_any ⟨#[38, 97, 32, 60, 32, 98, 32, 60, 60, 32, 99]⟩ W (by decide)
  have h2 := fun W => parse_any ⟨#[38, 97, 32, 60]⟩ W (by decide)
  rw [awk10_1.2] at h1
  rw [awk10_2.1, awk10_2.2] at h2
  have H1 := Lib.hid h1
  have H2 := Lib.hid h2
  clear h1 h2
  go_enter Tryz.func4, Tryz.ntmps4
  go_wp2_with fail
  refine (H1.out _).mono ?_
  rintro e w1 ⟨lv1, rfl, hr1, hb1⟩
  have HB1 := Lib.hid hb1
  obtain ⟨p1, k1, rfl, _⟩ := hr1
  rw [awk10_1.1]
  clear hb1
  go_wp2_with fail
  refine (H2.out _).mono ?_
  rintro e w2 ⟨lv2, rfl, hr2, hb2⟩
  have HB2 := Lib.hid (HB1.out.trans (hb2.mono HB1.out.size))
  clear hb2 hr2
  generalize parA ⟨#[38, 97, 32, 60, 32, 98, 32, 60, 60, 32, 99]⟩ = pa at *
  go_upto_region 4 with fail
  obtain ⟨a0, a1, a2, a3, a4, a5, hz0, hb0⟩ := six_at w2 _ _ _ _ _ _ _ _ _ _ _ _ ((((((w2.alloc (.cells #[.int .i32 97] 21)).alloc (.cells #[.int .i64 16, .int .i64 32, .int .i64 2, .bool false] 36)).alloc (.cells #[.int .i32 98] 21)).alloc (.cells #[.int .i64 17, .int .i64 32, .int .i64 2, .bool false] 36)).alloc (.cells #[.slice (some ⟨w2.heap.size, 0, none⟩) 1 1, .slice (some ⟨w2.heap.size + 1, 0, none⟩) 1 1, .slice (some ⟨w2.heap.size + 1 + 1, 0, none⟩) 1 1, .slice (some ⟨w2.heap.size + 1 + 1 + 1, 0, none⟩) 1 1] 39)).alloc (.cells #[.string ⟨#[]⟩, .slice none 0 0, .slice (some ⟨w2.heap.size + 1 + 1 + 1 + 1, 0, none⟩) 2 2] 43)) rfl
  generalize ((((((w2.alloc (.cells #[.int .i32 97] 21)).alloc (.cells #[.int .i64 16, .int .i64 32, .int .i64 2, .bool false] 36)).alloc (.cells #[.int .i32 98] 21)).alloc (.cells #[.int .i64 17, .int .i64 32, .int .i64 2, .bool false] 36)).alloc (.cells #[.slice (some ⟨w2.heap.size, 0, none⟩) 1 1, .slice (some ⟨w2.heap.size + 1, 0, none⟩) 1 1, .slice (some ⟨w2.heap.size + 1 + 1, 0, none⟩) 1 1, .slice (some ⟨w2.heap.size + 1 + 1 + 1, 0, none⟩) 1 1] 39)).alloc (.cells #[.string ⟨#[]⟩, .slice none 0 0, .slice (some ⟨w2.heap.size + 1 + 1 + 1 + 1, 0, none⟩) 2 2] 43)) = W0 at *
  have hS : SrcAt W0 (w2.heap.size + 1 + 1 + 1 + 1 + 1) (.string ⟨#[]⟩) (.slice none 0 0) (.slice (some ⟨w2.heap.size + 1 + 1 + 1 + 1, 0, none⟩) 2 2) := a5
  have r0 : W0.cell? ⟨w2.heap.size + 1 + 1 + 1 + 1, 0, none⟩ = some (.slice (some ⟨w2.heap.size, 0, none⟩) 1 1) := by simp [World.cell?, a4]
  have r1 : W0.cell? ⟨w2.heap.size + 1 + 1 + 1 + 1, 1, none⟩ = some (.slice (some ⟨w2.heap.size + 1, 0, none⟩) 1 1) := by simp [World.cell?, a4]
  have r2 : W0.cell? ⟨w2.heap.size + 1 + 1 + 1 + 1, 2, none⟩ = some (.slice (some ⟨w2.heap.size + 1 + 1, 0, none⟩) 1 1) := by simp [World.cell?, a4]
  have r3 : W0.cell? ⟨w2.heap.size + 1 + 1 + 1 + 1, 3, none⟩ = some (.slice (some ⟨w2.heap.size + 1 + 1 + 1, 0, none⟩) 1 1) := by simp [World.cell?, a4]
  have hi1 : IntsIn (fun _ => True) .i32 W0 (.slice (some ⟨w2.heap.size, 0, none⟩) 1 1) [97] := by
    refine ⟨_, _, rfl, ⟨by decide, by unfold maxLen; decide⟩, fun i x hx => ?_⟩
    match i, hx with
    | 0, hx => cases hx; exact ⟨_, _, rfl, trivial, (Array.getElem?_eq_some_iff.1 a0).1, by simp [World.cell?, a0]⟩
  have hi2 : IntsIn (fun _ => True) .i32 W0 (.slice (some ⟨w2.heap.size + 1 + 1, 0, none⟩) 1 1) [98] := by
    refine ⟨_, _, rfl, ⟨by decide, by unfold maxLen; decide⟩, fun i x hx => ?_⟩
    match i, hx with
    | 0, hx => cases hx; exact ⟨_, _, rfl, trivial, (Array.getElem?_eq_some_iff.1 a2).1, by simp [World.cell?, a2]⟩
  have he1 : ElsIn (fun _ => True) W0 (.slice (some ⟨w2.heap.size + 1, 0, none⟩) 1 1) [(16, 32, 2, false)] := by
    refine ⟨_, _, rfl, fun i x hx => ?_⟩
    match i, hx with
    | 0, hx => cases hx; exact ⟨_, _, rfl, trivial, (Array.getElem?_eq_some_iff.1 a1).1, by simp [El4, World.cell?, a1]⟩
  have he2 : ElsIn (fun _ => True) W0 (.slice (some ⟨w2.heap.size + 1 + 1 + 1, 0, none⟩) 1 1) [(17, 32, 2, false)] := by
    refine ⟨_, _, rfl, fun i x hx => ?_⟩
    match i, hx with
    | 0, hx => cases hx; exact ⟨_, _, rfl, trivial, (Array.getElem?_eq_some_iff.1 a3).1, by simp [El4, World.cell?, a3]⟩
  have hen : EntsIn (fun _ => True) W0 (.slice (some ⟨w2.heap.size + 1 + 1 + 1 + 1, 0, none⟩) 2 2) awE := by
    refine ⟨_, _, rfl, fun i x hx => ?_⟩
    match i, hx with
    | 0, hx => cases hx; exact ⟨_, _, _, _, rfl, trivial, (Array.getElem?_eq_some_iff.1 a4).1, r0, r1, hi1, he1⟩
    | 1, hx => cases hx; exact ⟨_, _, _, _, rfl, trivial, (Array.getElem?_eq_some_iff.1 a4).1, r2, r3, hi2, he2⟩
  have HB0 : Hid (Below w.heap.size w W0) := Lib.hid (HB2.out.trans (hb0.mono HB2.out.size))
  have HSS : Hid (∀ V, Below W0.heap.size W0 V → (fun V : World => V.cell? ⟨w2.heap.size + 1 + 1 + 1 + 1 + 1, 0, none⟩ = some (.string ⟨#[]⟩) ∧ V.cell? ⟨w2.heap.size + 1 + 1 + 1 + 1 + 1, 1, none⟩ = some (.slice none 0 0) ∧ V.cell? ⟨w2.heap.size + 1 + 1 + 1 + 1 + 1, 2, none⟩ = some (.slice (some ⟨w2.heap.size + 1 + 1 + 1 + 1, 0, none⟩) 2 2) ∧ V.cell? ⟨w2.heap.size + 1 + 1 + 1 + 1, 1, none⟩ = some (.slice (some ⟨w2.heap.size + 1, 0, none⟩) 1 1)) V) := Lib.hid (fun V hb => by
    obtain ⟨q0, q1, q2, _, _⟩ := (hS.below hb).cells
    exact ⟨q0, q1, q2, (hb.cell (p := ⟨w2.heap.size + 1 + 1 + 1 + 1, 1, none⟩) (Array.getElem?_eq_some_iff.1 a4).1).trans r1⟩)
  have HCL : Hid (∀ V, Below W0.heap.size W0 V → Calls Tryz.prog 12 #[.agg #[.string ⟨#[]⟩, .slice none 0 0, .slice (some ⟨w2.heap.size + 1 + 1 + 1 + 1, 0, none⟩) 2 2], .slice (some ⟨w2.heap.size + 1, 0, none⟩) 1 1, .int .i64 1] V (BeEnd awE [(16, 32, 2, false)] 1 ⟨#[]⟩ 0 V)) := Lib.hid (fun V hb =>
    tbehind_any (fun _ => True) (fun _ => True) awE [(16, 32, 2, false)] 1 ⟨#[]⟩ 0 _ _ _ V (CellsIn.nil V 4) (hen.kept (Kept.below hb)) (he1.kept (Kept.below hb)) (by decide) (by decide) (by decide) (by decide) (by unfold ElB inI; decide) (by unfold ElB inI; decide))
  clear hi1 hi2 he1 he2 hen r0 r1 r2 r3 a0 a1 a2 a3 a4 a5 hS hz0 hb0
  go_cut [8, 9, 10] from 31 to 41 (fun s8 s9 s10 wx => ∃ (ob : Nat) (p : Option Addr) (c : Nat) (v : Value) (ts : List Tri3) (cs : List (Value × Value)), s8 = .pointer (some ⟨ob, 0, none⟩) ∧ s10 = .int .i64 0 ∧ SrcAt wx ob (.string ⟨#[]⟩) (.slice p 0 c) v ∧
    EntsOwnC W0.heap.size wx v [([97], [(16, 32, 2, false)]), ([98], [(18, 32, 2, false)])] ts cs ∧ ElsIn (fun _ => True) wx s9 [(17, 32, 2, false)] ∧ Below W0.heap.size W0 wx)
  case first =>
    refine wp_region_held_drew (S := (fun V : World => V.cell? ⟨w2.heap.size + 1 + 1 + 1 + 1 + 1, 0, none⟩ = some (.string ⟨#[]⟩) ∧ V.cell? ⟨w2.heap.size + 1 + 1 + 1 + 1 + 1, 1, none⟩ = some (.slice none 0 0) ∧ V.cell? ⟨w2.heap.size + 1 + 1 + 1 + 1 + 1, 2, none⟩ = some (.slice (some ⟨w2.heap.size + 1 + 1 + 1 + 1, 0, none⟩) 2 2) ∧ V.cell? ⟨w2.heap.size + 1 + 1 + 1 + 1, 1, none⟩ = some (.slice (some ⟨w2.heap.size + 1, 0, none⟩) 1 1))) (by kernel_rfl) (HSS.out _ (Below.refl _ W0).drew) (fun hH => ?_)
    refine gTakeL (i := 0) (v := ?_) rfl (by kernel_rfl) (by kernel_rfl) (by kernel_rfl) (fun _ _ _ h => h) (Or.inl ⟨by first | rfl | kernel_rfl, ?_⟩) hH ?_; rotate_left 1; (first | (focus (intro w hSw; (try dsimp only at hSw); go_simp; done)) | (focus (intro w hSw; (try dsimp only at hSw); go_simp; with_reducible rfl)) | (focus (intro w hSw; (try dsimp only at hSw); simp [hSw, go_sem]; done))); (try simp only [Act.put, List.setIfInBounds_toArray, List.set_cons_zero, List.set_cons_succ])
    refine gTakeL (i := 1) (v := ?_) rfl (by kernel_rfl) (by kernel_rfl) (by kernel_rfl) (fun _ _ _ h => h) (Or.inl ⟨by first | rfl | kernel_rfl, ?_⟩) hH ?_; rotate_left 1; (first | (focus (intro w hSw; (try dsimp only at hSw); go_simp; done)) | (focus (intro w hSw; (try dsimp only at hSw); go_simp; with_reducible rfl)) | (focus (intro w hSw; (try dsimp only at hSw); simp [hSw, go_sem]; done))); (try simp only [Act.put, List.setIfInBounds_toArray, List.set_cons_zero, List.set_cons_succ])
    refine gTakeL (i := 2) (v := ?_) rfl (by kernel_rfl) (by kernel_rfl) (by kernel_rfl) (fun _ _ _ h => h) (Or.inl ⟨by first | rfl | kernel_rfl, ?_⟩) hH ?_; rotate_left 1; (first | (focus (intro w hSw; (try dsimp only at hSw); go_simp; done)) | (focus (intro w hSw; (try dsimp only at hSw); go_simp; with_reducible rfl)) | (focus (intro w hSw; (try dsimp only at hSw); simp [hSw, go_sem]; done))); (try simp only [Act.put, List.setIfInBounds_toArray, List.set_cons_zero, List.set_cons_succ])
    refine gTakeL (i := 3) (v := ?_) rfl (by kernel_rfl) (by kernel_rfl) (by kernel_rfl) (fun _ _ _ h => h) (Or.inl ⟨by first | rfl | kernel_rfl, ?_⟩) hH ?_; rotate_left 1; (first | (focus (intro w hSw; (try dsimp only at hSw); go_simp; done)) | (focus (intro w hSw; (try dsimp only at hSw); go_simp; with_reducible rfl)) | (focus (intro w hSw; (try dsimp only at hSw); simp [hSw, go_sem]; done))); (try simp only [Act.put, List.setIfInBounds_toArray, List.set_cons_zero, List.set_cons_succ])
    refine gTakeL (i := 4) (v := ?_) rfl (by kernel_rfl) (by kernel_rfl) (by kernel_rfl) (fun _ _ _ h => h) (Or.inl ⟨by first | rfl | kernel_rfl, ?_⟩) hH ?_; rotate_left 1; (first | (focus (intro w hSw; (try dsimp only at hSw); go_simp; done)) | (focus (intro w hSw; (try dsimp only at hSw); go_simp; with_reducible rfl)) | (focus (intro w hSw; (try dsimp only at hSw); simp [hSw, go_sem]; done))); (try simp only [Act.put, List.setIfInBounds_toArray, List.set_cons_zero, List.set_cons_succ])
    refine gTakeL (i := 5) (v := ?_) rfl (by kernel_rfl) (by kernel_rfl) (by kernel_rfl) (fun _ _ _ h => h) (Or.inl ⟨by first | rfl | kernel_rfl, ?_⟩) hH ?_; rotate_left 1; (first | (focus (intro w hSw; (try dsimp only at hSw); go_simp; done)) | (focus (intro w hSw; (try dsimp only at hSw); go_simp; with_reducible rfl)) | (focus (intro w hSw; (try dsimp only at hSw); simp [hSw, go_sem]; done))); (try simp only [Act.put, List.setIfInBounds_toArray, List.set_cons_zero, List.set_cons_succ])
    refine gTwoL (i := 6) (j := 11) (by kernel_rfl) rfl rfl (by rfl) (by rfl) (fun K hK => ?_) (fun K hK => ?_)
    · have HK := Lib.hid hK
      clear hK
      go_simp
      refine (HCL.out _ (Below.refl _ W0).drew).mono ?_
      rintro e w5 ⟨hb5, ⟨a, x, nx, p, c, v, ts, cs, ov, hbr, rfl, hen, hov⟩ | ⟨z, hbr, _⟩⟩
      · skip
        rw [awk10_3] at hbr
        cases hbr
        rw [awk10_4] at hen
        have hov' : ElsIn (fun _ => True) w5 ov [(17, 32, 2, false)] := ElsIn.mono hov (fun _ _ _ => trivial)
        have HB5 : Hid (Below W0.heap.size W0 w5) := Lib.hid ((Below.refl _ W0).drew.trans hb5)
        have HEN := Lib.hid (hen.weak (B' := W0.heap.size) (Nat.le_refl _))
        have HOV := Lib.hid hov'
        obtain ⟨lp, lcap, rfl⟩ := id hen.form
        obtain ⟨vp, vcap, rfl, _⟩ := id hov'
        clear hov hov' hb5
        clear hen
        have HBA : Hid (Below W0.heap.size W0 (w5.alloc (.cells #[.string ⟨#[]⟩, .slice none 0 0, .slice none 0 0] 43))) := Lib.hid (HB5.out.alloc HB5.out.size _)
        have HBF : Hid (Below W0.heap.size W0 (w5.alloc (.cells #[.string ⟨#[]⟩, .slice p 0 c, .slice lp 2 lcap] 43))) := Lib.hid (HB5.out.alloc HB5.out.size _)
        have HEF : Hid (EntsOwnC W0.heap.size (w5.alloc (.cells #[.string ⟨#[]⟩, .slice p 0 c, .slice lp 2 lcap] 43)) (.slice lp 2 lcap) [([97], [(16, 32, 2, false)]), ([98], [(18, 32, 2, false)])] ts cs) := Lib.hid (HEN.out.below ((Below.refl _ w5).alloc (Nat.le_refl _) _))
        have HOF : Hid (ElsIn (fun _ => True) (w5.alloc (.cells #[.string ⟨#[]⟩, .slice p 0 c, .slice lp 2 lcap] 43)) (.slice vp 1 vcap) [(17, 32, 2, false)]) := Lib.hid (HOV.out.kept (Kept.below ((Below.refl _ w5).alloc (Nat.le_refl _) _)))
        refine HK.out _ _ (HSS.out _ HB5.out) ?_
        clear HK
        (try simp only [Act.put, List.setIfInBounds_toArray, List.set_cons_zero, List.set_cons_succ])
        refine gTakeL (i := 7) (v := ?_) rfl (by kernel_rfl) (by kernel_rfl) (by kernel_rfl) (fun _ _ _ h => h) (Or.inl ⟨by first | rfl | kernel_rfl, ?_⟩) (HSS.out _ HB5.out) ?_; rotate_left 1; (first | (focus (intro w hSw; (try dsimp only at hSw); go_simp; done)) | (focus (intro w hSw; (try dsimp only at hSw); go_simp; with_reducible rfl)) | (focus (intro w hSw; (try dsimp only at hSw); simp [hSw, go_sem]; done))); (try simp only [Act.put, List.setIfInBounds_toArray, List.set_cons_zero, List.set_cons_succ])
        refine gTakeL (i := 8) (v := ?_) rfl (by kernel_rfl) (by kernel_rfl) (by kernel_rfl) (fun _ _ _ h => h) (Or.inl ⟨by first | rfl | kernel_rfl, ?_⟩) (HSS.out _ HB5.out) ?_; rotate_left 1; (first | (focus (intro w hSw; (try dsimp only at hSw); go_simp; done)) | (focus (intro w hSw; (try dsimp only at hSw); go_simp; with_reducible rfl)) | (focus (intro w hSw; (try dsimp only at hSw); simp [hSw, go_sem]; done))); (try simp only [Act.put, List.setIfInBounds_toArray, List.set_cons_zero, List.set_cons_succ])
        refine gTakeL (i := 9) (v := ?_) rfl (by kernel_rfl) (by kernel_rfl) (by kernel_rfl) (fun _ _ _ h => h) (Or.inl ⟨by first | rfl | kernel_rfl, ?_⟩) (HSS.out _ HB5.out) ?_; rotate_left 1; (first | (focus (intro w hSw; (try dsimp only at hSw); go_simp; done)) | (focus (intro w hSw; (try dsimp only at hSw); go_simp; with_reducible rfl)) | (focus (intro w hSw; (try dsimp only at hSw); simp [hSw, go_sem]; done))); (try simp only [Act.put, List.setIfInBounds_toArray, List.set_cons_zero, List.set_cons_succ])
        refine gTakeL (i := 10) (v := ?_) rfl (by kernel_rfl) (by kernel_rfl) (by kernel_rfl) (fun _ _ _ h => h) (Or.inl ⟨by first | rfl | kernel_rfl, ?_⟩) (HSS.out _ HB5.out) ?_; rotate_left 1; (first | (focus (intro w hSw; (try dsimp only at hSw); go_simp; done)) | (focus (intro w hSw; (try dsimp only at hSw); go_simp; with_reducible rfl)) | (focus (intro w hSw; (try dsimp only at hSw); simp [hSw, go_sem]; done))); (try simp only [Act.put, List.setIfInBounds_toArray, List.set_cons_zero, List.set_cons_succ])
        refine gOneL (i := 11) (by kernel_rfl) rfl (by rfl) (fun K hK => ?_)
        have HK := Lib.hid hK
        clear hK
        go_simp
        refine HK.out _ _ (HSS.out _ HBA.out) ?_
        clear HK
        (try simp only [Act.put, List.setIfInBounds_toArray, List.set_cons_zero, List.set_cons_succ])
        refine gOneL (i := 12) (by kernel_rfl) rfl (by rfl) (fun K hK => ?_)
        have HK := Lib.hid hK
        clear hK
        go_simp
        refine HK.out _ _ (HSS.out _ HBF.out) ?_
        clear HK
        (try simp only [Act.put, List.setIfInBounds_toArray, List.set_cons_zero, List.set_cons_succ])
        refine gOneL (i := 13) (by kernel_rfl) rfl (by rfl) (fun K hK => ?_)
        have HK := Lib.hid hK
        clear hK
        go_simp
        refine HK.out _ _ (HSS.out _ HBF.out) ?_
        clear HK
        (try simp only [Act.put, List.setIfInBounds_toArray, List.set_cons_zero, List.set_cons_succ])
        refine gOneL (i := 14) (by kernel_rfl) rfl (by rfl) (fun K hK => ?_)
        have HK := Lib.hid hK
        clear hK
        go_simp
        refine HK.out _ _ (HSS.out _ HBF.out) ?_
        clear HK
        (try simp only [Act.put, List.setIfInBounds_toArray, List.set_cons_zero, List.set_cons_succ])
        refine wpAnyH_done (by kernel_rfl) ?_ _
        go_wp2_with fail
        go_meet
        case rel => exact ⟨w5.heap.size, p, c, _, ts, cs, rfl, rfl, World.alloc_heap_new _ _, HEF.out, HOF.out, HBF.out⟩
      · rw [awk10_3] at hbr; cases hbr
    · have HK := Lib.hid hK
      clear hK
      have HBA : Hid (Below W0.heap.size W0 (W0.drew.alloc (.cells #[.string ⟨#[]⟩, .slice none 0 0, .slice none 0 0] 43))) := Lib.hid ((Below.refl _ W0).drew.alloc (Nat.le_refl _) _)
      have HSA : Hid (SrcAt (W0.drew.alloc (.cells #[.string ⟨#[]⟩, .slice none 0 0, .slice none 0 0] 43)) W0.heap.size (.string ⟨#[]⟩) (.slice none 0 0) (.slice none 0 0)) := Lib.hid (World.alloc_heap_new _ _)
      have HZA : Hid (W0.heap.size + 1 = (W0.drew.alloc (.cells #[.string ⟨#[]⟩, .slice none 0 0, .slice none 0 0] 43)).heap.size) := Lib.hid (by simp)
      go_simp
      refine HK.out _ _ (HSS.out _ HBA.out) ?_
      clear HK
      (try simp only [Act.put, List.setIfInBounds_toArray, List.set_cons_zero, List.set_cons_succ])
      refine gOneL (i := 6) (by kernel_rfl) rfl (by rfl) (fun K hK => ?_)
      have HK := Lib.hid hK
      clear hK
      go_simp
      refine (HCL.out _ HBA.out).mono ?_
      rintro e w5 ⟨hb5, ⟨a, x, nx, p, c, v, ts, cs, ov, hbr, rfl, hen, hov⟩ | ⟨z, hbr, _⟩⟩
      · skip
        rw [awk10_3] at hbr
        cases hbr
        rw [awk10_4] at hen
        have hov' : ElsIn (fun _ => True) w5 ov [(17, 32, 2, false)] := ElsIn.mono hov (fun _ _ _ => trivial)
        have HB5 : Hid (Below W0.heap.size W0 w5) := Lib.hid (HBA.out.trans (hb5.mono HBA.out.size))
        have hsa := HSA.out.below hb5
        have HSF0 := Lib.hid hsa
        have HO5 : Hid (ElsIn (fun b => W0.heap.size + 1 ≤ b) w5 ov [(17, 32, 2, false)]) := Lib.hid (ElsIn.mono hov (fun b hb _ => by have h1 : _ ≤ b := hb; have := HZA.out; omega))
        obtain ⟨lp, lcap, rfl⟩ := id hen.form
        obtain ⟨vp, vcap, rfl, _⟩ := id hov'
        clear hov hov' hb5
        obtain ⟨_, _, _, df, dl⟩ := hsa.cells
        have f0 := df 0
        have f1 := df 1
        have f2 := df 2
        have hoF : Only (fun b => b = W0.heap.size) w5 (((w5.setCell ⟨W0.heap.size, 0, none⟩ (.string ⟨#[]⟩)).setCell ⟨W0.heap.size, 1, none⟩ (.slice p 0 c)).setCell ⟨W0.heap.size, 2, none⟩ (.slice lp 2 lcap)) := (((Only.refl (fun b => b = W0.heap.size) w5).setCell (p := ⟨W0.heap.size, 0, none⟩) rfl _).setCell (p := ⟨W0.heap.size, 1, none⟩) rfl _).setCell (p := ⟨W0.heap.size, 2, none⟩) rfl _
        have HBF : Hid (Below W0.heap.size W0 (((w5.setCell ⟨W0.heap.size, 0, none⟩ (.string ⟨#[]⟩)).setCell ⟨W0.heap.size, 1, none⟩ (.slice p 0 c)).setCell ⟨W0.heap.size, 2, none⟩ (.slice lp 2 lcap))) := Lib.hid (Only.toBelow HB5.out (Nat.le_refl _) hoF (fun i hi => by omega))
        have HEF : Hid (EntsOwnC W0.heap.size (((w5.setCell ⟨W0.heap.size, 0, none⟩ (.string ⟨#[]⟩)).setCell ⟨W0.heap.size, 1, none⟩ (.slice p 0 c)).setCell ⟨W0.heap.size, 2, none⟩ (.slice lp 2 lcap)) (.slice lp 2 lcap) [([97], [(16, 32, 2, false)]), ([98], [(18, 32, 2, false)])] ts cs) := Lib.hid ((hen.only hoF (fun b hb => .inl (by have := HZA.out; omega))).weak (B' := W0.heap.size) (by have := HZA.out; omega))
        have HOF : Hid (ElsIn (fun _ => True) (((w5.setCell ⟨W0.heap.size, 0, none⟩ (.string ⟨#[]⟩)).setCell ⟨W0.heap.size, 1, none⟩ (.slice p 0 c)).setCell ⟨W0.heap.size, 2, none⟩ (.slice lp 2 lcap)) (.slice vp 1 vcap) [(17, 32, 2, false)]) := Lib.hid (HO5.out.kept (Kept.only hoF (fun b hb hs => by have := HZA.out; omega)) |>.mono (fun _ _ _ => trivial))
        have HSF := Lib.hid (HSF0.out.put3 (.string ⟨#[]⟩) (.slice p 0 c) (.slice lp 2 lcap))
        clear hen hsa df hoF
        refine HK.out _ _ (HSS.out _ HB5.out) ?_
        clear HK
        (try simp only [Act.put, List.setIfInBounds_toArray, List.set_cons_zero, List.set_cons_succ])
        refine gTakeL (i := 7) (v := ?_) rfl (by kernel_rfl) (by kernel_rfl) (by kernel_rfl) (fun _ _ _ h => h) (Or.inl ⟨by first | rfl | kernel_rfl, ?_⟩) (HSS.out _ HB5.out) ?_; rotate_left 1; (first | (focus (intro w hSw; (try dsimp only at hSw); go_simp; done)) | (focus (intro w hSw; (try dsimp only at hSw); go_simp; with_reducible rfl)) | (focus (intro w hSw; (try dsimp only at hSw); simp [hSw, go_sem]; done))); (try simp only [Act.put, List.setIfInBounds_toArray, List.set_cons_zero, List.set_cons_succ])
        refine gTakeL (i := 8) (v := ?_) rfl (by kernel_rfl) (by kernel_rfl) (by kernel_rfl) (fun _ _ _ h => h) (Or.inl ⟨by first | rfl | kernel_rfl, ?_⟩) (HSS.out _ HB5.out) ?_; rotate_left 1; (first | (focus (intro w hSw; (try dsimp only at hSw); go_simp; done)) | (focus (intro w hSw; (try dsimp only at hSw); go_simp; with_reducible rfl)) | (focus (intro w hSw; (try dsimp only at hSw); simp [hSw, go_sem]; done))); (try simp only [Act.put, List.setIfInBounds_toArray, List.set_cons_zero, List.set_cons_succ])
        refine gTakeL (i := 9) (v := ?_) rfl (by kernel_rfl) (by kernel_rfl) (by kernel_rfl) (fun _ _ _ h => h) (Or.inl ⟨by first | rfl | kernel_rfl, ?_⟩) (HSS.out _ HB5.out) ?_; rotate_left 1; (first | (focus (intro w hSw; (try dsimp only at hSw); go_simp; done)) | (focus (intro w hSw; (try dsimp only at hSw); go_simp; with_reducible rfl)) | (focus (intro w hSw; (try dsimp only at hSw); simp [hSw, go_sem]; done))); (try simp only [Act.put, List.setIfInBounds_toArray, List.set_cons_zero, List.set_cons_succ])
        refine gTakeL (i := 10) (v := ?_) rfl (by kernel_rfl) (by kernel_rfl) (by kernel_rfl) (fun _ _ _ h => h) (Or.inl ⟨by first | rfl | kernel_rfl, ?_⟩) (HSS.out _ HB5.out) ?_; rotate_left 1; (first | (focus (intro w hSw; (try dsimp only at hSw); go_simp; done)) | (focus (intro w hSw; (try dsimp only at hSw); go_simp; with_reducible rfl)) | (focus (intro w hSw; (try dsimp only at hSw); simp [hSw, go_sem]; done))); (try simp only [Act.put, List.setIfInBounds_toArray, List.set_cons_zero, List.set_cons_succ])
        refine gOneL (i := 12) (by kernel_rfl) rfl (by rfl) (fun K hK => ?_)
        have HK := Lib.hid hK
        clear hK
        go_simp
        refine HK.out _ _ (HSS.out _ HBF.out) ?_
        clear HK
        (try simp only [Act.put, List.setIfInBounds_toArray, List.set_cons_zero, List.set_cons_succ])
        refine gOneL (i := 13) (by kernel_rfl) rfl (by rfl) (fun K hK => ?_)
        have HK := Lib.hid hK
        clear hK
        go_simp
        refine HK.out _ _ (HSS.out _ HBF.out) ?_
        clear HK
        (try simp only [Act.put, List.setIfInBounds_toArray, List.set_cons_zero, List.set_cons_succ])
        refine gOneL (i := 14) (by kernel_rfl) rfl (by rfl) (fun K hK => ?_)
        have HK := Lib.hid hK
        clear hK
        go_simp
        refine HK.out _ _ (HSS.out _ HBF.out) ?_
        clear HK
        (try simp only [Act.put, List.setIfInBounds_toArray, List.set_cons_zero, List.set_cons_succ])
        refine wpAnyH_done (by kernel_rfl) ?_ _
        go_wp2_with fail
        go_meet
        case rel => exact ⟨W0.heap.size, p, c, _, ts, cs, rfl, rfl, HSF.out, HEF.out, HOF.out, HBF.out⟩
      · rw [awk10_3] at hbr; cases hbr
  case rest =>
  obtain ⟨ob, p, c, v, ts, cs, rfl, rfl, hs, hen, hov, hb⟩ := hcut
  obtain ⟨cc, tt, _, _, _, he, g, cap, rfl, _, hgl, _, g1⟩ := hen.get (i := 1) (e := ([98], [(18, 32, 2, false)])) rfl
  obtain ⟨p4, c4, hcc, _⟩ := id he
  rw [hcc] at g1 he
  obtain ⟨q4, o4, hq4, _, hql4, e4, _, _, _⟩ := he.at 0 (18, 32, 2, false) rfl
  subst hq4
  obtain ⟨p5, c5, rfl, _⟩ := id hov
  obtain ⟨q5, o5, hq5, _, hql5, e5, _, _, _⟩ := hov.at 0 (17, 32, 2, false) rfl
  subst hq5
  obtain ⟨_, _, s2, _, sl⟩ := hs.cells
  have HBX : Hid (Below w.heap.size w wc) := Lib.hid (HB0.out.trans (hb.mono HB0.out.size))
  simp only [Nat.zero_mul, Nat.one_mul, Nat.add_zero, List.length_cons, List.length_nil, Nat.reduceAdd, Nat.reduceMul] at e4 e5 g1 s2
  clear hs hen hov hb he hcc HCL HSS HB0 HB2 HB1 H1 H2
  simp only [List.length_cons, List.length_nil, Nat.reduceAdd]
  go_wp2_with fail
  go_ret
  exact ⟨rfl, HBX.out⟩
end Go.Proofs.YtchjjfjjcdjjcaaGreatDoor
