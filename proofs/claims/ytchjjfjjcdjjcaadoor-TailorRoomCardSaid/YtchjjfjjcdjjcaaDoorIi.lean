/- Package tailor: Behind: the closure that it guards. -/
import Derived.Test.YtchjjfjjcdjjcaaDoorIh
import Derived.Test.YtchjjfjjcdjjcaaDoorGn
namespace Go.Proofs.YtchjjfjjcdjjcaaDoor
open Go.RowKit

/-- a box that holds one value -/
def OneAt (W : World) (b : Nat) (t : TypeId) (v : Value) : Prop := W.heap[b]? = some (.cells #[v] t (0, 0))
theorem OneAt.cells {W : World} {b : Nat} {t : TypeId} {v : Value} (h : OneAt W b t v) : W.cell? ⟨b, 0, none⟩ = some v ∧ W.frozen? ⟨b, 0, none⟩ = false ∧ b < W.heap.size :=
  ⟨by simp [World.cell?, show W.heap[b]? = _ from h], by simp [World.frozen?, show W.heap[b]? = _ from h], (Array.getElem?_eq_some_iff.1 h).1⟩
theorem OneAt.below {W W' : World} {b : Nat} {t : TypeId} {v : Value} (h : OneAt W b t v) (hb : Below W.heap.size W W') : OneAt W' b t v := (hb.block b h.cells.2.2).trans h
theorem OneAt.only {W W' : World} {b : Nat} {t : TypeId} {v : Value} (h : OneAt W b t v) {S : Nat → Prop} (ho : Only S W W') (hx : ¬ S b) : OneAt W' b t v := (ho.block b h.cells.2.2 hx).trans h
theorem OneAt.put {W : World} {b : Nat} {t : TypeId} {v : Value} (h : OneAt W b t v) (u : Value) : OneAt (W.setCell ⟨b, 0, none⟩ u) b t u := by
  unfold OneAt at *
  unfold World.setCell
  simp [Array.getElem?_modify, h]
/-- how the closure ends -/
def BhOne (es : List Ent) (e : List El) (lv : Int) (ver : ByteArray) (n sb eb : Nat) (w : World) (e' : Ending) (w' : World) : Prop :=
  Only (fun k => k = sb ∨ k = eb ∨ w.heap.size ≤ k) w w' ∧
    ((∃ a x nx p c v ts cs ov, behR es e lv = .inl (a, x, nx) ∧ e' = .returned (.tuple #[]) ∧ SrcAt w' sb (.string ver) (.slice p n c) v ∧ OneAt w' eb 35 ov ∧ EntsOwnC w.heap.size w' v (es.map (raiE (upU (upT lv x)))) ts cs ∧ ElsIn (fun b => w.heap.size ≤ b) w' ov ((e.take a).map (upU (upT lv x)) ++ [nx])) ∨
      (∃ z, behR es e lv = .inr z ∧ e' = .panicked (chainT 0 z)))
set_option maxHeartbeats 8000000 in
set_option maxRecDepth 100000 in
theorem behind1_any (R Q : Nat → Prop) (es : List Ent) (e : List El) (lv : Int) (ver : ByteArray) (n b0 b1 b2 sb eb : Nat) (rv ev e2v x y z u : Value) (w : World)
    (h0 : SrcAt w b0 (.string ver) rv ev) (h1 : w.cell? ⟨b1, 0, none⟩ = some e2v) (h2 : w.cell? ⟨b2, 0, none⟩ = some (.int .i64 lv)) (h3 : SrcAt w sb x y z) (h4 : OneAt w eb 35 u) (hse : sb ≠ eb)
    (hr : CellsIn w rv n 4) (he : EntsIn R w ev es) (hf : ElsIn Q w e2v e) (hn : n ≤ 1000000000) (hel : es.length ≤ 1000000000) (hx : ∀ x ∈ es, x.1.length ≤ 1000000000 ∧ x.2.length ≤ 1000000000) (hel2 : e.length ≤ 1000000000)
    (hb : ∀ x ∈ es, ∀ y ∈ x.2, ElB y) (hb2 : ∀ y ∈ e, ElB y) :
    Calls Tryd.prog 27 #[.pointer (some ⟨b0, 0, none⟩), .pointer (some ⟨b1, 0, none⟩), .pointer (some ⟨b2, 0, none⟩), .pointer (some ⟨sb, 0, none⟩), .pointer (some ⟨eb, 0, none⟩)] w (BhOne es e lv ver n sb eb w) := by
  have HC := Lib.hid (behind_any R Q es e lv ver n rv ev e2v w hr he hf hn hel hx hel2 hb hb2)
  have H3 := Lib.hid h3
  have H4 := Lib.hid h4
  have HSE := Lib.hid hse
  obtain ⟨p1, c1, rfl, _⟩ := hr
  obtain ⟨p2, c2, rfl, _⟩ := he
  obtain ⟨p3, c3, rfl, _⟩ := hf
  obtain ⟨s0, s1, s2, _, sl⟩ := h0.cells
  clear hx hb hb2 h3 h4 hse h0 hel hel2 hn
  go_enter Tryd.func27, Tryd.ntmps27
  go_wp2_with fail
  refine HC.out.mono ?_
  clear HC
  rintro e' w2 ⟨hb2, ⟨a, x', nx, p, c, v, ts, cs, ov, hbr, rfl, hen, hov⟩ | ⟨z', hbr, rfl⟩⟩
  · have HB2 := Lib.hid hb2
    have HBR := Lib.hid hbr
    have HEN := Lib.hid hen
    have HOV := Lib.hid hov
    have h3' := H3.out.below hb2
    have h4' := H4.out.below hb2
    obtain ⟨_, _, _, tf, tl⟩ := h3'.cells
    obtain ⟨_, ef, el⟩ := h4'.cells
    have tf0 := tf 0
    have tf1 := tf 1
    have tf2 := tf 2
    have hse' : ¬ eb = sb := fun hh => HSE.out hh.symm
    have hse := HSE.out
    obtain ⟨lp, lcap, rfl⟩ := hen.form
    obtain ⟨vp, vcap, rfl, _⟩ := hov
    generalize (es.map (raiE (upU (upT lv x')))).length = l1 at *
    generalize ((e.take a).map (upU (upT lv x')) ++ [nx]).length = l2 at *
    clear hb2 hbr hen s0 s1 s2 sl h1 h2 tf
    go_wp2_with fail
    have ho3 : Only (fun b => b = sb) w2 (((w2.setCell ⟨sb, 0, none⟩ (.string ver)).setCell ⟨sb, 1, none⟩ (.slice p n c)).setCell ⟨sb, 2, none⟩ (.slice lp l1 lcap)) :=
      (((Only.refl (fun b => b = sb) w2).setCell (p := ⟨sb, 0, none⟩) rfl _).setCell (p := ⟨sb, 1, none⟩) rfl _).setCell (p := ⟨sb, 2, none⟩) rfl _
    have hs3 := h3'.put3 (.string ver) (.slice p n c) (.slice lp l1 lcap)
    have he3 := h4'.only ho3 hse'
    generalize (((w2.setCell ⟨sb, 0, none⟩ (.string ver)).setCell ⟨sb, 1, none⟩ (.slice p n c)).setCell ⟨sb, 2, none⟩ (.slice lp l1 lcap)) = W3 at *
    have ho4 : Only (fun b => b = eb) W3 (W3.setCell ⟨eb, 0, none⟩ (.slice vp l2 vcap)) := (Only.refl (fun b => b = eb) W3).setCell (p := ⟨eb, 0, none⟩) rfl _
    have he4 := he3.put (.slice vp l2 vcap)
    have hs4 := hs3.only ho4 hse
    generalize W3.setCell ⟨eb, 0, none⟩ (.slice vp l2 vcap) = W4 at *
    have hsl := H3.out.cells.2.2.2.2
    have hel := H4.out.cells.2.2
    have hbo : Only (fun k => k = sb ∨ k = eb ∨ w.heap.size ≤ k) w W4 :=
      ((((Only.refl _ w).below2 HB2.out (fun k hk => .inr (.inr hk))).trans (ho3.mono (fun k hk => .inl hk))).trans (ho4.mono (fun k hk => .inr (.inl hk))))
    go_end0
    exact ⟨hbo, .inl ⟨a, x', nx, _, _, _, _, _, _, HBR.out, rfl, hs4, he4, (HEN.out.only ho3 (fun b hb => .inl (by omega))).only ho4 (fun b hb => .inl (by omega)),
      (HOV.out.kept (Kept.only ho3 (fun b hb hs => by omega))).kept (Kept.only ho4 (fun b hb hs => by omega))⟩⟩
  · refine ⟨rfl, ⟨hb2.os, hb2.tape, hb2.output, hb2.size, fun k hk hn => hb2.block k (Nat.lt_of_not_le (fun hh => hn (.inr (.inr hh))))⟩, .inr ⟨z', hbr, rfl⟩⟩
end Go.Proofs.YtchjjfjjcdjjcaaDoor
