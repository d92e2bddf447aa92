/- Package tailor: Parse: the walk. -/
import Derived.Test.YtchjjfjjcdjjcaaDoorGn
import Derived.Test.YtchjjfjjcdjjcaaDoorVi
namespace Go.Proofs.YtchjjfjjcdjjcaaDoor
open Go.RowKit
open PlainAid (bt)

/-- rules that only are read -/
def RulsIn (R : Nat → Prop) (w : World) (v : Value) (rs : List Rul) : Prop :=
  ∃ p cap, v = .slice p rs.length cap ∧ ∀ (i : Nat) (r : Rul), rs[i]? = some r → ∃ b o t x, p = some ⟨b, o, none⟩ ∧ R b ∧ b < w.heap.size ∧ w.cell? ⟨b, o + i * 3, none⟩ = some (.int .i64 r.1) ∧ w.cell? ⟨b, o + i * 3 + 1, none⟩ = some t ∧ w.cell? ⟨b, o + i * 3 + 2, none⟩ = some x ∧
    IntsIn R .i32 w t r.2.1 ∧ IntsIn R .i32 w x r.2.2
theorem RulsIn.nil (R : Nat → Prop) (w : World) : RulsIn R w (.slice none 0 0) [] := ⟨none, 0, rfl, fun i r h => by simp at h⟩
theorem RulsIn.kept {R : Nat → Prop} {w w' : World} {v : Value} {rs : List Rul} (h : RulsIn R w v rs) (hb : Kept R w w') : RulsIn R w' v rs := by
  obtain ⟨p, cap, h1, h2⟩ := h
  refine ⟨p, cap, h1, fun i r hr => ?_⟩
  obtain ⟨b, o, t, x, e1, e2, e3, e4, e5, e6, e7, e8⟩ := h2 i r hr
  have hbb := hb.2 b e2 e3
  exact ⟨b, o, t, x, e1, e2, Nat.lt_of_lt_of_le e3 hb.1, by rw [World.cell?_of_block (w := w) (a := ⟨b, o + i * 3, none⟩) hbb]; exact e4, by rw [World.cell?_of_block (w := w) (a := ⟨b, o + i * 3 + 1, none⟩) hbb]; exact e5,
    by rw [World.cell?_of_block (w := w) (a := ⟨b, o + i * 3 + 2, none⟩) hbb]; exact e6, e7.kept hb, e8.kept hb⟩
theorem RulsIn.mono {R S : Nat → Prop} {w : World} {v : Value} {rs : List Rul} (h : RulsIn R w v rs) (hm : ∀ b, R b → b < w.heap.size → S b) : RulsIn S w v rs := by
  obtain ⟨p, cap, h1, h2⟩ := h
  refine ⟨p, cap, h1, fun i r hr => ?_⟩
  obtain ⟨b, o, t, x, e1, e2, e3, e4, e5, e6, e7, e8⟩ := h2 i r hr
  exact ⟨b, o, t, x, e1, hm b e2 e3, e3, e4, e5, e6, e7.mono hm, e8.mono hm⟩
theorem RulsOwn.ruls {B : Nat} {W : World} {lv : Value} {rs : List Rul} (h : RulsOwn B W lv rs) : RulsIn (fun b => B ≤ b) W lv rs := by
  obtain ⟨cs, h1, h2, h3⟩ := h
  have h3' := h3
  rcases h3.2 with ⟨rfl, h0⟩ | ⟨g, cap, cur, rfl, hg, hr, hx1, hx2, hx⟩
  · obtain rfl := List.eq_nil_of_length_eq_zero h0; exact .nil _ _
  · refine ⟨some ⟨g, 0, none⟩, cap, rfl, fun i r hi => ?_⟩
    have hil : i < rs.length := (List.getElem?_eq_some_iff.1 hi).1
    obtain ⟨c, hc⟩ : ∃ c, cs[i]? = some c := ⟨cs[i]'(by omega), List.getElem?_eq_getElem _⟩
    obtain ⟨a1, a2, a3⟩ := h2 i r c hi hc
    obtain ⟨f1, f2, f3⟩ := flatR_at cs i c hc
    have hl := flatR_len cs
    have k1 := h3'.cellAt (i * 3) (by omega)
    have k2 := h3'.cellAt (i * 3 + 1) (by omega)
    have k3 := h3'.cellAt (i * 3 + 2) (by omega)
    rw [f1] at k1; rw [f2] at k2; rw [f3] at k3
    refine ⟨g, 0, c.2.1, c.2.2, rfl, hg, (Array.getElem?_eq_some_iff.1 hr).1, by rw [Nat.zero_add, k1, a1], by rw [Nat.zero_add]; exact k2, by rw [Nat.zero_add]; exact k3, a2.mono (fun b hb _ => hb.1), a3.mono (fun b hb _ => hb.1)⟩
/-- how the parser's own function ends -/
def ParEnd (s : ByteArray) (pb B : Nat) (w : World) (e : Ending) (w' : World) : Prop :=
  Only (fun k => k = pb ∨ B ≤ k) w w' ∧
    ((∃ rs j lv, parseF s (s.size - skipT s 0) (skipT s 0) [] = .inl rs ∧ e = .returned (.tuple #[]) ∧ PsAt w' pb s j lv ∧ RulsOwn B w' lv rs) ∨
      (∃ (a : Nat) (x : Int), parseF s (s.size - skipT s 0) (skipT s 0) [] = .inr (a, x) ∧ e = .panicked (chainT a x)))
set_option maxHeartbeats 4000000 in
set_option maxRecDepth 100000 in
theorem parse1_any (s : ByteArray) (pb ppb sb : Nat) (w : World) (h : PsAt w pb s 0 (.slice none 0 0)) (hq : w.cell? ⟨ppb, 0, none⟩ = some (.pointer (some ⟨pb, 0, none⟩))) (hsb : w.cell? ⟨sb, 0, none⟩ = some (.string s))
    (hne : ppb ≠ pb ∧ sb ≠ pb) (hs : s.size ≤ 1000000) (hb : BD s 0 = none) :
    Calls Tryd.prog 16 #[.pointer (some ⟨ppb, 0, none⟩), .pointer (some ⟨sb, 0, none⟩)] w (ParEnd s pb w.heap.size w) := by
  have hpl := h.cells.2.2.2.2
  have hql : ppb < w.heap.size := World.block_lt_of_cell? w _ hq
  have hsl : sb < w.heap.size := World.block_lt_of_cell? w _ hsb
  have HP := Lib.hid h
  have hbk := skip_bd (Nat.zero_le _) hb
  have HSK := Lib.hid (skip_any s pb 0 (.slice none 0 0) w h (Nat.zero_le _) hs)
  have HCE : Hid (∀ W, Only (fun k => k = pb ∨ w.heap.size ≤ k) w W → W.cell? ⟨ppb, 0, none⟩ = some (.pointer (some ⟨pb, 0, none⟩)) ∧ W.cell? ⟨sb, 0, none⟩ = some (.string s)) := fun W ho =>
    ⟨(World.cell?_of_block (a := ⟨ppb, 0, none⟩) (ho.block ppb hql (fun e => by omega))).trans hq, (World.cell?_of_block (a := ⟨sb, 0, none⟩) (ho.block sb hsl (fun e => by omega))).trans hsb⟩
  clear h
  go_enter Tryd.func16, Tryd.ntmps16
  go_wp2_with fail
  refine HSK.out.mono ?_
  clear HSK
  rintro e w1 ⟨rfl, hp1, hi1, ho1⟩
  have hpe : ∃ K, parseF s (s.size - skipT s 0) (skipT s 0) [] = K := ⟨_, rfl⟩
  have HPE : Hid (ParEnd s pb w.heap.size w = fun e w' => Only (fun k => k = pb ∨ w.heap.size ≤ k) w w' ∧
    ((∃ rs j lv, parseF s (s.size - skipT s 0) (skipT s 0) [] = .inl rs ∧ e = .returned (.tuple #[]) ∧ PsAt w' pb s j lv ∧ RulsOwn w.heap.size w' lv rs) ∨
      (∃ (a : Nat) (x : Int), parseF s (s.size - skipT s 0) (skipT s 0) [] = .inr (a, x) ∧ e = .panicked (chainT a x)))) := rfl
  generalize skipT s 0 = i1 at *
  have HP1 := Lib.hid hp1
  have HO1 : Hid (Only (fun k => k = pb ∨ w.heap.size ≤ k) w w1) := ho1.mono fun _ e => .inl e
  clear hp1 ho1 hpe HP
  go_wp2_with fail
  go_loopg [] (s.size - i1) (fun g wr => ∃ (j : Nat) (lv : Value) (rs : List Rul), PsAt wr pb s j lv ∧ RulsOwn w.heap.size wr lv rs ∧ Only (fun k => k = pb ∨ w.heap.size ≤ k) w wr ∧ j ≤ s.size ∧ s.size - j ≤ g ∧ BD s j = none ∧ parseF s g j rs = parseF s (s.size - i1) i1 [] ∧ rs.length ≤ j)
  case atStart => exact ⟨i1, _, [], HP1.out, .nil _ _, HO1.out, hi1, Nat.le_refl _, hbk, rfl, Nat.zero_le _⟩
  case round =>
    obtain ⟨j, lv, rs, hp, hr, ho, hj, hjg, hbj, hF, hrl⟩ := hrel
    obtain ⟨d0, d1⟩ := HCE.out wr ho
    obtain ⟨c0, c1, c2, _, cpl⟩ := hp.cells
    have HP2 := Lib.hid hp
    have HR2 := Lib.hid hr
    have HO2 := Lib.hid ho
    have HF := Lib.hid hF
    clear hp hr ho hF HP1 HO1
    by_cases hlt : j < s.size
    · have hlt' : decide (j < s.size) = true := decide_eq_true hlt
      have hlz : decide ((j : Int) < (s.size : Int)) = true := decide_eq_true (by omega)
      obtain ⟨g, rfl⟩ : ∃ g, gk = g + 1 := ⟨gk - 1, by omega⟩
      have HEQ : Hid (parseF s (g + 1) j rs = (match ruleT s j rs.length with | .inr e => .inr e | .inl x => parseF s g x.2 (rs ++ [x.1]))) := by
        show _ = _
        rw [parseF, if_pos hlt]; rfl
      go_wp2_with fail
      go_quiet (fail)
      go_wp2_with fail
      have hps := HP2.out.drewN
      have hrs : ∀ n, RulsOwn w.heap.size (wr.drewN n) lv rs := fun n => HR2.out.only (by omega) (only_drewN (Only.refl _ _) n)
      refine (rule_any s pb w.heap.size j lv rs _ (hps _) (hrs _) hpl HO2.out.size hlt hs hbj (by omega)).mono ?_
      clear hps hrs
      rintro e w3 ⟨ho3, ⟨x, j2, lv2, hx, rfl, hp3, hr3, hlt3, hle3, hb3⟩ | ⟨a, x, hx, rfl⟩⟩
      · have HEF : Hid (parseF s g j2 (rs ++ [x]) = parseF s (s.size - i1) i1 []) := by
          show _ = _
          rw [← HF.out, HEQ.out, hx]
        have HON : Hid (Only (fun k => k = pb ∨ w.heap.size ≤ k) w w3) := HO2.out.trans ((only_drewN (Only.refl _ _) _).trans ho3)
        have HPN := Lib.hid hp3
        have HRN := Lib.hid hr3
        clear hx ho3 hp3 hr3 HEQ HF
        go_wp2_with fail
        go_roundg g
        case measure => omega
        case rel => exact ⟨j2, lv2, rs ++ [x], HPN.out, HRN.out, HON.out, hle3, by omega, hb3, HEF.out, by simp; omega⟩
      · refine ⟨rfl, ?_⟩
        rw [HPE.out]
        refine ⟨HO2.out.trans ((only_drewN (Only.refl _ _) _).trans ho3), .inr ⟨a, x, ?_, rfl⟩⟩
        rw [← HF.out, HEQ.out, hx]
    · have hlt' : decide (j < s.size) = false := decide_eq_false hlt
      have hlz : decide ((j : Int) < (s.size : Int)) = false := decide_eq_false (by omega)
      have HFIN : Hid (parseF s (s.size - i1) i1 [] = .inl rs) := by
        show _ = _
        rw [← HF.out]
        cases gk with
        | zero => rfl
        | succ n => rw [parseF, if_neg hlt]
      have hps := HP2.out.drewN
      have hrs : ∀ n, RulsOwn w.heap.size (wr.drewN n) lv rs := fun n => HR2.out.only (by omega) (only_drewN (Only.refl _ _) n)
      have HPN := Lib.hid hps
      have HRN := Lib.hid hrs
      clear hps hrs
      go_wp2_with fail
      go_quiet (fail)
      go_wp2_with fail
      go_end0
      rw [HPE.out]
      exact ⟨HO2.out.trans (only_drewN (Only.refl _ _) _), .inl ⟨rs, j, lv, HFIN.out, rfl, HPN.out _, HRN.out _⟩⟩
end Go.Proofs.YtchjjfjjcdjjcaaDoor
