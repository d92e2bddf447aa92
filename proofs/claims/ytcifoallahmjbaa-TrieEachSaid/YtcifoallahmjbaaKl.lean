/- The reference: what lies under a beginning, in order. -/
import Derived.Test.YtcifoallahmjbaaKk
namespace Go.Proofs.Ytcifoallahmjbaa
open Go.RowKit

theorem subT_take {es : List Ent} {T : List Nat} {j i : Nat} {p : List Int} (h : T[j]? = some i) : subT es (T.take (j + 1)) p = subT es (T.take j) p ++ if p <+: cdAt es i then [i] else [] := by
  have e : T.take (j + 1) = T.take j ++ [i] := by rw [List.take_add_one, h]; rfl
  unfold subT
  rw [e, List.filter_append]
  congr 1
  by_cases c : p <+: cdAt es i <;> simp [c]
/-- numbers in a row of one's own, as they are read -/
theorem nv_cell {B : Nat} {w : World} {v : Value} {T : List Nat} (h : w.ownsRow B 3 1 v T.length (nv T)) : ∃ p cap, v = .slice p T.length cap ∧ ∀ j i, T[j]? = some i → ∃ g, p = some ⟨g, 0, none⟩ ∧ B ≤ g ∧ g < w.heap.size ∧ w.cell? ⟨g, j, none⟩ = some (.int .i64 (i : Nat)) := by
  rcases h.2 with ⟨e, h0⟩ | ⟨g, cap, cur, e, hg, hgb, _⟩
  · refine ⟨none, 0, by rw [e, h0], fun j i hj => ?_⟩
    have := (List.getElem?_eq_some_iff.1 hj).1; omega
  · refine ⟨some ⟨g, 0, none⟩, cap, e, fun j i hj => ⟨g, rfl, hg, (Array.getElem?_eq_some_iff.1 hgb).1, ?_⟩⟩
    have hl := (List.getElem?_eq_some_iff.1 hj).1
    rw [e] at h
    rw [h.cellAt j (by omega)]
    exact nv_at hj
theorem own_mono {B B' : Nat} {w : World} {e : TypeId} {k n : Nat} {v : Value} {xs : List Value} (h : w.ownsRow B e k v n xs) (hb : B' ≤ B) : w.ownsRow B' e k v n xs :=
  ⟨h.1, h.2.imp id (fun ⟨g, cap, cur, e, h1, h2⟩ => ⟨g, cap, cur, e, Nat.le_trans hb h1, h2⟩)⟩
set_option maxHeartbeats 4000000 in
set_option maxRecDepth 1000000 in
theorem rUnder_any (R Q : Nat → Prop) (es : List Ent) (codes : List Int) (v u : Value) (w : World) (hv : EntsIn R w v es) (hu : IntsIn Q .i32 w u codes) (hok : ∀ x ∈ es, EntOk x) (hl : es.length ≤ 4000) (hap : Apart es) (hc : codes.length ≤ 140737488351232) :
    Calls Try.prog 24 #[v, u] w fun e w' => ∃ z T, e = .returned z ∧ IsOrd es T ∧ w'.ownsRow w.heap.size 3 1 z (subT es T codes).length (nv (subT es T codes)) ∧ Below w.heap.size w w' := by
  have HO := Lib.hid (rOrder_any R es v w hv hok hl hap)
  have HV := Lib.hid hv
  have HU := Lib.hid hu
  obtain ⟨p, cp, rfl, _⟩ := hv
  obtain ⟨q, cq, rfl, _⟩ := hu
  have HOK := Lib.hid hok
  have HC := Lib.hid hc
  obtain ⟨i0, hi, hz0, hz1, hz2⟩ := info_parts Try.infoInt9
  clear hok hap hc
  go_enter Try.func24, Try.ntmps24
  go_wp2_with fail
  refine HO.out.mono ?_
  rintro e w1 ⟨z, T, rfl, hT, hrow, hb1⟩
  have HT := Lib.hid hT
  have HB1 := Lib.hid hb1
  have HTL : Hid (T.length = es.length) := hT.len
  obtain ⟨pt, ct, rfl, hcells⟩ := nv_cell hrow
  have HCE := Lib.hid hcells
  have htl : T.length ≤ 4000 := by rw [HTL.out]; exact hl
  clear hT hrow hb1 hcells HO
  go_wp2_with fail
  go_loopw [5, 11] (fun o iv wr => ∃ j : Nat, iv = .int .i64 j ∧ j ≤ T.length ∧ wr.ownsRow w1.heap.size 3 1 o (subT es (T.take j) codes).length (nv (subT es (T.take j) codes)) ∧ Below w1.heap.size w1 wr) (fun _ iv _ => T.length - (intOf iv).toNat)
  case atStart => exact ⟨0, rfl, Nat.zero_le _, ⟨rfl, .inl ⟨rfl, rfl⟩⟩, Below.refl _ _⟩
  case round =>
    obtain ⟨j, rfl, hj, hrow, hbr⟩ := hrel
    have HROW := Lib.hid hrow
    have HB := Lib.hid hbr
    by_cases hlt : j < T.length
    · have hlt' : decide (j < T.length) = true := decide_eq_true hlt
      obtain ⟨i, hTi⟩ : ∃ i, T[j]? = some i := ⟨_, List.getElem?_eq_getElem hlt⟩
      obtain ⟨g, rfl, hg0, hg, hci⟩ := HCE.out j i hTi
      have hcj := (hbr.cell (p := ⟨g, j, none⟩) hg).trans hci
      have hil : i < es.length := (HT.out.2 i).1 (List.mem_of_getElem? hTi)
      obtain ⟨x, hx⟩ : ∃ x, es[i]? = some x := ⟨_, List.getElem?_eq_getElem hil⟩
      have hbw : Below w.heap.size w wr := HB1.out.trans (hbr.mono HB1.out.size)
      obtain ⟨b, o, cx, ux, rfl, _, hbl, hx0, _, hxi, _⟩ := (HV.out.kept (Kept.below hbw)).at i x hx
      have hxl := (HOK.out x (List.mem_of_getElem? hx)).1
      have HBG := Lib.hid (rbegins_any _ _ x.1 codes cx _ wr hxi (HU.out.kept (Kept.below hbw)) (by omega) HC.out)
      obtain ⟨px, nx, rfl, _⟩ := hxi
      have HSU : Hid (subT es (T.take (j + 1)) codes = subT es (T.take j) codes ++ if codes <+: x.1 then [i] else []) := by
        have := subT_take (es := es) (p := codes) hTi
        rwa [cdAt_some hx] at this
      have HDL : Hid ((subT es (T.take j) codes).length ≤ 4000) := by
        have h1 := subT_len (es := es) (T := T.take j) codes
        have h2 : (T.take j).length ≤ T.length := by rw [List.length_take]; omega
        show _ ≤ _; omega
      generalize subT es (T.take j) codes = D at HROW hrow HSU HDL
      have hdl := HDL.out
      have hwz : w1.heap.size ≤ wr.heap.size := hbr.size
      obtain ⟨pO, cO, rfl⟩ : ∃ pO cO, u5 = .slice pO D.length cO := by
        rcases hrow.2 with ⟨e, h0⟩ | ⟨g, cap, cur, e, _⟩
        · exact ⟨none, 0, by rw [e, h0]⟩
        · exact ⟨_, _, e⟩
      have HJ := Lib.hid hlt
      clear hbr hrow hTi hg0 hg hci hx hbw hxl hlt
      go_wp2_with fail
      refine HBG.out.mono ?_
      rintro e w2 ⟨rfl, hb2⟩
      have HR2 : Hid (w2.ownsRow w1.heap.size 3 1 (.slice pO D.length cO) D.length (nv D)) := ownsRow_grow' HROW.out hb2
      have HB2 : Hid (Below w1.heap.size w1 w2) := HB.out.trans (hb2.mono HB.out.size)
      have hwz2 : w1.heap.size ≤ w2.heap.size := HB2.out.size
      clear hb2
      by_cases hpre : codes <+: x.1
      · have hd : decide (codes <+: x.1) = true := decide_eq_true hpre
        rw [if_pos hpre] at HSU
        rw [hd]
        clear hpre hd
        go_wp2_with (at_builtin; refine wpList_append_own _ rfl _ _ 51 rfl w1.heap.size 3 i0 (.int .i64 0) 1 8 Try.underlying51 hi hz0 hz1 hz2 rfl (by decide) _ _ _ rfl (HR2.out.alloc _) ⟨w2.heap.size, 0, none⟩ 1 1 [.int .i64 (i : Nat)] rfl rfl (row_new _ _ _) (by simp [Value.oneCell']) (by unfold maxLen; omega) (by omega) (by simp; omega) ?_; intro v' w3 hown' hg3 hnil3)
        have HG3 : Hid (Below w1.heap.size w1 w3) := (HB2.out.alloc HB2.out.size _).grown hg3 (by simp; omega) (fun k e => (HR2.out.lt k e).1)
        have HR3 : Hid (w3.ownsRow w1.heap.size 3 1 v' (subT es (T.take (j + 1)) codes).length (nv (subT es (T.take (j + 1)) codes))) := by
          have h1 := hown'
          rw [HSU.out]
          show w3.ownsRow _ _ _ _ _ _
          simpa [nv] using h1
        clear hown' hg3 hnil3
        (try go_wp2_with fail)
        go_roundw
        case rel => exact ⟨j + 1, by go_num, HJ.out, HR3.out, HG3.out⟩
        case measure => (have hq := HJ.out; simp [intOf]; omega)
      · have hd : decide (codes <+: x.1) = false := decide_eq_false hpre
        rw [if_neg hpre, List.append_nil] at HSU
        rw [hd]
        clear hpre hd
        go_wp2_with fail
        go_roundw
        case rel => exact ⟨j + 1, by go_num, HJ.out, by rw [HSU.out]; exact HR2.out, HB2.out⟩
        case measure => (have hq := HJ.out; simp [intOf]; omega)
    · have hlt' : decide (j < T.length) = false := decide_eq_false hlt
      have HF : Hid (wr.ownsRow w1.heap.size 3 1 u5 (subT es T codes).length (nv (subT es T codes))) := by
        have h1 := hrow
        rw [List.take_of_length_le (by omega)] at h1
        exact h1
      clear hlt hbr hrow
      go_wp2
      go_ret
      exact ⟨_, T, rfl, HT.out, own_mono HF.out HB1.out.size, HB1.out.trans (HB.out.mono HB1.out.size)⟩
end Go.Proofs.Ytcifoallahmjbaa
