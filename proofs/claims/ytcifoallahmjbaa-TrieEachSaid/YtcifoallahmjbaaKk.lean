/- The reference's order of entries. -/
import Derived.Test.YtcifoallahmjbaaKj
import Derived.Laws.OwnMore
namespace Go.Proofs.Ytcifoallahmjbaa
open Go.RowKit

/-- number i is on its way down: those ahead of it, those behind it -/
structure OIn (es : List Ent) (i : Nat) (A B : List Nat) : Prop where
  pw : (A ++ B).Pairwise (ltAt es)
  mem : ∀ j, j ∈ A ++ B ↔ j < i
  up : ∀ b ∈ B, ltAt es i b
theorem OIn.start {es : List Ent} {i : Nat} {D : List Nat} (h1 : D.Pairwise (ltAt es)) (h2 : ∀ j, j ∈ D ↔ j < i) : OIn es i D [] := ⟨by simpa using h1, by simpa using h2, by simp⟩
theorem OIn.step {es : List Ent} {i a : Nat} {A B : List Nat} (h : OIn es i (A ++ [a]) B) (hl : lessL (cdAt es i) (cdAt es a) = true) : OIn es i A (a :: B) := by
  have e : A ++ [a] ++ B = A ++ a :: B := by simp
  refine ⟨by rw [← e]; exact h.pw, fun j => by rw [← e]; exact h.mem j, fun b hb => ?_⟩
  rcases List.mem_cons.1 hb with rfl | hb
  · exact hl
  · exact h.up b hb
theorem OIn.close {es : List Ent} {i : Nat} {A B : List Nat} (h : OIn es i A B) (hap : Apart es) (hi : i < es.length) (hs : A = [] ∨ ∃ A' a, A = A' ++ [a] ∧ lessL (cdAt es i) (cdAt es a) = false) :
    (A ++ i :: B).Pairwise (ltAt es) ∧ ∀ j, j ∈ A ++ i :: B ↔ j < i + 1 := by
  obtain ⟨pA, pB, pAB⟩ := List.pairwise_append.1 h.pw
  refine ⟨List.pairwise_append.2 ⟨pA, List.pairwise_cons.2 ⟨h.up, pB⟩, ?_⟩, fun j => ?_⟩
  · have hAi : ∀ x ∈ A, ltAt es x i := by
      intro x hx
      rcases hs with hs | ⟨A', a, hs, hl⟩
      · rw [hs] at hx; simp at hx
      · have haA : a ∈ A := by rw [hs]; simp
        have hai : a < i := (h.mem a).1 (List.mem_append_left _ haA)
        have hlt : ltAt es a i := by
          unfold ltAt
          rcases lessL_tri (cdAt es a) (cdAt es i) with t | t | t
          · exact t
          · obtain ⟨u, hu⟩ : ∃ u, es[a]? = some u := ⟨_, List.getElem?_eq_getElem (by omega)⟩
            obtain ⟨v, hv⟩ : ∃ v, es[i]? = some v := ⟨_, List.getElem?_eq_getElem hi⟩
            rw [cdAt_some hu, cdAt_some hv] at t
            have := apart_inj hap hu hv t
            omega
          · rw [t] at hl; cases hl
        rw [hs] at hx pA
        rcases List.mem_append.1 hx with hx | hx
        · exact lessL_trans _ _ _ ((List.pairwise_append.1 pA).2.2 x hx a (by simp)) hlt
        · simp at hx; subst hx; exact hlt
    intro x hx y hy
    rcases List.mem_cons.1 hy with rfl | hy
    · exact hAi x hx
    · exact pAB x hx y hy
  · have := h.mem j
    rw [List.mem_append] at this
    rw [List.mem_append, List.mem_cons]
    constructor
    · rintro (h1 | rfl | h1)
      · have := this.1 (.inl h1); omega
      · omega
      · have := this.1 (.inr h1); omega
    · intro h1
      by_cases e : j = i
      · exact .inr (.inl e)
      · rcases this.2 (by omega) with h2 | h2
        · exact .inl h2
        · exact .inr (.inr h2)
/-- numbers as values -/
def nv (D : List Nat) : List Value := D.map fun j => .int .i64 (j : Nat)
theorem nv_len (D : List Nat) : (nv D).length = D.length := by simp [nv]
theorem nv_at {D : List Nat} {k j : Nat} (h : D[k]? = some j) : (nv D)[k]? = some (.int .i64 (j : Nat)) := by simp [nv, h]
theorem nv_swap (a i : Nat) : ∀ (A B : List Nat), ((nv (A ++ a :: i :: B)).set A.length (.int .i64 (i : Nat))).set (A.length + 1) (.int .i64 (a : Nat)) = nv (A ++ i :: a :: B)
  | [], B => rfl
  | x :: A, B => by
    have := nv_swap a i A B
    simp only [nv, List.cons_append, List.map_cons, List.length_cons, List.set_cons_succ] at *
    rw [this]
theorem Try.infoInt9 : (Try.prog.info? 3).map (fun i => (i.zero, i.size, i.bytes)) = some (some (.int .i64 0), 1, 8) := by kernel_rfl
set_option maxHeartbeats 4000000 in
set_option maxRecDepth 1000000 in
theorem rOrder_any (R : Nat → Prop) (es : List Ent) (v : Value) (w : World) (hv : EntsIn R w v es) (hok : ∀ x ∈ es, EntOk x) (hl : es.length ≤ 4000) (hap : Apart es) :
    Calls Try.prog 22 #[v] w fun e w' => ∃ u T, e = .returned u ∧ IsOrd es T ∧ w'.ownsRow w.heap.size 3 1 u T.length (nv T) ∧ Below w.heap.size w w' := by
  have HV := Lib.hid hv
  obtain ⟨p, cp, rfl, _⟩ := hv
  have HOK := Lib.hid hok
  have HAP := Lib.hid hap
  obtain ⟨i0, hi, hz0, hz1, hz2⟩ := info_parts Try.infoInt9
  clear hok hap
  go_enter Try.func22, Try.ntmps22
  go_wp2
  go_loopw [3, 8] (fun o iv wr => ∃ (i : Nat) (D : List Nat), iv = .int .i64 i ∧ (i ≤ es.length ∧ D.length = i ∧ D.Pairwise (ltAt es) ∧ ∀ j, j ∈ D ↔ j < i) ∧ wr.ownsRow w.heap.size 3 1 o D.length (nv D) ∧ Below w.heap.size w wr) (fun _ iv _ => es.length - (intOf iv).toNat)
  case atStart => exact ⟨0, [], rfl, ⟨Nat.zero_le _, rfl, List.Pairwise.nil, by simp⟩, ⟨rfl, .inl ⟨rfl, rfl⟩⟩, Below.refl _ _⟩
  case round =>
    obtain ⟨i, D, rfl, hD, hrow, hbr⟩ := hrel
    have HD := Lib.hid hD
    have HB := Lib.hid hbr
    by_cases hlt : i < es.length
    · have hlt' : decide (i < es.length) = true := decide_eq_true hlt
      have hdl : D.length = i := hD.2.1
      have hwz : w.heap.size ≤ wr.heap.size := hbr.size
      have HROW := Lib.hid hrow
      obtain ⟨pO, cO, rfl⟩ : ∃ pO cO, u3 = .slice pO D.length cO := by
        rcases hrow.2 with ⟨e, h0⟩ | ⟨g, cap, cur, e, _⟩
        · exact ⟨none, 0, by rw [e, h0]⟩
        · exact ⟨_, _, e⟩
      clear hD hbr hrow
      go_wp2_with (at_builtin; refine wpList_append_own _ rfl _ _ 51 rfl w.heap.size 3 i0 (.int .i64 0) 1 8 Try.underlying51 hi hz0 hz1 hz2 rfl (by decide) _ _ _ rfl (HROW.out.alloc _) ⟨wr.heap.size, 0, none⟩ 1 1 [.int .i64 (i : Nat)] rfl rfl (row_new _ _ _) (by simp [Value.oneCell']) (by unfold maxLen; omega) (by omega) (by simp; omega) ?_; intro v' w3 hown' hg3 hnil3)
      obtain ⟨m, hm⟩ : ∃ m, m = D.length + 1 := ⟨_, rfl⟩
      rw [← hm] at hown'
      have hm63 : m ≤ 4001 := by omega
      obtain ⟨g, cap, rfl⟩ : ∃ g cap, v' = .slice (some ⟨g, 0, none⟩) m cap := by
        rcases hown'.2 with ⟨_, h0⟩ | ⟨g', cap', cur', e, _⟩
        · omega
        · exact ⟨g', cap', e⟩
      have HG3 : Hid (Below w.heap.size w w3) := (HB.out.alloc HB.out.size _).grown hg3 (by simp; omega) (fun k e => (HROW.out.lt k e).1)
      have HR3 : Hid (w3.ownsRow w.heap.size 3 1 (.slice (some ⟨g, 0, none⟩) m cap) m (nv (D ++ [i]))) := by
        have h1 := hown'
        show w3.ownsRow _ _ _ _ _ _
        simpa [nv] using h1
      clear hown' hg3 hnil3
      have hm1 : (m : Int) - 1 = (i : Int) := by omega
      have hmi : m = i + 1 := by omega
      have HMI := Lib.hid hmi
      clear hm hmi
      go_wp2_with fail
      simp [Builtin.len_, Try.underlying51, go_sem]
      go_wp2_with fail
      go_loopw [5] (fun kv W2 => ∃ (k : Nat) (A B : List Nat), kv = .int .i64 k ∧ (k = A.length ∧ A.length + B.length = i ∧ OIn es i A B) ∧ W2.ownsRow w.heap.size 3 1 (.slice (some ⟨g, 0, none⟩) m cap) m (nv (A ++ i :: B)) ∧ Below w.heap.size w W2) (fun kv _ => (intOf kv).toNat)
      case atStart => exact ⟨i, D, [], by first | rfl | simp [hm1] | simp, ⟨hdl.symm, by simp [hdl], OIn.start HD.out.2.2.1 HD.out.2.2.2⟩, HR3.out, HG3.out⟩
      case round =>
        obtain ⟨k, A, B, rfl, hk, hrk, hbk⟩ := hrel
        have HK := Lib.hid hk
        have HRK := Lib.hid hrk
        have HBK := Lib.hid hbk
        rcases List.eq_nil_or_concat A with hA | ⟨A', a, hA⟩
        · have hk0 : k = 0 := by rw [hk.1, hA]; rfl
          have g2 : ¬ ((0 : Int) < (k : Int)) := by omega
          have g2d : decide ((0 : Int) < (k : Int)) = false := decide_eq_false g2
          have g2n : decide (0 < k) = false := decide_eq_false (by omega)
          have HWAY : A = [] ∨ ∃ A' a, A = A' ++ [a] ∧ lessL (cdAt es i) (cdAt es a) = false := .inl hA
          clear hk0 hk hrk hbk hA
          go_wp2_with fail
          refine wp_region_over (by kernel_rfl) (by kernel_rfl) ?_; (repeat (go_big_quiet_step ((fail)))); refine wpQuiet_nil ?_; intro w1 hb1
          have HCL := Lib.hid (HK.out.2.2.close HAP.out hlt HWAY)
          have hdl9 : (A ++ i :: B).length = i + 1 := by have := HK.out.2.1; simp; omega
          have HR9 : Hid (w1.ownsRow w.heap.size 3 1 (.slice (some ⟨g, 0, none⟩) m cap) (A ++ i :: B).length (nv (A ++ i :: B))) := by
            have h1 := ownsRow_grow' HRK.out hb1
            show w1.ownsRow _ _ _ _ _ _
            rw [hdl9, ← HMI.out]; exact h1
          have HB9 : Hid (Below w.heap.size w w1) := HBK.out.trans (hb1.mono HBK.out.size)
          have HDL := Lib.hid hdl9
          clear hb1 hdl9
          go_wp2_with fail
          go_roundw
          case rel => exact ⟨i + 1, A ++ i :: B, by go_num, ⟨hlt, HDL.out, HCL.out.1, HCL.out.2⟩, HR9.out, HB9.out⟩
          case measure => (simp [intOf]; omega)
        · have hA : A = A' ++ [a] := by simpa using hA
          obtain ⟨k1, hk1⟩ : ∃ k1, k1 = A'.length := ⟨_, rfl⟩
          have hkk : k = k1 + 1 := by rw [hk.1, hA, hk1]; simp
          have hki : k ≤ i := by rw [hk.1]; omega
          have hmi := HMI.out
          have g2 : (0 : Int) < (k : Int) := by omega
          have g2d : decide ((0 : Int) < (k : Int)) = true := decide_eq_true g2
          have g2n : decide (0 < k) = true := decide_eq_true (by omega)
          have hkm : (k : Int) - 1 = (k1 : Int) := by omega
          have hkl : k < m := by omega
          have hkl1 : k1 < m := by omega
          have hne : k ≠ k1 := by omega
          have hne' : k1 ≠ k := by omega
          have ha : a < i := (hk.2.2.mem a).1 (by rw [hA]; simp)
          have c1 : wr.cell? ⟨g, k, none⟩ = some (.int .i64 (i : Nat)) := by
            rw [hrk.cellAt k (by omega)]
            refine nv_at ?_
            rw [hk.1, List.getElem?_append_right (Nat.le_refl _), Nat.sub_self]; rfl
          have c2 : wr.cell? ⟨g, k1, none⟩ = some (.int .i64 (a : Nat)) := by
            rw [hrk.cellAt k1 (by omega)]
            refine nv_at ?_
            rw [hA, List.append_assoc, hk1, List.getElem?_append_right (Nat.le_refl _), Nat.sub_self]; rfl
          have hgw : g < wr.heap.size := World.block_lt_of_cell? wr _ c1
          obtain ⟨x, hx⟩ : ∃ x, es[i]? = some x := ⟨_, List.getElem?_eq_getElem hlt⟩
          obtain ⟨y, hy⟩ : ∃ y, es[a]? = some y := ⟨_, List.getElem?_eq_getElem (show a < es.length by omega)⟩
          have hal : a < es.length := by omega
          obtain ⟨b, o, cx, ux, rfl, _, hbl, hx0, _, hxi, _⟩ := (HV.out.kept (Kept.below hbk)).at i x hx
          obtain ⟨b2, o2, cy, uy, e2, _, _, hy0, _, hyi, _⟩ := (HV.out.kept (Kept.below hbk)).at a y hy
          cases e2
          have hox := HOK.out x (List.mem_of_getElem? hx)
          have hoy := HOK.out y (List.mem_of_getElem? hy)
          have HCA := Lib.hid (fun (u' : World) => rLess_any _ _ x.1 y.1 cx cy (over wr u') (hxi.kept (Kept.below (below_over wr u'))) (hyi.kept (Kept.below (below_over wr u'))) (by have := hox.1; unfold maxLen; omega) (by have := hoy.1; unfold maxLen; omega))
          obtain ⟨px, nx, rfl, _⟩ := hxi
          obtain ⟨py, ny, rfl, _⟩ := hyi
          have HQ : Hid (lessL (cdAt es i) (cdAt es a) = lessL x.1 y.1) := by show _ = _; rw [cdAt_some hx, cdAt_some hy]
          generalize lessL x.1 y.1 = q at HCA HQ
          have HHA := Lib.hid hA
          have HK1 := Lib.hid hk1
          have HKK := Lib.hid hkk
          clear hk hrk hbk hA hk1 hkk hki hmi hox hoy hx hy ha
          cases q with
          | false =>
            have HWAY : A = [] ∨ ∃ A' a, A = A' ++ [a] ∧ lessL (cdAt es i) (cdAt es a) = false := .inr ⟨A', a, HHA.out, HQ.out⟩
            go_wp2_with fail
            refine wp_region_over (by kernel_rfl) (by kernel_rfl) ?_; (repeat (go_big_quiet_step (((go_at_call 41; exact over_of (HCA.out _)))))); refine wpQuiet_nil ?_; intro w1 hb1
            have HCL := Lib.hid (HK.out.2.2.close HAP.out hlt HWAY)
            have hdl9 : (A ++ i :: B).length = i + 1 := by have := HK.out.2.1; simp; omega
            have HR9 : Hid (w1.ownsRow w.heap.size 3 1 (.slice (some ⟨g, 0, none⟩) m cap) (A ++ i :: B).length (nv (A ++ i :: B))) := by
              have h1 := ownsRow_grow' HRK.out hb1
              show w1.ownsRow _ _ _ _ _ _
              rw [hdl9, ← HMI.out]; exact h1
            have HB9 : Hid (Below w.heap.size w w1) := HBK.out.trans (hb1.mono HBK.out.size)
            have HDL := Lib.hid hdl9
            clear hb1 hdl9
            go_wp2_with fail
            go_roundw
            case rel => exact ⟨i + 1, A ++ i :: B, by go_num, ⟨hlt, HDL.out, HCL.out.1, HCL.out.2⟩, HR9.out, HB9.out⟩
            case measure => (simp [intOf]; omega)
          | true =>
            go_wp2_with fail
            refine wp_region_over (by kernel_rfl) (by kernel_rfl) ?_; (repeat (go_big_quiet_step (((go_at_call 41; exact over_of (HCA.out _)))))); refine wpQuiet_nil ?_; intro w1 hb1
            have d1 := (hb1.cell (p := ⟨g, k, none⟩) hgw).trans c1
            have d2 := (hb1.cell (p := ⟨g, k1, none⟩) hgw).trans c2
            have HR9 := Lib.hid (ownsRow_grow' HRK.out hb1)
            have f1 := HR9.out.frozenAt k
            have f2 := HR9.out.frozenAt k1
            have HB9 : Hid (Below w.heap.size w w1) := HBK.out.trans (hb1.mono HBK.out.size)
            clear hb1 c1 c2 hx0 hy0 hgw
            go_wp2_with fail
            have HSW : Hid (((nv (A ++ i :: B)).set k1 (.int .i64 (i : Nat))).set k (.int .i64 (a : Nat)) = nv (A' ++ i :: a :: B)) := by
              show _ = _
              rw [HHA.out, HKK.out, HK1.out, List.append_assoc]
              exact nv_swap a i A' B
            have HST : Hid (OIn es i A' (a :: B)) := OIn.step (by rw [← HHA.out]; exact HK.out.2.2) HQ.out
            have HLN : Hid (A'.length + (a :: B).length = i) := by
              have h1 := HK.out.2.1
              rw [HHA.out] at h1
              show _ = _
              simp at h1 ⊢; omega
            clear hA hdl hwz hal hbl hm1
            go_region
            all_goals go_wp2_with fail
            go_roundw
            case rel =>
              have hgw : w.heap.size ≤ g := (HR9.out.lt g rfl).1
              refine ⟨k1, A', a :: B, rfl, ⟨HK1.out, HLN.out, HST.out⟩, ?_, ((HB9.out.setCell hgw _).setCell hgw _).drew⟩
              have h1 := ((HR9.out.stored k1 (.int .i64 (i : Nat))).1.stored k (.int .i64 (a : Nat))).1
              rw [HSW.out] at h1
              exact h1
            case measure => (simp [intOf]; omega)
    · have hlt' : decide (i < es.length) = false := decide_eq_false hlt
      have HT : Hid (IsOrd es D) := ⟨HD.out.2.2.1, fun j => by rw [HD.out.2.2.2 j]; have := HD.out.1; constructor <;> intro _ <;> omega⟩
      clear hlt hD hbr
      go_wp2
      go_ret
      exact ⟨_, D, rfl, HT.out, hrow, HB.out⟩
end Go.Proofs.Ytcifoallahmjbaa
