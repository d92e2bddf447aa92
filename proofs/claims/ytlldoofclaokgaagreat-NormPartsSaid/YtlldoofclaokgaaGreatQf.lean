/- NormParts. -/
import Derived.Test.YtlldoofclaokgaaGreatQc
import Derived.Test.YtlldoofclaokgaaGreatQe
namespace Go.Proofs.YtlldoofclaokgaaGreat
open Go.RowKit
attribute [local go_sem] Oper.semAt_some

set_option maxHeartbeats 1000000 in
set_option maxRecDepth 100000 in
theorem nparts_any (p : Option Addr) (lp : Option Addr) (n lc : Nat) (w : World) : Calls Tryz.prog 36 #[.pointer p, .slice lp n lc] w fun e w' =>
    e = .returned (.func (.func 64) #[] #[.pointer (some ⟨w.heap.size, 0, none⟩), .pointer (some ⟨w.heap.size + 1, 0, none⟩)]) ∧ (w.alloc (.cells #[.pointer p] 31)).alloc (.cells #[.slice lp n lc] 48) = w' := by
  have hmf : ∀ (fn : Fn) (first cap : Array Value) (w : World), (Instr.makeFunc fn first cap).run Tryz.prog w = .ok (.func fn first cap) w := fun _ _ _ _ => rfl
  go_enter Tryz.func36, Tryz.ntmps36
  go_wp2
  go_ret
  exact ⟨rfl, rfl⟩
theorem nrm_put {R : Nat → Prop} {W : World} {pb k : Nat} {c d : List T3} (h : Nrm R W pb c d) (hk : ¬ R k) (o : Obj) : Nrm R (W.putObj k o) pb c d :=
  h.kept ⟨by simp, fun b hb _ => World.putObj_heap_other (fun e => hk (e ▸ hb))⟩
theorem only_put {S : Nat → Prop} {W0 W : World} (h : Only S W0 W) {k : Nat} (hk : W0.heap.size ≤ k) (o : Obj) : Only S W0 (W.putObj k o) :=
  ⟨h.os, h.tape, h.output, by have := h.size; simpa using this, fun b hb hs => (World.putObj_heap_other (by omega)).trans (h.block b hb hs)⟩
theorem keepsB_set {A : World} {b : Nat} {t : TypeId} {v : Value} (h : Boxed A b t v) (u : Value) : KeepsBooks A (A.setCell ⟨b, 0, none⟩ u) := by
  refine ⟨by simp, fun k o hk ho => ?_⟩
  rw [Below.heap_setCell _ _ _ _ (fun e => ?_)]
  · exact hk
  · have e' : k = b := e
    subst e'
    rw [show A.heap[k]? = _ from h] at hk
    cases hk
    rcases ho with ⟨r, e⟩ | ⟨r, e⟩ <;> cases e
theorem rows_put {W : World} {N k : Nat} {v : Value} {xs : List Int} (h : IntsIn (fun b => N ≤ b) .i32 W v xs) (hk : k < N) (o : Obj) : IntsIn (fun b => N ≤ b) .i32 (W.putObj k o) v xs :=
  h.kept ⟨by simp, fun b hb _ => World.putObj_heap_other (by omega)⟩
/-- between two rounds of the law's range -/
def PartI (V : World) (pb kb : Nat) (R : Nat → Prop) (c d : List T3) (D : List Int) (P : List (List Int)) (a : Nat) (U : World) : Prop :=
  ∃ k : Nat, Only (fun b => b = pb ∨ b = kb) V U ∧ Boxed U kb 3 (.int .i64 (k : Int)) ∧ Nrm R U pb c d ∧ k ≤ P.length ∧ parts (clsOf c) (D.drop a) = P.drop k
set_option maxHeartbeats 8000000 in
set_option maxRecDepth 1000000 in
theorem parts_law (c d : List T3) (L : List Int) (u v lv : Value) (w : World) (hu : TrisIn (· < w.heap.size) .i64 w u c) (hv : TrisIn (· < w.heap.size) .i32 w v d) (hL : IntsIn (· < w.heap.size) .i32 w lv L) (hll : L.length * 4 ≤ 140737488351232) :
    Calls Tryz.prog 8 #[u, v, lv] w fun e w' => e = .returned (.bool true) ∧ Below w.heap.size w w' := by
  have HU := Lib.hid hu
  have HV := Lib.hid hv
  have HL := Lib.hid hL
  obtain ⟨q, cq, rfl, _, _⟩ := hu
  obtain ⟨p, cp, rfl, _, _⟩ := hv
  obtain ⟨lp, lc, rfl, hlc, _⟩ := hL
  obtain ⟨n, hn⟩ : ∃ n, n = L.length := ⟨_, rfl⟩
  rw [← hn] at HL hll hlc ⊢
  have HNL := Lib.hid hn
  clear hn
  refine callsIn_wide (n := 0) |>.1 ?_
  refine callsIn_of_wp_marks Tryz.func8 rfl trivial ?_ rfl
  simp only [Tryz.ntmps8, List.size_toArray, List.length_cons, List.length_nil, Nat.reduceAdd, Nat.reduceSub, Array.replicate_succ, Array.replicate_zero, List.push_toArray, List.append_toArray, List.nil_append, List.cons_append]
  gi_wp2_with fail
  refine ⟨trivial, rfl, (callsIn_wide.2 (awake6_any _)).mono ?_⟩
  rintro e w1 ⟨rfl, hb1⟩
  have hb0 : Boxed w1 w.heap.size 4 (.bool false) := (hb1.block w.heap.size (by simp)).trans (Boxed.new w _ _)
  have HB1 : Hid (Below w.heap.size w w1) := ((Below.refl _ w).alloc (Nat.le_refl _) _).trans (hb1.mono (by simp))
  have HX1 := Lib.hid hb0
  have hda := data_any _ _ c d _ _ w1 (HU.out.kept (Kept.below HB1.out)) (HV.out.kept (Kept.below HB1.out))
  clear hb1 hb0
  gi_wp2_with fail
  refine ⟨trivial, rfl, (callsIn_wide.2 hda).mono ?_⟩
  rintro e w2 ⟨hb2, hh⟩
  have HB2 := Lib.hid (HB1.out.trans (hb2.mono HB1.out.size))
  have HX2 : Hid (Boxed w2 w.heap.size 4 (.bool false)) := (hb2.block w.heap.size HX1.out.lt).trans HX1.out
  have hsz1 := HB1.out.size
  have hlt1 := HX1.out.lt
  have hsz2 := hb2.size
  have hxc := HX2.out.cell
  have hxf := HX2.out.frozen
  have hlt2 := HX2.out.lt
  have hq2 : ∀ o, ((w2.setCell ⟨w.heap.size, 0, none⟩ (.bool true)).alloc o).cell? ⟨w.heap.size, 0, none⟩ = some (.bool true) := fun o => ((HX2.out.set _).alloc o).cell
  rcases hh with ⟨hc1, hd1, hok, pb, rfl, hnr⟩ | ⟨_, x, rfl⟩
  rotate_left
  · clear hda hb2
    gi_wp2_with fail
    refine ⟨.bool true, ?_, rfl, ?_⟩
    · simp [results, Tryz.results8, go_sem, hq2]
    · exact (HB2.out.setCell (p := ⟨w.heap.size, 0, none⟩) (Nat.le_refl _) _).alloc (by have := HB2.out.size; simpa using this) _
  · have HN2 := Lib.hid hnr
    have HOK := Lib.hid hok
    have hpl := hnr.lt
    have hpw : w1.heap.size ≤ pb := hnr.1
    clear hda hnr hok hd1 hc1 hb2
    by_cases hlong : 500 < n
    · have g1 : (500 : Int) < (n : Int) := by omega
      gi_wp2_with fail
      refine ⟨.bool true, ?_, rfl, ?_⟩
      · simp [results, Tryz.results8, go_sem, hq2]
      · exact (HB2.out.setCell (p := ⟨w.heap.size, 0, none⟩) (Nat.le_refl _) _).alloc (by have := HB2.out.size; simpa using this) _
    · have g1 : ¬ ((500 : Int) < (n : Int)) := by omega
      clear hxc hxf hq2
      have hal : Below w2.heap.size w2 (w2.alloc (.cells #[.slice q c.length cq, .slice p d.length cp] 57)) := (Below.refl _ w2).alloc (Nat.le_refl _) _
      have hrp := rparts_any _ _ _ c d _ _ L (.slice lp n lc) (w2.alloc (.cells #[.slice q c.length cq, .slice p d.length cp] 57)) (HU.out.kept (Kept.below (HB2.out.trans (hal.mono HB2.out.size)))) (HV.out.kept (Kept.below (HB2.out.trans (hal.mono HB2.out.size)))) HOK.out (HL.out.kept (Kept.below (HB2.out.trans (hal.mono HB2.out.size)))) (by rw [← HNL.out]; omega)
      have HAL := Lib.hid hal
      have hxd : (w2.alloc (.cells #[.slice q c.length cq, .slice p d.length cp] 57)).heap[w2.heap.size]? = some (.cells #[.slice q c.length cq, .slice p d.length cp] 57 (0, 0)) := World.alloc_heap_new _ _
      obtain ⟨D, hDD⟩ : ∃ D, D = nfdOf (clsOf c) (fun r => (deep d 4 r).1) L := ⟨_, rfl⟩
      rw [← hDD] at hrp
      have HDD := Lib.hid hDD
      obtain ⟨c0, c1, _, _⟩ := two_cells hxd
      clear hDD hal
      gi_wp2_with fail
      generalize hw3 : w2.alloc (.cells #[.slice q c.length cq, .slice p d.length cp] 57) = w3 at hrp HAL c0 c1 hxd ⊢
      have HX3 : Hid (Boxed w3 w.heap.size 4 (.bool false)) := (HAL.out.block w.heap.size HX2.out.lt).trans HX2.out
      have HN3 := Lib.hid (HN2.out.kept (Kept.below HAL.out))
      have HB3 : Hid (Below w.heap.size w w3) := HB2.out.trans (HAL.out.mono HB2.out.size)
      have hpl3 : pb < w3.heap.size := Nat.lt_of_lt_of_le hpl HAL.out.size
      clear hw3 c0 c1 hxd
      refine ⟨trivial, rfl, (callsIn_wide.2 hrp).mono ?_⟩
      rintro e w4 ⟨⟨ov, rfl, hrows⟩, hb4⟩
      have HX4 : Hid (Boxed w4 w.heap.size 4 (.bool false)) := (hb4.block w.heap.size HX3.out.lt).trans HX3.out
      have HN4 := Lib.hid (HN3.out.kept (Kept.below hb4))
      have HB4 : Hid (Below w.heap.size w w4) := HB3.out.trans (hb4.mono HB3.out.size)
      have HRO := Lib.hid hrows
      have hpl4 : pb < w4.heap.size := Nat.lt_of_lt_of_le hpl3 hb4.size
      have hz34 := hb4.size
      obtain ⟨P, hP⟩ : ∃ P, P = parts (clsOf c) D := ⟨_, rfl⟩
      rw [← hP] at HRO hrows
      obtain ⟨op, oc, rfl, _⟩ := hrows
      have HPP := Lib.hid hP
      have hDl : D.length ≤ 100000000 := by
        rw [HDD.out]; unfold nfdOf
        split
        · rename_i h
          rw [ordL_len]
          have h1 := (flat_len (norm_made 0 c d HOK.out).dlen L).2
          have h2 : L.length ≤ 4096 := by unfold nfdE at h; split at h <;> (try split at h) <;> omega
          omega
        · simp
      have hplen : P.length ≤ 200000000 := by
        have h1 := (parts_len (clsOf c) D).1
        rw [hP]; omega
      clear hrp hb4 hP HX3 HN3 HB3 HAL
      gi_wp2_with fail
      refine ⟨trivial, rfl, (callsIn_wide.2 (nparts_any _ _ _ _ _)).mono ?_⟩
      rintro e W0 ⟨rfl, hW0⟩
      simp only [World.size_alloc] at hW0 ⊢
      have b0 : Hid (Boxed W0 w.heap.size 4 (.bool false)) := by
        show Boxed _ _ _ _; rw [← hW0]; exact ((HX4.out.alloc _).alloc _).alloc _
      have bw : Hid (Boxed W0 w4.heap.size 85 (.slice op P.length oc)) := by
        show Boxed _ _ _ _; rw [← hW0]; exact ((Boxed.new _ _ _).alloc _).alloc _
      have b1 : Hid (Boxed W0 (w4.heap.size + 1) 31 (.pointer (some ⟨pb, 0, none⟩))) := by
        show Boxed _ _ _ _; rw [← hW0]; refine Boxed.alloc ?_ _
        have := Boxed.new (w4.alloc (.cells #[.slice op P.length oc] 85)) 31 (.pointer (some ⟨pb, 0, none⟩))
        rwa [World.size_alloc] at this
      have b2 : Hid (Boxed W0 (w4.heap.size + 1 + 1) 48 (.slice lp n lc)) := by
        show Boxed _ _ _ _; rw [← hW0]
        have := Boxed.new ((w4.alloc (.cells #[.slice op P.length oc] 85)).alloc (.cells #[.pointer (some ⟨pb, 0, none⟩)] 31)) 48 (.slice lp n lc)
        rwa [World.size_alloc, World.size_alloc] at this
      have hb5 : Below w4.heap.size w4 W0 := by
        rw [← hW0]; exact (((Below.refl _ w4).alloc (Nat.le_refl _) _).alloc (by simp) _).alloc (by simp; omega) _
      have HN5 : Hid (Nrm (fun b => w1.heap.size ≤ b) W0 pb c d) := HN4.out.kept (Kept.below hb5)
      have HB5 : Hid (Below w.heap.size w W0) := HB4.out.trans (hb5.mono HB4.out.size)
      have HR5 := Lib.hid (HRO.out.kept (Kept.below hb5))
      have HL5 : Hid (IntsIn (· < w.heap.size) .i32 W0 (.slice lp n lc) L) := HL.out.kept (Kept.below HB5.out)
      have hpl5 : pb < W0.heap.size := Nat.lt_of_lt_of_le hpl4 hb5.size
      have hz5 := hb5.size
      obtain ⟨wb, hwb⟩ : ∃ wb, wb = w4.heap.size := ⟨_, rfl⟩
      rw [← hwb] at bw b1 b2 ⊢
      have hwb1 : pb < wb := by omega
      have hwb2 : w.heap.size < wb := by have := HX4.out.lt; omega
      have hwb3 : w3.heap.size ≤ wb := by omega
      clear hW0 hb5 HX4 HN4 HB4 HRO hwb hpl4 hz34 hz5
      have hnf : ∀ (cap : Array Value) (w : World), (binOp .eql 88 (.func (.func 64) #[] cap) .nilFunc).run Tryz.prog w = .ok (.bool false) w := fun _ _ => by kernel_rfl
      have hit := parts_iter (fun b => w1.heap.size ≤ b ∧ b ≠ W0.heap.size ∧ b ≠ W0.heap.size + 1) pb (wb + 1) (wb + 1 + 1) (W0.heap.size + 2) n c d L lp lc (· < w.heap.size) (fun b hb => ⟨by have := HB5.out.size; have := b0.out.lt; omega, by omega, by omega⟩) (fun b hb e => by omega) HNL.out.symm (by omega) HOK.out
      rw [← HDD.out] at hit
      have HZ5 : Hid (w1.heap.size ≤ W0.heap.size) := by show _ ≤ _; omega
      have hN0 : Nrm (fun b => w1.heap.size ≤ b ∧ b ≠ W0.heap.size ∧ b ≠ W0.heap.size + 1) W0 pb c d := ((norm_made pb c d HOK.out).bound _ _ HN5.out |> fun h => (norm_made pb c d HOK.out).mono _ _ _ h (fun b hb => ⟨hb.1, by omega, by omega⟩))
      have HIT2 : Hid (∀ R N, (∀ b, N ≤ b → R b) → IterV Tryz.prog 64 #[.pointer (some ⟨wb + 1, 0, none⟩), .pointer (some ⟨wb + 1 + 1, 0, none⟩)] N (Turn6 R pb c d)
          (fun (a : Nat) A v => IntsIn (fun b => N ≤ b) .i32 A v ((D.drop a).take (cutLen (clsOf c) (D.drop a)))) (fun a => a + cutLen (clsOf c) (D.drop a)) (fun a => a < D.length) (fun a => D.length ≤ a) 0
          (fun W => W.cell? ⟨wb + 1, 0, none⟩ = some (.pointer (some ⟨pb, 0, none⟩)) ∧ W.cell? ⟨wb + 1 + 1, 0, none⟩ = some (.slice lp n lc) ∧ Nrm R W pb c d ∧ IntsIn (· < w.heap.size) .i32 W (.slice lp n lc) L)) := by
        intro R N hR
        have := parts_iter R pb (wb + 1) (wb + 1 + 1) N n c d L lp lc (· < w.heap.size) hR (fun b hb e => by omega) HNL.out.symm (by omega) HOK.out
        rwa [← HDD.out] at this
      gi_wp2_with fail
      refine wp_rangeV2 0 (gf := 64) (lb := #[.pointer (some ⟨wb + 1, 0, none⟩), .pointer (some ⟨wb + 1 + 1, 0, none⟩)]) rfl (enters_of Tryz.func64 (by kernel_rfl) rfl) hit rfl
        (fun _ W => Only (fun k => k = pb) W0 W ∧ Nrm (fun b => w1.heap.size ≤ b ∧ b ≠ W0.heap.size ∧ b ≠ W0.heap.size + 1) W pb c d)
        (fun W => Only (fun k => k = pb) W0 W ∧ Nrm (fun b => w1.heap.size ≤ b ∧ b ≠ W0.heap.size ∧ b ≠ W0.heap.size + 1) W pb c d) (fun _ => False) ?bk1 ?bk2 ⟨fun _ _ _ h _ => h, fun _ _ _ h => h⟩
        (fun _ A B h ht => ⟨h.1.trans ht.1, ht.2 h.2⟩) (fun A B h ht => ⟨h.1.trans ht.1, ht.2 h.2⟩) (fun A B h ht => h) (fun A B ht hl => ⟨ht.1.size, fun k hk hl => ht.1.block k hl (fun e => by omega)⟩) (fun a A h => ?pre) ⟨Only.refl _ _, hN0⟩ (fun a A v o h => rows_put h (by omega) o)
        (fun _ => []) ?assign ?body ?after ?exit ?ret
      case bk1 => exact ⟨fun _ A o h _ => ⟨h.1.below ((Below.refl _ _).alloc (Nat.le_refl _) o), h.2.kept (Kept.below ((Below.refl _ _).alloc (Nat.le_refl _) o))⟩, fun _ A o h => ⟨only_put h.1 (by omega) o, nrm_put h.2 (fun hr => hr.2.2 rfl) o⟩⟩
      case bk2 => exact ⟨fun _ A o h _ => ⟨h.1.below ((Below.refl _ _).alloc (Nat.le_refl _) o), h.2.kept (Kept.below ((Below.refl _ _).alloc (Nat.le_refl _) o))⟩, fun _ A o h => ⟨only_put h.1 (by omega) o, nrm_put h.2 (fun hr => hr.2.2 rfl) o⟩⟩
      case pre =>
        exact ⟨(World.cell?_of_block (w := W0) (a := ⟨wb + 1, 0, none⟩) (h.1.block (wb + 1) b1.out.lt (by omega))).trans b1.out.cell, (World.cell?_of_block (w := W0) (a := ⟨wb + 1 + 1, 0, none⟩) (h.1.block (wb + 1 + 1) b2.out.lt (by omega))).trans b2.out.cell, h.2, HL5.out.kept (Kept.only h.1 (fun b hb e => by omega))⟩
      case assign =>
        intro l v W
        simp [roundFrame]
        gi_wp2
        exact ⟨trivial, trivial⟩
      case body =>
        intro l a W v hc hI hE hz
        gi_wp2
        exact ⟨KeepsBooks.below (Below.refl _ _), ⟨Nat.le_refl _, fun _ _ _ => rfl⟩, .inl ⟨rfl, hI⟩⟩
      case exit => intro a' W' h; exact h
      case ret => intro D W _ h _; exact h.elim
      case after =>
        intro D1 W hD hI hK
        have ho : Only (fun k => k = pb) W0 W ∧ Nrm (fun b => w1.heap.size ≤ b ∧ b ≠ W0.heap.size ∧ b ≠ W0.heap.size + 1) W pb c d := by
          rcases hI with ⟨_, _, h⟩ | h <;> exact h
        clear hI hit hN0
        have HWB : Hid (Below w.heap.size w W) := below_of_only HB5.out ho.1 (fun b hb => by rw [hb]; omega)
        have HD : Hid (D1 < W.heap.size ∧ W.heap[D1]? = some (.deferred (some [])) ∧ W0.heap.size ≤ D1 ∧ w.heap.size < W0.heap.size) := ⟨(Array.getElem?_eq_some_iff.1 hK).1, hK, hD, b0.out.lt⟩
        have keep1 : ∀ {b : Nat} {t : TypeId} {v : Value}, Boxed W0 b t v → b ≠ pb → Boxed W b t v := fun h hne => (ho.1.block _ h.lt hne).trans h
        have d0 : Hid (Boxed W w.heap.size 4 (.bool false)) := keep1 b0.out (by omega)
        have dw : Hid (Boxed W wb 85 (.slice op P.length oc)) := keep1 bw.out (by omega)
        have d1 : Hid (Boxed W (wb + 1) 31 (.pointer (some ⟨pb, 0, none⟩))) := keep1 b1.out (by omega)
        have d2 : Hid (Boxed W (wb + 1 + 1) 48 (.slice lp n lc)) := keep1 b2.out (by omega)
        have HLW : Hid (IntsIn (· < w.heap.size) .i32 W (.slice lp n lc) L) := HL5.out.kept (Kept.only ho.1 (fun b hb e => by omega))
        have HRW : Hid (RowsIn (fun b => w3.heap.size ≤ b ∧ b < W0.heap.size) W (.slice op P.length oc) P) := (HR5.out.mono (S := fun b => w3.heap.size ≤ b ∧ b < W0.heap.size) (fun b hb hl => ⟨hb, hl⟩)).kept (Kept.only ho.1 (fun b hb e => by omega))
        have HNW : Hid (Nrm (fun b => w1.heap.size ≤ b ∧ b < W.heap.size) W pb c d) := ((norm_made pb c d HOK.out).bound _ _ ho.2 |> fun h => (norm_made pb c d HOK.out).mono _ _ _ h (fun b hb => ⟨hb.1.1, hb.2⟩))
        have hplW : pb < W.heap.size := Nat.lt_of_lt_of_le hpl5 ho.1.size
        have hzW := ho.1.size
        clear ho hD hK b0 bw b1 b2 HL5 HR5 HN5 HB5 keep1
        simp only [marked]
        gi_wp2_with fail
        obtain ⟨V, hV⟩ : ∃ V, V = W.alloc (.cells #[.int .i64 0] 3) := ⟨_, rfl⟩
        have HV : Hid (Below W.heap.size W V ∧ V.heap.size = W.heap.size + 1) := by rw [hV]; exact ⟨(Below.refl _ W).alloc (Nat.le_refl _) _, by simp⟩
        have hkb : Boxed V W.heap.size 3 (.int .i64 ((0 : Nat) : Int)) := by rw [hV]; exact Boxed.new _ _ _
        rw [← hV]
        have keepV : ∀ {b : Nat} {t : TypeId} {v : Value}, Boxed W b t v → Boxed V b t v := fun h => (HV.out.1.block _ h.lt).trans h
        have f0 : Hid (Boxed V w.heap.size 4 (.bool false)) := keepV d0.out
        have fw : Hid (Boxed V wb 85 (.slice op P.length oc)) := keepV dw.out
        have f1 : Hid (Boxed V (wb + 1) 31 (.pointer (some ⟨pb, 0, none⟩))) := keepV d1.out
        have f2 : Hid (Boxed V (wb + 1 + 1) 48 (.slice lp n lc)) := keepV d2.out
        have HLV := Lib.hid (HLW.out.kept (Kept.below HV.out.1))
        have HRV := Lib.hid (HRW.out.kept (Kept.below HV.out.1))
        have hNV : Nrm (fun b => w1.heap.size ≤ b ∧ b ≠ W.heap.size ∧ b ≠ V.heap.size ∧ b ≠ V.heap.size + 1) V pb c d := (norm_made pb c d HOK.out).mono _ _ _ (HNW.out.kept (Kept.below HV.out.1)) (fun b hb => ⟨hb.1, by omega, by have := HV.out.2; omega, by have := HV.out.2; omega⟩)
        have hVs := HV.out.2
        have hwbV := fw.out.lt
        have hk1 := d2.out.lt
        have HDV : Hid (V.heap[D1]? = some (.deferred (some []))) := (HV.out.1.block D1 HD.out.1).trans HD.out.2.1
        have HBV : Hid (Below w.heap.size w V) := HWB.out.trans (HV.out.1.mono HWB.out.size)
        have hwW := HWB.out.size
        clear hV keepV d0 dw d1 d2 HLW HRW HNW
        refine wp_rangeV2 2 (gf := 64) (lb := #[.pointer (some ⟨wb + 1, 0, none⟩), .pointer (some ⟨wb + 1 + 1, 0, none⟩)]) rfl (enters_of Tryz.func64 (by kernel_rfl) rfl) (HIT2.out (fun b => w1.heap.size ≤ b ∧ b ≠ W.heap.size ∧ b ≠ V.heap.size ∧ b ≠ V.heap.size + 1) _ (fun b hb => ⟨by omega, by omega, by omega, by omega⟩)) rfl
          (fun (a : Nat) U => PartI V pb W.heap.size (fun b => w1.heap.size ≤ b ∧ b ≠ W.heap.size ∧ b ≠ V.heap.size ∧ b ≠ V.heap.size + 1) c d D P a U)
          (fun _ => False) (fun _ => False) ?bk3 ⟨fun _ _ _ h _ => h, fun _ _ _ h => h⟩ ⟨fun _ _ _ h _ => h, fun _ _ _ h => h⟩ ?turn2 (fun A B h ht => h) (fun A B h ht => h) (fun A B ht hl => ⟨ht.1.size, fun k hk hl => ht.1.block k hl (fun e => by omega)⟩) (fun a A h => ?pre2)
          ⟨0, Only.refl _ _, hkb, hNV, Nat.zero_le _, by rw [List.drop_zero, List.drop_zero, HPP.out]⟩ (fun a A v o h => rows_put h (by omega) o)
          (fun v => [(13, v)]) ?assign2 ?body2 ?after2 ?exit2 ?ret2
        case bk3 =>
          refine ⟨?_, ?_⟩
          · rintro _ A o ⟨k, h1, h2, h3, h4⟩ _
            exact ⟨k, h1.below ((Below.refl _ _).alloc (Nat.le_refl _) o), h2.alloc _, h3.kept (Kept.below ((Below.refl _ _).alloc (Nat.le_refl _) o)), h4⟩
          · rintro _ A o ⟨k, h1, h2, h3, h4⟩
            exact ⟨k, only_put h1 (by omega) o, boxed_putObj h2 (by omega) o, nrm_put h3 (fun hr => hr.2.2.2 rfl) o, h4⟩
        case turn2 =>
          rintro _ A B ⟨k, h1, h2, h3, h4⟩ ht
          exact ⟨k, h1.trans (ht.1.weaken (fun b hb => .inl hb)), (ht.1.block _ h2.lt (by omega)).trans h2, ht.2 h3, h4⟩
        case pre2 =>
          obtain ⟨k, h1, h2, h3, h4⟩ := h
          exact ⟨(World.cell?_of_block (w := V) (a := ⟨wb + 1, 0, none⟩) (h1.block (wb + 1) f1.out.lt (by omega))).trans f1.out.cell, (World.cell?_of_block (w := V) (a := ⟨wb + 1 + 1, 0, none⟩) (h1.block (wb + 1 + 1) f2.out.lt (by omega))).trans f2.out.cell, h3, HLV.out.kept (Kept.only h1 (fun b hb e => by omega))⟩
        case assign2 =>
          intro l v U
          simp [roundFrame]
          gi_wp2
          exact ⟨trivial, trivial⟩
        case exit2 => intro a' W' h; exact h
        case ret2 => intro D W _ h _; exact h.elim
        case body2 =>
          intro l a U v hlt hI hE hz
          obtain ⟨k, ho, hbk, hnk, hkl, hpk⟩ := hI
          have hdl : 0 < (D.drop a).length := by rw [List.length_drop]; omega
          have hps := parts_cons (f := clsOf c) hdl
          rw [hpk, List.drop_drop] at hps
          obtain ⟨X, hX⟩ : ∃ X, X = (D.drop a).take (cutLen (clsOf c) (D.drop a)) := ⟨_, rfl⟩
          rw [← hX] at hps hE
          have hXl : X.length ≤ 100000000 := by rw [hX, List.length_take, List.length_drop]; omega
          have hkP : k < P.length := by
            rcases Nat.lt_or_ge k P.length with h | h
            · exact h
            · rw [List.drop_of_length_le h] at hps; cases hps
          have hkx : P[k]? = some X := by
            have := congrArg List.head? hps; simpa [List.head?_drop] using this
          have HPK : Hid (parts (clsOf c) (D.drop (a + cutLen (clsOf c) (D.drop a))) = P.drop (k + 1)) := by
            show _ = _
            have := congrArg List.tail hps; simpa [List.tail_drop] using this.symm
          have hRU := HRV.out.kept (Kept.only ho (fun b hb e => by omega))
          obtain ⟨gb, go, gu, hge, _, hgl, hgc, hgi⟩ := hRU.at hkx
          subst hge
          have hru := runes5_any _ _ X X v gu U hE hgi (by omega) (by omega)
          rw [decide_eq_true rfl] at hru
          have hkc := hbk.cell
          have hwc : U.cell? ⟨wb, 0, none⟩ = some (.slice (some ⟨gb, go, none⟩) P.length oc) := (World.cell?_of_block (w := V) (a := ⟨wb, 0, none⟩) (ho.block wb fw.out.lt (by omega))).trans fw.out.cell
          have g5 : (k : Int) < (P.length : Int) := by omega
          have g6 : decide ((P.length : Int) ≤ (k : Int)) = false := decide_eq_false (by omega)
          have HO := Lib.hid ho
          have HBK := Lib.hid hbk
          have HNK := Lib.hid hnk
          have hzU := ho.size
          clear hps hX hkx hRU hE hgi hpk ho hbk hnk hdl hlt
          simp [roundFrame]
          gi_wp2_with fail
          refine ⟨trivial, rfl, (callsIn_wide.2 hru).mono ?_⟩
          rintro e U1 ⟨rfl, hb1⟩
          have g4 : Boxed U1 W.heap.size 3 (.int .i64 (k : Int)) := (hb1.block _ HBK.out.lt).trans HBK.out
          have g4c := g4.cell
          have g4f := g4.frozen
          have HB1 := Lib.hid hb1
          have HG4 := Lib.hid g4
          clear hb1 g4 hru hkc hwc hgc
          gi_wp2
          refine ⟨(KeepsBooks.below HB1.out).trans (keepsB_set HG4.out _), ⟨by have := HB1.out.size; simpa using this, fun j hj hl => ?_⟩, k + 1, (HO.out.below HB1.out).setCell (.inr rfl) _, HG4.out.set _, (HNK.out.kept (Kept.below HB1.out)).kept (kept_setCell (fun b hb => hb.2.1)), by omega, HPK.out⟩
          rw [Below.heap_setCell _ _ _ _ (show j ≠ W.heap.size by omega)]
          exact HB1.out.block j hl
        case after2 =>
          rintro D2 U hD2 (⟨a, hl, hI⟩ | h) hK2
          · obtain ⟨k, ho, hbk, hnk, hkl, hpk⟩ := hI
            have hge : P.length ≤ k := by
              rw [List.drop_of_length_le hl, parts_nil] at hpk
              have := congrArg List.length hpk; rw [List.length_drop, List.length_nil] at this; omega
            obtain rfl : k = P.length := by omega
            have hkc := hbk.cell
            have hwc : U.cell? ⟨wb, 0, none⟩ = some (.slice op P.length oc) := (World.cell?_of_block (w := V) (a := ⟨wb, 0, none⟩) (ho.block wb fw.out.lt (by omega))).trans fw.out.cell
            have HXU : Boxed U w.heap.size 4 (.bool false) := (ho.block _ f0.out.lt (by omega)).trans f0.out
            have h1c := HXU.cell
            have h1f := HXU.frozen
            have HBU : Hid (Below w.heap.size w U) := below_of_only HBV.out ho (fun b hb => by rcases hb with e | e <;> omega)
            have hDD := HD.out
            have hD1U : U.heap[D1]? = some (.deferred (some [])) := (ho.block D1 (by omega) (by rintro (e | e) <;> omega)).trans HDV.out
            have HE : Hid (U.heap[D1]? = some (.deferred (some [])) ∧ U.heap[D2]? = some (.deferred (some [])) ∧ D1 ≠ w.heap.size ∧ D2 ≠ w.heap.size ∧ D1 ≠ D2 ∧ w.heap.size ≤ D1 ∧ w.heap.size ≤ D2) := ⟨hD1U, hK2, by omega, by omega, by omega, by omega, by omega⟩
            have HXX := Lib.hid HXU
            clear hD1U hK2 hDD hD2 hl ho hbk hnk hkl hpk HXU hge
            simp only [marked]
            gi_wp2_with fail
            obtain ⟨k1, k2, n1, n2, n3, l1, l2⟩ := HE.out
            have q1 : Boxed (U.setCell ⟨w.heap.size, 0, none⟩ (.bool true)) w.heap.size 4 (.bool true) := HXX.out.set _
            refine leave_mark2 (v := .bool true) ?_ ?_ n3 ?_ ⟨rfl, ?_⟩
            · rw [Below.heap_setCell _ _ _ _ n2]; exact k2
            · rw [Below.heap_setCell _ _ _ _ n1]; exact k1
            · have q2 := (boxed_putObj (D := D1) (boxed_putObj (D := D2) q1 (Ne.symm n2) (.deferred none)) (Ne.symm n1) (.deferred none)).cell
              simp [results, Tryz.results8, go_sem, q2]
            · exact below_putObj (below_putObj (HBU.out.setCell (Nat.le_refl _) _) l2 _) l1 _
          · exact h.elim
end Go.Proofs.YtlldoofclaokgaaGreat
