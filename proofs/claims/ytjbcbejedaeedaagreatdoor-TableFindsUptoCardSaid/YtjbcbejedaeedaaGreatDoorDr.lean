/- Chapter 8: Each: what is told of a table: walked. -/
import Derived.Test.YtjbcbejedaeedaaGreatDoorDj
import Derived.Test.YtjbcbejedaeedaaGreatDoorKc
import Derived.Test.YtjbcbejedaeedaaGreatDoorCe
namespace Go.Proofs.YtjbcbejedaeedaaGreatDoor
open Go.RowKit
attribute [local go_sem] Oper.semAt_some

theorem each8_fn (ver : ByteArray) (rv ev : Value) (w : World) (h1 : ∃ p n c, rv = .slice p n c) (h2 : ∃ p n c, ev = .slice p n c) :
    Calls Tryz.prog 13 #[.agg #[.string ver, rv, ev]] w fun e w' => e = .returned (.func (.func 33) #[] #[.pointer (some ⟨w.heap.size, 0, none⟩)]) ∧ w.alloc (.cells #[.string ver, rv, ev] 26) = w' := by
  have hmf : ∀ (fn : Fn) (first cap : Array Value) (w : World), (Instr.makeFunc fn first cap).run Tryz.prog w = .ok (.func fn first cap) w := fun _ _ _ _ => rfl
  obtain ⟨p, n, c, rfl⟩ := h1
  obtain ⟨q, m, d, rfl⟩ := h2
  go_enter Tryz.func13, Tryz.ntmps13
  go_wp2
  go_ret
  exact ⟨rfl, rfl⟩
/-- entries' boxes from block N on are as they were -/
def KeepE (N : Nat) (A B : World) : Prop := A.heap.size ≤ B.heap.size ∧ ∀ (k : Nat) c fr, N ≤ k → A.heap[k]? = some (.cells c 45 fr) → B.heap[k]? = some (.cells c 45 fr)
theorem KeepE.refl (N : Nat) (A : World) : KeepE N A A := ⟨Nat.le_refl _, fun _ _ _ _ h => h⟩
theorem KeepE.trans {N : Nat} {A B C : World} (h : KeepE N A B) (k : KeepE N B C) : KeepE N A C := ⟨Nat.le_trans h.1 k.1, fun i c fr hi ha => k.2 i c fr hi (h.2 i c fr hi ha)⟩
theorem KeepE.below {N : Nat} {A B : World} (h : Below A.heap.size A B) : KeepE N A B := ⟨h.size, fun i c fr _ ha => (h.block i (Array.getElem?_eq_some_iff.1 ha).1).trans ha⟩
/-- the rounds -/
def stepE8 (N : Nat) (es : List Ent) (s : Nat) (A : World) (vs : Array Value) (s' : Nat) : Prop :=
  ∃ x u, es[s]? = some x ∧ vs = #[.string (mkB (showW x.1)), u] ∧ ElsIn (fun b => N ≤ b) A u x.2 ∧ s' = s + 1
set_option maxHeartbeats 4000000 in
set_option maxRecDepth 100000 in
theorem each8_iter (R : Nat → Prop) (es : List Ent) (v : Value) (b N : Nat) (hel : es.length ≤ 1000000) (hx : ∀ x ∈ es, x.1.length ≤ 1000000 ∧ x.2.length ≤ 1000000) :
    IterR Tryz.prog 33 #[.pointer (some ⟨b, 0, none⟩)] N (KeepE N) Grows (stepE8 N es) (fun s => s = es.length) 0
      (fun A => A.cell? ⟨b, 2, none⟩ = some v ∧ EntsIn R A v es ∧ ML A) := by
  intro l J Jx W hN hJ hJx hPre hPreX hY h0
  obtain ⟨hb0, he0, _⟩ := hPre _ _ h0
  obtain ⟨ep, ec, rfl, _⟩ := he0
  have HPRE := Lib.hid hPre
  have HPREX := Lib.hid hPreX
  have HY := Lib.hid hY
  have HJ := Lib.hid hJ
  have HJ0 := Lib.hid h0
  have HN := Lib.hid hN
  have HX := Lib.hid hx
  obtain ⟨n, hn⟩ : ∃ n, n = es.length := ⟨_, rfl⟩
  rw [← hn] at hel hb0 HPRE HPREX ⊢
  have HNN := Lib.hid hn
  have hbl := cell_lt hb0
  clear h0 hPre hPreX hJx hY hN hx hJ hn
  refine callsIn_wide (n := 0) |>.1 ?_
  refine callsIn_of_wp Tryz.func33 rfl trivial ?_ rfl
  simp only [Tryz.ntmps33, List.size_toArray, List.length_cons, List.length_nil, Nat.reduceAdd, Nat.reduceSub, Array.replicate_succ, Array.replicate_zero, List.push_toArray, List.append_toArray, List.nil_append, List.cons_append]
  gi_wp2_with fail
  gi_loopw [8] (fun iv wr => ∃ k : Nat, iv = .int .i64 k ∧ k ≤ n ∧ J k wr ∧ KeepE N W wr) (fun iv _ => n - (intOf iv).toNat)
  case atStart => exact ⟨0, rfl, Nat.zero_le _, HJ0.out, KeepE.refl _ _⟩
  case round =>
    obtain ⟨k, rfl, hkn, hj, hkp⟩ := hrel
    have HJK := Lib.hid hj
    have HKP := Lib.hid hkp
    obtain ⟨_, hee, hml⟩ := HPRE.out _ _ hj
    by_cases hlt : k < n
    · have g1 : (k : Int) < (n : Int) := by omega
      have d2 : decide (k < n) = true := decide_eq_true hlt
      obtain ⟨x, hxk⟩ : ∃ x, es[k]? = some x := ⟨_, List.getElem?_eq_getElem (by have := HNN.out; omega)⟩
      obtain ⟨bb, oo, c, u, rfl, _, hbl2, c0, c1, hci, hui⟩ := hee.at k x hxk
      have hxl := HX.out x (List.mem_of_getElem? hxk)
      have hbA : Below wr.heap.size wr (wr.alloc (.cells #[c, u] 45)) := (Below.refl _ wr).alloc (Nat.le_refl _) _
      have h2 : TwoAt (wr.alloc (.cells #[c, u] 45)) wr.heap.size c u := World.alloc_heap_new wr _
      have HCI := Lib.hid (hci.kept (Kept.below hbA))
      have HUI := Lib.hid (hui.kept (Kept.below hbA))
      have HML := Lib.hid (hml.below hbA)
      have HBA := Lib.hid hbA
      have HXK := Lib.hid hxk
      have HXL := Lib.hid hxl
      have HLT := Lib.hid hlt
      obtain ⟨cp, cc, rfl, _⟩ := hci
      obtain ⟨up, uc, rfl, _⟩ := hui
      have HNW : Hid (N ≤ wr.heap.size) := Nat.le_trans HN.out hkp.1
      clear hj hkp hee hml hxk hxl hbA hlt
      have HBG : Hid (Grows wr (wr.alloc (.cells #[.slice cp x.1.length cc, .slice up x.2.length uc] 45))) := HBA.out
      have HXB := Lib.hid (show wr.heap.size < (wr.alloc (.cells #[.slice cp x.1.length cc, .slice up x.2.length uc] 45)).heap.size by simp)
      clear HBA
      gi_wp2_with fail
      generalize wr.alloc (.cells #[.slice cp x.1.length cc, .slice up x.2.length uc] 45) = V at *
      generalize wr.heap.size = xb at *
      have hS0 : ∀ U, KeepE N V U → U.cell? ⟨xb, 0, none⟩ = some (.slice cp x.1.length cc) ∧ U.cell? ⟨xb, 1, none⟩ = some (.slice up x.2.length uc) := fun U hU => by
        have h3 : TwoAt U xb (.slice cp x.1.length cc) (.slice up x.2.length uc) := hU.2 xb _ _ HNW.out h2
        exact ⟨h3.cells.1, h3.cells.2.1⟩
      have HS0 := Lib.hid hS0
      have HSW := Lib.hid (tshow_any R x.1 (.slice cp x.1.length cc) V.drew (HCI.out.kept (Kept.below (Below.refl _ V).drew)) HXL.out.1 (HML.out.below (Below.refl _ V).drew))
      have HCL := Lib.hid (fun U (hU : Below V.heap.size V U) => cloneE_any R x.2 (.slice up x.2.length uc) U (HUI.out.kept (Kept.below hU)) (by have := HXL.out.2; omega))
      refine wp_region_yield (fun U : World => U.cell? ⟨xb, 0, none⟩ = some (.slice cp x.1.length cc) ∧ U.cell? ⟨xb, 1, none⟩ = some (.slice up x.2.length uc)) (by kernel_rfl) ?_
      have hH := hS0 V.drew (KeepE.below (Below.refl _ V).drew)
      clear hS0 h2
      refine wpHeld_takeL (i := 0) (v := ?_) rfl (by kernel_rfl) (by kernel_rfl) (by kernel_rfl) (fun _ _ _ h => h) (Or.inl ⟨by first | rfl | kernel_rfl, ?_⟩) hH ?_; rotate_left 1; (first | (focus (intro w hSw; (try dsimp only at hSw); go_simp; done)) | (focus (intro w hSw; (try dsimp only at hSw); go_simp; with_reducible rfl))); (try simp only [Act.put, List.setIfInBounds_toArray, List.set_cons_zero, List.set_cons_succ])
      refine wpHeld_takeL (i := 1) (v := ?_) rfl (by kernel_rfl) (by kernel_rfl) (by kernel_rfl) (fun _ _ _ h => h) (Or.inl ⟨by first | rfl | kernel_rfl, ?_⟩) hH ?_; rotate_left 1; (first | (focus (intro w hSw; (try dsimp only at hSw); go_simp; done)) | (focus (intro w hSw; (try dsimp only at hSw); go_simp; with_reducible rfl))); (try simp only [Act.put, List.setIfInBounds_toArray, List.set_cons_zero, List.set_cons_succ])
      refine wpHeld_takeL (i := 2) (v := ?_) rfl (by kernel_rfl) (by kernel_rfl) (by kernel_rfl) (fun _ _ _ h => h) (Or.inl ⟨by first | rfl | kernel_rfl, ?_⟩) hH ?_; rotate_left 1; (first | (focus (intro w hSw; (try dsimp only at hSw); go_simp; done)) | (focus (intro w hSw; (try dsimp only at hSw); go_simp; with_reducible rfl))); (try simp only [Act.put, List.setIfInBounds_toArray, List.set_cons_zero, List.set_cons_succ])
      refine wpHeld_takeL (i := 4) (v := ?_) rfl (by kernel_rfl) (by kernel_rfl) (by kernel_rfl) (fun _ _ _ h => h) (Or.inl ⟨by first | rfl | kernel_rfl, ?_⟩) hH ?_; rotate_left 1; (first | (focus (intro w hSw; (try dsimp only at hSw); go_simp; done)) | (focus (intro w hSw; (try dsimp only at hSw); go_simp; with_reducible rfl))); (try simp only [Act.put, List.setIfInBounds_toArray, List.set_cons_zero, List.set_cons_succ])
      refine wpHeld_takeL (i := 5) (v := ?_) rfl (by kernel_rfl) (by kernel_rfl) (by kernel_rfl) (fun _ _ _ h => h) (Or.inl ⟨by first | rfl | kernel_rfl, ?_⟩) hH ?_; rotate_left 1; (first | (focus (intro w hSw; (try dsimp only at hSw); go_simp; done)) | (focus (intro w hSw; (try dsimp only at hSw); go_simp; with_reducible rfl))); (try simp only [Act.put, List.setIfInBounds_toArray, List.set_cons_zero, List.set_cons_succ])
      refine wpHeld_oneL (i := 3) (by kernel_rfl) rfl (by rfl) (fun K hK => ?_); have HK := Lib.hid hK; clear hK; go_simp
      refine ⟨trivial, rfl, (callsIn_wide.2 HSW.out).mono ?_⟩
      rintro e w4 ⟨rfl, hb4⟩
      have HB4 : Hid (Below V.heap.size V w4) := (show Below V.heap.size V V.drew from (Below.refl _ V).drew).trans hb4
      refine HK.out _ _ (HS0.out _ (KeepE.below HB4.out)) ?_
      clear HK hb4
      (try simp only [Act.put, List.setIfInBounds_toArray, List.set_cons_zero, List.set_cons_succ])
      refine wpHeld_oneL (i := 6) (by kernel_rfl) rfl (by rfl) (fun K hK => ?_); have HK := Lib.hid hK; clear hK; go_simp
      refine ⟨trivial, rfl, (callsIn_wide.2 (HCL.out _ HB4.out)).mono ?_⟩
      rintro e w5 ⟨v', rfl, hv', hb5⟩
      have HB5 : Hid (Below V.heap.size V w5) := HB4.out.trans (hb5.mono HB4.out.size)
      have hb4' := HB4.out.size
      have hJ5 := HJ.out k wr w5 HJK.out (show Below wr.heap.size wr w5 from (show Below wr.heap.size wr V from HBG.out).trans (HB5.out.mono (show Below wr.heap.size wr V from HBG.out).size))
      have hstep : stepE8 N es k w5 #[.string (mkB (showW x.1)), v'] (k + 1) := ⟨x, v', HXK.out, rfl, hv'.mono (fun b hb _ => by have := hb.1; have := hb4'; have := HNW.out; have := HXB.out; omega), rfl⟩
      obtain ⟨fn, tmps, assign, body, hy, hR⟩ := HY.out k w5 _ _ hJ5 hstep
      have HRR := Lib.hid hR
      refine HK.out _ _ (HS0.out _ (KeepE.below HB5.out)) ?_
      clear HK hb5 hv' hstep hJ5 hR hb4'
      (try simp only [Act.put, List.setIfInBounds_toArray, List.set_cons_zero, List.set_cons_succ])
      refine wpHeld_oneL (i := 7) (by kernel_rfl) rfl (by rfl) (fun K hK => ?_); have HK := Lib.hid hK; clear hK; go_simp
      refine ⟨rfl, HRR.out.mono ?_⟩
      rintro e w6 ⟨hk6, ⟨rfl, hj6⟩ | ⟨rfl, hjx⟩⟩
      · have HK6 : Hid (KeepE N V w6) := (KeepE.below HB5.out).trans hk6
        have HJ6 := Lib.hid hj6
        have hS6 := HS0.out _ HK6.out
        refine HK.out _ _ hS6 ?_
        clear HK hk6 hj6
        (try simp only [Act.put, List.setIfInBounds_toArray, List.set_cons_zero, List.set_cons_succ])
        refine wpHeld_takeL (i := 8) (v := ?_) rfl (by kernel_rfl) (by kernel_rfl) (by kernel_rfl) (fun _ _ _ h => h) (Or.inl ⟨by first | rfl | kernel_rfl, ?_⟩) hS6 ?_; rotate_left 1; (first | (focus (intro w hSw; (try dsimp only at hSw); go_simp; done)) | (focus (intro w hSw; (try dsimp only at hSw); go_simp; with_reducible rfl))); (try simp only [Act.put, List.setIfInBounds_toArray, List.set_cons_zero, List.set_cons_succ])
        refine wpHeld_done (by kernel_rfl) ?_ _
        gi_wp2
        go_roundw
        case rel => exact ⟨k + 1, by go_num, HLT.out, HJ6.out, HKP.out.trans ((KeepE.below HBG.out).trans HK6.out)⟩
        case measure => (have := HLT.out; simp [intOf]; omega)
      · have HK6 : Hid (KeepE N V w6) := (KeepE.below HB5.out).trans hk6
        have HJX := Lib.hid hjx
        have hS6 := HS0.out _ HK6.out
        refine HK.out _ _ hS6 ?_
        clear HK hk6 hjx
        (try simp only [Act.put, List.setIfInBounds_toArray, List.set_cons_zero, List.set_cons_succ])
        refine wpHeld_takeL (i := 8) (v := ?_) rfl (by kernel_rfl) (by kernel_rfl) (by kernel_rfl) (fun _ _ _ h => h) (Or.inl ⟨by first | rfl | kernel_rfl, ?_⟩) hS6 ?_; rotate_left 1; (first | (focus (intro w hSw; (try dsimp only at hSw); go_simp; done)) | (focus (intro w hSw; (try dsimp only at hSw); go_simp; with_reducible rfl))); (try simp only [Act.put, List.setIfInBounds_toArray, List.set_cons_zero, List.set_cons_succ])
        refine wpHeld_done (by kernel_rfl) ?_ _
        gi_wp2
        refine bodyPost_ret (results_none rfl _ _ _) rfl ?_
        exact ⟨⟨_, rfl⟩, HKP.out.trans ((KeepE.below HBG.out).trans HK6.out), .inr HJX.out⟩
    · have g1 : ¬ (k : Int) < (n : Int) := by omega
      have d2 : decide (k < n) = false := decide_eq_false hlt
      obtain rfl : k = n := by omega
      clear hlt hee hml hj hkp
      gi_wp2
      go_end0
      exact ⟨⟨_, rfl⟩, HKP.out, .inl HJK.out⟩
end Go.Proofs.YtjbcbejedaeedaaGreatDoor
