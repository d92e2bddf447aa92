/- The law UtfEach, walked. -/
import Derived.Test.YtafocgnhmdhemaaUo
import Derived.Test.YtafocgnhmdhemaaUs
import Derived.Test.YtafocgnhmdhemaaRange2
namespace Go.Proofs.Ytafocgnhmdhemaa
open Go.RowKit
open PlainAid (bt)
attribute [local go_sem] Oper.semAt_some

set_option maxHeartbeats 2000000 in
set_option maxRecDepth 100000 in
theorem law_each (s : ByteArray) (w : World) (hs : s.size ≤ 140737488351232) :
    Calls Try.prog 4 #[.string s] w fun e w' => e = .returned (.bool true) ∧ Below w.heap.size w w' := by
  have HS := Lib.hid hs
  refine callsIn_wide (n := 0) |>.1 ?_
  refine callsIn_of_wp_marks Try.func4 rfl trivial ?_ rfl
  simp only [Try.ntmps4, List.size_toArray, List.length_cons, List.length_nil, Nat.reduceAdd, Nat.reduceSub, Array.replicate_succ, Array.replicate_zero, List.push_toArray, List.append_toArray, List.nil_append, List.cons_append]
  by_cases hlen : 3000 < s.size
  · have hl1 : decide ((3000 : Int) < (s.size : Int)) = true := decide_eq_true (by omega)
    have hl2 : decide (3000 < s.size) = true := decide_eq_true (by omega)
    clear hlen
    gi_wp2_with fail
    refine ⟨trivial, rfl, (callsIn_wide.2 (awake_any _)).mono ?_⟩
    rintro e w1 ⟨rfl, hb1⟩
    obtain ⟨hc, hf⟩ := bcell hb1
    have HB := Lib.hid hb1
    clear hb1
    gi_wp2
    have hz := HB.out.size
    simp only [World.size_alloc] at hz
    refine ⟨.bool true, ?_, rfl, ?_⟩
    · simp [results, Try.results4, go_sem, hc]
    · exact ((((Below.refl _ w).alloc (Nat.le_refl _) _).alloc (by simp) _).trans (HB.out.mono (by simp; omega))).setCell (by simp) _
  · have hl1 : decide ((3000 : Int) < (s.size : Int)) = false := decide_eq_false (by omega)
    have hl2 : decide (3000 < s.size) = false := decide_eq_false (by omega)
    clear hlen
    gi_wp2_with fail
    refine ⟨trivial, rfl, (callsIn_wide.2 (awake_any _)).mono ?_⟩
    rintro e w1 ⟨rfl, hb1⟩
    obtain ⟨hc, hf⟩ := bcell hb1
    have HB := Lib.hid hb1
    clear hb1
    gi_wp2_with fail
    refine ⟨trivial, rfl, (callsIn_wide.2 (each_any _ _)).mono ?_⟩
    rintro e W0 ⟨rfl, hW0⟩
    have hz1 := HB.out.size
    simp only [World.size_alloc] at hz1
    have b0 : Boxed W0 w.heap.size 9 (.string s) := by
      rw [← hW0]; refine Boxed.alloc ?_ _
      exact (HB.out.block w.heap.size (by simp; omega)).trans ((Boxed.new w _ _).alloc _)
    have b1 : Boxed W0 (w.heap.size + 1) 4 (.bool false) := by
      rw [← hW0]; refine Boxed.alloc ?_ _
      refine (HB.out.block (w.heap.size + 1) (by simp)).trans ?_
      have := Boxed.new (w.alloc (.cells #[.string s] 9)) 4 (.bool false); rwa [World.size_alloc] at this
    have b2 : Boxed W0 w1.heap.size 9 (.string s) := by rw [← hW0]; exact Boxed.new _ _ _
    have HW : Hid (Below w.heap.size w W0) := by
      show Below w.heap.size w W0; rw [← hW0]
      exact ((((Below.refl _ w).alloc (Nat.le_refl _) _).alloc (by simp) _).trans (HB.out.mono (by simp; omega))).alloc (by omega) _
    clear hW0 hc hf HB
    generalize hbe : w1.heap.size = be at *
    have HN : Hid (w.heap.size + 2 ≤ be) := hz1
    clear hbe hz1
    have hnf : ∀ (cap : Array Value) (w : World), (binOp .eql 30 (.func (.func 32) #[] cap) .nilFunc).run Try.prog w = .ok (.bool false) w := fun _ _ => by kernel_rfl
    gi_wp2_with fail
    refine wp_range2 0 (gf := 32) (lb := #[.pointer (some ⟨be, 0, none⟩)]) rfl (enters_of Try.func32 (by kernel_rfl) rfl) (each1_iter s HS.out be) (fun _ => rfl)
      (fun _ W => Only (fun _ => False) W0 W) (fun W => Only (fun _ => False) W0 W) (fun _ => False) (fun _ => .only (Nat.le_refl _)) (.only (Nat.le_refl _)) (.const _) (fun a A h => ?pre) (Only.refl _ _)
      (fun _ => []) ?assign ?body ?after ?exit ?ret ?bad
    case assign =>
      intro l a W
      simp [encU, roundFrame]
      gi_wp2
      exact ⟨trivial, trivial⟩
    case pre => exact (World.cell?_of_block (w := W0) (a := ⟨be, 0, none⟩) (h.block be b2.lt (by simp))).trans b2.cell
    case body =>
      intro l a W hc hI
      gi_wp2
      exact ⟨KeepsOthers.refl _, .inl ⟨rfl, hI⟩⟩
    case exit => intro a' W' h; exact h
    case ret => intro D W _ h _; exact h.elim
    case bad => intro D c s W _ h _ _; exact h.elim
    case after =>
      intro D W hD hI hK
      have ho : Only (fun _ => False) W0 W := (by rcases hI with ⟨_, _, h⟩ | h <;> exact h)
      clear hI
      have d0 : Boxed W w.heap.size 9 (.string s) := (ho.block _ b0.lt (by simp)).trans b0
      have d1 : Boxed W (w.heap.size + 1) 4 (.bool false) := (ho.block _ b1.lt (by simp)).trans b1
      have d2 : Boxed W be 9 (.string s) := (ho.block _ b2.lt (by simp)).trans b2
      have HW1 := Lib.hid (Only.toBelow HW.out (Nat.le_refl _) ho (fun i h => h.elim))
      have HD : Hid (D < W.heap.size ∧ W.heap[D]? = some (.deferred (some [])) ∧ w.heap.size ≤ D) := ⟨(Array.getElem?_eq_some_iff.1 hK).1, hK, (by have := HW.out.size; omega)⟩
      clear ho b0 b1 b2 hD hK HW
      simp only [marked]
      gi_wp2_with fail
      refine wp_range2 2 (gf := 32) (lb := #[.pointer (some ⟨be, 0, none⟩)]) rfl (enters_of Try.func32 (by kernel_rfl) rfl) (each1_iter s HS.out be) (fun _ => rfl)
        (fun a V => Only (fun k => k = W.heap.size) (W.alloc (.cells #[.int .i64 0] 3)) V ∧ Boxed V W.heap.size 3 (.int .i64 (a : Nat))) (fun _ => False) (fun _ => False) (fun _ => .and (.only (Nat.le_refl _)) .boxed) (.const _) (.const _) (fun a A h => ?pre) ⟨Only.refl _ _, Boxed.new _ _ _⟩
        (fun a => [(5, .int .i64 a), (6, .int .i32 (fmR s a))]) ?assign ?body ?after ?exit ?ret ?bad
      case assign =>
        intro l a W
        simp [encU, roundFrame]
        gi_wp2
        exact ⟨trivial, trivial⟩
      case pre => exact (World.cell?_of_block (w := W.alloc (.cells #[.int .i64 0] 3)) (a := ⟨be, 0, none⟩) (h.1.block be (by have := d2.lt; simp; omega) (by have := d2.lt; omega))).trans (d2.alloc _).cell
      case exit => intro a' W' h; exact h
      case ret => intro D W _ h _; exact h.elim
      case bad => intro D c s W _ h _ _; exact h.elim
      case body =>
        rintro l a V ⟨hlt, hz⟩ ⟨ho, hb⟩
        simp [encU, roundFrame]
        have e0 : Boxed V w.heap.size 9 (.string s) := (ho.block _ (by have := d0.lt; simp; omega) (by have := d0.lt; omega)).trans (d0.alloc _)
        have hs0 := Lib.hid e0.cell
        have HA := Lib.hid hb.cell
        have hle := fmN_size s a hz
        have HLT := Lib.hid hlt
        have HZ := Lib.hid hz
        have HVO := Lib.hid ho
        have hsc := e0.cell
        have hac := hb.cell
        clear ho hlt hz
        gi_wp2_with fail
        refine ⟨trivial, rfl, (callsIn_wide.2 (rnext_in s a _ HS.out HLT.out)).mono ?_⟩
        rw [show erN (fmN s a) = 0 from if_neg HZ.out]
        rintro e V1 ⟨rfl, hb1⟩
        have g4 : Boxed V1 W.heap.size 3 (.int .i64 (a : Nat)) := (hb1.block _ hb.lt).trans hb
        have g4c := g4.cell
        have g4f := g4.frozen
        have HB1 := Lib.hid hb1
        have HB := Lib.hid hb
        clear hb1 hb e0 hs0 HA hsc hac
        gi_wp2
        refine ⟨(keeps_below HB1.out).trans (KeepsOthers.setCell _ _ _), (HVO.out.below HB1.out).setCell rfl _, ?_⟩
        exact g4.set _
      case after =>
        rintro D2 V hD2 (⟨a, hl, ho, hb⟩ | h) hK2
        · have e0 : Boxed V w.heap.size 9 (.string s) := (ho.block _ (by have := d0.lt; simp; omega) (by have := d0.lt; omega)).trans (d0.alloc _)
          have e1 : Boxed V (w.heap.size + 1) 4 (.bool false) := (ho.block _ (by have := d1.lt; simp; omega) (by have := d1.lt; omega)).trans (d1.alloc _)
          have hsc := e0.cell
          have hac := hb.cell
          simp only [marked]
          have key : ∀ V1 : World, Below V.heap.size V V1 → ∀ tmps : Array Value, tmps[2]? = some (.pointer (some ⟨w.heap.size + 1, 0, none⟩)) → bodyPostM Fence.wide 0 Try.prog Try.f4 (fun e w' => e = .returned (.bool true) ∧ Below w.heap.size w w') .ret { tmps := tmps, defers := [{ target := .collected D2, args := #[] }, { target := .collected D, args := #[] }] } (V1.setCell ⟨w.heap.size + 1, 0, none⟩ (.bool true)) := by
            intro V1 hb1 tmps ht
            have hD := HD.out
            have hVs := ho.size
            have hs1 := hb1.size
            simp only [World.size_alloc] at hVs hD2
            have hK1 : V.heap[D]? = some (.deferred (some [])) := by rw [ho.block D (by simp; omega) (by omega), Below.heap_alloc _ _ _ hD.1]; exact hD.2.1
            have q1 : Boxed (V1.setCell ⟨w.heap.size + 1, 0, none⟩ (.bool true)) (w.heap.size + 1) 4 (.bool true) := (show Boxed V1 _ _ _ from (hb1.block _ e1.lt).trans e1).set _
            have hd1 : D ≠ w.heap.size + 1 := (fun e => by rw [e] at hK1; rw [show V.heap[w.heap.size + 1]? = _ from e1] at hK1; cases hK1)
            have hd2 : D2 ≠ w.heap.size + 1 := (fun e => by rw [e] at hK2; rw [show V.heap[w.heap.size + 1]? = _ from e1] at hK2; cases hK2)
            have lD2 := (Array.getElem?_eq_some_iff.1 hK2).1
            refine leave_mark2 (v := .bool true) ?_ ?_ (by omega) ?_ ⟨rfl, ?_⟩
            · rw [Below.heap_setCell _ _ _ _ hd2, hb1.block D2 lD2]; exact hK2
            · rw [Below.heap_setCell _ _ _ _ hd1, hb1.block D (by omega)]; exact hK1
            · have q2 := (boxed_putObj (D := D) (boxed_putObj (D := D2) q1 (by omega) (.deferred none)) (by omega) (.deferred none)).cell
              simp [results, Try.results4, go_sem, ht, q2]
            · have hW1 := HW1.out.size
              have hn := HN.out
              refine below_putObj (below_putObj (Below.setCell ?_ (Nat.le_succ _) _) (by omega) _) hD.2.2 _
              exact (Only.toBelow (HW1.out.alloc (by omega) _) (Nat.le_refl _) ho (fun i hi => by omega)).trans (hb1.mono (by omega))
          clear ho hb hK2
          have hge1 : s.size ≤ a ∨ a < s.size := (by omega)
          rcases hge1 with hge | hlt
          · gi_wp2_with fail
            refine ⟨trivial, rfl, (callsIn_wide.2 (rnext_out s a _ HS.out (.inr (by omega)))).mono ?_⟩
            rintro e V1 ⟨rfl, hb1⟩
            have g1 : Boxed V1 (w.heap.size + 1) 4 (.bool false) := (hb1.block _ e1.lt).trans e1
            have g1c := g1.cell
            have g1f := g1.frozen
            gi_wp2
            exact key _ hb1 _ rfl
          · have hz : erN (fmN s a) = 40 := (by rcases hl with h | h; (· omega); exact if_pos h)
            have HLT := Lib.hid hlt
            clear hlt hl
            gi_wp2_with fail
            refine ⟨trivial, rfl, (callsIn_wide.2 (rnext_in s a _ HS.out HLT.out)).mono ?_⟩
            rw [hz]
            rintro e V1 ⟨rfl, hb1⟩
            have g1 : Boxed V1 (w.heap.size + 1) 4 (.bool false) := (hb1.block _ e1.lt).trans e1
            have g1c := g1.cell
            have g1f := g1.frozen
            gi_wp2
            exact key _ hb1 _ rfl
        · exact h.elim
end Go.Proofs.Ytafocgnhmdhemaa
