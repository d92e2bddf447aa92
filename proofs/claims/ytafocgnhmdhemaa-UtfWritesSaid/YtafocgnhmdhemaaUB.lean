/- Cut of package utf: walked. -/
import Derived.Test.YtafocgnhmdhemaaUA
namespace Go.Proofs.Ytafocgnhmdhemaa
open Go.RowKit
open PlainAid (bt)
attribute [local go_sem] Oper.semAt_some

set_option maxHeartbeats 2000000 in
set_option maxRecDepth 100000 in
theorem uCut_any (s : ByteArray) (m : Int) (w : World) (hs : s.size ≤ 140737488351232) (hm : m ≤ 9223372036854775807) :
    Calls Try.prog 25 #[.string s, .int .i64 m] w fun e w' => e = .returned (.tuple #[.string (cutS s m), .int .i64 (cutE s m)]) ∧ Below w.heap.size w w' := by
  have HS := Lib.hid hs
  refine callsIn_wide (n := 0) |>.1 ?_
  refine callsIn_of_wp_marks Try.func25 rfl trivial ?_ rfl
  simp only [Try.ntmps25, List.size_toArray, List.length_cons, List.length_nil, Nat.reduceAdd, Nat.reduceSub, Array.replicate_succ, Array.replicate_zero, List.push_toArray, List.append_toArray, List.nil_append, List.cons_append]
  by_cases hneg : m < 0
  · have HV := Lib.hid (cut_neg (s := s) hneg)
    gi_wp2
    refine ⟨.tuple #[.string (cutS s m), .int .i64 (cutE s m)], ?_, rfl, (Below.refl _ _).alloc (Nat.le_refl _) _⟩
    rw [HV.out.1, HV.out.2]
    simp [results, Try.results25, go_sem]
  · cases hB : BD s 0 with
    | some x =>
      have HV := Lib.hid (cut_bad hneg hB)
      have HE := Lib.hid (bd_some hB)
      have hneg' : decide (m < 0) = false := decide_eq_false hneg
      clear hB
      gi_wp2_with fail
      refine ⟨trivial, rfl, (callsIn_wide.2 (uCheck_any _ _ HS.out)).mono ?_⟩
      rintro e w1 ⟨rfl, hb1⟩
      rw [HE.out.1, HE.out.2]
      gi_wp2
      refine ⟨.tuple #[.string (cutS s m), .int .i64 (cutE s m)], ?_, rfl, ((Below.refl _ _).alloc (Nat.le_refl _) _).trans (hb1.mono (by simp))⟩
      rw [HV.out.1, HV.out.2]
      simp [results, Try.results25, go_sem]
    | none =>
      have HV := Lib.hid (cut_ok hneg hB)
      have HE := Lib.hid (bd_none hB)
      have HBD := Lib.hid hB
      have hm0 : 0 ≤ m := by omega
      have hneg' : decide (m < 0) = false := decide_eq_false hneg
      clear hB
      gi_wp2_with fail
      refine ⟨trivial, rfl, (callsIn_wide.2 (uCheck_any _ _ HS.out)).mono ?_⟩
      rintro e w1 ⟨rfl, hb1⟩
      rw [HE.out.1, HE.out.2]
      have b3 : Boxed w1 w.heap.size 3 (.int .i64 m) := (hb1.block _ (by simp)).trans (Boxed.new _ _ _)
      have HB1 : Hid (Below w.heap.size w w1) := ((Below.refl _ _).alloc (Nat.le_refl _) _).trans (hb1.mono (by simp))
      clear hb1
      gi_wp2_with fail
      refine ⟨trivial, rfl, (callsIn_wide.2 (each_any _ _)).mono ?_⟩
      rintro e w2 ⟨rfl, hw2⟩
      have d3 : Boxed w2 w.heap.size 3 (.int .i64 m) := by rw [← hw2]; exact (b3.alloc _).alloc _
      have d8 : Boxed w2 w1.heap.size 3 (.int .i64 ((0 : Nat) : Int)) := by rw [← hw2]; exact (Boxed.new _ _ _).alloc _
      have ds : Boxed w2 (w1.heap.size + 1) 9 (.string s) := by
        rw [← hw2]; have := Boxed.new (w1.alloc (.cells #[.int .i64 0] 3)) 9 (.string s); rwa [World.size_alloc] at this
      have HB2 : Hid (Below w.heap.size w w2) := by
        show Below w.heap.size w w2; rw [← hw2]; exact (HB1.out.alloc HB1.out.size _).alloc (by have := HB1.out.size; simp; omega) _
      have hlt3 := b3.lt
      clear hw2
      gi_wp2_with fail
      refine wp_range2 0 (gf := 32) (lb := #[.pointer (some ⟨w1.heap.size + 1, 0, none⟩)]) rfl (enters_of Try.func32 (by kernel_rfl) rfl) (each1_iter s HS.out (w1.heap.size + 1)) (fun _ => rfl)
        (fun a V => Only (fun k => k = w1.heap.size) w2 V ∧ ∃ e : Nat, CutAt s m a e ∧ Boxed V w1.heap.size 3 (.int .i64 (e : Nat))) (fun _ => False) (fun _ => False) (fun _ => .and (.only (Nat.le_refl _)) (.ex fun _ => .and (.const _) .boxed)) (.const _) (.const _) (fun a A h => ?pre)
        ⟨Only.refl _ _, 0, ⟨.inl ⟨hm0, rfl, rfl⟩, HBD.out, Nat.zero_le _, Nat.zero_le _⟩, d8⟩
        (fun a => [(9, .int .i64 a), (10, .int .i32 (fmR s a))]) ?assign ?body ?after ?exit ?ret ?bad
      case assign =>
        intro l a W
        simp [encU, roundFrame]
        gi_wp2
        exact ⟨trivial, trivial⟩
      case pre => exact (World.cell?_of_block (w := w2) (a := ⟨w1.heap.size + 1, 0, none⟩) (h.1.block _ ds.lt (show ¬ w1.heap.size + 1 = w1.heap.size by omega))).trans ds.cell
      case exit => intro a' W' h; exact h
      case ret => intro D W _ h _; exact h.elim
      case bad => intro D c s W _ h _ _; exact h.elim
      case body =>
        rintro l a V ⟨hlt, hz⟩ ⟨ho, e, hc, hb⟩
        simp [encU, roundFrame]
        obtain ⟨hsc, hlg, _⟩ := fm_form s a hz
        have e3 : Boxed V w.heap.size 3 (.int .i64 m) := (ho.block _ d3.lt (by omega)).trans d3
        have e3c := e3.cell
        have hle := fmN_size s a hz
        have hsum : IntKind.i64.wrap ((a : Int) + (fmN s a : Int)) = (a : Int) + (fmN s a : Int) := IntWalk.i64_in _ (by omega)
        have hLd : ∀ V, Calls Try.prog 39 #[.int .i32 (fmR s a)] V fun e w' => e = .returned (.int .i64 (fmN s a)) ∧ V = w' := (by rw [← hlg]; exact fun V => long_any _ V)
        have HC := Lib.hid hc
        have HZ := Lib.hid hz
        have HLT := Lib.hid hlt
        have HO := Lib.hid ho
        clear hlg hc hz hsc ho hlt
        by_cases hg : (a : Int) + (fmN s a : Int) ≤ m
        · have hg' : decide ((a : Int) + (fmN s a : Int) ≤ m) = true := decide_eq_true hg
          gi_wp2
          have hbc := hb.cell
          have hbf := hb.frozen
          gi_region_with (refine ⟨trivial, rfl, (callsIn_wide.2 (hLd V.drew)).mono ?_⟩; rintro e w' ⟨rfl, rfl⟩)
          all_goals
            gi_wp2_with (refine ⟨trivial, rfl, (callsIn_wide.2 (hLd V.drew)).mono ?_⟩; rintro e w' ⟨rfl, rfl⟩)
            refine ⟨(KeepsOthers.drew _).trans (KeepsOthers.setCell _ _ _), (HO.out.drew).setCell rfl _, a + fmN s a, cutAt_hit HC.out HLT.out HZ.out hg, ?_⟩
            exact (show Boxed V.drew _ _ _ from hb).set _
        · have hg' : decide ((a : Int) + (fmN s a : Int) ≤ m) = false := decide_eq_false hg
          gi_wp2
          gi_region_with (refine ⟨trivial, rfl, (callsIn_wide.2 (hLd V.drew)).mono ?_⟩; rintro e w' ⟨rfl, rfl⟩)
          all_goals
            gi_wp2
            exact ⟨KeepsOthers.drew _, HO.out.drew, e, cutAt_miss HC.out HLT.out HZ.out (by omega), hb⟩
      case after =>
        rintro D V hD (⟨a, hl, ho, e, hc, hb⟩ | h) hK
        · have he := cutAt_end (s := s) (m := m) hc
          have hge : s.size ≤ a := by
            rcases hl with h | h
            · exact h
            · rcases Nat.lt_or_ge a s.size with h' | h'
              · have := hc.2.1; rw [BD_eq, if_neg (by omega), if_pos h] at this; cases this
              · exact h'
          have hE : Hid (e = CP s m 0) := he hge
          have hes : e ≤ s.size := hc.2.2.2
          have hbc := hb.cell
          have HO := Lib.hid ho
          clear he hc hl ho
          simp only [marked]
          gi_wp2_with fail
          refine leave_mark (v := .tuple #[.string (cutS s m), .int .i64 (cutE s m)]) hK ?_ ⟨rfl, ?_⟩
          · rw [HV.out.1, HV.out.2, ← hE.out]
            simp [results, Try.results25, go_sem]
          · have := HB2.out.size
            exact below_putObj (Only.toBelow HB2.out (Nat.le_refl _) HO.out (fun i hi => by omega)) (by omega) _
        · exact h.elim
end Go.Proofs.Ytafocgnhmdhemaa
