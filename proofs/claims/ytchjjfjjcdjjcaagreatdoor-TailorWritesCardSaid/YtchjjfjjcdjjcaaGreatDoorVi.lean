/- Check of package utf and of the reference. -/
import Derived.Test.YtchjjfjjcdjjcaaGreatDoorVe
import Derived.Shelf.Abstract
import Derived.Deep.RegionHeld
import Derived.Lib.Strings
namespace Go.Proofs.YtchjjfjjcdjjcaaGreatDoor
open Go.RowKit
open PlainAid (bt)
attribute [local go_sem] Oper.semAt_some
/-- how Check's function ends -/
def ChkEnd (s : ByteArray) (w : World) (e : Ending) (w' : World) : Prop :=
  Below w.heap.size w w' ∧ ((BD s 0 = none ∧ e = .returned (.tuple #[])) ∨ (∃ a, BD s 0 = some a ∧ e = .panicked (chainU a)))

set_option maxHeartbeats 2000000 in
set_option maxRecDepth 100000 in
theorem check1_any (s : ByteArray) (b : Nat) (w : World) (hs : s.size ≤ 140737488351232) (hc : w.cell? ⟨b, 0, none⟩ = some (.string s)) :
    Calls Tryz.prog 52 #[.pointer (some ⟨b, 0, none⟩)] w (ChkEnd s w) := by
  refine callsIn_wide (n := 0) |>.1 ?_
  refine callsIn_of_wp_marks Tryz.func52 rfl trivial ?_ rfl
  simp only [Tryz.ntmps52, List.size_toArray, List.length_cons, List.length_nil, Nat.reduceAdd, Nat.reduceSub, Array.replicate_succ, Array.replicate_zero, List.push_toArray, List.append_toArray, List.nil_append, List.cons_append]
  gi_wp2_with fail
  refine ⟨trivial, rfl, (callsIn_wide.2 (all_any _ _)).mono ?_⟩
  rintro e w1 ⟨rfl, rfl⟩
  gi_wp2_with fail
  refine wp_range (gf := 73) (lb := #[.pointer (some ⟨w.heap.size, 0, none⟩)]) rfl (enters_of Tryz.func73 (by kernel_rfl) rfl) (all1_iter s hs w.heap.size) (fun _ => rfl)
    (fun a W => BD s a = BD s 0 ∧ W.cell? ⟨w.heap.size, 0, none⟩ = some (.string s) ∧ Below w.heap.size w W) (fun _ _ => False) ?hI (fun _ _ _ _ h _ _ => h) (fun a A h => h.2.1) ?h0
    (fun a => { tmps := #[.pointer (some ⟨b, 0, none⟩), .string s, .func (.func 73) #[] #[.pointer (some ⟨w.heap.size, 0, none⟩)], .int .i64 a, .int .i32 (fmR s a)], defers := [] }) ?assign ?body ?done ?stop ?bad
  case hI =>
    intro a A A' row h hg hr
    refine ⟨h.1, cell_kept h.2.1 hg (fun r e => (hr r e).2), h.2.2.trans ⟨hg.os, hg.tape, hg.output, hg.size, fun k hk => ?_⟩⟩
    refine hg.block k (Nat.lt_of_lt_of_le hk h.2.2.size) (fun e => ?_)
    have := (hr k e.symm).1
    simp at this; omega
  case h0 => exact ⟨rfl, by simp [go_sem], by (repeat' (first | (with_reducible exact Below.refl _ _) | (with_reducible assumption) | (with_reducible refine Below.alloc ?_ ?_ _) | (with_reducible refine Below.drew ?_) | (with_reducible refine below_drewN ?_ _) | (with_reducible refine Below.setCell ?_ ?_ _) | (with_reducible refine Below.trans ?_ (Below.mono (by assumption) ?_)) | go_size))⟩
  case assign =>
    intro l a W K hK
    gi_wp2
    simpa [encU] using hK
  case body =>
    rintro l a W ⟨h1, h2⟩ ⟨hb, hcl, hbl⟩
    gi_wp2
    refine ⟨KeepsOthers.refl _, ?_, hcl, hbl⟩
    rw [← hb, BD_eq s a, if_neg (by omega), if_neg h2]
  case done =>
    rintro D a W hD hl ⟨hb, hcl, hbl⟩ hK
    gi_wp2
    refine ⟨by simp, .inl ⟨_, _, rfl, run_takeDeferred hK, ?_⟩⟩
    refine ⟨_, results_none rfl _ _ _, hbl.trans (belowK_b (w := w) (Nat.le_refl _) W D _ _ (by simp at hD; omega) hK rfl rfl), .inl ⟨?_, rfl⟩⟩
    rw [← hb, BD_eq s a, if_pos hl]
  case stop =>
    intro D c W hD h _
    exact h.elim
  case bad =>
    rintro D chain a W hD ⟨⟨h1, h2⟩, rfl⟩ ⟨hb, hcl, hbl⟩ hK
    gi_wp2
    refine ⟨by simp, .inl ⟨_, _, rfl, run_takeDeferred hK, ?_⟩⟩
    refine ⟨hbl.trans (belowK_b (w := w) (Nat.le_refl _) W D _ _ (by simp at hD; omega) hK rfl rfl), .inr ⟨a, ?_, rfl⟩⟩
    rw [← hb, BD_eq s a, if_neg (by omega), if_pos h2]
end Go.Proofs.YtchjjfjjcdjjcaaGreatDoor
namespace Go.Proofs.YtchjjfjjcdjjcaaGreatDoor
open Go.RowKit
open PlainAid (bt)
set_option maxHeartbeats 1000000 in
set_option maxRecDepth 100000 in
theorem uCheck_any (s : ByteArray) (w : World) (hs : s.size ≤ 140737488351232) :
    Calls Tryz.prog 28 #[.string s] w fun e w' => e = .returned (.tuple #[.int .i64 (bdA s), .int .i64 (bdE s)]) ∧ Below w.heap.size w w' := by
  have hmf : ∀ (fn : Fn) (first cap : Array Value) (w : World), (Instr.makeFunc fn first cap).run Tryz.prog w = .ok (.func fn first cap) w := fun _ _ _ _ => rfl
  have HS := Lib.hid hs
  clear hs
  go_enter Tryz.func28, Tryz.ntmps28
  go_wp2_with fail
  refine (guarded_any 52 #[.pointer (some ⟨w.heap.size, 0, none⟩)] (ChkEnd s (((w.alloc (.cells #[.string s] 9)).alloc (.cells #[.int .i64 0] 3)).alloc (.cells #[.int .i64 0] 26))) (w.alloc (.cells #[.string s] 9))
    (enters_of Tryz.func52 (by kernel_rfl) rfl) (check1_any s w.heap.size _ HS.out (by simp [go_sem])) ?_).mono ?_
  · intro e w' ⟨hb, hend⟩
    simp only [World.size_alloc] at hb ⊢
    refine ⟨?_, ?_, ?_, ?_, ?_, ?_⟩
    · rcases hend with ⟨_, rfl⟩ | ⟨a, _, rfl⟩
      · exact .inl rfl
      · exact .inr ⟨a, rfl⟩
    · have := hb.size; simp at this; omega
    · rw [hb.cell (p := ⟨w.heap.size + 1, 0, none⟩) (by simp)]; simp [go_sem]
    · rw [hb.cell (p := ⟨w.heap.size + 1 + 1, 0, none⟩) (by simp)]; simp [go_sem]
    · rw [hb.frozen (p := ⟨w.heap.size + 1, 0, none⟩) (by simp)]; simp [go_sem]
    · rw [hb.frozen (p := ⟨w.heap.size + 1 + 1, 0, none⟩) (by simp)]; simp [go_sem]
  rintro e w2 ⟨e1, w1, ⟨hb1, hend⟩, ho, hq⟩
  have hb : Below w.heap.size w w2 := by
    refine Only.toBelow (a := w) (b := w1) ?_ (Nat.le_refl _) ho (fun i hi => by simp at hi; omega)
    exact (((((Below.refl _ w).alloc (Nat.le_refl _) _).alloc (by simp) _).alloc (by simp; omega) _)).trans (hb1.mono (by simp; omega))
  have HB := Lib.hid hb
  have hv : e = .returned (.tuple #[.int .i64 (bdA s), .int .i64 (bdE s)]) := by
    rcases hq with ⟨h1, h2⟩ | ⟨a, h1, h2⟩
    · rcases hend with ⟨h3, _⟩ | ⟨b, _, h4⟩
      · rw [h2, (bd_none h3).1, (bd_none h3).2]
      · rw [h1] at h4; cases h4
    · rcases hend with ⟨_, h4⟩ | ⟨b, h3, h4⟩
      · rw [h1] at h4; cases h4
      · rw [h1] at h4
        have hab : a = b := by
          simp only [Ending.panicked.injEq, chainU, List.cons.injEq, PanicEntry.mk.injEq, Value.iface.injEq, Value.agg.injEq, Array.mk.injEq, Value.int.injEq] at h4
          have := h4.1.1.2.1.2; omega
        rw [h2, (bd_some h3).1, (bd_some h3).2, hab]
  clear hb hb1 hend ho hq
  subst hv
  go_wp2_with fail
  go_ret2
  exact ⟨rfl, HB.out⟩

def RefRel (s : ByteArray) (w : World) (a : Nat) (wr : World) : Prop := BD s a = BD s 0 ∧ Below w.heap.size w wr
set_option maxHeartbeats 1000000 in
set_option maxRecDepth 100000 in
theorem rCheck_any (s : ByteArray) (w : World) (hs : s.size ≤ 140737488351232) :
    Calls Tryz.prog 23 #[.string s] w fun e w' => e = .returned (.tuple #[.int .i64 (bdA s), .int .i64 (bdE s)]) ∧ Below w.heap.size w w' := by
  have HS := Lib.hid hs
  go_enter Tryz.func23, Tryz.ntmps23
  go_wp2
  go_loopw [4] (fun p wr => ∃ a : Nat, p = .int .i64 a ∧ RefRel s w a wr) (fun p _ => s.size - (intOf p).toNat)
  case atStart => exact ⟨0, rfl, rfl, Below.refl _ _⟩
  case round =>
    obtain ⟨a, rfl, hr⟩ := hrel
    have HR := Lib.hid hr
    clear hr
    by_cases hlt : a < s.size
    · have HA : Hid (a ≤ s.size) := Nat.le_of_lt hlt
      go_wp2_with fail
      refine (at_any s a _ HS.out HA.out).mono ?_
      rintro e w1 ⟨rfl, hb1⟩
      by_cases hz : fmN s a = 0
      · have hz' : ((fmN s a : Int) == 0) = true := by rw [hz]; rfl
        have HV : Hid (bdA s = a ∧ bdE s = 40) := bd_some (by rw [← HR.out.1, BD_eq s a, if_neg (by omega), if_pos hz])
        clear hz
        go_wp2_with fail
        go_ret2
        exact ⟨by rw [HV.out.1, HV.out.2]; rfl, HR.out.2.trans (hb1.mono HR.out.2.size)⟩
      · have hz' : ((fmN s a : Int) == 0) = false := beq_eq_false_iff_ne.2 (by omega)
        have hle := fmN_size s a hz
        have HZ := Lib.hid hz
        clear hz
        go_wp2_with fail
        go_roundw
        case rel => exact ⟨a + fmN s a, by go_num, by rw [← HR.out.1, BD_eq s a, if_neg (by omega), if_neg HZ.out], HR.out.2.trans (hb1.mono HR.out.2.size)⟩
        case measure => (have hp := HZ.out; simp [intOf]; omega)
    · have HV : Hid (bdA s = 0 ∧ bdE s = 0) := bd_none (by rw [← HR.out.1, BD_eq s a, if_pos (by omega)])
      have hge : s.size ≤ a := by omega
      clear hlt
      go_wp2_with fail
      go_ret2
      exact ⟨by rw [HV.out.1, HV.out.2]; rfl, HR.out.2⟩
end Go.Proofs.YtchjjfjjcdjjcaaGreatDoor
