/- Package table: guarded: what was thrown is answered. -/
import Derived.Test.YtjbcbejedaeedaaGreatDoorAc
import Derived.OwnWalkIn
import Derived.TacticsInMore
import Derived.LoopNIn
import Derived.LoopIn
import Derived.Shelf.Abstract
import Derived.Recover
import Derived.Defers
namespace Go.Proofs.YtjbcbejedaeedaaGreatDoor
open Go.RowKit
open PlainAid (bt)

set_option maxHeartbeats 1000000 in
set_option maxRecDepth 100000 in
theorem tcatch_panic (B : Nat) (a x : Int) (w : World) (h1 : w.cell? ⟨B, 0, none⟩ = some (.int .i64 x)) (z1 : w.frozen? ⟨B, 0, none⟩ = false) (l1 : B < w.heap.size) :
    CallsD Tryz.prog 46 #[.pointer (some ⟨B, 0, none⟩)] (.panicking (chainE a)) w fun e u' w' =>
      e = .returned (.tuple #[]) ∧ u' = .panicking (chainER a) ∧ Only (fun k => k = B) w w' ∧ w'.cell? ⟨B, 0, none⟩ = some (.int .i64 a) := by
  have hta : ∀ w, (Instr.typeAssert (.iface 100 (.agg #[.int .i64 a])) 20 100 false).run Tryz.prog w = .ok (.agg #[.int .i64 a]) w := fun _ => by kernel_rfl
  have hfd : ∀ w, (Instr.field 100 (.agg #[.int .i64 a]) 0).run Tryz.prog w = .ok (.int .i64 a) w := fun _ => by kernel_rfl
  refine callsD_of_wpS Tryz.func46 rfl fun c₀ cs hu => ?_
  apply wpS_seq
  apply wpS_region
  unfold chainE at hu
  simp [wpOpsS, go_sem, recoverD, hu, Tryz.ntmps46, Exit.thenS]
  refine wpS_of_wp ?_
  simp only [List.size_toArray, List.length_cons, List.length_nil, Nat.reduceAdd, Nat.reduceSub, Array.replicate_succ, Array.replicate_zero, List.push_toArray, List.append_toArray, List.nil_append, List.cons_append, List.setIfInBounds_toArray, List.set_cons_zero, List.set_cons_succ]
  go_wp2
  refine ⟨rfl, .panicking (chainER a), rfl, .tuple #[], results_none rfl _ _ _, rfl, rfl, ?_, ?_⟩
  · exact (Only.refl (fun k => k = B) w).setCell (p := ⟨B, 0, none⟩) rfl _
  · simp [go_sem, h1]

set_option maxHeartbeats 1000000 in
set_option maxRecDepth 100000 in
theorem tcatch_idle (B : Nat) (w : World) :
    CallsD Tryz.prog 46 #[.pointer (some ⟨B, 0, none⟩)] .returning w fun e u' w' => e = .returned (.tuple #[]) ∧ u' = .returning ∧ w' = w := by
  refine callsD_of_wpS Tryz.func46 rfl fun c₀ cs hu => ?_
  apply wpS_seq
  apply wpS_region
  simp [wpOpsS, go_sem, recoverD, hu, Tryz.ntmps46, Exit.thenS]
  refine wpS_of_wp ?_
  simp only [List.size_toArray, List.length_cons, List.length_nil, Nat.reduceAdd, Nat.reduceSub, Array.replicate_succ, Array.replicate_zero, List.push_toArray, List.append_toArray, List.nil_append, List.cons_append, List.setIfInBounds_toArray, List.set_cons_zero, List.set_cons_succ]
  go_wp2
  refine ⟨rfl, .returning, ?_, .tuple #[], results_none rfl _ _ _, rfl, rfl, rfl⟩
  cases c₀
  simp_all

set_option maxHeartbeats 1000000 in
set_option maxRecDepth 100000 in
/-- what is called is g with what it has captured; R: how it ends -/
theorem guardedT_any (g : Nat) (lb : Array Value) (R : Ending → World → Prop) (w : World) (eg : ∀ args w, (callFunc g args).run Tryz.prog w = .ok (.enter g args) w)
    (hf : Calls Tryz.prog g lb (w.alloc (.cells #[.int .i64 0] 27)) R)
    (hR : ∀ e w', R e w' → (e = .returned (.tuple #[]) ∨ ∃ a, e = .panicked (chainE a)) ∧ w.heap.size < w'.heap.size ∧ w'.cell? ⟨w.heap.size, 0, none⟩ = some (.int .i64 0) ∧ w'.frozen? ⟨w.heap.size, 0, none⟩ = false) :
    Calls Tryz.prog 18 #[.func (.func g) #[] lb] w fun e w' => ∃ e1 w1, R e1 w1 ∧ Only (fun k => k = w.heap.size) w1 w' ∧
      ((e1 = .returned (.tuple #[]) ∧ e = .returned (.int .i64 0)) ∨ (∃ a : Int, e1 = .panicked (chainE a) ∧ e = .returned (.int .i64 a))) := by
  have hmf : ∀ (fn : Fn) (first cap : Array Value) (w : World), (Instr.makeFunc fn first cap).run Tryz.prog w = .ok (.func fn first cap) w := fun _ _ _ _ => rfl
  go_enter_defers Tryz.func18, Tryz.ntmps18
  go_wp2_with fail
  refine hf.mono ?_
  rintro e1 w1 hr
  obtain ⟨he, hz, c0, f0⟩ := hR _ _ hr
  have HR := Lib.hid hr
  clear hr hf hR
  rcases he with rfl | ⟨a, rfl⟩
  · go_wp2
    refine leaves_cons (f := 46) (args := #[.pointer (some ⟨w.heap.size, 0, none⟩)]) (by simp) (by simp [go_sem]) ?_
    refine (tcatch_idle w.heap.size _).mono ?_
    rintro e u' w'' ⟨rfl, rfl, rfl⟩
    refine ⟨.int .i64 0, by simp [results, Tryz.results18, go_sem, c0], ?_⟩
    exact ⟨_, w1, HR.out, (Only.refl (fun k => k = w.heap.size) w1).setCell (p := ⟨w.heap.size, 0, none⟩) rfl _, .inl ⟨rfl, rfl⟩⟩
  · go_wp2
    refine leaves_cons (f := 46) (args := #[.pointer (some ⟨w.heap.size, 0, none⟩)]) (by simp) (by simp [go_sem]) ?_
    refine (tcatch_panic w.heap.size a 0 w1 c0 f0 hz).mono ?_
    rintro e u' w2 ⟨rfl, rfl, ho, d0⟩
    refine ⟨.int .i64 a, by simp [results, Tryz.results18, go_sem, d0], ?_⟩
    exact ⟨_, w1, HR.out, ho, .inr ⟨a, rfl, rfl⟩⟩
end Go.Proofs.YtjbcbejedaeedaaGreatDoor
