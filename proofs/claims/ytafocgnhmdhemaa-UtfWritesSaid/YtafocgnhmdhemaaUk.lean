/- guarded of package utf: what was thrown is answered. -/
import Derived.Test.YtafocgnhmdhemaaUj
namespace Go.Proofs.Ytafocgnhmdhemaa
open Go.RowKit
open PlainAid (bt)

def chainR (a : Nat) : List PanicEntry := [{ v := .iface 69 (.agg #[.int .i64 a, .int .i64 40]), recovered := true }]
set_option maxHeartbeats 1000000 in
set_option maxRecDepth 100000 in
theorem catch_panic (B : Nat) (a : Nat) (x y : Int) (w : World) (h1 : w.cell? ⟨B, 0, none⟩ = some (.int .i64 x)) (h2 : w.cell? ⟨B + 1, 0, none⟩ = some (.int .i64 y)) (z1 : w.frozen? ⟨B, 0, none⟩ = false) (z2 : w.frozen? ⟨B + 1, 0, none⟩ = false)
    (l1 : B + 1 < w.heap.size) :
    CallsD Try.prog 40 #[.pointer (some ⟨B, 0, none⟩), .pointer (some ⟨B + 1, 0, none⟩)] (.panicking (chainU a)) w fun e u' w' =>
      e = .returned (.tuple #[]) ∧ u' = .panicking (chainR a) ∧ Only (fun k => k = B ∨ k = B + 1) w w' ∧ w'.cell? ⟨B, 0, none⟩ = some (.int .i64 a) ∧ w'.cell? ⟨B + 1, 0, none⟩ = some (.int .i64 40) := by
  have hta : ∀ w, (Instr.typeAssert (.iface 69 (.agg #[.int .i64 a, .int .i64 40])) 20 69 false).run Try.prog w = .ok (.agg #[.int .i64 a, .int .i64 40]) w := fun _ => by kernel_rfl
  refine callsD_of_wpS Try.func40 rfl fun c₀ cs hu => ?_
  apply wpS_seq
  apply wpS_region
  unfold chainU at hu
  simp [wpOpsS, go_sem, recoverD, hu, Try.ntmps40, Exit.thenS]
  refine wpS_of_wp ?_
  simp only [List.size_toArray, List.length_cons, List.length_nil, Nat.reduceAdd, Nat.reduceSub, Array.replicate_succ, Array.replicate_zero, List.push_toArray, List.append_toArray, List.nil_append, List.cons_append, List.setIfInBounds_toArray, List.set_cons_zero, List.set_cons_succ]
  have l0 : B < w.heap.size := by omega
  have n1 : ¬ B + 1 = w.heap.size := by omega
  have n0 : ¬ B = w.heap.size := by omega
  go_wp2
  go_region
  refine ⟨rfl, .panicking (chainR a), rfl, .tuple #[], results_none rfl _ _ _, rfl, rfl, ?_, ?_, ?_⟩
  · exact ((((Only.refl _ w).setCell (p := ⟨B, 0, none⟩) (.inl rfl) _).setCell (p := ⟨B + 1, 0, none⟩) (.inr rfl) _).alloc _).drew
  · simp [go_sem, h1, l0]
  · simp [go_sem, h2, l1]

set_option maxHeartbeats 1000000 in
set_option maxRecDepth 100000 in
theorem catch_idle (B : Nat) (w : World) :
    CallsD Try.prog 40 #[.pointer (some ⟨B, 0, none⟩), .pointer (some ⟨B + 1, 0, none⟩)] .returning w fun e u' w' => e = .returned (.tuple #[]) ∧ u' = .returning ∧ w' = w := by
  refine callsD_of_wpS Try.func40 rfl fun c₀ cs hu => ?_
  apply wpS_seq
  apply wpS_region
  simp [wpOpsS, go_sem, recoverD, hu, Try.ntmps40, Exit.thenS]
  refine wpS_of_wp ?_
  simp only [List.size_toArray, List.length_cons, List.length_nil, Nat.reduceAdd, Nat.reduceSub, Array.replicate_succ, Array.replicate_zero, List.push_toArray, List.append_toArray, List.nil_append, List.cons_append, List.setIfInBounds_toArray, List.set_cons_zero, List.set_cons_succ]
  go_wp2
  refine ⟨rfl, .returning, ?_, .tuple #[], results_none rfl _ _ _, rfl, rfl, rfl⟩
  cases c₀
  simp_all

set_option maxHeartbeats 1000000 in
set_option maxRecDepth 100000 in
/-- what is called is g with what it has captured; R: how it ends -/
theorem guarded_any (g : Nat) (lb : Array Value) (R : Ending → World → Prop) (w : World) (eg : ∀ args w, (callFunc g args).run Try.prog w = .ok (.enter g args) w)
    (hf : Calls Try.prog g lb ((w.alloc (.cells #[.int .i64 0] 3)).alloc (.cells #[.int .i64 0] 23)) R)
    (hR : ∀ e w', R e w' → (e = .returned (.tuple #[]) ∨ ∃ a, e = .panicked (chainU a)) ∧ w.heap.size + 1 < w'.heap.size ∧ w'.cell? ⟨w.heap.size, 0, none⟩ = some (.int .i64 0) ∧ w'.cell? ⟨w.heap.size + 1, 0, none⟩ = some (.int .i64 0) ∧
      w'.frozen? ⟨w.heap.size, 0, none⟩ = false ∧ w'.frozen? ⟨w.heap.size + 1, 0, none⟩ = false) :
    Calls Try.prog 28 #[.func (.func g) #[] lb] w fun e w' => ∃ e1 w1, R e1 w1 ∧ Only (fun k => k = w.heap.size ∨ k = w.heap.size + 1) w1 w' ∧
      ((e1 = .returned (.tuple #[]) ∧ e = .returned (.tuple #[.int .i64 0, .int .i64 0])) ∨ (∃ a : Nat, e1 = .panicked (chainU a) ∧ e = .returned (.tuple #[.int .i64 a, .int .i64 40]))) := by
  have hmf : ∀ (fn : Fn) (first cap : Array Value) (w : World), (Instr.makeFunc fn first cap).run Try.prog w = .ok (.func fn first cap) w := fun _ _ _ _ => rfl
  go_enter_defers Try.func28, Try.ntmps28
  go_wp2_with fail
  refine hf.mono ?_
  rintro e1 w1 hr
  obtain ⟨he, hz, c0, c1, f0, f1⟩ := hR _ _ hr
  have HR := Lib.hid hr
  clear hr hf hR
  rcases he with rfl | ⟨a, rfl⟩
  · go_wp2
    refine leaves_cons (f := 40) (args := #[.pointer (some ⟨w.heap.size, 0, none⟩), .pointer (some ⟨w.heap.size + 1, 0, none⟩)]) (by simp) (by simp [go_sem]) ?_
    refine (catch_idle w.heap.size _).mono ?_
    rintro e u' w'' ⟨rfl, rfl, rfl⟩
    refine ⟨.tuple #[.int .i64 0, .int .i64 0], by simp [results, Try.results28, go_sem, c0, c1], ?_⟩
    exact ⟨_, w1, HR.out, ((Only.refl _ w1).setCell (p := ⟨w.heap.size, 0, none⟩) (.inl rfl) _).setCell (p := ⟨w.heap.size + 1, 0, none⟩) (.inr rfl) _, .inl ⟨rfl, rfl⟩⟩
  · go_wp2
    refine leaves_cons (f := 40) (args := #[.pointer (some ⟨w.heap.size, 0, none⟩), .pointer (some ⟨w.heap.size + 1, 0, none⟩)]) (by simp) (by simp [go_sem]) ?_
    refine (catch_panic w.heap.size a 0 0 w1 c0 c1 f0 f1 hz).mono ?_
    rintro e u' w2 ⟨rfl, rfl, ho, d0, d1⟩
    refine ⟨.tuple #[.int .i64 a, .int .i64 40], by simp [results, Try.results28, go_sem, d0, d1], ?_⟩
    exact ⟨_, w1, HR.out, ho, .inr ⟨a, rfl, rfl⟩⟩
end Go.Proofs.Ytafocgnhmdhemaa
