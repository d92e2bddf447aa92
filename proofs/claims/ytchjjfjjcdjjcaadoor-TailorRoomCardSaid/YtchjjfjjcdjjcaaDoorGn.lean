/- guarded of package tailor: what was thrown is answered. -/
import Derived.Test.YtchjjfjjcdjjcaaDoorGm
namespace Go.Proofs.YtchjjfjjcdjjcaaDoor
open Go.RowKit
open PlainAid (bt)

def chainRT (a z : Int) : List PanicEntry := [{ v := .iface 73 (.agg #[.int .i64 a, .int .i64 z]), recovered := true }]
set_option maxHeartbeats 1000000 in
set_option maxRecDepth 100000 in
theorem tcatch_panic (B : Nat) (a z x y : Int) (w : World) (h1 : w.cell? ⟨B, 0, none⟩ = some (.int .i64 x)) (h2 : w.cell? ⟨B + 1, 0, none⟩ = some (.int .i64 y)) (z1 : w.frozen? ⟨B, 0, none⟩ = false) (z2 : w.frozen? ⟨B + 1, 0, none⟩ = false)
    (l1 : B + 1 < w.heap.size) :
    CallsD Tryd.prog 33 #[.pointer (some ⟨B, 0, none⟩), .pointer (some ⟨B + 1, 0, none⟩)] (.panicking (chainT a z)) w fun e u' w' =>
      e = .returned (.tuple #[]) ∧ u' = .panicking (chainRT a z) ∧ Only (fun k => k = B ∨ k = B + 1) w w' ∧ w'.cell? ⟨B, 0, none⟩ = some (.int .i64 a) ∧ w'.cell? ⟨B + 1, 0, none⟩ = some (.int .i64 z) := by
  have hta : ∀ w, (Instr.typeAssert (.iface 73 (.agg #[.int .i64 a, .int .i64 z])) 20 73 false).run Tryd.prog w = .ok (.agg #[.int .i64 a, .int .i64 z]) w := fun _ => by kernel_rfl
  refine callsD_of_wpS Tryd.func33 rfl fun c₀ cs hu => ?_
  apply wpS_seq
  apply wpS_region
  unfold chainT at hu
  simp [wpOpsS, go_sem, recoverD, hu, Tryd.ntmps33, Exit.thenS]
  refine wpS_of_wp ?_
  simp only [List.size_toArray, List.length_cons, List.length_nil, Nat.reduceAdd, Nat.reduceSub, Array.replicate_succ, Array.replicate_zero, List.push_toArray, List.append_toArray, List.nil_append, List.cons_append, List.setIfInBounds_toArray, List.set_cons_zero, List.set_cons_succ]
  have l0 : B < w.heap.size := by omega
  have n1 : ¬ B + 1 = w.heap.size := by omega
  have n0 : ¬ B = w.heap.size := by omega
  go_wp2
  go_region
  refine ⟨rfl, .panicking (chainRT a z), rfl, .tuple #[], results_none rfl _ _ _, rfl, rfl, ?_, ?_, ?_⟩
  · exact ((((Only.refl _ w).setCell (p := ⟨B, 0, none⟩) (.inl rfl) _).setCell (p := ⟨B + 1, 0, none⟩) (.inr rfl) _).alloc _).drew
  · simp [go_sem, h1, l0]
  · simp [go_sem, h2, l1]

set_option maxHeartbeats 1000000 in
set_option maxRecDepth 100000 in
theorem tcatch_idle (B : Nat) (w : World) :
    CallsD Tryd.prog 33 #[.pointer (some ⟨B, 0, none⟩), .pointer (some ⟨B + 1, 0, none⟩)] .returning w fun e u' w' => e = .returned (.tuple #[]) ∧ u' = .returning ∧ w' = w := by
  refine callsD_of_wpS Tryd.func33 rfl fun c₀ cs hu => ?_
  apply wpS_seq
  apply wpS_region
  simp [wpOpsS, go_sem, recoverD, hu, Tryd.ntmps33, Exit.thenS]
  refine wpS_of_wp ?_
  simp only [List.size_toArray, List.length_cons, List.length_nil, Nat.reduceAdd, Nat.reduceSub, Array.replicate_succ, Array.replicate_zero, List.push_toArray, List.append_toArray, List.nil_append, List.cons_append, List.setIfInBounds_toArray, List.set_cons_zero, List.set_cons_succ]
  go_wp2
  refine ⟨rfl, .returning, ?_, .tuple #[], results_none rfl _ _ _, rfl, rfl, rfl⟩
  cases c₀
  simp_all

set_option maxHeartbeats 1000000 in
set_option maxRecDepth 100000 in
/-- what is called is g with what it has captured; R: how it ends -/
theorem tguarded_any (g : Nat) (lb : Array Value) (R : Ending → World → Prop) (w : World) (eg : ∀ args w, (callFunc g args).run Tryd.prog w = .ok (.enter g args) w)
    (hf : Calls Tryd.prog g lb ((w.alloc (.cells #[.int .i64 0] 3)).alloc (.cells #[.int .i64 0] 24)) R)
    (hR : ∀ e w', R e w' → (e = .returned (.tuple #[]) ∨ ∃ a z, e = .panicked (chainT a z)) ∧ w.heap.size + 1 < w'.heap.size ∧ w'.cell? ⟨w.heap.size, 0, none⟩ = some (.int .i64 0) ∧ w'.cell? ⟨w.heap.size + 1, 0, none⟩ = some (.int .i64 0) ∧
      w'.frozen? ⟨w.heap.size, 0, none⟩ = false ∧ w'.frozen? ⟨w.heap.size + 1, 0, none⟩ = false) :
    Calls Tryd.prog 15 #[.func (.func g) #[] lb] w fun e w' => ∃ e1 w1, R e1 w1 ∧ Only (fun k => k = w.heap.size ∨ k = w.heap.size + 1) w1 w' ∧
      ((e1 = .returned (.tuple #[]) ∧ e = .returned (.tuple #[.int .i64 0, .int .i64 0])) ∨ (∃ a z : Int, e1 = .panicked (chainT a z) ∧ e = .returned (.tuple #[.int .i64 a, .int .i64 z]))) := by
  have hmf : ∀ (fn : Fn) (first cap : Array Value) (w : World), (Instr.makeFunc fn first cap).run Tryd.prog w = .ok (.func fn first cap) w := fun _ _ _ _ => rfl
  go_enter_defers Tryd.func15, Tryd.ntmps15
  go_wp2_with fail
  refine hf.mono ?_
  rintro e1 w1 hr
  obtain ⟨he, hz, c0, c1, f0, f1⟩ := hR _ _ hr
  have HR := Lib.hid hr
  clear hr hf hR
  rcases he with rfl | ⟨a, z, rfl⟩
  · go_wp2
    refine leaves_cons (f := 33) (args := #[.pointer (some ⟨w.heap.size, 0, none⟩), .pointer (some ⟨w.heap.size + 1, 0, none⟩)]) (by simp) (by simp [go_sem]) ?_
    refine (tcatch_idle w.heap.size _).mono ?_
    rintro e u' w'' ⟨rfl, rfl, rfl⟩
    refine ⟨.tuple #[.int .i64 0, .int .i64 0], by simp [results, Tryd.results15, go_sem, c0, c1], ?_⟩
    exact ⟨_, w1, HR.out, ((Only.refl _ w1).setCell (p := ⟨w.heap.size, 0, none⟩) (.inl rfl) _).setCell (p := ⟨w.heap.size + 1, 0, none⟩) (.inr rfl) _, .inl ⟨rfl, rfl⟩⟩
  · go_wp2
    refine leaves_cons (f := 33) (args := #[.pointer (some ⟨w.heap.size, 0, none⟩), .pointer (some ⟨w.heap.size + 1, 0, none⟩)]) (by simp) (by simp [go_sem]) ?_
    refine (tcatch_panic w.heap.size a z 0 0 w1 c0 c1 f0 f1 hz).mono ?_
    rintro e u' w2 ⟨rfl, rfl, ho, d0, d1⟩
    refine ⟨.tuple #[.int .i64 a, .int .i64 z], by simp [results, Tryd.results15, go_sem, d0, d1], ?_⟩
    exact ⟨_, w1, HR.out, ho, .inr ⟨a, z, rfl, rfl⟩⟩
end Go.Proofs.YtchjjfjjcdjjcaaDoor
