/- The counter: sync/atomic's Int64. -/
import Derived.Test.YtcifoallahmjbaaTd
import Derived.Laws.Externs
namespace Go.Proofs.Ytcifoallahmjbaa
open Go.RowKit

set_option maxHeartbeats 1000000 in
theorem run_add64 {P : Program} (b o : Nat) (x : Int) (w : World) (hc : w.cell? ⟨b, o, none⟩ = some (.int .i64 x)) (hf : w.frozen? ⟨b, o, none⟩ = false) (h0 : 0 ≤ x) (h1 : x < 1000000) :
    (Extern.Atomic.update (Op.intArith .add) .i64 true #[.pointer (some ⟨b, o, none⟩), .int .i64 1]).run P w = .ok (.int .i64 (x + 1)) (w.setCell ⟨b, o, none⟩ (.int .i64 (x + 1))) := by
  have hw : IntKind.i64.wrap (x + 1) = x + 1 := by rw [IntKind.wrap_i64]; omega
  change Sem.run P (do
    let a ← asAddr (.pointer (some ⟨b, o, none⟩))
    let old ← Extern.Atomic.read (.int .i64) a
    let new ← Op.intArith .add .i64 (← asInt old) (← asInt (.int .i64 1))
    store a new .atomic
    pure (if true = true then new else old)) w = _
  simp [Extern.Atomic.read, go_sem, hc, hf, Op.intArith, hw]
set_option maxHeartbeats 1000000 in
theorem run_load64 {P : Program} (b o : Nat) (x : Int) (w : World) (hc : w.cell? ⟨b, o, none⟩ = some (.int .i64 x)) :
    (Extern.Atomic.loadT (.int .i64) #[.pointer (some ⟨b, o, none⟩)]).run P w = .ok (.int .i64 x) w := by
  change Sem.run P (do Extern.Atomic.read (.int .i64) (← asAddr (.pointer (some ⟨b, o, none⟩)))) w = _
  simp [Extern.Atomic.read, go_sem, hc]

set_option maxHeartbeats 1000000 in
set_option maxRecDepth 100000 in
theorem add_any (b o : Nat) (x : Int) (w : World) (hc : w.cell? ⟨b, o, none⟩ = some (.int .i64 x)) (hf : w.frozen? ⟨b, o, none⟩ = false) (h0 : 0 ≤ x) (h1 : x < 1000000) :
    Calls Try.prog 32 #[.pointer (some ⟨b, o, none⟩), .int .i64 1] w fun e w' => e = .returned (.int .i64 (x + 1)) ∧ w.setCell ⟨b, o, none⟩ (.int .i64 (x + 1)) = w' := by
  have HR := Lib.hid (run_add64 (P := Try.prog) b o x w hc hf h0 h1)
  go_enter Try.func32, Try.ntmps32
  go_wp2
  rw [run_callFunc_extern Try.func46 (by kernel_rfl) (by kernel_rfl) (by kernel_rfl) (e := Extern.Atomic.update (Op.intArith .add) .i64 true) (by kernel_rfl), HR.out]
  simp only [Result.andThen]
  rw [Oper.upon_value]
  go_wp2
  go_ret
  exact ⟨rfl, rfl⟩
set_option maxHeartbeats 1000000 in
set_option maxRecDepth 100000 in
theorem load_any (b o : Nat) (x : Int) (w : World) (hc : w.cell? ⟨b, o, none⟩ = some (.int .i64 x)) :
    Calls Try.prog 35 #[.pointer (some ⟨b, o, none⟩)] w fun e w' => e = .returned (.int .i64 x) ∧ w = w' := by
  have HR := Lib.hid (run_load64 (P := Try.prog) b o x w hc)
  go_enter Try.func35, Try.ntmps35
  go_wp2
  rw [run_callFunc_extern Try.func47 (by kernel_rfl) (by kernel_rfl) (by kernel_rfl) (e := Extern.Atomic.loadT (.int .i64)) (by kernel_rfl), HR.out]
  simp only [Result.andThen]
  rw [Oper.upon_value]
  go_wp2
  go_ret
  exact ⟨rfl, rfl⟩
end Go.Proofs.Ytcifoallahmjbaa
