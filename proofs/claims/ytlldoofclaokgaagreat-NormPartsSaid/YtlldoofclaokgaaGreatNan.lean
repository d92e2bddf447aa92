/- Data that nobody made: what its functions answer. -/
import Derived.Test.YtlldoofclaokgaaGreatNam
import Derived.OwnWalkIn
import Derived.TacticsInMore
import Derived.LoopNIn
import Derived.LoopIn
namespace Go.Proofs.YtlldoofclaokgaaGreat
open Go.RowKit
attribute [local go_sem] Oper.semAt_some

/-- nobody made it: nil, or a head of zeros -/
def NotNrm (w : World) (v : Value) : Prop := v = .pointer none ∨ ∃ z, v = .pointer (some ⟨z, 0, none⟩) ∧ w.cell? ⟨z, 0, none⟩ = some (.int .i64 0)
theorem NotNrm.below {w w' : World} {v : Value} (h : NotNrm w v) (hb : Below w.heap.size w w') : NotNrm w' v := by
  rcases h with h | ⟨z, h, hz⟩
  · exact .inl h
  · refine .inr ⟨z, h, ?_⟩
    have hl : z < w.heap.size := by
      rcases Nat.lt_or_ge z w.heap.size with h' | h'
      · exact h'
      · simp [World.cell?, Array.getElem?_eq_none h'] at hz
    rw [hb.cell (p := ⟨z, 0, none⟩) hl]; exact hz
theorem nNil (w : World) : Calls Tryz.prog 47 #[.pointer none] w fun e w' => e = .returned (.bool false) ∧ w = w' := by
  go_enter Tryz.func47, Tryz.ntmps47
  go_wp2
  go_ret
  exact ⟨rfl, rfl⟩
theorem nZero (z : Nat) (w : World) (h : w.cell? ⟨z, 0, none⟩ = some (.int .i64 0)) : Calls Tryz.prog 47 #[.pointer (some ⟨z, 0, none⟩)] w fun e w' => e = .returned (.bool false) ∧ w = w' := by
  go_enter Tryz.func47, Tryz.ntmps47
  go_wp2
  go_ret
  exact ⟨rfl, rfl⟩
theorem nNot (v : Value) (w : World) (h : NotNrm w v) : Calls Tryz.prog 47 #[v] w fun e w' => e = .returned (.bool false) ∧ w = w' := by
  rcases h with rfl | ⟨z, rfl, hz⟩
  · exact nNil w
  · exact nZero z w hz
set_option maxHeartbeats 1000000 in
set_option maxRecDepth 100000 in
theorem notDecomp (v : Value) (r : Int) (w : World) (h : NotNrm w v) : Calls Tryz.prog 14 #[v, .int .i32 r] w fun e w' => e = .returned (.slice (some ⟨w.heap.size, 0, none⟩) 1 1) ∧ w.alloc (.cells #[.int .i32 r] 21) = w' := by
  have HI := Lib.hid (nNot v w h)
  clear h
  go_enter Tryz.func14, Tryz.ntmps14
  go_wp2_with fail
  refine HI.out.mono ?_
  rintro e w1 ⟨rfl, rfl⟩
  go_wp2_with fail
  go_ret
  exact ⟨rfl, rfl⟩
set_option maxHeartbeats 1000000 in
set_option maxRecDepth 100000 in
theorem notClass (v c : Value) (w : World) (h : NotNrm w v) : Calls Tryz.prog 15 #[v, c] w fun e w' => e = .returned (.int .i64 0) ∧ w = w' := by
  have HI := Lib.hid (nNot v w h)
  clear h
  go_enter Tryz.func15, Tryz.ntmps15
  go_wp2_with fail
  refine HI.out.mono ?_
  rintro e w1 ⟨rfl, rfl⟩
  go_wp2_with fail
  go_ret
  exact ⟨rfl, rfl⟩
set_option maxHeartbeats 1000000 in
set_option maxRecDepth 100000 in
theorem notStarter (v c : Value) (w : World) (h : NotNrm w v) : Calls Tryz.prog 16 #[v, c] w fun e w' => e = .returned (.bool true) ∧ w = w' := by
  have HI := Lib.hid (notClass v c w h)
  clear h
  go_enter Tryz.func16, Tryz.ntmps16
  go_wp2_with fail
  refine HI.out.mono ?_
  rintro e w1 ⟨rfl, rfl⟩
  go_wp2_with fail
  go_ret
  exact ⟨rfl, rfl⟩
set_option maxHeartbeats 1000000 in
set_option maxRecDepth 100000 in
theorem notClasses (v : Value) (w : World) (h : NotNrm w v) : Calls Tryz.prog 17 #[v] w fun e w' => e = .returned (.slice none 0 0) ∧ w = w' := by
  have HI := Lib.hid (nNot v w h)
  clear h
  go_enter Tryz.func17, Tryz.ntmps17
  go_wp2_with fail
  refine HI.out.mono ?_
  rintro e w1 ⟨rfl, rfl⟩
  go_wp2_with fail
  go_ret
  exact ⟨rfl, rfl⟩
set_option maxHeartbeats 1000000 in
set_option maxRecDepth 100000 in
theorem notDecs_iter (b : Nat) (z : Value) :
    IterC (σ := Unit) Tryz.prog 54 #[.pointer (some ⟨b, 0, none⟩)] (fun _ => #[z]) id (fun _ => False) (fun _ => True) (fun _ _ => False) ()
      (fun W => ∃ v, W.cell? ⟨b, 0, none⟩ = some v ∧ NotNrm W v) := by
  intro l J Jx W hJ hJx hPre hY h0
  obtain ⟨v, hc, hn⟩ := hPre _ _ h0
  have HN := Lib.hid (nNot v W hn)
  have HJ := Lib.hid h0
  refine callsIn_wide (n := 0) |>.1 ?_
  refine callsIn_of_wp Tryz.func54 rfl trivial ?_ rfl
  simp only [Tryz.ntmps54, List.size_toArray, List.length_cons, List.length_nil, Nat.reduceAdd, Nat.reduceSub, Array.replicate_succ, Array.replicate_zero, List.push_toArray, List.append_toArray, List.nil_append, List.cons_append]
  clear hn h0 hPre
  gi_wp2_with fail
  refine ⟨trivial, rfl, (callsIn_wide.2 HN.out).mono ?_⟩
  rintro e w1 ⟨rfl, rfl⟩
  gi_wp2
  refine bodyPost_ret (results_none rfl _ _ _) rfl ?_
  exact .inl ⟨⟨_, rfl⟩, (), trivial, HJ.out⟩
end Go.Proofs.YtlldoofclaokgaaGreat
