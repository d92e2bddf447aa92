/- The iterator of package utf that throws where no form stands: what it does, for every loop body. -/
import Derived.Test.YtafocgnhmdhemaaRange
import Derived.Test.YtafocgnhmdhemaaUf
import Derived.OwnWalkIn
import Derived.TacticsInMore
import Derived.LoopNIn
import Derived.LoopIn
namespace Go.Proofs.Ytafocgnhmdhemaa
open Go.RowKit
open PlainAid (bt)
attribute [local go_sem] Oper.semAt_some

def chainU (a : Nat) : List PanicEntry := [{ v := .iface 69 (.agg #[.int .i64 a, .int .i64 40]), recovered := false }]
def encU (s : ByteArray) (a : Nat) : Array Value := #[.int .i64 a, .int .i32 (fmR s a)]

set_option maxHeartbeats 2000000 in
set_option maxRecDepth 100000 in
theorem all1_iter (s : ByteArray) (hs : s.size ≤ 140737488351232) (B : Nat) :
    IterC Try.prog 41 #[.pointer (some ⟨B, 0, none⟩)] (encU s) (fun a => a + fmN s a) (fun a => a < s.size ∧ fmN s a ≠ 0) (fun a => s.size ≤ a) (fun a c => (a < s.size ∧ fmN s a = 0) ∧ c = chainU a) 0
      (fun W => W.cell? ⟨B, 0, none⟩ = some (.string s)) := by
  intro l J Jx W hJ hJx hPre hY h0
  refine callsIn_wide (n := 0) |>.1 ?_
  refine callsIn_of_wp Try.func41 rfl trivial ?_ rfl
  simp only [Try.ntmps41, List.size_toArray, List.length_cons, List.length_nil, Nat.reduceAdd, Nat.reduceSub, Array.replicate_succ, Array.replicate_zero, List.push_toArray, List.append_toArray, List.nil_append, List.cons_append]
  gi_wp2
  gi_loopw [3] (fun p wr => ∃ a : Nat, p = .int .i64 a ∧ J a wr) (fun p _ => s.size - (intOf p).toNat)
  case atStart => exact ⟨0, rfl, h0⟩
  case round =>
    obtain ⟨a, rfl, hj⟩ := hrel
    have hc := hPre _ _ hj
    have HJ := Lib.hid hj
    clear hj
    by_cases hlt : a < s.size
    · have HF := Lib.hid (fm_suffix s a hlt)
      have HS : Hid ((s.extract a s.size).size ≤ maxLen) := by
        show _; rw [size_extract' s a s.size (Nat.le_refl _) (by omega)]; exact Nat.le_trans (Nat.sub_le _ _) (Nat.le_trans hs (by decide))
      gi_wp2_with fail
      refine ⟨trivial, rfl, (callsIn_wide.2 (form_any _ _ HS.out)).mono ?_⟩
      rw [HF.out.1, HF.out.2]
      rintro e w1 ⟨rfl, hb1⟩
      have hj1 := Lib.hid (hJ a _ _ HJ.out hb1)
      by_cases hz : fmN s a = 0
      · have hz' : ((fmN s a : Int) == 0) = true := by rw [hz]; rfl
        have HZ := Lib.hid hz
        clear hz
        gi_wp2
        exact ⟨rfl, .inr (.inr ⟨_, a, rfl, ⟨⟨hlt, HZ.out⟩, rfl⟩, hj1.out⟩)⟩
      · have hz' : ((fmN s a : Int) == 0) = false := beq_eq_false_iff_ne.2 (by omega)
        obtain ⟨fn, tmps, assign, body, hy, hR⟩ := hY a w1 hj1.out ⟨hlt, hz⟩
        unfold encU at hy
        have hle := fmN_size s a hz
        have HZ := Lib.hid hz
        clear hz
        gi_wp2
        refine ⟨rfl, hR.mono ?_⟩
        rintro e w2 (⟨rfl, hj2⟩ | ⟨rfl, hjx⟩)
        · gi_wp2
          go_roundw
          case rel => exact ⟨a + fmN s a, by go_num, hj2⟩
          case measure => (have hp := HZ.out; simp [intOf]; omega)
        · gi_wp2
          refine bodyPost_ret (results_none rfl _ _ _) rfl ?_
          exact .inr (.inl ⟨⟨_, rfl⟩, hjx⟩)
    · have hge : s.size ≤ a := by omega
      clear hlt
      gi_wp2
      go_end0
      exact .inl ⟨⟨_, rfl⟩, a, hge, HJ.out⟩
end Go.Proofs.Ytafocgnhmdhemaa
