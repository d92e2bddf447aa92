/- The sum of bytes: slices.Values ranged over, Extend, Sum. -/
import Derived.Test.YtlldoofclaokgaaGreatNd
import Derived.Test.YtlldoofclaokgaaGreatEls
import Derived.Test.YtlldoofclaokgaaGreatRange2
import Derived.Test.YtlldoofclaokgaaGreatTailIn
import Derived.OwnWalkIn
import Derived.TacticsInMore
import Derived.LoopNIn
import Derived.LoopIn
import Derived.Shelf.Abstract
namespace Go.Proofs.YtlldoofclaokgaaGreat
open Go.RowKit
attribute [local go_sem] Oper.semAt_some

set_option maxHeartbeats 2000000 in
set_option maxRecDepth 100000 in
theorem values1_iter (R : Nat → Prop) (xs : List Int) (p : Option Addr) (cp B : Nat) (hl : xs.length ≤ 140737488351232) :
    IterC Tryz.prog 163 #[.pointer (some ⟨B, 0, none⟩)] (fun i : Nat => #[.int .u8 (xs.getD i 0)]) (fun i => i + 1) (fun i => i < xs.length) (fun i => xs.length ≤ i) (fun _ _ => False) 0
      (fun W => W.cell? ⟨B, 0, none⟩ = some (.slice p xs.length cp) ∧ IntsIn R .u8 W (.slice p xs.length cp) xs) := by
  intro l J Jx W hJ hJx hPre hY h0
  have hc := (hPre _ _ h0).1
  refine callsIn_wide (n := 0) |>.1 ?_
  refine callsIn_of_wp Tryz.func163 rfl trivial ?_ rfl
  simp only [Tryz.ntmps163, List.size_toArray, List.length_cons, List.length_nil, Nat.reduceAdd, Nat.reduceSub, Array.replicate_succ, Array.replicate_zero, List.push_toArray, List.append_toArray, List.nil_append, List.cons_append]
  gi_wp2
  gi_loopw [7] (fun iv wr => ∃ a : Nat, iv = .int .i64 a ∧ a ≤ xs.length ∧ J a wr) (fun iv _ => xs.length - (intOf iv).toNat)
  case atStart => exact ⟨0, rfl, Nat.zero_le _, h0⟩
  case round =>
    obtain ⟨a, rfl, ha, hj⟩ := hrel
    have hv := (hPre _ _ hj).2
    have HJ := Lib.hid hj
    by_cases hlt : a < xs.length
    · have d1 : decide ((a : Int) < (xs.length : Int)) = true := decide_eq_true (by omega)
      have d2 : decide (a < xs.length) = true := decide_eq_true hlt
      obtain ⟨b, o, rfl, _, _, hcell⟩ := hv.at a hlt
      obtain ⟨fn, tmps, assign, body, hy, hR⟩ := hY a wr hj hlt
      have HL := Lib.hid hlt
      generalize xs.getD a 0 = x at hcell hy
      clear hv hlt hj
      gi_wp2
      refine ⟨rfl, hR.mono ?_⟩
      rintro e w2 (⟨rfl, hj2⟩ | ⟨rfl, hjx⟩)
      · gi_wp2
        go_roundw
        case rel => exact ⟨a + 1, by go_num, HL.out, hj2⟩
        case measure => (have hp := HL.out; simp [intOf]; omega)
      · gi_wp2
        refine bodyPost_ret (results_none rfl _ _ _) rfl ?_
        exact .inr (.inl ⟨⟨_, rfl⟩, hjx⟩)
    · have d1 : decide ((a : Int) < (xs.length : Int)) = false := decide_eq_false (by omega)
      have d2 : decide (a < xs.length) = false := decide_eq_false hlt
      have hge : xs.length ≤ a := by omega
      clear hlt hv hj
      gi_wp2
      go_end0
      exact .inl ⟨⟨_, rfl⟩, a, hge, HJ.out⟩
theorem values_any (p : Option Addr) (n c : Nat) (w : World) :
    Calls Tryz.prog 150 #[.slice p n c] w fun e w' => e = .returned (.func (.func 163) #[] #[.pointer (some ⟨w.heap.size, 0, none⟩)]) ∧ w.alloc (.cells #[.slice p n c] 27) = w' := by
  have hmf : ∀ (fn : Fn) (first cap : Array Value) (w : World), (Instr.makeFunc fn first cap).run Tryz.prog w = .ok (.func fn first cap) w := fun _ _ _ _ => rfl
  go_enter Tryz.func150, Tryz.ntmps150
  go_wp2
  go_ret
  exact ⟨rfl, rfl⟩
/-- Do's two stores behind what was called -/
theorem TblAt.done {W : World} {tb : Nat} {a : Int} {l : List Int} (h : TblAt W tb 0 1 a l) : TblAt ((W.drew.setCell ⟨tb, 1, none⟩ (.int .u32 1)).setCell ⟨tb, 2, none⟩ (.int .i32 0)) tb 1 0 a l := by
  unfold TblAt at *
  unfold World.setCell
  simp only [Array.getElem?_modify, show W.drew.heap[tb]? = _ from h, if_true, Option.map_some]
  rfl
theorem TblAt.held {W : World} {tb : Nat} {a : Int} {l : List Int} (h : TblAt W tb 0 0 a l) : TblAt (W.setCell ⟨tb, 2, none⟩ (.int .i32 1)) tb 0 1 a l := by
  unfold TblAt at *
  unfold World.setCell
  simp only [Array.getElem?_modify, h, if_true, Option.map_some]
  rfl
set_option maxHeartbeats 1000000 in
set_option maxRecDepth 100000 in
theorem ready_any (tb : Nat) (w : World) (h : TblAt w tb 0 0 0 (crcL 0)) :
    Calls Tryz.prog 149 #[.pointer (some ⟨tb, 0, none⟩)] w fun e w' => e = .returned (.bool true) ∧ TblAt w' tb 1 0 1 (crcL 256) ∧ Only (fun k => k = tb) w w' := by
  have hmf : ∀ (fn : Fn) (first cap : Array Value) (w : World), (Instr.makeFunc fn first cap).run Tryz.prog w = .ok (.func fn first cap) w := fun _ _ _ _ => rfl
  have c0 : w.cell? ⟨tb, 0, none⟩ = some (.int .i64 1) := (h.cell 0).trans rfl
  have ho := once_first tb 1 162 (.pointer (some ⟨tb, 0, none⟩)) (fun w' => TblAt w' tb 0 1 1 (crcL 256) ∧ Only (fun k => k = tb) w w') w (enters_of Tryz.func162 (by kernel_rfl) rfl)
    ((h.cell 1).trans rfl) ((h.cell 2).trans rfl) (h.frozen 2) ((reckon_any tb _ h.held).mono fun e w' ⟨h1, h2, h3⟩ => ⟨h1, h2, ((Only.refl (fun k => k = tb) w).setCell (p := ⟨tb, 2, none⟩) rfl _).trans h3⟩)
    (fun w' ⟨h2, _⟩ => ⟨(h2.cell 1).trans rfl, (h2.cell 2).trans rfl, h2.frozen 1, h2.frozen 2⟩)
  clear h
  go_enter Tryz.func149, Tryz.ntmps149
  go_wp2_with fail
  refine ho.mono ?_
  rintro e w' ⟨rfl, w1, ⟨h1, h2⟩, rfl⟩
  have HE := Lib.hid h1.done
  have HO : Hid (Only (fun k => k = tb) w ((w1.drew.setCell ⟨tb, 1, none⟩ (.int .u32 1)).setCell ⟨tb, 2, none⟩ (.int .i32 0))) := (h2.drew.setCell (p := ⟨tb, 1, none⟩) rfl _).setCell (p := ⟨tb, 2, none⟩) rfl _
  clear ho h1 h2
  generalize (w1.drew.setCell ⟨tb, 1, none⟩ (.int .u32 1)).setCell ⟨tb, 2, none⟩ (.int .i32 0) = w2 at *
  go_wp2
  go_ret
  exact ⟨rfl, HE.out, HO.out⟩
end Go.Proofs.YtlldoofclaokgaaGreat
