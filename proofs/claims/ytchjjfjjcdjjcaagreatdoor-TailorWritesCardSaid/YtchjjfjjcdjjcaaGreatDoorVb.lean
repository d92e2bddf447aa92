/- The iterator of package utf that throws where no form stands: what it does, for every loop body. The first place where no form stands; Check's own function. guarded of package utf: what was thrown is answered. Check of package utf and of the reference. Decode's own function: it collects. Decode of package utf. -/
import Derived.Test.YtchjjfjjcdjjcaaGreatDoorVa
import Derived.Test.YtchjjfjjcdjjcaaGreatDoorBase
import Derived.OwnWalkIn
import Derived.TacticsInMore
import Derived.LoopNIn
import Derived.LoopIn
import Derived.Shelf.Abstract
import Derived.RangeFuncBox
import Derived.Maps.AppendAt
namespace Go.Proofs.YtchjjfjjcdjjcaaGreatDoor
open Go.RowKit
open PlainAid (bt)
attribute [local go_sem] Oper.semAt_some

def chainU (a : Nat) : List PanicEntry := [{ v := .iface 119 (.agg #[.int .i64 a, .int .i64 40]), recovered := false }]
def encU (s : ByteArray) (a : Nat) : Array Value := #[.int .i64 a, .int .i32 (fmR s a)]

set_option maxHeartbeats 2000000 in
set_option maxRecDepth 100000 in
theorem all1_iter (s : ByteArray) (hs : s.size ≤ 140737488351232) (B : Nat) :
    IterC Tryz.prog 73 #[.pointer (some ⟨B, 0, none⟩)] (encU s) (fun a => a + fmN s a) (fun a => a < s.size ∧ fmN s a ≠ 0) (fun a => s.size ≤ a) (fun a c => (a < s.size ∧ fmN s a = 0) ∧ c = chainU a) 0
      (fun W => W.cell? ⟨B, 0, none⟩ = some (.string s)) := by
  intro l J Jx W hJ hJx hPre hY h0
  refine callsIn_wide (n := 0) |>.1 ?_
  refine callsIn_of_wp Tryz.func73 rfl trivial ?_ rfl
  simp only [Tryz.ntmps73, List.size_toArray, List.length_cons, List.length_nil, Nat.reduceAdd, Nat.reduceSub, Array.replicate_succ, Array.replicate_zero, List.push_toArray, List.append_toArray, List.nil_append, List.cons_append]
  gi_wp2
  gi_loopw [3] (fun p wr => ∃ a : Nat, p = .int .i64 a ∧ J a wr) (fun p _ => s.size - (intOf p).toNat)
  case atStart => exact ⟨0, rfl, h0⟩
  case round =>
    obtain ⟨a, rfl, hj⟩ := hrel
    have hc := hPre _ _ hj
    have HJ := Lib.hid hj
    clear hj
    by_cases hlt : a < s.size
    · have HF := Lib.hid (fm_suffix s a hlt)
      have HS : Hid ((s.extract a s.size).size ≤ maxLen) := by
        show _; rw [size_extract' s a s.size (Nat.le_refl _) (by omega)]; exact Nat.le_trans (Nat.sub_le _ _) (Nat.le_trans hs (by decide))
      gi_wp2_with fail
      refine ⟨trivial, rfl, (callsIn_wide.2 (form_any _ _ HS.out)).mono ?_⟩
      rw [HF.out.1, HF.out.2]
      rintro e w1 ⟨rfl, hb1⟩
      have hj1 := Lib.hid (hJ a _ _ HJ.out hb1)
      by_cases hz : fmN s a = 0
      · have hz' : ((fmN s a : Int) == 0) = true := by rw [hz]; rfl
        have HZ := Lib.hid hz
        clear hz
        gi_wp2
        exact ⟨rfl, .inr (.inr ⟨_, a, rfl, ⟨⟨hlt, HZ.out⟩, rfl⟩, hj1.out⟩)⟩
      · have hz' : ((fmN s a : Int) == 0) = false := beq_eq_false_iff_ne.2 (by omega)
        obtain ⟨fn, tmps, assign, body, hy, hR⟩ := hY a w1 hj1.out ⟨hlt, hz⟩
        unfold encU at hy
        have hle := fmN_size s a hz
        have HZ := Lib.hid hz
        clear hz
        gi_wp2
        refine ⟨rfl, hR.mono ?_⟩
        rintro e w2 (⟨rfl, hj2⟩ | ⟨rfl, hjx⟩)
        · gi_wp2
          go_roundw
          case rel => exact ⟨a + fmN s a, by go_num, hj2⟩
          case measure => (have hp := HZ.out; simp [intOf]; omega)
        · gi_wp2
          refine bodyPost_ret (results_none rfl _ _ _) rfl ?_
          exact .inr (.inl ⟨⟨_, rfl⟩, hjx⟩)
    · have hge : s.size ≤ a := by omega
      clear hlt
      gi_wp2
      go_end0
      exact .inl ⟨⟨_, rfl⟩, a, hge, HJ.out⟩
end Go.Proofs.YtchjjfjjcdjjcaaGreatDoor
namespace Go.Proofs.YtchjjfjjcdjjcaaGreatDoor
open Go.RowKit
open PlainAid (bt)
attribute [local go_sem] Oper.semAt_some

/-- from a place on: the first that is none -/
def bd (s : ByteArray) : Nat → Nat → Option Nat
  | 0, _ => none
  | k + 1, a => if s.size ≤ a then none else if fmN s a = 0 then some a else bd s k (a + fmN s a)
theorem bd_more (s : ByteArray) : ∀ (k a : Nat), s.size < k + a → ∀ j, bd s (k + j) a = bd s k a := by
  intro k
  induction k with
  | zero =>
    intro a h j
    cases j with
    | zero => rfl
    | succ j => rw [Nat.zero_add]; unfold bd; rw [if_pos (by omega)]
  | succ k ih =>
    intro a h j
    rw [show k + 1 + j = (k + j) + 1 from by omega]
    unfold bd
    split
    · rfl
    · split
      · rfl
      · exact ih _ (by omega) j
def BD (s : ByteArray) (a : Nat) : Option Nat := bd s (s.size + 1) a
theorem BD_eq (s : ByteArray) (a : Nat) : BD s a = if s.size ≤ a then none else if fmN s a = 0 then some a else BD s (a + fmN s a) := by
  by_cases h : s.size ≤ a
  · rw [if_pos h]; unfold BD bd; rw [if_pos h]
  · rw [if_neg h]
    by_cases hz : fmN s a = 0
    · rw [if_pos hz]; unfold BD bd; rw [if_neg h, if_pos hz]
    · rw [if_neg hz]
      have e : BD s a = bd s s.size (a + fmN s a) := by
        unfold BD; show bd s (s.size + 1) a = _
        rw [bd, if_neg h, if_neg hz]
      rw [e]; exact (bd_more s s.size (a + fmN s a) (by omega) 1).symm

theorem all_any (s : ByteArray) (w : World) :
    Calls Tryz.prog 53 #[.string s] w fun e w' => e = .returned (.func (.func 73) #[] #[.pointer (some ⟨w.heap.size, 0, none⟩)]) ∧ w.alloc (.cells #[.string s] 9) = w' := by
  have hmf : ∀ (fn : Fn) (first cap : Array Value) (w : World), (Instr.makeFunc fn first cap).run Tryz.prog w = .ok (.func fn first cap) w := fun _ _ _ _ => rfl
  go_enter Tryz.func53, Tryz.ntmps53
  go_wp2
  go_ret
  exact ⟨rfl, rfl⟩

end Go.Proofs.YtchjjfjjcdjjcaaGreatDoor
namespace Go.Proofs.YtchjjfjjcdjjcaaGreatDoor
open Go.RowKit
open PlainAid (bt)

def chainR (a : Nat) : List PanicEntry := [{ v := .iface 119 (.agg #[.int .i64 a, .int .i64 40]), recovered := true }]
set_option maxHeartbeats 1000000 in
set_option maxRecDepth 100000 in
theorem catch_panic (B : Nat) (a : Nat) (x y : Int) (w : World) (h1 : w.cell? ⟨B, 0, none⟩ = some (.int .i64 x)) (h2 : w.cell? ⟨B + 1, 0, none⟩ = some (.int .i64 y)) (z1 : w.frozen? ⟨B, 0, none⟩ = false) (z2 : w.frozen? ⟨B + 1, 0, none⟩ = false)
    (l1 : B + 1 < w.heap.size) :
    CallsD Tryz.prog 72 #[.pointer (some ⟨B, 0, none⟩), .pointer (some ⟨B + 1, 0, none⟩)] (.panicking (chainU a)) w fun e u' w' =>
      e = .returned (.tuple #[]) ∧ u' = .panicking (chainR a) ∧ Only (fun k => k = B ∨ k = B + 1) w w' ∧ w'.cell? ⟨B, 0, none⟩ = some (.int .i64 a) ∧ w'.cell? ⟨B + 1, 0, none⟩ = some (.int .i64 40) := by
  have hta : ∀ w, (Instr.typeAssert (.iface 119 (.agg #[.int .i64 a, .int .i64 40])) 20 119 false).run Tryz.prog w = .ok (.agg #[.int .i64 a, .int .i64 40]) w := fun _ => by kernel_rfl
  refine callsD_of_wpS Tryz.func72 rfl fun c₀ cs hu => ?_
  apply wpS_seq
  apply wpS_region
  unfold chainU at hu
  simp [wpOpsS, go_sem, recoverD, hu, Tryz.ntmps72, Exit.thenS]
  refine wpS_of_wp ?_
  simp only [List.size_toArray, List.length_cons, List.length_nil, Nat.reduceAdd, Nat.reduceSub, Array.replicate_succ, Array.replicate_zero, List.push_toArray, List.append_toArray, List.nil_append, List.cons_append, List.setIfInBounds_toArray, List.set_cons_zero, List.set_cons_succ]
  have l0 : B < w.heap.size := by omega
  have n1 : ¬ B + 1 = w.heap.size := by omega
  have n0 : ¬ B = w.heap.size := by omega
  go_wp2
  go_region
  refine ⟨rfl, .panicking (chainR a), rfl, .tuple #[], results_none rfl _ _ _, rfl, rfl, ?_, ?_, ?_⟩
  · exact ((((Only.refl _ w).setCell (p := ⟨B, 0, none⟩) (.inl rfl) _).setCell (p := ⟨B + 1, 0, none⟩) (.inr rfl) _).alloc _).drew
  · simp [go_sem, h1, l0]
  · simp [go_sem, h2, l1]

set_option maxHeartbeats 1000000 in
set_option maxRecDepth 100000 in
theorem catch_idle (B : Nat) (w : World) :
    CallsD Tryz.prog 72 #[.pointer (some ⟨B, 0, none⟩), .pointer (some ⟨B + 1, 0, none⟩)] .returning w fun e u' w' => e = .returned (.tuple #[]) ∧ u' = .returning ∧ w' = w := by
  refine callsD_of_wpS Tryz.func72 rfl fun c₀ cs hu => ?_
  apply wpS_seq
  apply wpS_region
  simp [wpOpsS, go_sem, recoverD, hu, Tryz.ntmps72, Exit.thenS]
  refine wpS_of_wp ?_
  simp only [List.size_toArray, List.length_cons, List.length_nil, Nat.reduceAdd, Nat.reduceSub, Array.replicate_succ, Array.replicate_zero, List.push_toArray, List.append_toArray, List.nil_append, List.cons_append, List.setIfInBounds_toArray, List.set_cons_zero, List.set_cons_succ]
  go_wp2
  refine ⟨rfl, .returning, ?_, .tuple #[], results_none rfl _ _ _, rfl, rfl, rfl⟩
  cases c₀
  simp_all

set_option maxHeartbeats 1000000 in
set_option maxRecDepth 100000 in
/-- what is called is g with what it has captured; R: how it ends -/
theorem guarded_any (g : Nat) (lb : Array Value) (R : Ending → World → Prop) (w : World) (eg : ∀ args w, (callFunc g args).run Tryz.prog w = .ok (.enter g args) w)
    (hf : Calls Tryz.prog g lb ((w.alloc (.cells #[.int .i64 0] 3)).alloc (.cells #[.int .i64 0] 26)) R)
    (hR : ∀ e w', R e w' → (e = .returned (.tuple #[]) ∨ ∃ a, e = .panicked (chainU a)) ∧ w.heap.size + 1 < w'.heap.size ∧ w'.cell? ⟨w.heap.size, 0, none⟩ = some (.int .i64 0) ∧ w'.cell? ⟨w.heap.size + 1, 0, none⟩ = some (.int .i64 0) ∧
      w'.frozen? ⟨w.heap.size, 0, none⟩ = false ∧ w'.frozen? ⟨w.heap.size + 1, 0, none⟩ = false) :
    Calls Tryz.prog 51 #[.func (.func g) #[] lb] w fun e w' => ∃ e1 w1, R e1 w1 ∧ Only (fun k => k = w.heap.size ∨ k = w.heap.size + 1) w1 w' ∧
      ((e1 = .returned (.tuple #[]) ∧ e = .returned (.tuple #[.int .i64 0, .int .i64 0])) ∨ (∃ a : Nat, e1 = .panicked (chainU a) ∧ e = .returned (.tuple #[.int .i64 a, .int .i64 40]))) := by
  have hmf : ∀ (fn : Fn) (first cap : Array Value) (w : World), (Instr.makeFunc fn first cap).run Tryz.prog w = .ok (.func fn first cap) w := fun _ _ _ _ => rfl
  go_enter_defers Tryz.func51, Tryz.ntmps51
  go_wp2_with fail
  refine hf.mono ?_
  rintro e1 w1 hr
  obtain ⟨he, hz, c0, c1, f0, f1⟩ := hR _ _ hr
  have HR := Lib.hid hr
  clear hr hf hR
  rcases he with rfl | ⟨a, rfl⟩
  · go_wp2
    refine leaves_cons (f := 72) (args := #[.pointer (some ⟨w.heap.size, 0, none⟩), .pointer (some ⟨w.heap.size + 1, 0, none⟩)]) (by simp) (by simp [go_sem]) ?_
    refine (catch_idle w.heap.size _).mono ?_
    rintro e u' w'' ⟨rfl, rfl, rfl⟩
    refine ⟨.tuple #[.int .i64 0, .int .i64 0], by simp [results, Tryz.results51, go_sem, c0, c1], ?_⟩
    exact ⟨_, w1, HR.out, ((Only.refl _ w1).setCell (p := ⟨w.heap.size, 0, none⟩) (.inl rfl) _).setCell (p := ⟨w.heap.size + 1, 0, none⟩) (.inr rfl) _, .inl ⟨rfl, rfl⟩⟩
  · go_wp2
    refine leaves_cons (f := 72) (args := #[.pointer (some ⟨w.heap.size, 0, none⟩), .pointer (some ⟨w.heap.size + 1, 0, none⟩)]) (by simp) (by simp [go_sem]) ?_
    refine (catch_panic w.heap.size a 0 0 w1 c0 c1 f0 f1 hz).mono ?_
    rintro e u' w2 ⟨rfl, rfl, ho, d0, d1⟩
    refine ⟨.tuple #[.int .i64 a, .int .i64 40], by simp [results, Tryz.results51, go_sem, d0, d1], ?_⟩
    exact ⟨_, w1, HR.out, ho, .inr ⟨a, rfl, rfl⟩⟩
end Go.Proofs.YtchjjfjjcdjjcaaGreatDoor
namespace Go.Proofs.YtchjjfjjcdjjcaaGreatDoor
open Go.RowKit
open PlainAid (bt)

/-- the first place where no form stands, and the error's number -/
def bdA (s : ByteArray) : Int := match BD s 0 with | none => 0 | some a => (a : Int)
def bdE (s : ByteArray) : Int := match BD s 0 with | none => 0 | some _ => 40
theorem bd_none {s : ByteArray} (h : BD s 0 = none) : bdA s = 0 ∧ bdE s = 0 := by unfold bdA bdE; rw [h]; exact ⟨rfl, rfl⟩
theorem bd_some {s : ByteArray} {a : Nat} (h : BD s 0 = some a) : bdA s = a ∧ bdE s = 40 := by unfold bdA bdE; rw [h]; exact ⟨rfl, rfl⟩
theorem Only.toBelow {S : Nat → Prop} {n : Nat} {a b c : World} (h : Below n a b) (hn : n ≤ a.heap.size) (k : Only S b c) (hS : ∀ i, S i → n ≤ i) : Below n a c :=
  h.trans ⟨k.os, k.tape, k.output, k.size, fun i hi => k.block i (by have := h.size; omega) (fun hs => by have := hS i hs; omega)⟩

end Go.Proofs.YtchjjfjjcdjjcaaGreatDoor
namespace Go.Proofs.YtchjjfjjcdjjcaaGreatDoor
open Go.RowKit
open PlainAid (bt)
attribute [local go_sem] Oper.semAt_some

/-- the scalars from a place on, up to the first that is none -/
def dc (s : ByteArray) : Nat → Nat → List Int
  | 0, _ => []
  | k + 1, a => if s.size ≤ a then [] else if fmN s a = 0 then [] else fmR s a :: dc s k (a + fmN s a)
theorem dc_more (s : ByteArray) : ∀ (k a : Nat), s.size < k + a → ∀ j, dc s (k + j) a = dc s k a := by
  intro k
  induction k with
  | zero =>
    intro a h j
    cases j with
    | zero => rfl
    | succ j => rw [Nat.zero_add]; unfold dc; rw [if_pos (by omega)]
  | succ k ih =>
    intro a h j
    rw [show k + 1 + j = (k + j) + 1 from by omega]
    unfold dc
    split
    · rfl
    · split
      · rfl
      · rw [ih _ (by omega) j]
def DC (s : ByteArray) (a : Nat) : List Int := dc s (s.size + 1) a
theorem DC_eq (s : ByteArray) (a : Nat) : DC s a = if s.size ≤ a then [] else if fmN s a = 0 then [] else fmR s a :: DC s (a + fmN s a) := by
  by_cases h : s.size ≤ a
  · rw [if_pos h]; unfold DC dc; rw [if_pos h]
  · rw [if_neg h]
    by_cases hz : fmN s a = 0
    · rw [if_pos hz]; unfold DC dc; rw [if_neg h, if_pos hz]
    · rw [if_neg hz]
      have e : DC s a = fmR s a :: dc s s.size (a + fmN s a) := by
        unfold DC; show dc s (s.size + 1) a = _
        rw [dc, if_neg h, if_neg hz]
      rw [e]; congr 1; exact (dc_more s s.size (a + fmN s a) (by omega) 1).symm

theorem ownsRow_weak {W : World} {base base' : Nat} {e : TypeId} {size : Nat} {v : Value} {n : Nat} {xs : List Value} (h : W.ownsRow base e size v n xs) (hb : base' ≤ base) : W.ownsRow base' e size v n xs := by
  refine ⟨h.1, ?_⟩
  rcases h.2 with h2 | ⟨g, cap, cur, hv, hg, hr⟩
  · exact .inl h2
  · exact .inr ⟨g, cap, cur, hv, by omega, hr⟩
theorem ownBlock_ge {W : World} {base : Nat} {e : TypeId} {size : Nat} {v : Value} {n : Nat} {xs : List Value} (h : W.ownsRow base e size v n xs) {j : Nat} (hj : v.ownBlock = some j) : base ≤ j := by
  rcases h.2 with ⟨rfl, _⟩ | ⟨g, cap, cur, rfl, hg, hr⟩
  · simp [Value.ownBlock] at hj
  · simp [Value.ownBlock] at hj; omega
/-- what an append to a boxed slice leaves, said of the world in which the call began -/
theorem app_box {w W w1 : World} {B : Nat} {t e : TypeId} {size : Nat} {v v' : Value} {k m : Nat} {xs ys : List Value} {tmp : Obj} (hv : Boxed W B t v) (hte : t ≠ e) (hrow : W.ownsRow w.heap.size e size v k xs)
    (ho : Only (fun k => k = B) w W) (hown' : w1.ownsRow w.heap.size e size v' m ys) (hgrow : (W.alloc tmp).grownBy w1 v.ownBlock) :
    Boxed w1 B t v ∧ Boxed (w1.setCell ⟨B, 0, none⟩ v') B t v' ∧ (w1.setCell ⟨B, 0, none⟩ v').ownsRow w.heap.size e size v' m ys ∧ KeepsOthers W (w1.setCell ⟨B, 0, none⟩ v') ∧ Only (fun k => k = B) w (w1.setCell ⟨B, 0, none⟩ v') := by
  obtain ⟨a1, a2, _, a4, _⟩ := hv.appended hte (ownsRow_weak hrow (Nat.zero_le _)) (Nat.zero_le _) (Nat.zero_le _) (ownsRow_weak hown' (Nat.zero_le _)) hgrow
  refine ⟨a1, a2, hown'.kept (grownBy_setCell' w1 B v') (.inr (a1.not_row hte hown').symm), a4, ?_⟩
  have h1 : Only (fun k => k = B) w w1 := by
    refine ⟨hgrow.os.trans ho.os, hgrow.tape.trans ho.tape, hgrow.output.trans ho.output, by have := hgrow.size; have := ho.size; simp at *; omega, fun i hi hs => ?_⟩
    have hsz := ho.size
    rw [hgrow.block i (by simp; omega) (fun e => by have := ownBlock_ge hrow e.symm; omega), Below.heap_alloc _ _ _ (by omega)]
    exact ho.block i hi hs
  exact h1.setCell (p := ⟨B, 0, none⟩) rfl _

theorem Only.putObj {S : Nat → Prop} {w W : World} (h : Only S w W) {D : Nat} {o : Obj} (hD : w.heap.size ≤ D) : Only S w (W.putObj D o) :=
  ⟨h.os, h.tape, h.output, by have := h.size; simp [World.putObj]; exact this, fun k hk hs => by rw [World.putObj_heap_other (by omega)]; exact h.block k hk hs⟩
/-- between two rounds -/
def DecAt (s : ByteArray) (bs bl : Nat) (w : World) (a : Nat) (W : World) : Prop :=
  ∃ rs : List Int, (DC s 0 = rs ++ DC s a ∧ rs.length ≤ a ∧ BD s a = BD s 0 ∧ a ≤ s.size) ∧ Boxed W bs 9 (.string s) ∧ Only (fun k => k = bl) w W ∧
    ∃ v, Boxed W bl 34 v ∧ W.ownsRow w.heap.size 21 1 v rs.length (rs.map (Value.int .i32))
theorem DecAt.own (s : ByteArray) (bs bl : Nat) (w W0 : World) (h : w.heap.size ≤ W0.heap.size) : OwnFrom W0.heap.size (DecAt s bs bl w) := by
  rintro a A A' row ⟨rs, h1, h2, h3, v, hv, hr⟩ hg hrow
  have hcells : ∀ r, row = some r → ∃ o : Obj, A.heap[r]? = some o ∧ o.isCells = false := fun r e => (hrow r e).2
  refine ⟨rs, h1, h2.kept hg (fun e' => ?_), ?_, v, hv.kept hg (fun e' => ?_), hr.kept hg ?_⟩
  · obtain ⟨o, ho, hc⟩ := hcells bs e'.symm
    rw [show A.heap[bs]? = _ from h2] at ho; cases ho; cases hc
  · refine ⟨hg.os.trans h3.os, hg.tape.trans h3.tape, hg.output.trans h3.output, Nat.le_trans h3.size hg.size, fun k hk hs => ?_⟩
    rw [hg.block k (Nat.lt_of_lt_of_le hk h3.size) (fun e => by have := (hrow k e.symm).1; omega)]
    exact h3.block k hk hs
  · obtain ⟨o, ho, hc⟩ := hcells bl e'.symm
    rw [show A.heap[bl]? = _ from hv] at ho; cases ho; cases hc
  · rcases hr.2 with ⟨rfl, _⟩ | ⟨g, cap, cur, rfl, _, hgb, _⟩
    · exact .inl rfl
    · refine .inr fun e' => ?_
      obtain ⟨o, ho, hc⟩ := hcells g (by simpa [Value.ownBlock] using e'.symm)
      rw [hgb] at ho; cases ho; cases hc
/-- how Decode's function ends -/
def DecEnd (s : ByteArray) (bl : Nat) (w : World) (e : Ending) (w' : World) : Prop :=
  Only (fun k => k = bl) w w' ∧ ((BD s 0 = none ∧ e = .returned (.tuple #[]) ∧ ∃ v, Boxed w' bl 34 v ∧ w'.ownsRow w.heap.size 21 1 v (DC s 0).length ((DC s 0).map (Value.int .i32))) ∨
    (∃ a, BD s 0 = some a ∧ e = .panicked (chainU a)))
theorem Tryz.info21 : (Tryz.prog.info? 21).map (fun i => (i.zero, i.size, i.bytes)) = some (some (.int .i32 0), 1, 4) := by kernel_rfl

set_option maxHeartbeats 2000000 in
set_option maxRecDepth 100000 in
theorem dec1_any (s : ByteArray) (bs bl : Nat) (w : World) (hs : s.size ≤ 35184372088000) (hc : w.cell? ⟨bs, 0, none⟩ = some (.string s)) (hl : Boxed w bl 34 (.slice none 0 0)) :
    Calls Tryz.prog 101 #[.pointer (some ⟨bs, 0, none⟩), .pointer (some ⟨bl, 0, none⟩)] w (DecEnd s bl w) := by
  have hs2 : s.size ≤ 140737488351232 := by omega
  have hbl : bl < w.heap.size := hl.lt
  have hbs : bs < w.heap.size := by
    rcases Nat.lt_or_ge bs w.heap.size with h' | h'
    · exact h'
    · simp [World.cell?, Array.getElem?_eq_none h'] at hc
  have hne : bs ≠ bl := by
    intro e; subst e; rw [hl.cell] at hc; cases hc
  obtain ⟨i0, hi, hz0, hz1, hz2⟩ := info_parts Tryz.info21
  refine callsIn_wide (n := 0) |>.1 ?_
  refine callsIn_of_wp_marks Tryz.func101 rfl trivial ?_ rfl
  simp only [Tryz.ntmps101, List.size_toArray, List.length_cons, List.length_nil, Nat.reduceAdd, Nat.reduceSub, Array.replicate_succ, Array.replicate_zero, List.push_toArray, List.append_toArray, List.nil_append, List.cons_append]
  gi_wp2_with fail
  refine ⟨trivial, rfl, (callsIn_wide.2 (all_any _ _)).mono ?_⟩
  rintro e w1 ⟨rfl, rfl⟩
  gi_wp2_with fail
  refine wp_range (gf := 73) (lb := #[.pointer (some ⟨w.heap.size, 0, none⟩)]) rfl (enters_of Tryz.func73 (by kernel_rfl) rfl) (all1_iter s hs2 w.heap.size) (fun _ => rfl)
    (fun a W => DecAt s w.heap.size bl w a W) (fun _ _ => False) (DecAt.own s w.heap.size bl w _ (by simp)) (fun _ _ _ _ h _ _ => h) (fun a A ⟨_, _, h, _⟩ => h.cell) ?h0
    (fun a => { tmps := #[.pointer (some ⟨bs, 0, none⟩), .pointer (some ⟨bl, 0, none⟩), undef, .int .i32 (fmR s a), .string s, .func (.func 73) #[] #[.pointer (some ⟨w.heap.size, 0, none⟩)], .int .i64 a, .int .i32 (fmR s a), undef, undef, undef, undef], defers := [] }) ?assign ?body ?done ?stop ?bad
  case h0 => exact ⟨[], ⟨rfl, Nat.le_refl _, rfl, Nat.zero_le _⟩, Boxed.new _ _ _, (Only.refl _ w).alloc _, _, hl.alloc _, World.ownsRow_nil _ _ _ _⟩
  case assign =>
    intro l a W K hK
    simp [encU]
    gi_wp2
    exact hK
  case body =>
    rintro l a W ⟨h1, h2⟩ ⟨rs, ⟨hd, hlen, hb, has⟩, hcs, ho, v, hv, hrow⟩
    have hcv := hv.cell
    have hsz := ho.size
    have hle := fmN_size s a h2
    gi_wp2_with (gi_at_builtin; refine wpListIn_append_own _ rfl _ _ 34 rfl w.heap.size 21 i0 (.int .i32 0) 1 4 Tryz.underlying34 hi hz0 hz1 hz2 rfl (by decide) _ _ _ rfl (hrow.alloc _) ⟨W.heap.size, 0, none⟩ 1 1 [.int .i32 (fmR s a)] rfl rfl (cell_one_new _ _ _) (by simp [Value.oneCell']) (by unfold maxLen; omega) (by omega) (by simp; omega) ?_; intro v' w1 hown' hgrow _; obtain ⟨g', cap', rfl⟩ := ownsRow_succ hown'; obtain ⟨hv1, hv2, hr2, hk2, ho2⟩ := app_box hv (by decide) hrow ho hown' hgrow; have hc1 := hv1.cell; have hf1 := hv1.frozen)
    refine ⟨hk2, rs ++ [fmR s a], ⟨?_, ?_, ?_, hle⟩, ?_, ho2, _, hv2, ?_⟩
    · rw [hd, DC_eq s a, if_neg (by omega), if_neg h2]; simp
    · simp; omega
    · rw [← hb, BD_eq s a, if_neg (by omega), if_neg h2]
    · have hbx : Boxed w1 w.heap.size 9 (.string s) := (hcs.alloc _).kept hgrow (hcs.not_row (by decide) hrow)
      exact hbx.other (by omega) _
    · simpa using hr2
  case stop =>
    intro D c W hD h _
    exact h.elim
  case done =>
    rintro D a W hD hl ⟨rs, ⟨hd, hlen, hb, has⟩, hcs, ho, v, hv, hrow⟩ hK
    gi_wp2
    refine ⟨by simp, .inl ⟨_, _, rfl, run_takeDeferred hK, ?_⟩⟩
    have hrs : rs = DC s 0 := by rw [hd, DC_eq s a, if_pos hl, List.append_nil]
    subst hrs
    simp only [World.size_alloc] at hD
    refine ⟨_, results_none rfl _ _ _, ho.putObj (by omega), .inl ⟨by rw [← hb, BD_eq s a, if_pos hl], rfl, v, hv.kept (grownBy_putObj' _ _ _) (fun e => by cases e; omega), ownsRow_putObj hrow _ hK rfl⟩⟩
  case bad =>
    rintro D chain a W hD ⟨⟨h1, h2⟩, rfl⟩ ⟨rs, ⟨hd, hlen, hb, has⟩, hcs, ho, v, hv, hrow⟩ hK
    gi_wp2
    refine ⟨by simp, .inl ⟨_, _, rfl, run_takeDeferred hK, ?_⟩⟩
    simp only [World.size_alloc] at hD
    exact ⟨ho.putObj (by omega), .inr ⟨a, by rw [← hb, BD_eq s a, if_neg (by omega), if_pos h2], rfl⟩⟩
end Go.Proofs.YtchjjfjjcdjjcaaGreatDoor
namespace Go.Proofs.YtchjjfjjcdjjcaaGreatDoor
open Go.RowKit
open PlainAid (bt)

/-- a slice of runes in memory from block n on, or nil -/
def Runes (n : Nat) (w : World) (v : Value) (xs : List Int) : Prop := IntsIn (fun b => n ≤ b) .i32 w v xs
theorem Runes.mono {n m : Nat} {w : World} {v : Value} {xs : List Int} (h : Runes n w v xs) (hm : m ≤ n) : Runes m w v xs := IntsIn.mono h (fun b hb _ => Nat.le_trans hm hb)
theorem Runes.only {n : Nat} {S : Nat → Prop} {w w' : World} {v : Value} {xs : List Int} (h : Runes n w v xs) (ho : Only S w w') (hS : ∀ k, S k → k < n) : Runes n w' v xs :=
  IntsIn.kept h (Kept.only ho (fun b hb hs => by have := hS b hs; omega))
theorem runes_of_row {n : Nat} {w : World} {e : TypeId} {v : Value} {xs : List Int} (h : w.ownsRow n e 1 v xs.length (xs.map (Value.int .i32))) : Runes n w v xs := by
  rcases h.2 with ⟨rfl, h0⟩ | ⟨g, cap, cur, rfl, hg, hgb, h1, h2, h3, h4⟩
  · obtain rfl := List.eq_nil_of_length_eq_zero h0; exact .nil _ _ _
  · refine ⟨_, _, rfl, ⟨h1, h2⟩, fun i x hx => ⟨g, 0, rfl, hg, (Array.getElem?_eq_some_iff.1 hgb).1, ?_⟩⟩
    have hi : i < xs.length := (List.getElem?_eq_some_iff.1 hx).1
    have e : (cur.toList.take (xs.length * 1))[i]? = some (.int .i32 x) := by rw [h4]; simp [hx]
    rw [List.getElem?_take, if_pos (by omega)] at e
    simp [World.cell?, hgb]; simpa using e
def dcV (s : ByteArray) : List Int := match BD s 0 with | none => DC s 0 | some _ => []
def DecPost (s : ByteArray) (w : World) (e : Ending) (w' : World) : Prop :=
  ∃ v, e = .returned (.tuple #[v, .int .i64 (bdA s), .int .i64 (bdE s)]) ∧ Runes w.heap.size w' v (dcV s) ∧ Below w.heap.size w w'

set_option maxHeartbeats 1000000 in
set_option maxRecDepth 100000 in
theorem uDecode_any (s : ByteArray) (w : World) (hs : s.size ≤ 35184372088000) :
    Calls Tryz.prog 91 #[.string s] w (DecPost s w) := by
  have hmf : ∀ (fn : Fn) (first cap : Array Value) (w : World), (Instr.makeFunc fn first cap).run Tryz.prog w = .ok (.func fn first cap) w := fun _ _ _ _ => rfl
  have HS := Lib.hid hs
  clear hs
  go_enter Tryz.func91, Tryz.ntmps91
  go_wp2_with fail
  have hbox : Boxed ((((w.alloc (.cells #[.string s] 9)).alloc (.cells #[.slice none 0 0] 34)).alloc (.cells #[.int .i64 0] 3)).alloc (.cells #[.int .i64 0] 26)) (w.heap.size + 1) 34 (.slice none 0 0) := by
    have := Boxed.new (w.alloc (.cells #[.string s] 9)) 34 (.slice none 0 0)
    rw [World.size_alloc] at this
    exact (this.alloc _).alloc _
  refine (guarded_any 101 #[.pointer (some ⟨w.heap.size, 0, none⟩), .pointer (some ⟨w.heap.size + 1, 0, none⟩)] (DecEnd s (w.heap.size + 1) ((((w.alloc (.cells #[.string s] 9)).alloc (.cells #[.slice none 0 0] 34)).alloc (.cells #[.int .i64 0] 3)).alloc (.cells #[.int .i64 0] 26))) ((w.alloc (.cells #[.string s] 9)).alloc (.cells #[.slice none 0 0] 34))
    (enters_of Tryz.func101 (by kernel_rfl) rfl) (dec1_any s w.heap.size (w.heap.size + 1) _ HS.out (by simp [go_sem]) hbox) ?_).mono ?_
  · intro e w' ⟨ho, hend⟩
    have h1 := ho.block (w.heap.size + 2) (by simp) (by simp)
    have h2 := ho.block (w.heap.size + 3) (by simp) (by simp)
    have hz := ho.size
    simp only [World.size_alloc] at h1 h2 hz ⊢
    refine ⟨?_, by omega, ?_, ?_, ?_, ?_⟩
    · rcases hend with ⟨_, rfl, _⟩ | ⟨a, _, rfl⟩
      · exact .inl rfl
      · exact .inr ⟨a, rfl⟩
    · rw [World.cell?_of_block (w := (((w.alloc (.cells #[.string s] 9)).alloc (.cells #[.slice none 0 0] 34)).alloc (.cells #[.int .i64 0] 3)).alloc (.cells #[.int .i64 0] 26)) (a := ⟨w.heap.size + 1 + 1, 0, none⟩) h1]; simp [go_sem]
    · rw [World.cell?_of_block (w := (((w.alloc (.cells #[.string s] 9)).alloc (.cells #[.slice none 0 0] 34)).alloc (.cells #[.int .i64 0] 3)).alloc (.cells #[.int .i64 0] 26)) (a := ⟨w.heap.size + 1 + 1 + 1, 0, none⟩) h2]; simp [go_sem]
    · rw [World.frozen?_of_block (w := (((w.alloc (.cells #[.string s] 9)).alloc (.cells #[.slice none 0 0] 34)).alloc (.cells #[.int .i64 0] 3)).alloc (.cells #[.int .i64 0] 26)) (a := ⟨w.heap.size + 1 + 1, 0, none⟩) h1]; simp [go_sem]
    · rw [World.frozen?_of_block (w := (((w.alloc (.cells #[.string s] 9)).alloc (.cells #[.slice none 0 0] 34)).alloc (.cells #[.int .i64 0] 3)).alloc (.cells #[.int .i64 0] 26)) (a := ⟨w.heap.size + 1 + 1 + 1, 0, none⟩) h2]; simp [go_sem]
  rintro e w2 ⟨e1, w1, ⟨ho1, hend⟩, ho, hq⟩
  have hz1 := ho1.size
  simp only [World.size_alloc] at hz1 ho
  have hb : Below w.heap.size w w2 := by
    refine Only.toBelow (a := w) (b := w1) ?_ (Nat.le_refl _) ho (fun i hi => by omega)
    refine Only.toBelow (a := w) (b := _) ?_ (Nat.le_refl _) ho1 (fun i hi => by omega)
    (repeat' (first | (with_reducible exact Below.refl _ _) | (with_reducible assumption) | (with_reducible refine Below.alloc ?_ ?_ _) | (with_reducible refine Below.drew ?_) | (with_reducible refine below_drewN ?_ _) | (with_reducible refine Below.setCell ?_ ?_ _) | (with_reducible refine Below.trans ?_ (Below.mono (by assumption) ?_)) | go_size))
  have HB := Lib.hid hb
  rcases hend with ⟨h3, h4, v, hv, hrow⟩ | ⟨b, h3, h4⟩
  · rcases hq with ⟨_, h2⟩ | ⟨a, h1, _⟩
    · have hru : Runes w.heap.size w2 v (dcV s) := by
        have e1 : dcV s = DC s 0 := by unfold dcV; rw [h3]
        rw [e1]
        simp only [World.size_alloc] at hrow
        exact ((runes_of_row hrow).only ho (fun k hk => by omega)).mono (by omega)
      have hbx := ho.block (w.heap.size + 1) (by omega) (by omega)
      have hc : w2.cell? ⟨w.heap.size + 1, 0, none⟩ = some v := by
        rw [World.cell?_of_block (w := w1) (a := ⟨w.heap.size + 1, 0, none⟩) hbx]; exact hv.cell
      have HV : Hid (bdA s = 0 ∧ bdE s = 0) := bd_none h3
      have HU := Lib.hid hru
      have hvf : ∃ a n c, v = .slice a n c := by
        obtain ⟨p, cap, e, _⟩ := hru
        exact ⟨_, _, _, e⟩
      obtain ⟨va, vn, vc, hve⟩ := hvf
      rw [hve] at hc HU
      clear hb ho ho1 hrow hv hru hbx h3 h4 hve hz1 hbox
      subst h2
      go_wp2_with fail
      go_ret3
      exact ⟨_, by rw [HV.out.1, HV.out.2]; rfl, HU.out, HB.out⟩
    · rw [h1] at h4; cases h4
  · rcases hq with ⟨h1, _⟩ | ⟨a, h1, h2⟩
    · rw [h1] at h4; cases h4
    · rw [h1] at h4
      have hab : a = b := by
        simp only [Ending.panicked.injEq, chainU, List.cons.injEq, PanicEntry.mk.injEq, Value.iface.injEq, Value.agg.injEq, Array.mk.injEq, Value.int.injEq] at h4
        have := h4.1.1.2.1.2; omega
      have HV : Hid (bdA s = b ∧ bdE s = 40) := bd_some h3
      have HN : Hid (dcV s = []) := by show _ = _; unfold dcV; rw [h3]
      subst hab
      clear hb ho ho1 h3 h4 hz1 hbox h1
      subst h2
      go_wp2_with fail
      go_ret3
      exact ⟨_, by rw [HV.out.1, HV.out.2]; rfl, by rw [HN.out]; exact IntsIn.nil _ _ _, HB.out⟩
end Go.Proofs.YtchjjfjjcdjjcaaGreatDoor
