/- The first place where no form stands; Check's own function. -/
import Derived.Test.YtafocgnhmdhemaaUi
import Derived.Shelf.Abstract
namespace Go.Proofs.Ytafocgnhmdhemaa
open Go.RowKit
open PlainAid (bt)
attribute [local go_sem] Oper.semAt_some

/-- from a place on: the first that is none -/
def bd (s : ByteArray) : Nat → Nat → Option Nat
  | 0, _ => none
  | k + 1, a => if s.size ≤ a then none else if fmN s a = 0 then some a else bd s k (a + fmN s a)
theorem bd_more (s : ByteArray) : ∀ (k a : Nat), s.size < k + a → ∀ j, bd s (k + j) a = bd s k a := by
  intro k
  induction k with
  | zero =>
    intro a h j
    cases j with
    | zero => rfl
    | succ j => rw [Nat.zero_add]; unfold bd; rw [if_pos (by omega)]
  | succ k ih =>
    intro a h j
    rw [show k + 1 + j = (k + j) + 1 from by omega]
    unfold bd
    split
    · rfl
    · split
      · rfl
      · exact ih _ (by omega) j
def BD (s : ByteArray) (a : Nat) : Option Nat := bd s (s.size + 1) a
theorem BD_eq (s : ByteArray) (a : Nat) : BD s a = if s.size ≤ a then none else if fmN s a = 0 then some a else BD s (a + fmN s a) := by
  by_cases h : s.size ≤ a
  · rw [if_pos h]; unfold BD bd; rw [if_pos h]
  · rw [if_neg h]
    by_cases hz : fmN s a = 0
    · rw [if_pos hz]; unfold BD bd; rw [if_neg h, if_pos hz]
    · rw [if_neg hz]
      have e : BD s a = bd s s.size (a + fmN s a) := by
        unfold BD; show bd s (s.size + 1) a = _
        rw [bd, if_neg h, if_neg hz]
      rw [e]; exact (bd_more s s.size (a + fmN s a) (by omega) 1).symm

theorem all_any (s : ByteArray) (w : World) :
    Calls Try.prog 30 #[.string s] w fun e w' => e = .returned (.func (.func 41) #[] #[.pointer (some ⟨w.heap.size, 0, none⟩)]) ∧ w.alloc (.cells #[.string s] 9) = w' := by
  have hmf : ∀ (fn : Fn) (first cap : Array Value) (w : World), (Instr.makeFunc fn first cap).run Try.prog w = .ok (.func fn first cap) w := fun _ _ _ _ => rfl
  go_enter Try.func30, Try.ntmps30
  go_wp2
  go_ret
  exact ⟨rfl, rfl⟩

/-- how Check's function ends -/
def ChkEnd (s : ByteArray) (w : World) (e : Ending) (w' : World) : Prop :=
  Below w.heap.size w w' ∧ ((BD s 0 = none ∧ e = .returned (.tuple #[])) ∨ (∃ a, BD s 0 = some a ∧ e = .panicked (chainU a)))

set_option maxHeartbeats 2000000 in
set_option maxRecDepth 100000 in
theorem check1_any (s : ByteArray) (b : Nat) (w : World) (hs : s.size ≤ 140737488351232) (hc : w.cell? ⟨b, 0, none⟩ = some (.string s)) :
    Calls Try.prog 29 #[.pointer (some ⟨b, 0, none⟩)] w (ChkEnd s w) := by
  refine callsIn_wide (n := 0) |>.1 ?_
  refine callsIn_of_wp_marks Try.func29 rfl trivial ?_ rfl
  simp only [Try.ntmps29, List.size_toArray, List.length_cons, List.length_nil, Nat.reduceAdd, Nat.reduceSub, Array.replicate_succ, Array.replicate_zero, List.push_toArray, List.append_toArray, List.nil_append, List.cons_append]
  gi_wp2_with fail
  refine ⟨trivial, rfl, (callsIn_wide.2 (all_any _ _)).mono ?_⟩
  rintro e w1 ⟨rfl, rfl⟩
  gi_wp2_with fail
  refine wp_range (gf := 41) (lb := #[.pointer (some ⟨w.heap.size, 0, none⟩)]) rfl (enters_of Try.func41 (by kernel_rfl) rfl) (all1_iter s hs w.heap.size) (fun _ => rfl)
    (fun a W => BD s a = BD s 0 ∧ W.cell? ⟨w.heap.size, 0, none⟩ = some (.string s) ∧ Below w.heap.size w W) (fun _ _ => False) ?hI (fun _ _ _ _ h _ _ => h) (fun a A h => h.2.1) ?h0
    (fun a => { tmps := #[.pointer (some ⟨b, 0, none⟩), .string s, .func (.func 41) #[] #[.pointer (some ⟨w.heap.size, 0, none⟩)], .int .i64 a, .int .i32 (fmR s a)], defers := [] }) ?assign ?body ?done ?stop ?bad
  case hI =>
    intro a A A' row h hg hr
    refine ⟨h.1, cell_kept h.2.1 hg (fun r e => (hr r e).2), h.2.2.trans ⟨hg.os, hg.tape, hg.output, hg.size, fun k hk => ?_⟩⟩
    refine hg.block k (Nat.lt_of_lt_of_le hk h.2.2.size) (fun e => ?_)
    have := (hr k e.symm).1
    simp at this; omega
  case h0 => exact ⟨rfl, by simp [go_sem], by (repeat' (first | (with_reducible exact Below.refl _ _) | (with_reducible assumption) | (with_reducible refine Below.alloc ?_ ?_ _) | (with_reducible refine Below.drew ?_) | (with_reducible refine below_drewN ?_ _) | (with_reducible refine Below.setCell ?_ ?_ _) | (with_reducible refine Below.trans ?_ (Below.mono (by assumption) ?_)) | go_size))⟩
  case assign =>
    intro l a W K hK
    gi_wp2
    simpa [encU] using hK
  case body =>
    rintro l a W ⟨h1, h2⟩ ⟨hb, hcl, hbl⟩
    gi_wp2
    refine ⟨KeepsOthers.refl _, ?_, hcl, hbl⟩
    rw [← hb, BD_eq s a, if_neg (by omega), if_neg h2]
  case done =>
    rintro D a W hD hl ⟨hb, hcl, hbl⟩ hK
    gi_wp2
    refine ⟨by simp, .inl ⟨_, _, rfl, run_takeDeferred hK, ?_⟩⟩
    refine ⟨_, results_none rfl _ _ _, hbl.trans (belowK_b (w := w) (Nat.le_refl _) W D _ _ (by simp at hD; omega) hK rfl rfl), .inl ⟨?_, rfl⟩⟩
    rw [← hb, BD_eq s a, if_pos hl]
  case stop =>
    intro D c W hD h _
    exact h.elim
  case bad =>
    rintro D chain a W hD ⟨⟨h1, h2⟩, rfl⟩ ⟨hb, hcl, hbl⟩ hK
    gi_wp2
    refine ⟨by simp, .inl ⟨_, _, rfl, run_takeDeferred hK, ?_⟩⟩
    refine ⟨hbl.trans (belowK_b (w := w) (Nat.le_refl _) W D _ _ (by simp at hD; omega) hK rfl rfl), .inr ⟨a, ?_, rfl⟩⟩
    rw [← hb, BD_eq s a, if_neg (by omega), if_pos h2]
end Go.Proofs.Ytafocgnhmdhemaa
