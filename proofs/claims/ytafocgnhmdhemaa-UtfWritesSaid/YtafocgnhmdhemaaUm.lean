/- Decode's own function: it collects. -/
import Derived.Test.YtafocgnhmdhemaaUl
import Derived.RangeFuncBox
import Derived.Maps.AppendAt
namespace Go.Proofs.Ytafocgnhmdhemaa
open Go.RowKit
open PlainAid (bt)
attribute [local go_sem] Oper.semAt_some

/-- the scalars from a place on, up to the first that is none -/
def dc (s : ByteArray) : Nat → Nat → List Int
  | 0, _ => []
  | k + 1, a => if s.size ≤ a then [] else if fmN s a = 0 then [] else fmR s a :: dc s k (a + fmN s a)
theorem dc_more (s : ByteArray) : ∀ (k a : Nat), s.size < k + a → ∀ j, dc s (k + j) a = dc s k a := by
  intro k
  induction k with
  | zero =>
    intro a h j
    cases j with
    | zero => rfl
    | succ j => rw [Nat.zero_add]; unfold dc; rw [if_pos (by omega)]
  | succ k ih =>
    intro a h j
    rw [show k + 1 + j = (k + j) + 1 from by omega]
    unfold dc
    split
    · rfl
    · split
      · rfl
      · rw [ih _ (by omega) j]
def DC (s : ByteArray) (a : Nat) : List Int := dc s (s.size + 1) a
theorem DC_eq (s : ByteArray) (a : Nat) : DC s a = if s.size ≤ a then [] else if fmN s a = 0 then [] else fmR s a :: DC s (a + fmN s a) := by
  by_cases h : s.size ≤ a
  · rw [if_pos h]; unfold DC dc; rw [if_pos h]
  · rw [if_neg h]
    by_cases hz : fmN s a = 0
    · rw [if_pos hz]; unfold DC dc; rw [if_neg h, if_pos hz]
    · rw [if_neg hz]
      have e : DC s a = fmR s a :: dc s s.size (a + fmN s a) := by
        unfold DC; show dc s (s.size + 1) a = _
        rw [dc, if_neg h, if_neg hz]
      rw [e]; congr 1; exact (dc_more s s.size (a + fmN s a) (by omega) 1).symm

theorem ownsRow_weak {W : World} {base base' : Nat} {e : TypeId} {size : Nat} {v : Value} {n : Nat} {xs : List Value} (h : W.ownsRow base e size v n xs) (hb : base' ≤ base) : W.ownsRow base' e size v n xs := by
  refine ⟨h.1, ?_⟩
  rcases h.2 with h2 | ⟨g, cap, cur, hv, hg, hr⟩
  · exact .inl h2
  · exact .inr ⟨g, cap, cur, hv, by omega, hr⟩
theorem ownBlock_ge {W : World} {base : Nat} {e : TypeId} {size : Nat} {v : Value} {n : Nat} {xs : List Value} (h : W.ownsRow base e size v n xs) {j : Nat} (hj : v.ownBlock = some j) : base ≤ j := by
  rcases h.2 with ⟨rfl, _⟩ | ⟨g, cap, cur, rfl, hg, hr⟩
  · simp [Value.ownBlock] at hj
  · simp [Value.ownBlock] at hj; omega
/-- what an append to a boxed slice leaves, said of the world in which the call began -/
theorem app_box {w W w1 : World} {B : Nat} {t e : TypeId} {size : Nat} {v v' : Value} {k m : Nat} {xs ys : List Value} {tmp : Obj} (hv : Boxed W B t v) (hte : t ≠ e) (hrow : W.ownsRow w.heap.size e size v k xs)
    (ho : Only (fun k => k = B) w W) (hown' : w1.ownsRow w.heap.size e size v' m ys) (hgrow : (W.alloc tmp).grownBy w1 v.ownBlock) :
    Boxed w1 B t v ∧ Boxed (w1.setCell ⟨B, 0, none⟩ v') B t v' ∧ (w1.setCell ⟨B, 0, none⟩ v').ownsRow w.heap.size e size v' m ys ∧ KeepsOthers W (w1.setCell ⟨B, 0, none⟩ v') ∧ Only (fun k => k = B) w (w1.setCell ⟨B, 0, none⟩ v') := by
  obtain ⟨a1, a2, _, a4, _⟩ := hv.appended hte (ownsRow_weak hrow (Nat.zero_le _)) (Nat.zero_le _) (Nat.zero_le _) (ownsRow_weak hown' (Nat.zero_le _)) hgrow
  refine ⟨a1, a2, hown'.kept (grownBy_setCell' w1 B v') (.inr (a1.not_row hte hown').symm), a4, ?_⟩
  have h1 : Only (fun k => k = B) w w1 := by
    refine ⟨hgrow.os.trans ho.os, hgrow.tape.trans ho.tape, hgrow.output.trans ho.output, by have := hgrow.size; have := ho.size; simp at *; omega, fun i hi hs => ?_⟩
    have hsz := ho.size
    rw [hgrow.block i (by simp; omega) (fun e => by have := ownBlock_ge hrow e.symm; omega), Below.heap_alloc _ _ _ (by omega)]
    exact ho.block i hi hs
  exact h1.setCell (p := ⟨B, 0, none⟩) rfl _

theorem Only.putObj {S : Nat → Prop} {w W : World} (h : Only S w W) {D : Nat} {o : Obj} (hD : w.heap.size ≤ D) : Only S w (W.putObj D o) :=
  ⟨h.os, h.tape, h.output, by have := h.size; simp [World.putObj]; exact this, fun k hk hs => by rw [World.putObj_heap_other (by omega)]; exact h.block k hk hs⟩
/-- between two rounds -/
def DecAt (s : ByteArray) (bs bl : Nat) (w : World) (a : Nat) (W : World) : Prop :=
  ∃ rs : List Int, (DC s 0 = rs ++ DC s a ∧ rs.length ≤ a ∧ BD s a = BD s 0 ∧ a ≤ s.size) ∧ Boxed W bs 9 (.string s) ∧ Only (fun k => k = bl) w W ∧
    ∃ v, Boxed W bl 38 v ∧ W.ownsRow w.heap.size 21 1 v rs.length (rs.map (Value.int .i32))
theorem DecAt.own (s : ByteArray) (bs bl : Nat) (w W0 : World) (h : w.heap.size ≤ W0.heap.size) : OwnFrom W0.heap.size (DecAt s bs bl w) := by
  rintro a A A' row ⟨rs, h1, h2, h3, v, hv, hr⟩ hg hrow
  have hcells : ∀ r, row = some r → ∃ o : Obj, A.heap[r]? = some o ∧ o.isCells = false := fun r e => (hrow r e).2
  refine ⟨rs, h1, h2.kept hg (fun e' => ?_), ?_, v, hv.kept hg (fun e' => ?_), hr.kept hg ?_⟩
  · obtain ⟨o, ho, hc⟩ := hcells bs e'.symm
    rw [show A.heap[bs]? = _ from h2] at ho; cases ho; cases hc
  · refine ⟨hg.os.trans h3.os, hg.tape.trans h3.tape, hg.output.trans h3.output, Nat.le_trans h3.size hg.size, fun k hk hs => ?_⟩
    rw [hg.block k (Nat.lt_of_lt_of_le hk h3.size) (fun e => by have := (hrow k e.symm).1; omega)]
    exact h3.block k hk hs
  · obtain ⟨o, ho, hc⟩ := hcells bl e'.symm
    rw [show A.heap[bl]? = _ from hv] at ho; cases ho; cases hc
  · rcases hr.2 with ⟨rfl, _⟩ | ⟨g, cap, cur, rfl, _, hgb, _⟩
    · exact .inl rfl
    · refine .inr fun e' => ?_
      obtain ⟨o, ho, hc⟩ := hcells g (by simpa [Value.ownBlock] using e'.symm)
      rw [hgb] at ho; cases ho; cases hc
/-- how Decode's function ends -/
def DecEnd (s : ByteArray) (bl : Nat) (w : World) (e : Ending) (w' : World) : Prop :=
  Only (fun k => k = bl) w w' ∧ ((BD s 0 = none ∧ e = .returned (.tuple #[]) ∧ ∃ v, Boxed w' bl 38 v ∧ w'.ownsRow w.heap.size 21 1 v (DC s 0).length ((DC s 0).map (Value.int .i32))) ∨
    (∃ a, BD s 0 = some a ∧ e = .panicked (chainU a)))
theorem Try.info21 : (Try.prog.info? 21).map (fun i => (i.zero, i.size, i.bytes)) = some (some (.int .i32 0), 1, 4) := by kernel_rfl

set_option maxHeartbeats 2000000 in
set_option maxRecDepth 100000 in
theorem dec1_any (s : ByteArray) (bs bl : Nat) (w : World) (hs : s.size ≤ 35184372088000) (hc : w.cell? ⟨bs, 0, none⟩ = some (.string s)) (hl : Boxed w bl 38 (.slice none 0 0)) :
    Calls Try.prog 38 #[.pointer (some ⟨bs, 0, none⟩), .pointer (some ⟨bl, 0, none⟩)] w (DecEnd s bl w) := by
  have hs2 : s.size ≤ 140737488351232 := by omega
  have hbl : bl < w.heap.size := hl.lt
  have hbs : bs < w.heap.size := by
    rcases Nat.lt_or_ge bs w.heap.size with h' | h'
    · exact h'
    · simp [World.cell?, Array.getElem?_eq_none h'] at hc
  have hne : bs ≠ bl := by
    intro e; subst e; rw [hl.cell] at hc; cases hc
  obtain ⟨i0, hi, hz0, hz1, hz2⟩ := info_parts Try.info21
  refine callsIn_wide (n := 0) |>.1 ?_
  refine callsIn_of_wp_marks Try.func38 rfl trivial ?_ rfl
  simp only [Try.ntmps38, List.size_toArray, List.length_cons, List.length_nil, Nat.reduceAdd, Nat.reduceSub, Array.replicate_succ, Array.replicate_zero, List.push_toArray, List.append_toArray, List.nil_append, List.cons_append]
  gi_wp2_with fail
  refine ⟨trivial, rfl, (callsIn_wide.2 (all_any _ _)).mono ?_⟩
  rintro e w1 ⟨rfl, rfl⟩
  gi_wp2_with fail
  refine wp_range (gf := 41) (lb := #[.pointer (some ⟨w.heap.size, 0, none⟩)]) rfl (enters_of Try.func41 (by kernel_rfl) rfl) (all1_iter s hs2 w.heap.size) (fun _ => rfl)
    (fun a W => DecAt s w.heap.size bl w a W) (fun _ _ => False) (DecAt.own s w.heap.size bl w _ (by simp)) (fun _ _ _ _ h _ _ => h) (fun a A ⟨_, _, h, _⟩ => h.cell) ?h0
    (fun a => { tmps := #[.pointer (some ⟨bs, 0, none⟩), .pointer (some ⟨bl, 0, none⟩), undef, .int .i32 (fmR s a), .string s, .func (.func 41) #[] #[.pointer (some ⟨w.heap.size, 0, none⟩)], .int .i64 a, .int .i32 (fmR s a), undef, undef, undef, undef], defers := [] }) ?assign ?body ?done ?stop ?bad
  case h0 => exact ⟨[], ⟨rfl, Nat.le_refl _, rfl, Nat.zero_le _⟩, Boxed.new _ _ _, (Only.refl _ w).alloc _, _, hl.alloc _, World.ownsRow_nil _ _ _ _⟩
  case assign =>
    intro l a W K hK
    simp [encU]
    gi_wp2
    exact hK
  case body =>
    rintro l a W ⟨h1, h2⟩ ⟨rs, ⟨hd, hlen, hb, has⟩, hcs, ho, v, hv, hrow⟩
    have hcv := hv.cell
    have hsz := ho.size
    have hle := fmN_size s a h2
    gi_wp2_with (gi_at_builtin; refine wpListIn_append_own _ rfl _ _ 38 rfl w.heap.size 21 i0 (.int .i32 0) 1 4 Try.underlying38 hi hz0 hz1 hz2 rfl (by decide) _ _ _ rfl (hrow.alloc _) ⟨W.heap.size, 0, none⟩ 1 1 [.int .i32 (fmR s a)] rfl rfl (cell_one_new _ _ _) (by simp [Value.oneCell']) (by unfold maxLen; omega) (by omega) (by simp; omega) ?_; intro v' w1 hown' hgrow _; obtain ⟨g', cap', rfl⟩ := ownsRow_succ hown'; obtain ⟨hv1, hv2, hr2, hk2, ho2⟩ := app_box hv (by decide) hrow ho hown' hgrow; have hc1 := hv1.cell; have hf1 := hv1.frozen)
    refine ⟨hk2, rs ++ [fmR s a], ⟨?_, ?_, ?_, hle⟩, ?_, ho2, _, hv2, ?_⟩
    · rw [hd, DC_eq s a, if_neg (by omega), if_neg h2]; simp
    · simp; omega
    · rw [← hb, BD_eq s a, if_neg (by omega), if_neg h2]
    · have hbx : Boxed w1 w.heap.size 9 (.string s) := (hcs.alloc _).kept hgrow (hcs.not_row (by decide) hrow)
      exact hbx.other (by omega) _
    · simpa using hr2
  case stop =>
    intro D c W hD h _
    exact h.elim
  case done =>
    rintro D a W hD hl ⟨rs, ⟨hd, hlen, hb, has⟩, hcs, ho, v, hv, hrow⟩ hK
    gi_wp2
    refine ⟨by simp, .inl ⟨_, _, rfl, run_takeDeferred hK, ?_⟩⟩
    have hrs : rs = DC s 0 := by rw [hd, DC_eq s a, if_pos hl, List.append_nil]
    subst hrs
    simp only [World.size_alloc] at hD
    refine ⟨_, results_none rfl _ _ _, ho.putObj (by omega), .inl ⟨by rw [← hb, BD_eq s a, if_pos hl], rfl, v, hv.kept (grownBy_putObj' _ _ _) (fun e => by cases e; omega), ownsRow_putObj hrow _ hK rfl⟩⟩
  case bad =>
    rintro D chain a W hD ⟨⟨h1, h2⟩, rfl⟩ ⟨rs, ⟨hd, hlen, hb, has⟩, hcs, ho, v, hv, hrow⟩ hK
    gi_wp2
    refine ⟨by simp, .inl ⟨_, _, rfl, run_takeDeferred hK, ?_⟩⟩
    simp only [World.size_alloc] at hD
    exact ⟨ho.putObj (by omega), .inr ⟨a, by rw [← hb, BD_eq s a, if_neg (by omega), if_pos h2], rfl⟩⟩
end Go.Proofs.Ytafocgnhmdhemaa
