/- slices.Clone at runes. slices.Clone at runes and at elements; a new node; an entry in memory of its own. Which elements may be: package weight's test and the reference's. An entry in memory of its own; why an entry may not be. Why an entry may not be: package trie's test. The counter: sync/atomic's Int64. -/
import Derived.Test.YtnglhgogkemgbaaGreatDoorG08
import Derived.Test.YtnglhgogkemgbaaGreatDoorG02
import Derived.Lib.SliceRun
import Derived.Maps.AppendAt
import Derived.Deep.RegionWith
import Derived.Laws.Externs
namespace Go.Proofs.YtnglhgogkemgbaaGreatDoor
open Go.RowKit

theorem Tryz.infoI : (Tryz.prog.info? 21).map (fun i => (i.zero, i.size, i.bytes)) = some (some (.int .i32 0), 1, 4) := by kernel_rfl

set_option maxHeartbeats 1000000 in
set_option maxRecDepth 100000 in
theorem cloneI_any (R : Nat → Prop) (xs : List Int) (v : Value) (w : World) (hv : IntsIn R .i32 w v xs) (hx : xs.length * 4 ≤ 140737488351232) :
    Calls Tryz.prog 137 #[v] w fun e w' => ∃ v', e = .returned v' ∧ IntsIn (Lf w.heap.size w') .i32 w' v' xs ∧ Below w.heap.size w w' := by
  have HV := Lib.hid hv
  obtain ⟨p, cp, rfl, _⟩ := hv
  have HX := Lib.hid hx
  clear hx
  cases p with
  | none =>
    have hn : xs = [] := by
      cases xs with
      | nil => rfl
      | cons x xs => obtain ⟨_, _, e, _⟩ := HV.out.at 0 (by simp); cases e
    subst hn
    simp only [List.length_nil]
    have he : ∀ w, (binOp .eql 42 (.slice none 0 cp) (.slice none 0 0)).run Tryz.prog w = .ok (.bool true) w := fun w => Lib.run_eql_slice_nil w _ _ none 0 cp 0 0 Tryz.underlying42
    go_enter Tryz.func137, Tryz.ntmps137
    go_wp2
    go_ret
    exact ⟨_, rfl, .nil _ _ _, Below.refl _ _⟩
  | some a =>
    have he : ∀ w, (binOp .eql 42 (.slice (some a) xs.length cp) (.slice none 0 0)).run Tryz.prog w = .ok (.bool false) w := fun w => Lib.run_eql_slice_nil w _ _ (some a) _ cp 0 0 Tryz.underlying42
    obtain ⟨i0, hi, hz0, hz1, hz2⟩ := info_parts Tryz.infoI
    have NW : Hid (∀ (j : Nat) u, (xs.map (Value.int .i32))[j]? = some u → (w.alloc (.cells #[] 21)).cell? (a.add j) = some u) := by
      intro j u hj
      rw [List.getElem?_map] at hj
      cases hx : xs[j]? with
      | none => rw [hx] at hj; cases hj
      | some x =>
        rw [hx] at hj; cases hj
        obtain ⟨b, o, e, _, hl, hc⟩ := HV.out.at j (List.getElem?_eq_some_iff.1 hx).1
        cases e
        rw [addr_add, World.cell?_alloc_past _ _ _ hl, hc, List.getD_eq_getElem?_getD, hx]; rfl
    go_enter Tryz.func137, Tryz.ntmps137
    go_wp2_with (at_builtin; refine wpList_append_own _ rfl _ _ 42 rfl w.heap.size 21 i0 (.int .i32 0) 1 4 Tryz.underlying42 hi hz0 hz1 hz2 rfl (by decide) _ _ _ rfl (row_none _ _ _) a xs.length cp (xs.map (Value.int .i32)) rfl (by simp) NW.out (by simp [Value.oneCell']) (by unfold maxLen; have := HX.out; omega) (by have := HX.out; omega) (by simp) ?_; intro v' w1 hown' hgrow _)
    have HI := Lib.hid (intsIn_row (k := .i32) (by simpa using hown'))
    have HB : Hid (Below w.heap.size w w1) := ((Below.refl _ w).alloc (Nat.le_refl _) _).grown hgrow (by simp) (fun j hj => by cases hj; exact Nat.le_refl _)
    clear hown' hgrow
    obtain ⟨pv, cv, hve, _⟩ := HI.out
    subst hve
    go_wp2
    go_ret
    exact ⟨_, rfl, HI.out, HB.out⟩
end Go.Proofs.YtnglhgogkemgbaaGreatDoor
namespace Go.Proofs.YtnglhgogkemgbaaGreatDoor
open Go.RowKit

set_option maxRecDepth 100000 in
theorem fresh_any (w : World) :
    Calls Tryz.prog 95 #[] w fun e w' => e = .returned (.pointer (some ⟨w.heap.size + 1, 0, none⟩)) ∧ (w.alloc (.map #[] 0)).alloc (.cells #[.map (some w.heap.size), .int .i64 (-1)] 181) = w' := by
  have hmm := @run_makeMap Tryz.prog
  go_enter Tryz.func95, Tryz.ntmps95
  go_wp2
  go_ret
  exact ⟨rfl, rfl⟩
end Go.Proofs.YtnglhgogkemgbaaGreatDoor
namespace Go.Proofs.YtnglhgogkemgbaaGreatDoor
open Go.RowKit

set_option maxHeartbeats 2000000 in
set_option maxRecDepth 100000 in
theorem wrcheck_any (p s t : Int) (v : Bool) (w : World) :
    Calls Tryz.prog 61 #[.agg #[.int .i64 p, .int .i64 s, .int .i64 t, .bool v]] w fun e w' => e = .returned (.int .i64 (chk p s t v)) ∧ Below w.heap.size w w' := by
  by_cases hg : (0 ≤ p ∧ p ≤ 65535) ∧ (0 ≤ s ∧ s ≤ 511) ∧ (0 ≤ t ∧ t ≤ 63)
  · obtain ⟨⟨p0, p1⟩, ⟨s0, s1⟩, ⟨t0, t1⟩⟩ := hg
    go_enter Tryz.func61, Tryz.ntmps61
    go_wp2
    all_goals go_ret
    all_goals refine ⟨?_, ?_⟩
    all_goals first | (go_grown; done) | (simp_all [chk, okB, inB]; done) | (simp_all [chk, okB, inB]; intros; omega)
  · have hc : chk p s t v = 70 := by
      unfold chk; rw [if_neg]
      intro h
      simp [okB, inB] at h
      omega
    rw [hc]
    go_enter Tryz.func61, Tryz.ntmps61
    go_wp2
    all_goals first
      | (go_ret; exact ⟨rfl, by (repeat' (first | (with_reducible exact Below.refl _ _) | (with_reducible assumption) | (with_reducible refine Below.alloc ?_ ?_ _) | (with_reducible refine Below.drew ?_) | (with_reducible refine below_drewN ?_ _) | (with_reducible refine Below.setCell ?_ ?_ _) | (with_reducible refine Below.trans ?_ (Below.mono (by assumption) ?_)) | go_size))⟩)
      | (exfalso; omega)
end Go.Proofs.YtnglhgogkemgbaaGreatDoor
namespace Go.Proofs.YtnglhgogkemgbaaGreatDoor
open Go.RowKit

theorem below_step {n : Nat} {w W0 w1 : World} (h : Below n w W0) (hn : n ≤ W0.heap.size) (h1 : Below W0.drew.heap.size W0.drew w1) : Below n w w1 := h.drew.trans (h1.mono hn)
/-- an entry's two slices, in new memory -/
def TwinEnd (x : Ent) (w : World) (e : Ending) (w' : World) : Prop :=
  ∃ c u, e = .returned (.agg #[c, u]) ∧ IntsIn (Lf w.heap.size w') .i32 w' c x.1 ∧ ElsIn (Lf w.heap.size w') w' u x.2 ∧ Below w.heap.size w w'

theorem tw_kept {w w1 w2 : World} {a b : Value} (h : Below w1.heap.size w1 w2) : Kept (fun b => w.heap.size + 2 ≤ b) w1 ((w2.setCell ⟨w.heap.size + 1, 0, none⟩ a).setCell ⟨w.heap.size + 1, 1, none⟩ b) := by
  refine ⟨by have := h.size; simpa [World.setCell] using this, fun b hb hl => ?_⟩
  rw [Below.heap_setCell _ _ _ _ (show b ≠ w.heap.size + 1 by omega), Below.heap_setCell _ _ _ _ (show b ≠ w.heap.size + 1 by omega)]
  exact h.block b hl
/-- what the two blocks of twin hold till the end -/
def TwS (c u : Value) (w W : World) : Prop := w.heap.size + 1 < W.heap.size ∧ W.heap[w.heap.size]? = some (.cells #[c, u] 45 (0, 0)) ∧ W.heap[w.heap.size + 1]? = some (.cells #[.slice none 0 0, .slice none 0 0] 45 (0, 0))
theorem TwS.cells {c u : Value} {w W : World} (h : TwS c u w W) : W.cell? ⟨w.heap.size, 0, none⟩ = some c ∧ W.cell? ⟨w.heap.size, 1, none⟩ = some u ∧ W.cell? ⟨w.heap.size + 1, 0, none⟩ = some (.slice none 0 0) ∧ W.cell? ⟨w.heap.size + 1, 1, none⟩ = some (.slice none 0 0) ∧
    W.frozen? ⟨w.heap.size + 1, 0, none⟩ = false ∧ W.frozen? ⟨w.heap.size + 1, 1, none⟩ = false ∧ w.heap.size + 1 < W.heap.size := by
  obtain ⟨h1, h2, h3⟩ := h
  refine ⟨?_, ?_, ?_, ?_, ?_, ?_, h1⟩ <;> simp [World.cell?, World.frozen?, h2, h3]
theorem TwS.up {c u : Value} {w W W1 : World} (h : TwS c u w W) (hb : Below W.heap.size W W1) : TwS c u w W1 :=
  ⟨Nat.lt_of_lt_of_le h.1 hb.size, (hb.block _ (Nat.lt_of_succ_lt h.1)).trans h.2.1, (hb.block _ h.1).trans h.2.2⟩

set_option maxHeartbeats 4000000 in
set_option maxRecDepth 100000 in
theorem twin_any (R : Nat → Prop) (x : Ent) (c u : Value) (w : World) (hc : IntsIn R .i32 w c x.1) (hu : ElsIn R w u x.2) (h1 : x.1.length * 4 ≤ 140737488351232) (h2 : x.2.length * 32 ≤ 140737488351232) :
    Calls Tryz.prog 97 #[.agg #[c, u]] w (TwinEnd x w) := by
  have HC := Lib.hid hc
  have HU := Lib.hid hu
  have H1 := Lib.hid h1
  have H2 := Lib.hid h2
  clear hc hu h1 h2
  go_enter Tryz.func97, Tryz.ntmps97
  go_wp2
  generalize hW : ((w.alloc (.cells #[c, u] 45)).alloc (.cells #[.slice none 0 0, .slice none 0 0] 45)) = W0
  have HZ : Hid (W0.heap.size = w.heap.size + 2) := by show _ = _; rw [← hW]; simp
  have HB : Hid (Below w.heap.size w W0) := by rw [← hW]; exact ((Below.refl _ _).alloc (Nat.le_refl _) _).alloc (by simp) _
  have HS : Hid (TwS c u w W0) := by
    rw [← hW]
    refine ⟨by simp, ?_, ?_⟩
    · have := (World.alloc_heap_new w (.cells #[c, u] 45)); exact (Below.heap_alloc _ _ _ (by simp)).trans this
    · have := World.alloc_heap_new (w.alloc (.cells #[c, u] 45)) (.cells #[.slice none 0 0, .slice none 0 0] 45); rwa [World.size_alloc] at this
  obtain ⟨k0, k1, r0, r1, f0, f1, hlt⟩ := HS.out.cells
  have HN : Hid (w.heap.size ≤ W0.heap.size) := (show w.heap.size ≤ W0.heap.size by omega)
  clear hW
  go_region_with (first
    | (refine (cloneI_any R x.1 c _ (HC.out.kept (Kept.below (by first | exact HB.out.drew | exact below_step HB.out HN.out hb2))) H1.out).mono ?_; rintro e w1 ⟨v1, rfl, g1, hb1⟩; have hs1 : TwS c u w w1 := (by first | exact (show TwS c u w W0.drew from HS.out).up hb1 | exact hs2.up hb1); obtain ⟨k01, k11, r01, r11, f01, f11, hlt1⟩ := hs1.cells; have G1 := Lib.hid g1; have B1 := Lib.hid hb1; obtain ⟨p1, cp1, rfl, _⟩ := g1)
    | (refine (cloneE_any R x.2 u _ (HU.out.kept (Kept.below (by first | exact HB.out.drew | exact below_step HB.out HN.out hb1))) H2.out).mono ?_; rintro e w2 ⟨v2, rfl, g2, hb2⟩; have hs2 : TwS c u w w2 := (by first | exact (show TwS c u w W0.drew from HS.out).up hb2 | exact hs1.up hb2); obtain ⟨k02, k12, r02, r12, f02, f12, hlt2⟩ := hs2.cells; have G2 := Lib.hid g2; have B2 := Lib.hid hb2; obtain ⟨p2, cp2, rfl, _⟩ := g2))
  all_goals
    go_wp2
    refine bodyPost_ret (v := .agg #[.slice p1 x.1.length cp1, .slice p2 x.2.length cp2]) (by simp [results, Tryz.results97, go_sem, r02, r12, r01, r11, hlt1, hlt2]) rfl ?_
    have z1 := B1.out.size
    have z2 := B2.out.size
    have z0 := HZ.out
    simp only [World.size_drew] at z1 z2
    refine ⟨_, _, rfl, ?_, ?_, ?_⟩
    · exact G1.out.lf ((tw_kept (w := w) (by first | exact B2.out | exact Below.refl _ _)).sub (fun b hb => by have := hb.1; (try simp only [World.size_drew] at this); omega)) (by (try simp only [World.size_drew]); omega)
    · exact G2.out.lf ((tw_kept (w := w) (by first | exact B1.out | exact Below.refl _ _)).sub (fun b hb => by have := hb.1; (try simp only [World.size_drew] at this); omega)) (by (try simp only [World.size_drew]); omega)
    · refine Below.setCell (Below.setCell ?_ (Nat.le_succ _) _) (Nat.le_succ _) _
      first
        | exact (below_step HB.out HN.out B1.out).trans (B2.out.mono (by omega))
        | exact (below_step HB.out HN.out B2.out).trans (B1.out.mono (by omega))
end Go.Proofs.YtnglhgogkemgbaaGreatDoor
namespace Go.Proofs.YtnglhgogkemgbaaGreatDoor
open Go.RowKit

/-- an element may be -/
def okE (y : El) : Bool := chk y.1 y.2.1 y.2.2.1 y.2.2.2 == 0
def eErr (x : Ent) : Int :=
  if x.1.length < 1 ∨ 8 < x.1.length ∨ x.1.all pt = false then 90 else if 16 < x.2.length then 2 else if x.2.all okE = true then 0 else 70
theorem eErr_seq {x : Ent} (h : x.1.length < 1 ∨ 8 < x.1.length ∨ x.1.all pt = false) : eErr x = 90 := if_pos h
theorem eErr_long {x : Ent} (h : ¬ (x.1.length < 1 ∨ 8 < x.1.length ∨ x.1.all pt = false)) (h2 : 16 < x.2.length) : eErr x = 2 := by unfold eErr; rw [if_neg h, if_pos h2]
theorem eErr_ok {x : Ent} (h : ¬ (x.1.length < 1 ∨ 8 < x.1.length ∨ x.1.all pt = false)) (h2 : ¬ 16 < x.2.length) (h3 : ∀ y ∈ x.2, okE y = true) : eErr x = 0 := by
  unfold eErr; rw [if_neg h, if_neg h2, if_pos (List.all_eq_true.2 h3)]
theorem eErr_weight {x : Ent} (h : ¬ (x.1.length < 1 ∨ 8 < x.1.length ∨ x.1.all pt = false)) (h2 : ¬ 16 < x.2.length) {k : Nat} {y : El} (hk : x.2[k]? = some y) (h3 : okE y = false) : eErr x = 70 := by
  unfold eErr; rw [if_neg h, if_neg h2, if_neg]
  intro ha
  rw [List.all_eq_true] at ha
  rw [ha y (List.mem_of_getElem? hk)] at h3; cases h3
theorem eErr_zero {x : Ent} (h : eErr x = 0) : 1 ≤ x.1.length ∧ x.1.length ≤ 8 ∧ (∀ r ∈ x.1, pt r = true) ∧ x.2.length ≤ 16 ∧ (∀ y ∈ x.2, okE y = true) := by
  unfold eErr at h
  by_cases c : x.1.length < 1 ∨ 8 < x.1.length ∨ x.1.all pt = false
  · rw [if_pos c] at h; cases h
  · rw [if_neg c] at h
    by_cases c2 : 16 < x.2.length
    · rw [if_pos c2] at h; cases h
    · rw [if_neg c2] at h
      by_cases c3 : x.2.all okE = true
      · have hp : x.1.all pt = true := by
          cases hp : x.1.all pt
          · exact absurd (.inr (.inr hp)) c
          · rfl
        exact ⟨by omega, by omega, List.all_eq_true.1 hp, by omega, List.all_eq_true.1 c3⟩
      · rw [if_neg c3] at h; cases h
theorem take_all {xs : List El} {k : Nat} {y : El} (hk : xs[k]? = some y) (h : ∀ z ∈ xs.take k, okE z = true) (hy : okE y = true) : ∀ z ∈ xs.take (k + 1), okE z = true := by
  intro z hz
  rw [List.take_add_one, hk] at hz
  rcases List.mem_append.1 hz with hz | hz
  · exact h z hz
  · simp at hz; rw [hz]; exact hy

set_option maxHeartbeats 4000000 in
set_option maxRecDepth 100000 in
theorem may_any (R : Nat → Prop) (x : Ent) (c u : Value) (w : World) (hc : IntsIn R .i32 w c x.1) (hu : ElsIn R w u x.2) (h1 : x.1.length * 4 ≤ 140737488351232) (h2 : x.2.length * 32 ≤ 140737488351232) :
    Calls Tryz.prog 96 #[.agg #[c, u]] w fun e w' => e = .returned (.int .i64 (eErr x)) ∧ Below w.heap.size w w' := by
  have HC := Lib.hid hc
  have HU := Lib.hid hu
  obtain ⟨p, cp, rfl, _⟩ := hc
  obtain ⟨q, cq, rfl, _⟩ := hu
  have H1 := Lib.hid h1
  have H2 := Lib.hid h2
  have l1 : x.1.length ≤ 35184372087808 := by omega
  have l2 : x.2.length ≤ 4398046510976 := by omega
  clear h1 h2
  by_cases ha : x.1.length < 1
  · have HE := Lib.hid (eErr_seq (x := x) (.inl ha))
    have ha1 : decide ((x.1.length : Int) < 1) = true := decide_eq_true (by omega)
    have ha2 : decide (x.1.length < 1) = true := decide_eq_true ha
    have ha3 : x.1.length = 0 := by omega
    go_enter Tryz.func96, Tryz.ntmps96
    go_wp2
    go_ret
    exact ⟨by rw [HE.out]; rfl, (Below.refl _ _).alloc (Nat.le_refl _) _⟩
  have ha1 : decide ((x.1.length : Int) < 1) = false := decide_eq_false (by omega)
  have ha2 : decide (x.1.length < 1) = false := decide_eq_false ha
  by_cases hb : 8 < x.1.length
  · have HE := Lib.hid (eErr_seq (x := x) (.inr (.inl hb)))
    have hb1 : decide ((8 : Int) < (x.1.length : Int)) = true := decide_eq_true (by omega)
    have hb2 : decide (8 < x.1.length) = true := decide_eq_true hb
    clear ha hb
    go_enter Tryz.func96, Tryz.ntmps96
    go_wp2
    go_ret
    exact ⟨by rw [HE.out]; rfl, (Below.refl _ _).alloc (Nat.le_refl _) _⟩
  have hb1 : decide ((8 : Int) < (x.1.length : Int)) = false := decide_eq_false (by omega)
  have hb2 : decide (8 < x.1.length) = false := decide_eq_false hb
  cases hp : x.1.all pt
  · have HE := Lib.hid (eErr_seq (x := x) (.inr (.inr hp)))
    have hm : x.1.length ≤ maxLen := by unfold maxLen; omega
    have HM := Lib.hid hm
    have HA : Hid (x.1.all pt = false) := hp
    clear ha hb hm hp
    go_enter Tryz.func96, Tryz.ntmps96
    go_wp2_with fail
    refine (allp_any R x.1 _ _ (HC.out.kept (Kept.below ((Below.refl _ _).alloc (Nat.le_refl _) _))) HM.out).mono ?_
    rw [HA.out]
    rintro e w1 ⟨rfl, hb1'⟩
    go_wp2_with fail
    go_ret
    exact ⟨by rw [HE.out]; rfl, ((Below.refl _ _).alloc (Nat.le_refl _) _).trans (hb1'.mono (by simp))⟩
  · have hm : x.1.length ≤ maxLen := by unfold maxLen; omega
    have HM := Lib.hid hm
    have HA : Hid (x.1.all pt = true) := hp
    have HN : Hid (¬ (x.1.length < 1 ∨ 8 < x.1.length ∨ x.1.all pt = false)) := fun h => h.elim ha (fun h => h.elim hb (fun h => by rw [hp] at h; cases h))
    by_cases hl : 16 < x.2.length
    · have HE := Lib.hid (eErr_long HN.out hl)
      have hl1 : decide ((16 : Int) < (x.2.length : Int)) = true := decide_eq_true (by omega)
      have hl2 : decide (16 < x.2.length) = true := decide_eq_true hl
      clear ha hb hm hp hl
      go_enter Tryz.func96, Tryz.ntmps96
      go_wp2_with fail
      refine (allp_any R x.1 _ _ (HC.out.kept (Kept.below ((Below.refl _ _).alloc (Nat.le_refl _) _))) HM.out).mono ?_
      rw [HA.out]
      rintro e w1 ⟨rfl, hb1'⟩
      obtain ⟨bc, bf⟩ := bcell hb1'
      have HB := Lib.hid hb1'
      clear hb1'
      go_wp2_with fail
      go_ret
      exact ⟨by rw [HE.out]; rfl, ((Below.refl _ _).alloc (Nat.le_refl _) _).trans (HB.out.mono (by simp))⟩
    · have hl1 : decide ((16 : Int) < (x.2.length : Int)) = false := decide_eq_false (by omega)
      have hl2 : decide (16 < x.2.length) = false := decide_eq_false hl
      have HL := Lib.hid hl
      clear ha hb hm hp hl
      go_enter Tryz.func96, Tryz.ntmps96
      go_wp2_with fail
      refine (allp_any R x.1 _ _ (HC.out.kept (Kept.below ((Below.refl _ _).alloc (Nat.le_refl _) _))) HM.out).mono ?_
      rw [HA.out]
      rintro e w1 ⟨rfl, hb1'⟩
      have k1 : w1.cell? ⟨w.heap.size, 1, none⟩ = some (.slice q x.2.length cq) := by rw [hb1'.cell (p := ⟨w.heap.size, 1, none⟩) (by simp)]; simp [go_sem]
      have HB : Hid (Below w.heap.size w w1) := ((Below.refl _ _).alloc (Nat.le_refl _) _).trans (hb1'.mono (by simp))
      clear hb1'
      go_wp2
      go_loopw [28] (fun i wr => ∃ k : Nat, i = .int .i64 k ∧ (k ≤ x.2.length ∧ ∀ z ∈ x.2.take k, okE z = true) ∧ Below w1.heap.size w1 wr) (fun i _ => x.2.length - (intOf i).toNat)
      case atStart => exact ⟨0, rfl, ⟨Nat.zero_le _, by simp⟩, Below.refl _ _⟩
      case round =>
        obtain ⟨k, rfl, hr, hbr⟩ := hrel
        have HR := Lib.hid hr
        have HBR := Lib.hid hbr
        clear hr hbr
        by_cases hlt : k < x.2.length
        · have hlt' : decide (k < x.2.length) = true := decide_eq_true hlt
          obtain ⟨y, hy⟩ : ∃ y, x.2[k]? = some y := ⟨x.2[k], List.getElem?_eq_getElem hlt⟩
          obtain ⟨b', o, rfl, _, hbl, c0, c1, c2, c3⟩ := (HU.out.kept (Kept.below (HB.out.trans (HBR.out.mono HB.out.size)))).at k y hy
          have HY := Lib.hid hy
          have HLT := Lib.hid hlt
          obtain ⟨yp, ys, yt, yv⟩ := y
          simp only at c0 c1 c2 c3
          clear hy hlt
          cases hk : okE (yp, ys, yt, yv)
          · have HE := Lib.hid (eErr_weight HN.out HL.out HY.out hk)
            have hne : (chk yp ys yt yv != 0) = true := by have := hk; unfold okE at this; simp only at this; rw [bne, this]; rfl
            clear hk
            go_wp2_with fail
            refine (check_any _ _ _ _ _).mono ?_
            rintro e w2 ⟨rfl, hb2'⟩
            have HB2 := Lib.hid hb2'
            clear hb2'
            go_wp2_with fail
            go_ret
            exact ⟨by rw [HE.out]; rfl, (HB.out.trans (HBR.out.mono HB.out.size)).trans ((((Below.refl _ wr).alloc (Nat.le_refl _) _).trans (HB2.out.mono (by simp))).mono (Nat.le_trans HB.out.size HBR.out.size))⟩
          · have HT := Lib.hid (take_all HY.out HR.out.2 hk)
            have hne : (chk yp ys yt yv != 0) = false := by have := hk; unfold okE at this; simp only at this; rw [bne, this]; rfl
            clear hk
            go_wp2_with fail
            refine (check_any _ _ _ _ _).mono ?_
            rintro e w2 ⟨rfl, hb2'⟩
            have HB2 := Lib.hid hb2'
            clear hb2'
            go_wp2_with fail
            go_roundw
            case rel => exact ⟨k + 1, by go_num, ⟨HLT.out, HT.out⟩, HBR.out.trans ((((Below.refl _ wr).alloc (Nat.le_refl _) _).trans (HB2.out.mono (by simp))).mono HBR.out.size)⟩
            case measure => (have hq := HLT.out; simp [intOf]; omega)
        · have hlt' : decide (k < x.2.length) = false := decide_eq_false hlt
          have HE := Lib.hid (eErr_ok HN.out HL.out (by have := HR.out.2; rwa [List.take_of_length_le (by omega)] at this))
          clear hlt
          go_wp2_with fail
          go_ret
          exact ⟨by rw [HE.out]; rfl, HB.out.trans (HBR.out.mono HB.out.size)⟩
end Go.Proofs.YtnglhgogkemgbaaGreatDoor
namespace Go.Proofs.YtnglhgogkemgbaaGreatDoor
open Go.RowKit

set_option maxHeartbeats 1000000 in
theorem run_add64 {P : Program} (b o : Nat) (x : Int) (w : World) (hc : w.cell? ⟨b, o, none⟩ = some (.int .i64 x)) (hf : w.frozen? ⟨b, o, none⟩ = false) (h0 : 0 ≤ x) (h1 : x < 1000000) :
    (Extern.Atomic.update (Op.intArith .add) .i64 true #[.pointer (some ⟨b, o, none⟩), .int .i64 1]).run P w = .ok (.int .i64 (x + 1)) (w.setCell ⟨b, o, none⟩ (.int .i64 (x + 1))) := by
  have hw : IntKind.i64.wrap (x + 1) = x + 1 := by rw [IntKind.wrap_i64]; omega
  change Sem.run P (do
    let a ← asAddr (.pointer (some ⟨b, o, none⟩))
    let old ← Extern.Atomic.read (.int .i64) a
    let new ← Op.intArith .add .i64 (← asInt old) (← asInt (.int .i64 1))
    store a new .atomic
    pure (if true = true then new else old)) w = _
  simp [Extern.Atomic.read, go_sem, hc, hf, Op.intArith, hw]
set_option maxHeartbeats 1000000 in
set_option maxRecDepth 100000 in
theorem add_any (b o : Nat) (x : Int) (w : World) (hc : w.cell? ⟨b, o, none⟩ = some (.int .i64 x)) (hf : w.frozen? ⟨b, o, none⟩ = false) (h0 : 0 ≤ x) (h1 : x < 1000000) :
    Calls Tryz.prog 102 #[.pointer (some ⟨b, o, none⟩), .int .i64 1] w fun e w' => e = .returned (.int .i64 (x + 1)) ∧ w.setCell ⟨b, o, none⟩ (.int .i64 (x + 1)) = w' := by
  have HR := Lib.hid (run_add64 (P := Tryz.prog) b o x w hc hf h0 h1)
  go_enter Tryz.func102, Tryz.ntmps102
  go_wp2
  rw [run_callFunc_extern Tryz.func142 (by kernel_rfl) (by kernel_rfl) (by kernel_rfl) (e := Extern.Atomic.update (Op.intArith .add) .i64 true) (by kernel_rfl), HR.out]
  simp only [Result.andThen]
  rw [Oper.upon_value]
  go_wp2
  go_ret
  exact ⟨rfl, rfl⟩
end Go.Proofs.YtnglhgogkemgbaaGreatDoor
