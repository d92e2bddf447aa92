/- Small functions that tailor.Behind calls: levels, comparisons; slices.Clone at ranges. -/
import Derived.Test.YtchjjfjjcdjjcaaGreatDoorCl
import Derived.Test.YtchjjfjjcdjjcaaGreatDoorGi
namespace Go.Proofs.YtchjjfjjcdjjcaaGreatDoor
open Go.RowKit

def lvlT (x : El) : Int := if x.1 ≠ 0 then 1 else if x.2.1 ≠ 0 then 2 else if x.2.2.1 ≠ 0 then 3 else 0
set_option maxHeartbeats 400000 in
theorem tlevel_any (x : El) (w : World) : Calls Tryz.prog 59 #[elAgg x] w fun e w' => e = .returned (.int .i64 (lvlT x)) ∧ Below w.heap.size w w' := by
  obtain ⟨p, s, t, v⟩ := x
  unfold elAgg
  go_enter Tryz.func59, Tryz.ntmps59
  go_wp2
  all_goals go_ret
  all_goals refine ⟨?_, ?_⟩
  all_goals first | (go_grown; done) | simp_all [lvlT]
/-- cells that only are read -/
def CellsIn (w : World) (v : Value) (n size : Nat) : Prop :=
  ∃ p cap, v = .slice p n cap ∧ ∀ j, j < n * size → ∃ b o u, p = some ⟨b, o, none⟩ ∧ b < w.heap.size ∧ w.cell? ⟨b, o + j, none⟩ = some u ∧ u.oneCell' = true
theorem CellsIn.nil (w : World) (size : Nat) : CellsIn w (.slice none 0 0) 0 size := ⟨none, 0, rfl, fun j h => by omega⟩
theorem CellsIn.below {w w' : World} {v : Value} {n size : Nat} (h : CellsIn w v n size) (hb : Below w.heap.size w w') : CellsIn w' v n size := by
  obtain ⟨p, cap, h1, h2⟩ := h
  refine ⟨p, cap, h1, fun j hj => ?_⟩
  obtain ⟨b, o, u, e1, e2, e3, e4⟩ := h2 j hj
  exact ⟨b, o, u, e1, Nat.lt_of_lt_of_le e2 hb.size, by rw [hb.cell (p := ⟨b, o + j, none⟩) e2]; exact e3, e4⟩
theorem Tryz.infoIm : (Tryz.prog.info? 144).map (fun i => (i.zero, i.size, i.bytes)) = some (some (.agg #[.int .i32 0, .int .i32 0, .int .i64 0, .bool false]), 4, 24) := by kernel_rfl
set_option maxHeartbeats 1000000 in
set_option maxRecDepth 100000 in
theorem cloneR_any (n : Nat) (v : Value) (w : World) (hv : CellsIn w v n 4) (hx : n ≤ 1000000000) :
    Calls Tryz.prog 92 #[v] w fun e w' => ∃ p c, e = .returned (.slice p n c) ∧ Below w.heap.size w w' := by
  obtain ⟨p, cp, rfl, hc⟩ := hv
  cases p with
  | none =>
    have hn : n = 0 := by
      rcases Nat.eq_zero_or_pos n with h | h
      · exact h
      · obtain ⟨_, _, _, e, _⟩ := hc 0 (by omega); cases e
    subst hn
    have he : ∀ w, (binOp .eql 41 (.slice none 0 cp) (.slice none 0 0)).run Tryz.prog w = .ok (.bool true) w := fun w => Lib.run_eql_slice_nil w _ _ none 0 cp 0 0 Tryz.underlying41
    clear hc
    go_enter Tryz.func92, Tryz.ntmps92
    go_wp2
    go_ret
    exact ⟨_, _, rfl, Below.refl _ _⟩
  | some a =>
    have he : ∀ w, (binOp .eql 41 (.slice (some a) n cp) (.slice none 0 0)).run Tryz.prog w = .ok (.bool false) w := fun w => Lib.run_eql_slice_nil w _ _ (some a) _ cp 0 0 Tryz.underlying41
    obtain ⟨i0, hi, hz0, hz1, hz2⟩ := info_parts Tryz.infoIm
    obtain ⟨us, hul, hus⟩ : ∃ us : List Value, us.length = n * 4 ∧ ∀ (j : Nat) u, us[j]? = some u → (w.cell? (a.add j) = some u ∧ u.oneCell' = true) ∧ ∃ b o, a = ⟨b, o, none⟩ ∧ b < w.heap.size := by
      refine ⟨(List.range (n * 4)).map (fun j => (w.cell? (a.add j)).getD undef), by simp, fun j u hj => ?_⟩
      rw [List.getElem?_map] at hj
      cases hr : (List.range (n * 4))[j]? with
      | none => rw [hr] at hj; cases hj
      | some k =>
        rw [hr] at hj
        have hk := List.getElem?_eq_some_iff.1 hr
        have hjk : k = j := by rw [← hk.2]; simp
        subst hjk
        have hkl : k < n * 4 := by have := hk.1; simpa using this
        obtain ⟨b, o, u', e1, e2, e3, e4⟩ := hc k hkl
        cases e1
        rw [Option.map_some, addr_add, e3] at hj
        cases hj
        exact ⟨⟨by rw [addr_add]; exact e3, e4⟩, b, o, rfl, e2⟩
    have NW : Hid (∀ (j : Nat) u, us[j]? = some u → (w.alloc (.cells #[] 144)).cell? (a.add j) = some u) := by
      intro j u hj
      obtain ⟨⟨h1, _⟩, b, o, rfl, hl⟩ := hus j u hj
      rw [addr_add] at h1 ⊢
      rw [World.cell?_alloc_past _ _ _ hl, h1]
    have HO : Hid (∀ u ∈ us, u.oneCell' = true) := fun u hu => by
      obtain ⟨j, hj⟩ := List.mem_iff_getElem?.1 hu
      exact (hus j u hj).1.2
    have HUL := Lib.hid hul
    clear hus hul hc
    go_enter Tryz.func92, Tryz.ntmps92
    go_wp2_with (at_builtin; refine wpList_append_own _ rfl _ _ 41 rfl w.heap.size 144 i0 (.agg #[.int .i32 0, .int .i32 0, .int .i64 0, .bool false]) 4 24 Tryz.underlying41 hi hz0 hz1 hz2 rfl (by decide) _ _ _ rfl (row_none _ _ _) a n cp us rfl (by rw [HUL.out]) NW.out HO.out (by unfold maxLen; omega) (by omega) (by simp) ?_; intro v' w1 hown' hgrow _)
    have HB : Hid (Below w.heap.size w w1) := ((Below.refl _ w).alloc (Nat.le_refl _) _).grown hgrow (by simp) (fun j hj => by cases hj; exact Nat.le_refl _)
    obtain ⟨pv, cv, hve⟩ : ∃ pv cv, v' = .slice pv n cv := by
      rw [Nat.zero_add] at hown'
      rcases hown'.2 with ⟨rfl, h0⟩ | ⟨g, cap, cur, rfl, _⟩
      · exact ⟨none, 0, by rw [h0]⟩
      · exact ⟨_, _, rfl⟩
    subst hve
    clear hown' hgrow
    go_wp2
    go_ret
    exact ⟨_, _, rfl, HB.out⟩
end Go.Proofs.YtchjjfjjcdjjcaaGreatDoor
