/- NormNone. -/
import Derived.Test.YtlldoofclaokgaaGreatOi
namespace Go.Proofs.YtlldoofclaokgaaGreat
open Go.RowKit

theorem none_nfd (r : Int) (h : sc r = true) : nfdE [r] = 0 ∧ nfdOf (fun _ => 0) (fun r => [r]) [r] = [r] := by
  have h1 : nfdE [r] = 0 := by unfold nfdE; simp [h]
  refine ⟨h1, ?_⟩
  unfold nfdOf
  rw [h1]
  simp [ordL, insC]
set_option maxHeartbeats 4000000 in
set_option maxRecDepth 1000000 in
theorem none6_law (r : Int) (w : World) : Calls Tryz.prog 5 #[.int .i32 r] w fun e w' => e = .returned (.bool true) ∧ Below w.heap.size w w' := by
  go_enter Tryz.func5, Tryz.ntmps5
  go_wp2_with fail
  refine (awake6_any _).mono ?_
  rintro e w1 ⟨rfl, hb1⟩
  have HB1 := Lib.hid hb1
  clear hb1
  go_wp2_with fail
  have hz : (w1.alloc (.cells #[.int .i64 0, .pointer none, .slice none 0 0] 74)).heap.size = w1.heap.size + 1 := by simp
  have hn := new_at6 (w := w1.alloc (.cells #[.int .i64 0, .pointer none, .slice none 0 0] 74)) (o := .cells #[.pointer none, .pointer (some ⟨w1.heap.size, 0, none⟩)] 60) (n := w1.heap.size + 1) hz
  have hs : ((w1.alloc (.cells #[.int .i64 0, .pointer none, .slice none 0 0] 74)).alloc (.cells #[.pointer none, .pointer (some ⟨w1.heap.size, 0, none⟩)] 60)).heap[w1.heap.size]? = some (.cells #[.int .i64 0, .pointer none, .slice none 0 0] 74 (0, 0)) := by
    rw [Below.heap_alloc _ _ _ (by rw [hz]; omega)]; exact World.alloc_heap_new _ _
  have hb2 : Below w1.heap.size w1 ((w1.alloc (.cells #[.int .i64 0, .pointer none, .slice none 0 0] 74)).alloc (.cells #[.pointer none, .pointer (some ⟨w1.heap.size, 0, none⟩)] 60)) := ((Below.refl _ w1).alloc (Nat.le_refl _) _).alloc (by simp) _
  have HB2 : Hid (Below w.heap.size w _) := HB1.out.trans (hb2.mono HB1.out.size)
  generalize hV : (w1.alloc (.cells #[.int .i64 0, .pointer none, .slice none 0 0] 74)).alloc (.cells #[.pointer none, .pointer (some ⟨w1.heap.size, 0, none⟩)] 60) = V at *
  obtain ⟨c0, c1, _, _⟩ := two_cells hn
  have d0 : V.cell? ⟨w1.heap.size, 0, none⟩ = some (.int .i64 0) := by simp [World.cell?, hs]
  have hl2 : w1.heap.size + 1 < V.heap.size := (Array.getElem?_eq_some_iff.1 hn).1
  generalize w1.heap.size = z at *
  have HC := Lib.hid (And.intro c0 (And.intro c1 d0))
  clear hz hn hs hb2 hV c0 c1 d0
  go_loopw [5, 6, 7, 17] (fun _ _ _ iv wr => ∃ k : Nat, iv = .int .i64 k ∧ k ≤ 2 ∧ Below V.heap.size V wr) (fun _ _ _ iv _ => 2 - (intOf iv).toNat)
  case atStart => exact ⟨0, rfl, by omega, Below.refl _ _⟩
  case round =>
    obtain ⟨k, rfl, hk, hb⟩ := hrel
    have HB := Lib.hid hb
    obtain ⟨c0, c1, d0⟩ := HC.out
    have e0 := (hb.cell (p := ⟨z + 1, 0, none⟩) hl2).trans c0
    have e1 := (hb.cell (p := ⟨z + 1, 1, none⟩) hl2).trans c1
    have e2 := (hb.cell (p := ⟨z, 0, none⟩) (by show z < _; omega)).trans d0
    have HP0 := Lib.hid (push_not (.pointer none) r wr (.inl rfl))
    have HE0 := Lib.hid (end_not (.pointer none) wr (.inl rfl))
    have HH0 := Lib.hid (held_not (.pointer none) wr (.inl rfl))
    have HP1 := Lib.hid (push_not (.pointer (some ⟨z, 0, none⟩)) r wr (.inr ⟨z, rfl, e2⟩))
    have HE1 := Lib.hid (end_not (.pointer (some ⟨z, 0, none⟩)) wr (.inr ⟨z, rfl, e2⟩))
    have HH1 := Lib.hid (held_not (.pointer (some ⟨z, 0, none⟩)) wr (.inr ⟨z, rfl, e2⟩))
    clear c0 c1 d0 hb e2
    rcases Nat.lt_or_ge k 2 with hk2 | hk2
    · obtain rfl | rfl : k = 0 ∨ k = 1 := by omega
      · go_wp2_with fail
        refine HP0.out.mono ?_
        rintro e w5 ⟨rfl, rfl⟩
        go_wp2_with fail
        refine HE0.out.mono ?_
        rintro e w5 ⟨rfl, rfl⟩
        go_wp2_with fail
        refine HH0.out.mono ?_
        rintro e w5 ⟨rfl, rfl⟩
        go_wp2_with fail
        go_roundw
        case rel => exact ⟨1, by go_num, by omega, HB.out⟩
        case measure => decide
      · go_wp2_with fail
        refine HP1.out.mono ?_
        rintro e w5 ⟨rfl, rfl⟩
        go_wp2_with fail
        refine HE1.out.mono ?_
        rintro e w5 ⟨rfl, rfl⟩
        go_wp2_with fail
        refine HH1.out.mono ?_
        rintro e w5 ⟨rfl, rfl⟩
        go_wp2_with fail
        go_roundw
        case rel => exact ⟨2, by go_num, by omega, HB.out⟩
        case measure => decide
    · obtain rfl : k = 2 := by omega
      have HBW : Hid (Below w.heap.size w wr) := HB2.out.trans (HB.out.mono HB2.out.size)
      clear e0 e1 HP0 HE0 HH0 HP1 HE1 HH1
      by_cases hr : sc r = true
      · have hsc := r4scalar_any r wr
        rw [hr] at hsc
        have HR := Lib.hid hr
        clear hr
        go_wp2_with fail
        refine hsc.mono ?_
        rintro e w5 ⟨rfl, rfl⟩
        have hia := ints_one (x := r) (World.alloc_heap_new wr (.cells #[.int .i32 r] 21))
        have hba : Below wr.heap.size wr (wr.alloc (.cells #[.int .i32 r] 21)) := (Below.refl _ _).alloc (Nat.le_refl _) _
        have hnf := nfd_any (fun _ => 0) (fun r => [r]) (.pointer none) _ _ (fun _ => True) _ [r] _ _ norm_none (fun _ _ => trivial) hia (fun b _ h => h) (by simp) trivial
        unfold NfdTold at hnf
        rw [(none_nfd r HR.out).1, (none_nfd r HR.out).2] at hnf
        have HBA := Lib.hid (HBW.out.trans (hba.mono HBW.out.size))
        clear hsc hia hba
        go_wp2_with fail
        with_reducible refine hnf.mono ?_
        rintro e w6 ⟨⟨l, rfl, hi6⟩, _, ho6⟩
        have HB6 : Hid (Below w.heap.size w w6) := below_of_only HBA.out ho6 (fun b h => h.elim)
        have HI6 := Lib.hid hi6
        obtain ⟨lb, lo, lc, rfl, _, _, _⟩ := hi6.place (by simp)
        clear hnf ho6
        go_wp2_with fail
        have hia := ints_one (x := r) (World.alloc_heap_new w6 (.cells #[.int .i32 r] 21))
        have hba : Below w6.heap.size w6 (w6.alloc (.cells #[.int .i32 r] 21)) := (Below.refl _ _).alloc (Nat.le_refl _) _
        have hru := runes5_any _ _ [r] [r] _ _ _ (HI6.out.kept (Kept.below hba)) hia (by simp) (by simp)
        have HBA := Lib.hid (HB6.out.trans (hba.mono HB6.out.size))
        refine hru.mono ?_
        rintro e w7 ⟨rfl, hb7⟩
        have HB7 := Lib.hid (HBA.out.trans (hb7.mono HBA.out.size))
        clear hru hia hba hb7 hi6
        go_wp2_with fail
        go_ret
        exact ⟨by simp, HB7.out⟩
      · have hr' : sc r = false := by simpa using hr
        have hsc := r4scalar_any r wr
        rw [hr'] at hsc
        clear hr hr'
        go_wp2_with fail
        refine hsc.mono ?_
        rintro e w5 ⟨rfl, rfl⟩
        go_wp2_with fail
        go_ret
        exact ⟨rfl, HBW.out⟩
end Go.Proofs.YtlldoofclaokgaaGreat
