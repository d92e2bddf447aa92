/- Read of the reference of package weight. Read of the reference of package weight: the good texts. -/
import Derived.Test.YtjbcbejedaeedaaGreatDoorWh
/-! Read of the reference of package weight. -/
namespace Go.Proofs.YtjbcbejedaeedaaGreatDoor
open Go.RowKit
open PlainAid (bt)

theorem goodB_len (s : ByteArray) (h : s.size < 17) : goodB s = false := by
  unfold goodB; rw [decide_eq_false (by omega)]; rfl
theorem goodB_head (s : ByteArray) (h : headB s = false) : goodB s = false := by
  unfold goodB; rw [h]; simp
theorem goodB_dig (s : ByteArray) (h : digB s = false) : goodB s = false := by
  unfold goodB; rw [h]; simp

set_option maxHeartbeats 2000000 in
set_option maxRecDepth 100000 in
theorem rread_short (s : ByteArray) (w : World) (hs : s.size ≤ maxLen) (h : s.size < 17) :
    Calls Tryz.prog 133 #[.string s] w fun e w' => e = .returned (readV s) ∧ Below w.heap.size w w' := by
  unfold maxLen at hs
  rw [readV_bad s (goodB_len s h)]
  go_enter Tryz.func133, Tryz.ntmps133
  go_wp2
  go_returns
  exact ⟨rfl, by (repeat' (first | (with_reducible exact Below.refl _ _) | (with_reducible assumption) | (with_reducible refine Below.alloc ?_ ?_ _) | (with_reducible refine Below.drew ?_) | (with_reducible refine below_drewN ?_ _) | (with_reducible refine Below.setCell ?_ ?_ _) | (with_reducible refine Below.trans ?_ (Below.mono (by assumption) ?_)) | go_size))⟩

set_option maxHeartbeats 2000000 in
set_option maxRecDepth 100000 in
theorem rread_head (s : ByteArray) (w : World) (hs : s.size ≤ maxLen) (h : 17 ≤ s.size) (hh : headB s = false) :
    Calls Tryz.prog 133 #[.string s] w fun e w' => e = .returned (readV s) ∧ Below w.heap.size w w' := by
  unfold maxLen at hs
  rw [readV_bad s (goodB_head s hh)]
  have hb := PlainAid.get_bt s
  have hh' : ¬ (bt s 0 = 91 ∧ (bt s 1 = 46 ∨ bt s 1 = 42) ∧ bt s 6 = 46 ∧ bt s 11 = 46 ∧ bt s 16 = 93) := by
    intro hx
    obtain ⟨x0, x1, x6, x11, x16⟩ := hx
    unfold headB at hh; rcases x1 with x1 | x1 <;> simp [x0, x1, x6, x11, x16] at hh
  clear hh
  have HH := Lib.hid hh'
  clear hh'
  go_enter Tryz.func133, Tryz.ntmps133
  go_wp2_with fail
  all_goals first
    | (go_returns; exact ⟨rfl, by (repeat' (first | (with_reducible exact Below.refl _ _) | (with_reducible assumption) | (with_reducible refine Below.alloc ?_ ?_ _) | (with_reducible refine Below.drew ?_) | (with_reducible refine below_drewN ?_ _) | (with_reducible refine Below.setCell ?_ ?_ _) | (with_reducible refine Below.trans ?_ (Below.mono (by assumption) ?_)) | go_size))⟩)
    | (exfalso; have hq := HH.out; clear HH; simp_all)

set_option maxHeartbeats 4000000 in
set_option maxRecDepth 100000 in
theorem rread_dig (s : ByteArray) (w : World) (hs : s.size ≤ maxLen) (h : 17 ≤ s.size) (hh : headB s = true) (hd : digB s = false) :
    Calls Tryz.prog 133 #[.string s] w fun e w' => e = .returned (readV s) ∧ Below w.heap.size w w' := by
  have hsz := hs
  unfold maxLen at hs
  rw [readV_bad s (goodB_dig s hd)]
  have hb := PlainAid.get_bt s
  have hh' : (bt s 0 = 91 ∧ (bt s 1 = 46 ∨ bt s 1 = 42) ∧ bt s 6 = 46 ∧ bt s 11 = 46 ∧ bt s 16 = 93) := by
    unfold headB at hh; simp at hh; simp [hh]
  have hd' : ¬ (accB s 2 4 = true ∧ accB s 7 4 = true ∧ accB s 12 4 = true) := by
    intro hx; unfold digB at hd; simp [hx] at hd
  clear hh hd
  have HD := Lib.hid hd'
  clear hd'
  obtain ⟨x0, x1, x6, x11, x16⟩ := hh'
  have HZ := Lib.hid hsz
  clear hsz
  rcases x1 with x1 | x1
  all_goals
    go_enter Tryz.func133, Tryz.ntmps133
    go_wp2_with fail
    refine (number_any s 2 _ (by omega) HZ.out).mono ?_
    rintro e w' ⟨rfl, rfl⟩
    go_wp2_with fail
    refine (number_any s 7 _ (by omega) HZ.out).mono ?_
    rintro e w' ⟨rfl, rfl⟩
    go_wp2_with fail
    refine (number_any s 12 _ (by omega) HZ.out).mono ?_
    rintro e w' ⟨rfl, rfl⟩
    go_wp2_with fail
    all_goals first
      | (go_returns; exact ⟨rfl, by (repeat' (first | (with_reducible exact Below.refl _ _) | (with_reducible assumption) | (with_reducible refine Below.alloc ?_ ?_ _) | (with_reducible refine Below.drew ?_) | (with_reducible refine below_drewN ?_ _) | (with_reducible refine Below.setCell ?_ ?_ _) | (with_reducible refine Below.trans ?_ (Below.mono (by assumption) ?_)) | go_size))⟩)
      | (exfalso; have hq := HD.out; clear HD; simp_all)

end Go.Proofs.YtjbcbejedaeedaaGreatDoor
/-! Read of the reference of package weight: the good texts. -/
namespace Go.Proofs.YtjbcbejedaeedaaGreatDoor
open Go.RowKit
open PlainAid (bt)

set_option maxHeartbeats 4000000 in
set_option maxRecDepth 100000 in
theorem rread_good (s : ByteArray) (w : World) (hs : s.size ≤ maxLen) (h : 17 ≤ s.size) (hh : headB s = true) (hd : digB s = true) :
    Calls Tryz.prog 133 #[.string s] w fun e w' => e = .returned (readV s) ∧ Below w.heap.size w w' := by
  have HZ := Lib.hid hs
  unfold maxLen at hs
  have hb := PlainAid.get_bt s
  have hg : goodB s = true := by unfold goodB; rw [hh, hd]; simpa using h
  have HV : Hid (readV s = if chkS s = 0 then .tuple #[elemS s, .int .i64 17, .int .i64 0] else .tuple #[zeroE, .int .i64 0, .int .i64 (chkS s)]) := by
    show _ = _; unfold readV; rw [hg]; rfl
  have hh' : (bt s 0 = 91 ∧ (bt s 1 = 46 ∨ bt s 1 = 42) ∧ bt s 6 = 46 ∧ bt s 11 = 46 ∧ bt s 16 = 93) := by
    unfold headB at hh; simp at hh; simp [hh]
  obtain ⟨⟨d2, d7⟩, d12⟩ : (accB s 2 4 = true ∧ accB s 7 4 = true) ∧ accB s 12 4 = true := by simpa [digB] using hd
  have n2 : numV s 2 = acc s 2 4 := by unfold numV; rw [d2]; rfl
  have n7 : numV s 7 = acc s 7 4 := by unfold numV; rw [d7]; rfl
  have n12 : numV s 12 = acc s 12 4 := by unfold numV; rw [d12]; rfl
  clear hh hd hg
  obtain ⟨x0, x1, x6, x11, x16⟩ := hh'
  have hx : (bt s 1 = 46 ∧ starB s = false) ∨ (bt s 1 = 42 ∧ starB s = true) := by
    rcases x1 with x1 | x1
    · exact Or.inl ⟨x1, by unfold starB; rw [x1]; rfl⟩
    · exact Or.inr ⟨x1, by unfold starB; rw [x1]; rfl⟩
  clear x1
  rcases hx with ⟨x1, hst⟩ | ⟨x1, hst⟩
  all_goals
    by_cases hk : chkS s = 0
    all_goals
      have HV2 := HV.out
      first | rw [if_pos hk] at HV2 | rw [if_neg hk] at HV2
      rw [HV2]
      (try unfold elemS)
      (try unfold zeroE)
      (try unfold chkS at hk)
      (try unfold chkS)
      rw [hst] at hk
      (try rw [hst])
      have hk' : ∀ b : Bool, decide (chk (acc s 2 4) (acc s 7 4) (acc s 12 4) (starB s) = 0) = b → (chk (acc s 2 4) (acc s 7 4) (acc s 12 4) (starB s) != 0) = !b := by
        intro b hb2; rw [← hb2]; rfl
      rw [hst] at hk'
      have hk2 := hk' _ (by first | exact decide_eq_true hk | exact decide_eq_false hk)
      simp only [Bool.not_true, Bool.not_false] at hk2
      clear hk' hk hst HV2 HV
      go_enter Tryz.func133, Tryz.ntmps133
      go_wp2_with fail
      refine (number_any s 2 _ (by omega) HZ.out).mono ?_
      rintro e w' ⟨rfl, rfl⟩
      go_wp2_with fail
      refine (number_any s 7 _ (by omega) HZ.out).mono ?_
      rintro e w' ⟨rfl, rfl⟩
      go_wp2_with fail
      refine (number_any s 12 _ (by omega) HZ.out).mono ?_
      rintro e w' ⟨rfl, rfl⟩
      go_wp2_with fail
      refine (rcheck_any _ _ _ _ _).mono ?_
      rintro e w1 ⟨rfl, hb1⟩
      have hz : w.heap.size + 1 < w1.heap.size := by have := hb1.size; simp at this; omega
      have c0 : w1.cell? ⟨w.heap.size, 0, none⟩ = some (.int .i64 0) := by rw [(hb1).cell (p := ⟨w.heap.size, 0, none⟩) (by simp; try omega)]; simp [go_sem]
      have c1 : w1.cell? ⟨w.heap.size, 1, none⟩ = some (.int .i64 0) := by rw [(hb1).cell (p := ⟨w.heap.size, 1, none⟩) (by simp; try omega)]; simp [go_sem]
      have c2 : w1.cell? ⟨w.heap.size, 2, none⟩ = some (.int .i64 0) := by rw [(hb1).cell (p := ⟨w.heap.size, 2, none⟩) (by simp; try omega)]; simp [go_sem]
      have c3 : w1.cell? ⟨w.heap.size, 3, none⟩ = some (.bool false) := by rw [(hb1).cell (p := ⟨w.heap.size, 3, none⟩) (by simp; try omega)]; simp [go_sem]
      obtain ⟨hc1, hf1⟩ := bcell hb1
      go_wp2_with fail
      first
        | refine bodyPost_ret (v := .tuple #[.agg #[.int .i64 (acc s 2 4), .int .i64 (acc s 7 4), .int .i64 (acc s 12 4), .bool false], .int .i64 17, .int .i64 0]) (by simp [results, Tryz.results133, go_sem, c0, c1, c2, c3]) rfl ⟨rfl, ?_⟩
        | refine bodyPost_ret (v := .tuple #[.agg #[.int .i64 (acc s 2 4), .int .i64 (acc s 7 4), .int .i64 (acc s 12 4), .bool true], .int .i64 17, .int .i64 0]) (by simp [results, Tryz.results133, go_sem, c0, c1, c2, c3]) rfl ⟨rfl, ?_⟩
        | refine bodyPost_ret (v := .tuple #[.agg #[.int .i64 0, .int .i64 0, .int .i64 0, .bool false], .int .i64 0, .int .i64 (chk (acc s 2 4) (acc s 7 4) (acc s 12 4) false)]) (by simp [results, Tryz.results133, go_sem, c0, c1, c2, c3]) rfl ⟨rfl, ?_⟩
        | refine bodyPost_ret (v := .tuple #[.agg #[.int .i64 0, .int .i64 0, .int .i64 0, .bool false], .int .i64 0, .int .i64 (chk (acc s 2 4) (acc s 7 4) (acc s 12 4) true)]) (by simp [results, Tryz.results133, go_sem, c0, c1, c2, c3]) rfl ⟨rfl, ?_⟩
      (repeat' (first | (with_reducible exact Below.refl _ _) | (with_reducible assumption) | (with_reducible refine Below.alloc ?_ ?_ _) | (with_reducible refine Below.drew ?_) | (with_reducible refine below_drewN ?_ _) | (with_reducible refine Below.setCell ?_ ?_ _) | (with_reducible refine Below.trans ?_ (Below.mono (by assumption) ?_)) | go_size))

theorem rread_any (s : ByteArray) (w : World) (hs : s.size ≤ maxLen) :
    Calls Tryz.prog 133 #[.string s] w fun e w' => e = .returned (readV s) ∧ Below w.heap.size w w' := by
  by_cases h : 17 ≤ s.size
  · cases hh : headB s
    · exact rread_head s w hs h hh
    · cases hd : digB s
      · exact rread_dig s w hs h hh hd
      · exact rread_good s w hs h hh hd
  · exact rread_short s w hs (by omega)
end Go.Proofs.YtjbcbejedaeedaaGreatDoor
