/- Package tailor: what raises elements; entries while they are raised, in plain words and in memory. -/
import Derived.Test.YtchjjfjjcdjjcaaDoorIc
namespace Go.Proofs.YtchjjfjjcdjjcaaDoor
open Go.RowKit

def inI (n : Int) : Prop := -9223372036854775808 ≤ n ∧ n ≤ 9223372036854775807
def ElB (y : El) : Prop := inI y.1 ∧ inI y.2.1 ∧ inI y.2.2.1
/-- an element raised at a level, beside another one; none: there is no room -/
def upT (lv : Int) (x y : El) : Option El :=
  if lv = 1 then (if x.1 < y.1 ∧ y.1 < 64256 then (if y.1 + 1 < 64256 then some (y.1 + 1, y.2) else none) else some y)
  else if lv = 2 then (if y.1 = x.1 ∧ x.2.1 < y.2.1 then (if y.2.1 < 511 then some (y.1, y.2.1 + 1, y.2.2) else none) else some y)
  else (if y.1 = x.1 ∧ y.2.1 = x.2.1 ∧ x.2.2.1 < y.2.2.1 then (if y.2.2.1 < 63 then some (y.1, y.2.1, y.2.2.1 + 1, y.2.2.2) else none) else some y)
def UpEnd (o : Option El) (W : World) (e : Ending) (w' : World) : Prop :=
  Below W.heap.size W w' ∧ ((∃ z, o = some z ∧ e = .returned (elAgg z)) ∨ (o = none ∧ e = .panicked (chainT 0 102)))
theorem El4.below {w w' : World} {b o : Nat} {x : El} (h : El4 w b o x) (hl : b < w.heap.size) (hb : Below w.heap.size w w') : El4 w' b o x := h.of (hb.block b hl)
set_option maxHeartbeats 2000000 in
set_option maxRecDepth 100000 in
theorem up1_any (x y : El) (xb : Nat) (w : World) (hx : El4 w xb 0 x) (hl : xb < w.heap.size) (hy : ElB y) :
    Calls Tryd.prog 46 #[elAgg y, .pointer (some ⟨xb, 0, none⟩)] w (UpEnd (upT 1 x y) w) := by
  obtain ⟨p, s, t, v⟩ := y
  obtain ⟨q, r, u, z⟩ := x
  obtain ⟨x0, x1, x2, x3⟩ := hx
  obtain ⟨⟨y1, y2⟩, ⟨y3, y4⟩, ⟨y5, y6⟩⟩ := hy
  simp only at x0 x1 x2 x3 y1 y2 y3 y4 y5 y6
  have HU : Hid (upT 1 (q, r, u, z) (p, s, t, v) = if q < p ∧ p < 64256 then (if p + 1 < 64256 then some (p + 1, s, t, v) else none) else some (p, s, t, v)) := rfl
  unfold elAgg
  have hn0 : ¬ xb = w.heap.size := by omega
  have hn1 : ¬ xb = w.heap.size + 1 := by omega
  simp only [Nat.zero_add] at x1 x2 x3
  by_cases h1 : q < p
  · by_cases h2 : p < 64256
    · by_cases h3 : p + 1 < 64256
      · have d3 : decide (p + 1 < 64256) = true := decide_eq_true h3
        have HE : Hid (upT 1 (q, r, u, z) (p, s, t, v) = some (p + 1, s, t, v)) := by show _ = _; rw [HU.out, if_pos ⟨h1, h2⟩, if_pos h3]
        go_enter Tryd.func46, Tryd.ntmps46
        go_wp2_with (go_at_call 36; refine (must_ok _ _ _).mono ?_; rintro e w' ⟨rfl, rfl⟩)
        refine bodyPost_ret (v := .agg #[.int .i64 (p + 1), .int .i64 (s), .int .i64 (t), .bool v]) (by simp [results, Tryd.results46, go_sem]) rfl ⟨by (repeat' (first | (with_reducible exact Below.refl _ _) | (with_reducible assumption) | (with_reducible refine Below.alloc ?_ ?_ _) | (with_reducible refine Below.drew ?_) | (with_reducible refine below_drewN ?_ _) | (with_reducible refine Below.setCell ?_ ?_ _) | (with_reducible refine Below.trans ?_ (Below.mono (by assumption) ?_)) | go_size)), .inl ⟨_, HE.out, rfl⟩⟩
      · have d3 : decide (p + 1 < 64256) = false := decide_eq_false h3
        have HE : Hid (upT 1 (q, r, u, z) (p, s, t, v) = none) := by show _ = _; rw [HU.out, if_pos ⟨h1, h2⟩, if_neg h3]
        go_enter Tryd.func46, Tryd.ntmps46
        go_wp2_with (go_at_call 36; refine (must_no _ _ _).mono ?_; rintro e w' ⟨rfl, rfl⟩)
        exact ⟨rfl, by (repeat' (first | (with_reducible exact Below.refl _ _) | (with_reducible assumption) | (with_reducible refine Below.alloc ?_ ?_ _) | (with_reducible refine Below.drew ?_) | (with_reducible refine below_drewN ?_ _) | (with_reducible refine Below.setCell ?_ ?_ _) | (with_reducible refine Below.trans ?_ (Below.mono (by assumption) ?_)) | go_size)), .inr ⟨HE.out, rfl⟩⟩
    · skip
      have HE : Hid (upT 1 (q, r, u, z) (p, s, t, v) = some (p, s, t, v)) := by show _ = _; rw [HU.out, if_neg (fun h => h2 h.2)]
      go_enter Tryd.func46, Tryd.ntmps46
      go_wp2_with fail
      refine bodyPost_ret (v := .agg #[.int .i64 (p), .int .i64 (s), .int .i64 (t), .bool v]) (by simp [results, Tryd.results46, go_sem]) rfl ⟨by (repeat' (first | (with_reducible exact Below.refl _ _) | (with_reducible assumption) | (with_reducible refine Below.alloc ?_ ?_ _) | (with_reducible refine Below.drew ?_) | (with_reducible refine below_drewN ?_ _) | (with_reducible refine Below.setCell ?_ ?_ _) | (with_reducible refine Below.trans ?_ (Below.mono (by assumption) ?_)) | go_size)), .inl ⟨_, HE.out, rfl⟩⟩
  · skip
    have HE : Hid (upT 1 (q, r, u, z) (p, s, t, v) = some (p, s, t, v)) := by show _ = _; rw [HU.out, if_neg (fun h => h1 h.1)]
    go_enter Tryd.func46, Tryd.ntmps46
    go_wp2_with fail
    refine bodyPost_ret (v := .agg #[.int .i64 (p), .int .i64 (s), .int .i64 (t), .bool v]) (by simp [results, Tryd.results46, go_sem]) rfl ⟨by (repeat' (first | (with_reducible exact Below.refl _ _) | (with_reducible assumption) | (with_reducible refine Below.alloc ?_ ?_ _) | (with_reducible refine Below.drew ?_) | (with_reducible refine below_drewN ?_ _) | (with_reducible refine Below.setCell ?_ ?_ _) | (with_reducible refine Below.trans ?_ (Below.mono (by assumption) ?_)) | go_size)), .inl ⟨_, HE.out, rfl⟩⟩
set_option maxHeartbeats 2000000 in
set_option maxRecDepth 100000 in
theorem up2_any (x y : El) (xb : Nat) (w : World) (hx : El4 w xb 0 x) (hl : xb < w.heap.size) (hy : ElB y) :
    Calls Tryd.prog 47 #[elAgg y, .pointer (some ⟨xb, 0, none⟩)] w (UpEnd (upT 2 x y) w) := by
  obtain ⟨p, s, t, v⟩ := y
  obtain ⟨q, r, u, z⟩ := x
  obtain ⟨x0, x1, x2, x3⟩ := hx
  obtain ⟨⟨y1, y2⟩, ⟨y3, y4⟩, ⟨y5, y6⟩⟩ := hy
  simp only at x0 x1 x2 x3 y1 y2 y3 y4 y5 y6
  have HU : Hid (upT 2 (q, r, u, z) (p, s, t, v) = if p = q ∧ r < s then (if s < 511 then some (p, s + 1, t, v) else none) else some (p, s, t, v)) := rfl
  unfold elAgg
  have hn0 : ¬ xb = w.heap.size := by omega
  have hn1 : ¬ xb = w.heap.size + 1 := by omega
  simp only [Nat.zero_add] at x1 x2 x3
  by_cases h1 : p = q
  · have e1 : (p == q) = true := by simpa using h1
    by_cases h2 : r < s
    · by_cases h3 : s < 511
      · have d3 : decide (s < 511) = true := decide_eq_true h3
        have HE : Hid (upT 2 (q, r, u, z) (p, s, t, v) = some (p, s + 1, t, v)) := by show _ = _; rw [HU.out, if_pos ⟨h1, h2⟩, if_pos h3]
        clear h1
        go_enter Tryd.func47, Tryd.ntmps47
        go_wp2_with (go_at_call 36; refine (must_ok _ _ _).mono ?_; rintro e w' ⟨rfl, rfl⟩)
        refine bodyPost_ret (v := .agg #[.int .i64 (p), .int .i64 (s + 1), .int .i64 (t), .bool v]) (by simp [results, Tryd.results47, go_sem]) rfl ⟨by (repeat' (first | (with_reducible exact Below.refl _ _) | (with_reducible assumption) | (with_reducible refine Below.alloc ?_ ?_ _) | (with_reducible refine Below.drew ?_) | (with_reducible refine below_drewN ?_ _) | (with_reducible refine Below.setCell ?_ ?_ _) | (with_reducible refine Below.trans ?_ (Below.mono (by assumption) ?_)) | go_size)), .inl ⟨_, HE.out, rfl⟩⟩
      · have d3 : decide (s < 511) = false := decide_eq_false h3
        have HE : Hid (upT 2 (q, r, u, z) (p, s, t, v) = none) := by show _ = _; rw [HU.out, if_pos ⟨h1, h2⟩, if_neg h3]
        clear h1
        go_enter Tryd.func47, Tryd.ntmps47
        go_wp2_with (go_at_call 36; refine (must_no _ _ _).mono ?_; rintro e w' ⟨rfl, rfl⟩)
        exact ⟨rfl, by (repeat' (first | (with_reducible exact Below.refl _ _) | (with_reducible assumption) | (with_reducible refine Below.alloc ?_ ?_ _) | (with_reducible refine Below.drew ?_) | (with_reducible refine below_drewN ?_ _) | (with_reducible refine Below.setCell ?_ ?_ _) | (with_reducible refine Below.trans ?_ (Below.mono (by assumption) ?_)) | go_size)), .inr ⟨HE.out, rfl⟩⟩
    · skip
      have HE : Hid (upT 2 (q, r, u, z) (p, s, t, v) = some (p, s, t, v)) := by show _ = _; rw [HU.out, if_neg (fun h => h2 h.2)]
      clear h1
      go_enter Tryd.func47, Tryd.ntmps47
      go_wp2_with fail
      refine bodyPost_ret (v := .agg #[.int .i64 (p), .int .i64 (s), .int .i64 (t), .bool v]) (by simp [results, Tryd.results47, go_sem]) rfl ⟨by (repeat' (first | (with_reducible exact Below.refl _ _) | (with_reducible assumption) | (with_reducible refine Below.alloc ?_ ?_ _) | (with_reducible refine Below.drew ?_) | (with_reducible refine below_drewN ?_ _) | (with_reducible refine Below.setCell ?_ ?_ _) | (with_reducible refine Below.trans ?_ (Below.mono (by assumption) ?_)) | go_size)), .inl ⟨_, HE.out, rfl⟩⟩
  · have e1 : (p == q) = false := by simpa using h1
    have HE : Hid (upT 2 (q, r, u, z) (p, s, t, v) = some (p, s, t, v)) := by show _ = _; rw [HU.out, if_neg (fun h => h1 h.1)]
    clear h1
    go_enter Tryd.func47, Tryd.ntmps47
    go_wp2_with fail
    refine bodyPost_ret (v := .agg #[.int .i64 (p), .int .i64 (s), .int .i64 (t), .bool v]) (by simp [results, Tryd.results47, go_sem]) rfl ⟨by (repeat' (first | (with_reducible exact Below.refl _ _) | (with_reducible assumption) | (with_reducible refine Below.alloc ?_ ?_ _) | (with_reducible refine Below.drew ?_) | (with_reducible refine below_drewN ?_ _) | (with_reducible refine Below.setCell ?_ ?_ _) | (with_reducible refine Below.trans ?_ (Below.mono (by assumption) ?_)) | go_size)), .inl ⟨_, HE.out, rfl⟩⟩
set_option maxHeartbeats 2000000 in
set_option maxRecDepth 100000 in
theorem up3_any (x y : El) (xb : Nat) (w : World) (hx : El4 w xb 0 x) (hl : xb < w.heap.size) (hy : ElB y) :
    Calls Tryd.prog 48 #[elAgg y, .pointer (some ⟨xb, 0, none⟩)] w (UpEnd (upT 3 x y) w) := by
  obtain ⟨p, s, t, v⟩ := y
  obtain ⟨q, r, u, z⟩ := x
  obtain ⟨x0, x1, x2, x3⟩ := hx
  obtain ⟨⟨y1, y2⟩, ⟨y3, y4⟩, ⟨y5, y6⟩⟩ := hy
  simp only at x0 x1 x2 x3 y1 y2 y3 y4 y5 y6
  have HU : Hid (upT 3 (q, r, u, z) (p, s, t, v) = if p = q ∧ s = r ∧ u < t then (if t < 63 then some (p, s, t + 1, v) else none) else some (p, s, t, v)) := rfl
  unfold elAgg
  have hn0 : ¬ xb = w.heap.size := by omega
  have hn1 : ¬ xb = w.heap.size + 1 := by omega
  simp only [Nat.zero_add] at x1 x2 x3
  by_cases h1 : p = q
  · have e1 : (p == q) = true := by simpa using h1
    by_cases h4 : s = r
    · have e2 : (s == r) = true := by simpa using h4
      by_cases h2 : u < t
      · by_cases h3 : t < 63
        · have d3 : decide (t < 63) = true := decide_eq_true h3
          have HE : Hid (upT 3 (q, r, u, z) (p, s, t, v) = some (p, s, t + 1, v)) := by show _ = _; rw [HU.out, if_pos ⟨h1, h4, h2⟩, if_pos h3]
          clear h1 h4
          go_enter Tryd.func48, Tryd.ntmps48
          go_wp2_with (go_at_call 36; refine (must_ok _ _ _).mono ?_; rintro e w' ⟨rfl, rfl⟩)
          refine bodyPost_ret (v := .agg #[.int .i64 (p), .int .i64 (s), .int .i64 (t + 1), .bool v]) (by simp [results, Tryd.results48, go_sem]) rfl ⟨by (repeat' (first | (with_reducible exact Below.refl _ _) | (with_reducible assumption) | (with_reducible refine Below.alloc ?_ ?_ _) | (with_reducible refine Below.drew ?_) | (with_reducible refine below_drewN ?_ _) | (with_reducible refine Below.setCell ?_ ?_ _) | (with_reducible refine Below.trans ?_ (Below.mono (by assumption) ?_)) | go_size)), .inl ⟨_, HE.out, rfl⟩⟩
        · have d3 : decide (t < 63) = false := decide_eq_false h3
          have HE : Hid (upT 3 (q, r, u, z) (p, s, t, v) = none) := by show _ = _; rw [HU.out, if_pos ⟨h1, h4, h2⟩, if_neg h3]
          clear h1 h4
          go_enter Tryd.func48, Tryd.ntmps48
          go_wp2_with (go_at_call 36; refine (must_no _ _ _).mono ?_; rintro e w' ⟨rfl, rfl⟩)
          exact ⟨rfl, by (repeat' (first | (with_reducible exact Below.refl _ _) | (with_reducible assumption) | (with_reducible refine Below.alloc ?_ ?_ _) | (with_reducible refine Below.drew ?_) | (with_reducible refine below_drewN ?_ _) | (with_reducible refine Below.setCell ?_ ?_ _) | (with_reducible refine Below.trans ?_ (Below.mono (by assumption) ?_)) | go_size)), .inr ⟨HE.out, rfl⟩⟩
      · skip
        have HE : Hid (upT 3 (q, r, u, z) (p, s, t, v) = some (p, s, t, v)) := by show _ = _; rw [HU.out, if_neg (fun h => h2 h.2.2)]
        clear h1 h4
        go_enter Tryd.func48, Tryd.ntmps48
        go_wp2_with fail
        refine bodyPost_ret (v := .agg #[.int .i64 (p), .int .i64 (s), .int .i64 (t), .bool v]) (by simp [results, Tryd.results48, go_sem]) rfl ⟨by (repeat' (first | (with_reducible exact Below.refl _ _) | (with_reducible assumption) | (with_reducible refine Below.alloc ?_ ?_ _) | (with_reducible refine Below.drew ?_) | (with_reducible refine below_drewN ?_ _) | (with_reducible refine Below.setCell ?_ ?_ _) | (with_reducible refine Below.trans ?_ (Below.mono (by assumption) ?_)) | go_size)), .inl ⟨_, HE.out, rfl⟩⟩
    · have e2 : (s == r) = false := by simpa using h4
      have HE : Hid (upT 3 (q, r, u, z) (p, s, t, v) = some (p, s, t, v)) := by show _ = _; rw [HU.out, if_neg (fun h => h4 h.2.1)]
      clear h1 h4
      go_enter Tryd.func48, Tryd.ntmps48
      go_wp2_with fail
      refine bodyPost_ret (v := .agg #[.int .i64 (p), .int .i64 (s), .int .i64 (t), .bool v]) (by simp [results, Tryd.results48, go_sem]) rfl ⟨by (repeat' (first | (with_reducible exact Below.refl _ _) | (with_reducible assumption) | (with_reducible refine Below.alloc ?_ ?_ _) | (with_reducible refine Below.drew ?_) | (with_reducible refine below_drewN ?_ _) | (with_reducible refine Below.setCell ?_ ?_ _) | (with_reducible refine Below.trans ?_ (Below.mono (by assumption) ?_)) | go_size)), .inl ⟨_, HE.out, rfl⟩⟩
  · have e1 : (p == q) = false := by simpa using h1
    have HE : Hid (upT 3 (q, r, u, z) (p, s, t, v) = some (p, s, t, v)) := by show _ = _; rw [HU.out, if_neg (fun h => h1 h.1)]
    clear h1
    go_enter Tryd.func48, Tryd.ntmps48
    go_wp2_with fail
    refine bodyPost_ret (v := .agg #[.int .i64 (p), .int .i64 (s), .int .i64 (t), .bool v]) (by simp [results, Tryd.results48, go_sem]) rfl ⟨by (repeat' (first | (with_reducible exact Below.refl _ _) | (with_reducible assumption) | (with_reducible refine Below.alloc ?_ ?_ _) | (with_reducible refine Below.drew ?_) | (with_reducible refine below_drewN ?_ _) | (with_reducible refine Below.setCell ?_ ?_ _) | (with_reducible refine Below.trans ?_ (Below.mono (by assumption) ?_)) | go_size)), .inl ⟨_, HE.out, rfl⟩⟩
end Go.Proofs.YtchjjfjjcdjjcaaDoor
