/- Package tailor: what raises elements; entries while they are raised, in plain words and in memory. Entries while their elements are raised, one by one. -/
import Derived.Test.YtchjjfjjcdjjcaaGreatDoorIb
/-! Package tailor: what raises elements; entries while they are raised, in plain words and in memory. -/
namespace Go.Proofs.YtchjjfjjcdjjcaaGreatDoor
open Go.RowKit

def inI (n : Int) : Prop := -9223372036854775808 ≤ n ∧ n ≤ 9223372036854775807
def ElB (y : El) : Prop := inI y.1 ∧ inI y.2.1 ∧ inI y.2.2.1
/-- an element raised at a level, beside another one; none: there is no room -/
def upT (lv : Int) (x y : El) : Option El :=
  if lv = 1 then (if x.1 < y.1 ∧ y.1 < 64256 then (if y.1 + 1 < 64256 then some (y.1 + 1, y.2) else none) else some y)
  else if lv = 2 then (if y.1 = x.1 ∧ x.2.1 < y.2.1 then (if y.2.1 < 511 then some (y.1, y.2.1 + 1, y.2.2) else none) else some y)
  else (if y.1 = x.1 ∧ y.2.1 = x.2.1 ∧ x.2.2.1 < y.2.2.1 then (if y.2.2.1 < 63 then some (y.1, y.2.1, y.2.2.1 + 1, y.2.2.2) else none) else some y)
def UpEnd (o : Option El) (W : World) (e : Ending) (w' : World) : Prop :=
  Below W.heap.size W w' ∧ ((∃ z, o = some z ∧ e = .returned (elAgg z)) ∨ (o = none ∧ e = .panicked (chainT 0 102)))
theorem El4.below {w w' : World} {b o : Nat} {x : El} (h : El4 w b o x) (hl : b < w.heap.size) (hb : Below w.heap.size w w') : El4 w' b o x := h.of (hb.block b hl)
set_option maxHeartbeats 2000000 in
set_option maxRecDepth 100000 in
theorem up1_any (x y : El) (xb : Nat) (w : World) (hx : El4 w xb 0 x) (hl : xb < w.heap.size) (hy : ElB y) :
    Calls Tryz.prog 60 #[elAgg y, .pointer (some ⟨xb, 0, none⟩)] w (UpEnd (upT 1 x y) w) := by
  obtain ⟨p, s, t, v⟩ := y
  obtain ⟨q, r, u, z⟩ := x
  obtain ⟨x0, x1, x2, x3⟩ := hx
  obtain ⟨⟨y1, y2⟩, ⟨y3, y4⟩, ⟨y5, y6⟩⟩ := hy
  simp only at x0 x1 x2 x3 y1 y2 y3 y4 y5 y6
  have HU : Hid (upT 1 (q, r, u, z) (p, s, t, v) = if q < p ∧ p < 64256 then (if p + 1 < 64256 then some (p + 1, s, t, v) else none) else some (p, s, t, v)) := rfl
  unfold elAgg
  have hn0 : ¬ xb = w.heap.size := by omega
  have hn1 : ¬ xb = w.heap.size + 1 := by omega
  simp only [Nat.zero_add] at x1 x2 x3
  by_cases h1 : q < p
  · by_cases h2 : p < 64256
    · by_cases h3 : p + 1 < 64256
      · have d3 : decide (p + 1 < 64256) = true := decide_eq_true h3
        have HE : Hid (upT 1 (q, r, u, z) (p, s, t, v) = some (p + 1, s, t, v)) := by show _ = _; rw [HU.out, if_pos ⟨h1, h2⟩, if_pos h3]
        go_enter Tryz.func60, Tryz.ntmps60
        go_wp2_with (go_at_call 57; refine (must_ok _ _ _).mono ?_; rintro e w' ⟨rfl, rfl⟩)
        refine bodyPost_ret (v := .agg #[.int .i64 (p + 1), .int .i64 (s), .int .i64 (t), .bool v]) (by simp [results, Tryz.results60, go_sem]) rfl ⟨by (repeat' (first | (with_reducible exact Below.refl _ _) | (with_reducible assumption) | (with_reducible refine Below.alloc ?_ ?_ _) | (with_reducible refine Below.drew ?_) | (with_reducible refine below_drewN ?_ _) | (with_reducible refine Below.setCell ?_ ?_ _) | (with_reducible refine Below.trans ?_ (Below.mono (by assumption) ?_)) | go_size)), .inl ⟨_, HE.out, rfl⟩⟩
      · have d3 : decide (p + 1 < 64256) = false := decide_eq_false h3
        have HE : Hid (upT 1 (q, r, u, z) (p, s, t, v) = none) := by show _ = _; rw [HU.out, if_pos ⟨h1, h2⟩, if_neg h3]
        go_enter Tryz.func60, Tryz.ntmps60
        go_wp2_with (go_at_call 57; refine (must_no _ _ _).mono ?_; rintro e w' ⟨rfl, rfl⟩)
        exact ⟨rfl, by (repeat' (first | (with_reducible exact Below.refl _ _) | (with_reducible assumption) | (with_reducible refine Below.alloc ?_ ?_ _) | (with_reducible refine Below.drew ?_) | (with_reducible refine below_drewN ?_ _) | (with_reducible refine Below.setCell ?_ ?_ _) | (with_reducible refine Below.trans ?_ (Below.mono (by assumption) ?_)) | go_size)), .inr ⟨HE.out, rfl⟩⟩
    · skip
      have HE : Hid (upT 1 (q, r, u, z) (p, s, t, v) = some (p, s, t, v)) := by show _ = _; rw [HU.out, if_neg (fun h => h2 h.2)]
      go_enter Tryz.func60, Tryz.ntmps60
      go_wp2_with fail
      refine bodyPost_ret (v := .agg #[.int .i64 (p), .int .i64 (s), .int .i64 (t), .bool v]) (by simp [results, Tryz.results60, go_sem]) rfl ⟨by (repeat' (first | (with_reducible exact Below.refl _ _) | (with_reducible assumption) | (with_reducible refine Below.alloc ?_ ?_ _) | (with_reducible refine Below.drew ?_) | (with_reducible refine below_drewN ?_ _) | (with_reducible refine Below.setCell ?_ ?_ _) | (with_reducible refine Below.trans ?_ (Below.mono (by assumption) ?_)) | go_size)), .inl ⟨_, HE.out, rfl⟩⟩
  · skip
    have HE : Hid (upT 1 (q, r, u, z) (p, s, t, v) = some (p, s, t, v)) := by show _ = _; rw [HU.out, if_neg (fun h => h1 h.1)]
    go_enter Tryz.func60, Tryz.ntmps60
    go_wp2_with fail
    refine bodyPost_ret (v := .agg #[.int .i64 (p), .int .i64 (s), .int .i64 (t), .bool v]) (by simp [results, Tryz.results60, go_sem]) rfl ⟨by (repeat' (first | (with_reducible exact Below.refl _ _) | (with_reducible assumption) | (with_reducible refine Below.alloc ?_ ?_ _) | (with_reducible refine Below.drew ?_) | (with_reducible refine below_drewN ?_ _) | (with_reducible refine Below.setCell ?_ ?_ _) | (with_reducible refine Below.trans ?_ (Below.mono (by assumption) ?_)) | go_size)), .inl ⟨_, HE.out, rfl⟩⟩
set_option maxHeartbeats 2000000 in
set_option maxRecDepth 100000 in
theorem up2_any (x y : El) (xb : Nat) (w : World) (hx : El4 w xb 0 x) (hl : xb < w.heap.size) (hy : ElB y) :
    Calls Tryz.prog 61 #[elAgg y, .pointer (some ⟨xb, 0, none⟩)] w (UpEnd (upT 2 x y) w) := by
  obtain ⟨p, s, t, v⟩ := y
  obtain ⟨q, r, u, z⟩ := x
  obtain ⟨x0, x1, x2, x3⟩ := hx
  obtain ⟨⟨y1, y2⟩, ⟨y3, y4⟩, ⟨y5, y6⟩⟩ := hy
  simp only at x0 x1 x2 x3 y1 y2 y3 y4 y5 y6
  have HU : Hid (upT 2 (q, r, u, z) (p, s, t, v) = if p = q ∧ r < s then (if s < 511 then some (p, s + 1, t, v) else none) else some (p, s, t, v)) := rfl
  unfold elAgg
  have hn0 : ¬ xb = w.heap.size := by omega
  have hn1 : ¬ xb = w.heap.size + 1 := by omega
  simp only [Nat.zero_add] at x1 x2 x3
  by_cases h1 : p = q
  · have e1 : (p == q) = true := by simpa using h1
    by_cases h2 : r < s
    · by_cases h3 : s < 511
      · have d3 : decide (s < 511) = true := decide_eq_true h3
        have HE : Hid (upT 2 (q, r, u, z) (p, s, t, v) = some (p, s + 1, t, v)) := by show _ = _; rw [HU.out, if_pos ⟨h1, h2⟩, if_pos h3]
        clear h1
        go_enter Tryz.func61, Tryz.ntmps61
        go_wp2_with (go_at_call 57; refine (must_ok _ _ _).mono ?_; rintro e w' ⟨rfl, rfl⟩)
        refine bodyPost_ret (v := .agg #[.int .i64 (p), .int .i64 (s + 1), .int .i64 (t), .bool v]) (by simp [results, Tryz.results61, go_sem]) rfl ⟨by (repeat' (first | (with_reducible exact Below.refl _ _) | (with_reducible assumption) | (with_reducible refine Below.alloc ?_ ?_ _) | (with_reducible refine Below.drew ?_) | (with_reducible refine below_drewN ?_ _) | (with_reducible refine Below.setCell ?_ ?_ _) | (with_reducible refine Below.trans ?_ (Below.mono (by assumption) ?_)) | go_size)), .inl ⟨_, HE.out, rfl⟩⟩
      · have d3 : decide (s < 511) = false := decide_eq_false h3
        have HE : Hid (upT 2 (q, r, u, z) (p, s, t, v) = none) := by show _ = _; rw [HU.out, if_pos ⟨h1, h2⟩, if_neg h3]
        clear h1
        go_enter Tryz.func61, Tryz.ntmps61
        go_wp2_with (go_at_call 57; refine (must_no _ _ _).mono ?_; rintro e w' ⟨rfl, rfl⟩)
        exact ⟨rfl, by (repeat' (first | (with_reducible exact Below.refl _ _) | (with_reducible assumption) | (with_reducible refine Below.alloc ?_ ?_ _) | (with_reducible refine Below.drew ?_) | (with_reducible refine below_drewN ?_ _) | (with_reducible refine Below.setCell ?_ ?_ _) | (with_reducible refine Below.trans ?_ (Below.mono (by assumption) ?_)) | go_size)), .inr ⟨HE.out, rfl⟩⟩
    · skip
      have HE : Hid (upT 2 (q, r, u, z) (p, s, t, v) = some (p, s, t, v)) := by show _ = _; rw [HU.out, if_neg (fun h => h2 h.2)]
      clear h1
      go_enter Tryz.func61, Tryz.ntmps61
      go_wp2_with fail
      refine bodyPost_ret (v := .agg #[.int .i64 (p), .int .i64 (s), .int .i64 (t), .bool v]) (by simp [results, Tryz.results61, go_sem]) rfl ⟨by (repeat' (first | (with_reducible exact Below.refl _ _) | (with_reducible assumption) | (with_reducible refine Below.alloc ?_ ?_ _) | (with_reducible refine Below.drew ?_) | (with_reducible refine below_drewN ?_ _) | (with_reducible refine Below.setCell ?_ ?_ _) | (with_reducible refine Below.trans ?_ (Below.mono (by assumption) ?_)) | go_size)), .inl ⟨_, HE.out, rfl⟩⟩
  · have e1 : (p == q) = false := by simpa using h1
    have HE : Hid (upT 2 (q, r, u, z) (p, s, t, v) = some (p, s, t, v)) := by show _ = _; rw [HU.out, if_neg (fun h => h1 h.1)]
    clear h1
    go_enter Tryz.func61, Tryz.ntmps61
    go_wp2_with fail
    refine bodyPost_ret (v := .agg #[.int .i64 (p), .int .i64 (s), .int .i64 (t), .bool v]) (by simp [results, Tryz.results61, go_sem]) rfl ⟨by (repeat' (first | (with_reducible exact Below.refl _ _) | (with_reducible assumption) | (with_reducible refine Below.alloc ?_ ?_ _) | (with_reducible refine Below.drew ?_) | (with_reducible refine below_drewN ?_ _) | (with_reducible refine Below.setCell ?_ ?_ _) | (with_reducible refine Below.trans ?_ (Below.mono (by assumption) ?_)) | go_size)), .inl ⟨_, HE.out, rfl⟩⟩
set_option maxHeartbeats 2000000 in
set_option maxRecDepth 100000 in
theorem up3_any (x y : El) (xb : Nat) (w : World) (hx : El4 w xb 0 x) (hl : xb < w.heap.size) (hy : ElB y) :
    Calls Tryz.prog 62 #[elAgg y, .pointer (some ⟨xb, 0, none⟩)] w (UpEnd (upT 3 x y) w) := by
  obtain ⟨p, s, t, v⟩ := y
  obtain ⟨q, r, u, z⟩ := x
  obtain ⟨x0, x1, x2, x3⟩ := hx
  obtain ⟨⟨y1, y2⟩, ⟨y3, y4⟩, ⟨y5, y6⟩⟩ := hy
  simp only at x0 x1 x2 x3 y1 y2 y3 y4 y5 y6
  have HU : Hid (upT 3 (q, r, u, z) (p, s, t, v) = if p = q ∧ s = r ∧ u < t then (if t < 63 then some (p, s, t + 1, v) else none) else some (p, s, t, v)) := rfl
  unfold elAgg
  have hn0 : ¬ xb = w.heap.size := by omega
  have hn1 : ¬ xb = w.heap.size + 1 := by omega
  simp only [Nat.zero_add] at x1 x2 x3
  by_cases h1 : p = q
  · have e1 : (p == q) = true := by simpa using h1
    by_cases h4 : s = r
    · have e2 : (s == r) = true := by simpa using h4
      by_cases h2 : u < t
      · by_cases h3 : t < 63
        · have d3 : decide (t < 63) = true := decide_eq_true h3
          have HE : Hid (upT 3 (q, r, u, z) (p, s, t, v) = some (p, s, t + 1, v)) := by show _ = _; rw [HU.out, if_pos ⟨h1, h4, h2⟩, if_pos h3]
          clear h1 h4
          go_enter Tryz.func62, Tryz.ntmps62
          go_wp2_with (go_at_call 57; refine (must_ok _ _ _).mono ?_; rintro e w' ⟨rfl, rfl⟩)
          refine bodyPost_ret (v := .agg #[.int .i64 (p), .int .i64 (s), .int .i64 (t + 1), .bool v]) (by simp [results, Tryz.results62, go_sem]) rfl ⟨by (repeat' (first | (with_reducible exact Below.refl _ _) | (with_reducible assumption) | (with_reducible refine Below.alloc ?_ ?_ _) | (with_reducible refine Below.drew ?_) | (with_reducible refine below_drewN ?_ _) | (with_reducible refine Below.setCell ?_ ?_ _) | (with_reducible refine Below.trans ?_ (Below.mono (by assumption) ?_)) | go_size)), .inl ⟨_, HE.out, rfl⟩⟩
        · have d3 : decide (t < 63) = false := decide_eq_false h3
          have HE : Hid (upT 3 (q, r, u, z) (p, s, t, v) = none) := by show _ = _; rw [HU.out, if_pos ⟨h1, h4, h2⟩, if_neg h3]
          clear h1 h4
          go_enter Tryz.func62, Tryz.ntmps62
          go_wp2_with (go_at_call 57; refine (must_no _ _ _).mono ?_; rintro e w' ⟨rfl, rfl⟩)
          exact ⟨rfl, by (repeat' (first | (with_reducible exact Below.refl _ _) | (with_reducible assumption) | (with_reducible refine Below.alloc ?_ ?_ _) | (with_reducible refine Below.drew ?_) | (with_reducible refine below_drewN ?_ _) | (with_reducible refine Below.setCell ?_ ?_ _) | (with_reducible refine Below.trans ?_ (Below.mono (by assumption) ?_)) | go_size)), .inr ⟨HE.out, rfl⟩⟩
      · skip
        have HE : Hid (upT 3 (q, r, u, z) (p, s, t, v) = some (p, s, t, v)) := by show _ = _; rw [HU.out, if_neg (fun h => h2 h.2.2)]
        clear h1 h4
        go_enter Tryz.func62, Tryz.ntmps62
        go_wp2_with fail
        refine bodyPost_ret (v := .agg #[.int .i64 (p), .int .i64 (s), .int .i64 (t), .bool v]) (by simp [results, Tryz.results62, go_sem]) rfl ⟨by (repeat' (first | (with_reducible exact Below.refl _ _) | (with_reducible assumption) | (with_reducible refine Below.alloc ?_ ?_ _) | (with_reducible refine Below.drew ?_) | (with_reducible refine below_drewN ?_ _) | (with_reducible refine Below.setCell ?_ ?_ _) | (with_reducible refine Below.trans ?_ (Below.mono (by assumption) ?_)) | go_size)), .inl ⟨_, HE.out, rfl⟩⟩
    · have e2 : (s == r) = false := by simpa using h4
      have HE : Hid (upT 3 (q, r, u, z) (p, s, t, v) = some (p, s, t, v)) := by show _ = _; rw [HU.out, if_neg (fun h => h4 h.2.1)]
      clear h1 h4
      go_enter Tryz.func62, Tryz.ntmps62
      go_wp2_with fail
      refine bodyPost_ret (v := .agg #[.int .i64 (p), .int .i64 (s), .int .i64 (t), .bool v]) (by simp [results, Tryz.results62, go_sem]) rfl ⟨by (repeat' (first | (with_reducible exact Below.refl _ _) | (with_reducible assumption) | (with_reducible refine Below.alloc ?_ ?_ _) | (with_reducible refine Below.drew ?_) | (with_reducible refine below_drewN ?_ _) | (with_reducible refine Below.setCell ?_ ?_ _) | (with_reducible refine Below.trans ?_ (Below.mono (by assumption) ?_)) | go_size)), .inl ⟨_, HE.out, rfl⟩⟩
  · have e1 : (p == q) = false := by simpa using h1
    have HE : Hid (upT 3 (q, r, u, z) (p, s, t, v) = some (p, s, t, v)) := by show _ = _; rw [HU.out, if_neg (fun h => h1 h.1)]
    clear h1
    go_enter Tryz.func62, Tryz.ntmps62
    go_wp2_with fail
    refine bodyPost_ret (v := .agg #[.int .i64 (p), .int .i64 (s), .int .i64 (t), .bool v]) (by simp [results, Tryz.results62, go_sem]) rfl ⟨by (repeat' (first | (with_reducible exact Below.refl _ _) | (with_reducible assumption) | (with_reducible refine Below.alloc ?_ ?_ _) | (with_reducible refine Below.drew ?_) | (with_reducible refine below_drewN ?_ _) | (with_reducible refine Below.setCell ?_ ?_ _) | (with_reducible refine Below.trans ?_ (Below.mono (by assumption) ?_)) | go_size)), .inl ⟨_, HE.out, rfl⟩⟩
end Go.Proofs.YtchjjfjjcdjjcaaGreatDoor
/-! Entries while their elements are raised, one by one. -/
namespace Go.Proofs.YtchjjfjjcdjjcaaGreatDoor
open Go.RowKit

/-- elements of which the first are raised -/
def halE (U : El → El) (xs : List El) (j : Nat) : List El := (xs.take j).map U ++ xs.drop j
theorem halE_zero (U : El → El) (xs : List El) : halE U xs 0 = xs := by simp [halE]
theorem halE_all (U : El → El) (xs : List El) {j : Nat} (h : xs.length ≤ j) : halE U xs j = xs.map U := by unfold halE; rw [List.take_of_length_le h, List.drop_eq_nil_of_le h, List.append_nil]
theorem halE_len (U : El → El) (xs : List El) (j : Nat) : (halE U xs j).length = xs.length := by simp [halE]; omega
theorem halE_at (U : El → El) {xs : List El} {j : Nat} {x : El} (h : xs[j]? = some x) : (halE U xs j)[j]? = some x := by
  have hj := (List.getElem?_eq_some_iff.1 h).1
  unfold halE
  rw [List.getElem?_append_right (by simp; omega), List.getElem?_drop]
  simp only [List.length_map, List.length_take]
  rw [show j + (j - min j xs.length) = j by omega]; exact h
theorem halE_set (U : El → El) {xs : List El} {j : Nat} {x : El} (h : xs[j]? = some x) : (halE U xs j).set j (U x) = halE U xs (j + 1) := by
  have hj := (List.getElem?_eq_some_iff.1 h).1
  have hd : xs.drop j = x :: xs.drop (j + 1) := by
    rw [List.drop_eq_getElem_cons hj]
    have := (List.getElem?_eq_some_iff.1 h).2
    rw [this]
  have ht : xs.take (j + 1) = xs.take j ++ [x] := by rw [List.take_add_one, h]; rfl
  unfold halE
  rw [hd, ht, List.set_append_right _ _ (by simp; omega)]
  simp only [List.length_map, List.length_take, List.map_append, List.map_cons, List.map_nil, List.append_assoc, List.cons_append, List.nil_append]
  rw [show j - min j xs.length = 0 by omega]
  rfl
def raiE (U : El → El) (e : Ent) : Ent := (e.1, e.2.map U)
/-- entries of which the first are raised, and of the next one the first elements -/
def curE (U : El → El) (es : List Ent) (i j : Nat) : List Ent := (es.take i).map (raiE U) ++ (match es[i]? with | none => [] | some e => [(e.1, halE U e.2 j)]) ++ es.drop (i + 1)
theorem drop_cons {es : List Ent} {i : Nat} {e : Ent} (h : es[i]? = some e) : es.drop i = e :: es.drop (i + 1) := by
  have hj := (List.getElem?_eq_some_iff.1 h).1
  rw [List.drop_eq_getElem_cons hj, (List.getElem?_eq_some_iff.1 h).2]
theorem curE_len (U : El → El) (es : List Ent) (i j : Nat) : (curE U es i j).length = es.length := by
  unfold curE
  cases h : es[i]? with
  | none =>
    have := List.getElem?_eq_none_iff.1 h
    simp; omega
  | some e =>
    have := (List.getElem?_eq_some_iff.1 h).1
    simp; omega
theorem curE_start (U : El → El) (es : List Ent) : curE U es 0 0 = es := by
  unfold curE
  cases es with
  | nil => rfl
  | cons e es => simp [halE]
theorem curE_at (U : El → El) {es : List Ent} {i j : Nat} {e : Ent} (h : es[i]? = some e) : (curE U es i j)[i]? = some (e.1, halE U e.2 j) := by
  have hi := (List.getElem?_eq_some_iff.1 h).1
  unfold curE
  rw [h]
  simp only
  rw [List.append_assoc, List.getElem?_append_right (by simp; omega)]
  simp only [List.length_map, List.length_take]
  rw [show i - min i es.length = 0 by omega]; rfl
theorem curE_set (U : El → El) {es : List Ent} {i j : Nat} {e : Ent} {x : El} (h : es[i]? = some e) (hx : e.2[j]? = some x) :
    (curE U es i j).set i (e.1, (halE U e.2 j).set j (U x)) = curE U es i (j + 1) := by
  have hi := (List.getElem?_eq_some_iff.1 h).1
  rw [halE_set U hx]
  unfold curE
  rw [h]
  simp only
  rw [List.append_assoc, List.append_assoc, List.set_append_right _ _ (by simp; omega)]
  simp only [List.length_map, List.length_take]
  rw [show i - min i es.length = 0 by omega]; rfl
theorem curE_next (U : El → El) {es : List Ent} {i j : Nat} {e : Ent} (h : es[i]? = some e) (hj : e.2.length ≤ j) : curE U es i j = curE U es (i + 1) 0 := by
  have ht : es.take (i + 1) = es.take i ++ [e] := by rw [List.take_add_one, h]; rfl
  unfold curE
  rw [h, ht]
  simp only [halE_all U e.2 hj]
  cases h1 : es[i + 1]? with
  | none =>
    have := List.getElem?_eq_none_iff.1 h1
    simp [raiE]; omega
  | some e1 =>
    rw [drop_cons h1]
    simp [raiE, halE]
theorem curE_end (U : El → El) (es : List Ent) : curE U es es.length 0 = es.map (raiE U) := by
  unfold curE
  rw [List.getElem?_eq_none (Nat.le_refl _), List.drop_eq_nil_of_le (by omega), List.take_length]; simp
/-- the world behind a store of an element -/
def putEl (W : World) (q k : Nat) (y : El) : World := (((W.setCell ⟨q, k, none⟩ (.int .i64 y.1)).setCell ⟨q, k + 1, none⟩ (.int .i64 y.2.1)).setCell ⟨q, k + 2, none⟩ (.int .i64 y.2.2.1)).setCell ⟨q, k + 3, none⟩ (.bool y.2.2.2)
theorem putEl_only (W : World) (q k : Nat) (y : El) : Only (fun b => b = q) W (putEl W q k y) :=
  ((((Only.refl (fun b => b = q) W).setCell (p := ⟨q, k, none⟩) rfl _).setCell (p := ⟨q, k + 1, none⟩) rfl _).setCell (p := ⟨q, k + 2, none⟩) rfl _).setCell (p := ⟨q, k + 3, none⟩) rfl _
theorem cell_set_ne (W : World) (q a b : Nat) (v : Value) (h : a ≠ b) : (W.setCell ⟨q, a, none⟩ v).cell? ⟨q, b, none⟩ = W.cell? ⟨q, b, none⟩ :=
  World.cell?_setCell_other W ⟨q, a, none⟩ ⟨q, b, none⟩ v (fun e => by injection e with _ e2 _; exact h e2)
theorem cell_set_eq (W : World) (q a : Nat) (v u : Value) (h : W.cell? ⟨q, a, none⟩ = some u) : (W.setCell ⟨q, a, none⟩ v).cell? ⟨q, a, none⟩ = some v := by
  have hl : q < W.heap.size := World.block_lt_of_cell? W ⟨q, a, none⟩ h
  simp [go_sem, h, hl]
theorem putEl_frozen (W : World) (q k : Nat) (y : El) (a : Addr) : (putEl W q k y).frozen? a = W.frozen? a := by
  unfold putEl; simp [go_sem]
theorem putEl_other (W : World) (q k : Nat) (y : El) (m : Nat) (h : ∀ r, r < 4 → m ≠ k + r) : (putEl W q k y).cell? ⟨q, m, none⟩ = W.cell? ⟨q, m, none⟩ := by
  unfold putEl
  rw [cell_set_ne _ _ _ _ _ (by have := h 3 (by omega); omega), cell_set_ne _ _ _ _ _ (by have := h 2 (by omega); omega), cell_set_ne _ _ _ _ _ (by have := h 1 (by omega); omega), cell_set_ne _ _ _ _ _ (by have := h 0 (by omega); omega)]
theorem putEl_is {W : World} {q k : Nat} {x : El} (h : El4 W q k x) (y : El) : El4 (putEl W q k y) q k y := by
  obtain ⟨h0, h1, h2, h3⟩ := h
  unfold putEl
  refine ⟨?_, ?_, ?_, ?_⟩
  · rw [cell_set_ne _ _ _ _ _ (by omega), cell_set_ne _ _ _ _ _ (by omega), cell_set_ne _ _ _ _ _ (by omega)]; exact cell_set_eq _ _ _ _ _ h0
  · rw [cell_set_ne _ _ _ _ _ (by omega), cell_set_ne _ _ _ _ _ (by omega)]; exact cell_set_eq _ _ _ _ _ (by rw [cell_set_ne _ _ _ _ _ (by omega)]; exact h1)
  · rw [cell_set_ne _ _ _ _ _ (by omega)]; exact cell_set_eq _ _ _ _ _ (by rw [cell_set_ne _ _ _ _ _ (by omega), cell_set_ne _ _ _ _ _ (by omega)]; exact h2)
  · exact cell_set_eq _ _ _ _ _ (by rw [cell_set_ne _ _ _ _ _ (by omega), cell_set_ne _ _ _ _ _ (by omega), cell_set_ne _ _ _ _ _ (by omega)]; exact h3)
/-- an element of a slice is written anew -/
theorem els_set {R : Nat → Prop} {W : World} {q o len cap j : Nat} {xs : List El} {x : El} (h : ElsIn R W (.slice (some ⟨q, o, none⟩) len cap) xs) (hx : xs[j]? = some x) (y : El) :
    ElsIn R (putEl W q (o + j * 4) y) (.slice (some ⟨q, o, none⟩) len cap) (xs.set j y) := by
  have h' := h
  obtain ⟨p, cap', e, _⟩ := h
  injection e with e1 e2 e3
  subst e1 e2 e3
  have ho := putEl_only W q (o + j * 4) y
  refine ⟨_, _, by rw [List.length_set], fun m z hm => ?_⟩
  by_cases hmj : m = j
  · subst hmj
    rw [List.getElem?_set_self (List.getElem?_eq_some_iff.1 hx).1] at hm; cases hm
    obtain ⟨b', o', e1, e2, e3, e4⟩ := h'.at m x hx
    cases e1
    exact ⟨q, o, rfl, e2, Nat.lt_of_lt_of_le e3 ho.size, putEl_is e4 y⟩
  · rw [List.getElem?_set_ne (Ne.symm hmj)] at hm
    obtain ⟨b', o', e1, e2, e3, e4⟩ := h'.at m z hm
    cases e1
    refine ⟨q, o, rfl, e2, Nat.lt_of_lt_of_le e3 ho.size, ?_⟩
    obtain ⟨f0, f1, f2, f3⟩ := e4
    refine ⟨?_, ?_, ?_, ?_⟩
    · rw [putEl_other _ _ _ _ _ (fun r hr => by omega)]; exact f0
    · rw [putEl_other _ _ _ _ _ (fun r hr => by omega)]; exact f1
    · rw [putEl_other _ _ _ _ _ (fun r hr => by omega)]; exact f2
    · rw [putEl_other _ _ _ _ _ (fun r hr => by omega)]; exact f3
/-- what changes none of their blocks changes nothing -/
theorem EntsOwnC.far {B : Nat} {W W' : World} {lv : Value} {es : List Ent} {ts : List Tri3} {cs : List (Value × Value)} (h : EntsOwnC B W lv es ts cs) {S : Nat → Prop} (ho : Only S W W')
    (hS : ∀ b, S b → (∀ (i : Nat) t, ts[i]? = some t → ¬ (t.1 ≤ b ∧ b < t.2.2)) ∧ lv.ownBlock ≠ some b) : EntsOwnC B W' lv es ts cs := by
  refine ⟨h.clen, h.tlen, fun i e c t he hc ht => ?_, fun i t ht => ?_, h.srt, fun g hg => ?_, gBlock h.row (fun j hj hl => ho.block j hl (fun e => (hS j e).2 hj))⟩
  · obtain ⟨k1, k2⟩ := h.inn i e c t he hc ht
    have hb := h.bnd i t ht
    exact ⟨k1.kept ⟨ho.size, fun b hb' hl => ho.block b hl (fun e => (hS b e).1 i t ht (by omega))⟩, k2.keep (fun b h1 h2 hl => ho.block b hl (fun e => (hS b e).1 i t ht (by omega))) ho.size⟩
  · have := h.bnd i t ht; have := ho.size; omega
  · have := h.own g hg; exact ⟨this.1, by have := ho.size; omega, this.2.2⟩
end Go.Proofs.YtchjjfjjcdjjcaaGreatDoor
