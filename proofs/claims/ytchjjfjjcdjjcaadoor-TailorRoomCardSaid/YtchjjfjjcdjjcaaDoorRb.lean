/- TailorRoom: raising keeps the order and leaves the next weights to nobody; whether a source is few. -/
import Derived.Test.YtchjjfjjcdjjcaaDoorIj
import Derived.Test.YtchjjfjjcdjjcaaDoorRa
import Derived.Test.YtchjjfjjcdjjcaaDoorOpenQ
namespace Go.Proofs.YtchjjfjjcdjjcaaDoor
open Go.RowKit

/-- what the raising of an element turns, weight by weight -/
theorem up_cases {lv : Int} {x y : El} (h : (upT lv x y).isSome = true) :
    (lv = 1 ∧ (upU (upT lv x) y).2 = y.2 ∧ ((x.1 < y.1 ∧ y.1 + 1 < 64256 ∧ (upU (upT lv x) y).1 = y.1 + 1) ∨ ((y.1 ≤ x.1 ∨ 64256 ≤ y.1) ∧ (upU (upT lv x) y).1 = y.1))) ∨
    (lv = 2 ∧ (upU (upT lv x) y).1 = y.1 ∧ (upU (upT lv x) y).2.2 = y.2.2 ∧ ((y.1 = x.1 ∧ x.2.1 < y.2.1 ∧ (upU (upT lv x) y).2.1 = y.2.1 + 1) ∨ (¬ (y.1 = x.1 ∧ x.2.1 < y.2.1) ∧ (upU (upT lv x) y).2.1 = y.2.1))) ∨
    (lv ≠ 1 ∧ lv ≠ 2 ∧ (upU (upT lv x) y).1 = y.1 ∧ (upU (upT lv x) y).2.1 = y.2.1 ∧ ((y.1 = x.1 ∧ y.2.1 = x.2.1 ∧ x.2.2.1 < y.2.2.1 ∧ (upU (upT lv x) y).2.2.1 = y.2.2.1 + 1) ∨ (¬ (y.1 = x.1 ∧ y.2.1 = x.2.1 ∧ x.2.2.1 < y.2.2.1) ∧ (upU (upT lv x) y).2.2.1 = y.2.2.1))) := by
  by_cases h1 : lv = 1
  · left
    refine ⟨h1, ?_⟩
    unfold upU
    unfold upT at h ⊢
    rw [if_pos h1] at h ⊢
    by_cases hc : x.1 < y.1 ∧ y.1 < 64256
    · rw [if_pos hc] at h ⊢
      by_cases hd : y.1 + 1 < 64256
      · rw [if_pos hd]; exact ⟨rfl, .inl ⟨hc.1, hd, rfl⟩⟩
      · rw [if_neg hd] at h; cases h
    · rw [if_neg hc]; exact ⟨rfl, .inr ⟨by omega, rfl⟩⟩
  · right
    by_cases h2 : lv = 2
    · left
      refine ⟨h2, ?_⟩
      unfold upU
      unfold upT at h ⊢
      rw [if_neg h1, if_pos h2] at h ⊢
      by_cases hc : y.1 = x.1 ∧ x.2.1 < y.2.1
      · rw [if_pos hc] at h ⊢
        by_cases hd : y.2.1 < 511
        · rw [if_pos hd]; exact ⟨rfl, rfl, .inl ⟨hc.1, hc.2, rfl⟩⟩
        · rw [if_neg hd] at h; cases h
      · rw [if_neg hc]; exact ⟨rfl, rfl, .inr ⟨hc, rfl⟩⟩
    · right
      refine ⟨h1, h2, ?_⟩
      unfold upU
      unfold upT at h ⊢
      rw [if_neg h1, if_neg h2] at h ⊢
      by_cases hc : y.1 = x.1 ∧ y.2.1 = x.2.1 ∧ x.2.2.1 < y.2.2.1
      · rw [if_pos hc] at h ⊢
        by_cases hd : y.2.2.1 < 63
        · rw [if_pos hd]; exact ⟨rfl, rfl, .inl ⟨hc.1, hc.2.1, hc.2.2, rfl⟩⟩
        · rw [if_neg hd] at h; cases h
      · rw [if_neg hc]; exact ⟨rfl, rfl, .inr ⟨hc, rfl⟩⟩
theorem sgnC_eq {a b c d : Int} (h1 : a < b ↔ c < d) (h2 : b < a ↔ d < c) : sgnC a b = sgnC c d := by
  unfold sgnC
  by_cases h : a < b
  · rw [if_pos h, if_pos (h1.1 h)]
  · rw [if_neg h, if_neg (fun k => h (h1.2 k))]
    by_cases k : b < a
    · rw [if_pos k, if_pos (h2.1 k)]
    · rw [if_neg k, if_neg (fun e => k (h2.2 e))]
theorem sgnC_ne {a b : Int} : sgnC a b ≠ 0 ↔ a ≠ b := by
  unfold sgnC
  by_cases h : a < b
  · rw [if_pos h]; omega
  · rw [if_neg h]; by_cases k : b < a
    · rw [if_pos k]; omega
    · rw [if_neg k]; omega
theorem cmpC_eq {x y a b : El} (h1 : sgnC a.1 b.1 = sgnC x.1 y.1) (h2 : x.1 = y.1 → sgnC a.2.1 b.2.1 = sgnC x.2.1 y.2.1) (h3 : x.1 = y.1 → x.2.1 = y.2.1 → sgnC a.2.2.1 b.2.2.1 = sgnC x.2.2.1 y.2.2.1) : cmpC a b = cmpC x y := by
  unfold cmpC
  rw [h1]
  by_cases k1 : x.1 = y.1
  · rw [h2 k1]
    have e1 : ¬ sgnC x.1 y.1 ≠ 0 := fun h => sgnC_ne.1 h k1
    rw [if_neg e1, if_neg e1]
    by_cases k2 : x.2.1 = y.2.1
    · rw [h3 k1 k2]
    · have e2 : sgnC x.2.1 y.2.1 ≠ 0 := sgnC_ne.2 k2
      rw [if_pos e2, if_pos e2]
  · have e1 : sgnC x.1 y.1 ≠ 0 := sgnC_ne.2 k1
    rw [if_pos e1, if_pos e1]
theorem cmp_up {lv : Int} {x y z : El} (hy : (upT lv x y).isSome = true) (hz : (upT lv x z).isSome = true) : cmpC (upU (upT lv x) y) (upU (upT lv x) z) = cmpC y z := by
  rcases up_cases hy with ⟨h1, a, b⟩ | ⟨h1, a, b, c⟩ | ⟨h1, h2, a, b, c⟩
  · rcases up_cases hz with ⟨_, d, e⟩ | ⟨h, _⟩ | ⟨h, _⟩
    · refine cmpC_eq (sgnC_eq ?_ ?_) (fun _ => by rw [a, d]) (fun _ _ => by rw [a, d])
      · omega
      · omega
    · omega
    · omega
  · rcases up_cases hz with ⟨h, _⟩ | ⟨_, d, e, f⟩ | ⟨_, h, _⟩
    · omega
    · refine cmpC_eq (by rw [a, d]) (fun _ => sgnC_eq ?_ ?_) (fun _ _ => by rw [b, e])
      · omega
      · omega
    · omega
  · rcases up_cases hz with ⟨h, _⟩ | ⟨h, _⟩ | ⟨_, _, d, e, f⟩
    · omega
    · omega
    · refine cmpC_eq (by rw [a, d]) (fun _ => by rw [b, e]) (fun _ _ => sgnC_eq ?_ ?_)
      · omega
      · omega
theorem next_free {lv : Int} {x y nx : El} (hn : nextT lv x = some nx) (hy : (upT lv x y).isSome = true) :
    (lv = 1 → (upU (upT lv x) y).1 ≠ nx.1) ∧ (lv = 2 → ¬ ((upU (upT lv x) y).1 = nx.1 ∧ (upU (upT lv x) y).2.1 = nx.2.1)) ∧ (lv ≠ 1 → lv ≠ 2 → ¬ ((upU (upT lv x) y).1 = nx.1 ∧ (upU (upT lv x) y).2.1 = nx.2.1 ∧ (upU (upT lv x) y).2.2.1 = nx.2.2.1)) := by
  unfold nextT at hn
  rcases up_cases hy with ⟨h1, a, b⟩ | ⟨h1, a, b, c⟩ | ⟨h1, h2, a, b, c⟩
  · rw [if_pos h1] at hn
    split at hn
    · cases hn; refine ⟨fun _ => ?_, fun h => by omega, fun h => by omega⟩
      show _ ≠ x.1 + 1
      omega
    · cases hn
  · rw [if_neg (by omega), if_pos h1] at hn
    split at hn
    · cases hn; refine ⟨fun h => by omega, fun _ h => ?_, fun _ h => by omega⟩
      have e1 : (upU (upT lv x) y).1 = x.1 := h.1
      have e2 : (upU (upT lv x) y).2.1 = x.2.1 + 1 := h.2
      omega
    · cases hn
  · rw [if_neg h1, if_neg h2] at hn
    split at hn
    · cases hn; refine ⟨fun h => by omega, fun h => by omega, fun _ _ h => ?_⟩
      have e1 : (upU (upT lv x) y).1 = x.1 := h.1
      have e2 : (upU (upT lv x) y).2.1 = x.2.1 := h.2.1
      have e3 : (upU (upT lv x) y).2.2.1 = x.2.2.1 + 1 := h.2.2
      omega
    · cases hn
theorem RngsIn.cells {R : Nat → Prop} {w : World} {v : Value} {xs : List Rng} (h : RngsIn R w v xs) : CellsIn w v xs.length 4 := by
  obtain ⟨p, cap, h1, h2⟩ := h
  refine ⟨p, cap, h1, fun j hj => ?_⟩
  have hl : j / 4 < xs.length := by omega
  obtain ⟨b, o, e, _, hb, c0, c1, c2, c3⟩ := h2 (j / 4) _ (List.getElem?_eq_getElem hl)
  have hd : j % 4 = 0 ∨ j % 4 = 1 ∨ j % 4 = 2 ∨ j % 4 = 3 := by omega
  rcases hd with hd | hd | hd | hd
  · exact ⟨b, o, _, e, hb, by rw [show o + j = o + j / 4 * 4 by omega]; exact c0, rfl⟩
  · exact ⟨b, o, _, e, hb, by rw [show o + j = o + j / 4 * 4 + 1 by omega]; exact c1, rfl⟩
  · exact ⟨b, o, _, e, hb, by rw [show o + j = o + j / 4 * 4 + 2 by omega]; exact c2, rfl⟩
  · exact ⟨b, o, _, e, hb, by rw [show o + j = o + j / 4 * 4 + 3 by omega]; exact c3, rfl⟩
theorem take_snocQ {α : Type} {l : List α} {i : Nat} {x : α} (h : l[i]? = some x) : l.take (i + 1) = l.take i ++ [x] := by rw [List.take_add_one, h]; rfl
def sumQ (es : List Ent) : Nat := (es.map fun x => x.1.length + x.2.length).sum
theorem sumQ_step {es : List Ent} {k : Nat} {x : Ent} (hx : es[k]? = some x) : sumQ (es.take (k + 1)) = sumQ (es.take k) + (x.1.length + x.2.length) := by
  unfold sumQ; rw [take_snocQ hx]; simp
theorem sumQ_le (es : List Ent) (h : ∀ x ∈ es, EntWf x) : sumQ es ≤ es.length * 39582418599936 := by
  induction es with
  | nil => simp [sumQ]
  | cons x xs ih =>
    have h1 := h x (List.mem_cons_self ..)
    have h2 := ih (fun y hy => h y (List.mem_cons_of_mem _ hy))
    have := h1.1; have := h1.2.1
    unfold sumQ at *
    simp only [List.map_cons, List.sum_cons, List.length_cons]
    omega
theorem sumQ_mem {es : List Ent} {x : Ent} (h : x ∈ es) : x.1.length + x.2.length ≤ sumQ es := by
  induction es with
  | nil => cases h
  | cons y ys ih =>
    unfold sumQ at *
    simp only [List.map_cons, List.sum_cons]
    rcases List.mem_cons.1 h with rfl | h
    · omega
    · have := ih h; omega

set_option maxHeartbeats 4000000 in
set_option maxRecDepth 100000 in
theorem few10_small (R : Nat → Prop) (es : List Ent) (ver : ByteArray) (n c1 : Nat) (p1 : Option Addr) (v : Value) (w : World) (hv : EntsIn R w v es) (hok : ∀ x ∈ es, EntWf x) (hl : es.length ≤ 40) (hn : n ≤ 5864062014808) :
    Calls Tryd.prog 9 #[.agg #[.string ver, .slice p1 n c1, v]] w fun e w' => e = .returned (.bool (decide (es.length + n + sumQ es ≤ 1200))) ∧ Below w.heap.size w w' := by
  have HV := Lib.hid hv
  obtain ⟨p, cp, rfl, _⟩ := hv
  have HOK := Lib.hid hok
  clear hok
  go_enter Tryd.func9, Tryd.ntmps9
  go_wp2
  go_loopw [3, 16] (fun nv i wr => ∃ k : Nat, i = .int .i64 k ∧ k ≤ es.length ∧ nv = .int .i64 ((es.length + n + sumQ (es.take k) : Nat) : Int) ∧ Below w.heap.size w wr) (fun _ i _ => es.length - (intOf i).toNat)
  case atStart => exact ⟨0, rfl, Nat.zero_le _, by simp [sumQ], by (repeat' (first | (with_reducible exact Below.refl _ _) | (with_reducible assumption) | (with_reducible refine Below.alloc ?_ ?_ _) | (with_reducible refine Below.drew ?_) | (with_reducible refine below_drewN ?_ _) | (with_reducible refine Below.setCell ?_ ?_ _) | (with_reducible refine Below.trans ?_ (Below.mono (by assumption) ?_)) | go_size))⟩
  case round =>
    obtain ⟨k, rfl, hk, rfl, hbr⟩ := hrel
    have HB := Lib.hid hbr
    by_cases hlt : k < es.length
    · have hlt' : decide (k < es.length) = true := decide_eq_true hlt
      obtain ⟨x, hx⟩ : ∃ x, es[k]? = some x := ⟨es[k], List.getElem?_eq_getElem hlt⟩
      obtain ⟨b, o, c, el, rfl, hbR, hbl, hc0, hc1, hci, hue⟩ := (HV.out.kept (Kept.below hbr)).at k x hx
      obtain ⟨pc, cc, rfl, _⟩ := hci
      obtain ⟨pu, cu, rfl, _⟩ := hue
      have HL := Lib.hid hlt
      have hst := sumQ_step hx
      have hox := HOK.out x (List.mem_of_getElem? hx)
      have hb1 := hox.1
      have hb2 := hox.2.1
      have hs := sumQ_le (es.take k) (fun y hy => HOK.out y (List.mem_of_mem_take hy))
      have htl : (es.take k).length ≤ 40 := by rw [List.length_take]; omega
      obtain ⟨m, hm⟩ : ∃ m, m = sumQ (es.take k) := ⟨_, rfl⟩
      rw [← hm] at hst hs
      rw [← hm]
      have hx1 : x.1.length ≤ 35184372087808 := by omega
      have hx2 : x.2.length ≤ 4398046510976 := by omega
      have hmm : m ≤ 1583296743997440 := by omega
      have HST := Lib.hid hst
      clear hx hlt hbr hm hst hox hb1 hb2 hs htl
      go_wp2
      go_roundw
      case rel => exact ⟨k + 1, by go_num, HL.out, by rw [HST.out]; push_cast; congr 1; omega, HB.out.trans (((Below.refl _ wr).alloc (Nat.le_refl _) _).mono HB.out.size)⟩
      case measure => (have hq := HL.out; simp [intOf]; omega)
    · have hlt' : decide (k < es.length) = false := decide_eq_false hlt
      have HE : Hid (es.take k = es) := List.take_of_length_le (by omega)
      obtain ⟨m, hm⟩ : ∃ m, m = sumQ (es.take k) := ⟨_, rfl⟩
      rw [← hm]
      rw [HE.out] at hm
      have HM := Lib.hid hm
      clear hlt hbr hm
      go_wp2
      go_ret
      exact ⟨by rw [← HM.out]; (have e : ((es.length + n + m : Nat) : Int) ≤ 1200 ↔ es.length + n + m ≤ 1200 := by omega); simp only [Ending.returned.injEq]; show Value.bool _ = _; simp only [Value.bool.injEq]; first | rfl | (rw [Bool.eq_iff_iff]; simp; omega), HB.out⟩
set_option maxHeartbeats 4000000 in
set_option maxRecDepth 100000 in
theorem few10_any (R : Nat → Prop) (es : List Ent) (ver : ByteArray) (n c1 : Nat) (p1 : Option Addr) (v : Value) (w : World) (hv : EntsIn R w v es) (hok : ∀ x ∈ es, EntWf x) (hl : es.length ≤ 140737488351232) (hn : n ≤ 5864062014808) :
    Calls Tryd.prog 9 #[.agg #[.string ver, .slice p1 n c1, v]] w fun e w' => ∃ b, e = .returned (.bool b) ∧ Below w.heap.size w w' := by
  have HV := Lib.hid hv
  obtain ⟨p, cp, rfl, _⟩ := hv
  have HOK := Lib.hid hok
  clear hok
  go_enter Tryd.func9, Tryd.ntmps9
  go_wp2
  go_loopw [3, 16] (fun nv i wr => ∃ (k : Nat) (z : Int), i = .int .i64 k ∧ k ≤ es.length ∧ nv = .int .i64 z ∧ Below w.heap.size w wr) (fun _ i _ => es.length - (intOf i).toNat)
  case atStart => exact ⟨0, _, rfl, Nat.zero_le _, rfl, by (repeat' (first | (with_reducible exact Below.refl _ _) | (with_reducible assumption) | (with_reducible refine Below.alloc ?_ ?_ _) | (with_reducible refine Below.drew ?_) | (with_reducible refine below_drewN ?_ _) | (with_reducible refine Below.setCell ?_ ?_ _) | (with_reducible refine Below.trans ?_ (Below.mono (by assumption) ?_)) | go_size))⟩
  case round =>
    obtain ⟨k, z, rfl, hk, rfl, hbr⟩ := hrel
    have HB := Lib.hid hbr
    by_cases hlt : k < es.length
    · have hlt' : decide (k < es.length) = true := decide_eq_true hlt
      obtain ⟨x, hx⟩ : ∃ x, es[k]? = some x := ⟨es[k], List.getElem?_eq_getElem hlt⟩
      obtain ⟨b, o, c, el, rfl, hbR, hbl, hc0, hc1, hci, hue⟩ := (HV.out.kept (Kept.below hbr)).at k x hx
      obtain ⟨pc, cc, rfl, _⟩ := hci
      obtain ⟨pu, cu, rfl, _⟩ := hue
      have HL := Lib.hid hlt
      clear hx hlt hbr
      go_wp2
      go_roundw
      case rel => exact ⟨k + 1, _, by go_num, HL.out, rfl, HB.out.trans (((Below.refl _ wr).alloc (Nat.le_refl _) _).mono HB.out.size)⟩
      case measure => (have hq := HL.out; simp [intOf]; omega)
    · have hlt' : decide (k < es.length) = false := decide_eq_false hlt
      clear hlt hbr
      go_wp2
      go_ret
      exact ⟨_, rfl, HB.out⟩
end Go.Proofs.YtchjjfjjcdjjcaaDoor
