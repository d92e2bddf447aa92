/- Package norms: whole. The reference's step, class, told, Hangul, deep: walked. -/
import Derived.Test.YtnglhgogkemgbaaGreatDoorG15
namespace Go.Proofs.YtnglhgogkemgbaaGreatDoor
open Go.RowKit

/-- new runes of our own -/
def NewRunes (xs : List Int) (w : World) (e : Ending) (w' : World) : Prop :=
  ∃ v, e = .returned v ∧ w'.ownsRow w.heap.size 21 1 v xs.length (xs.map (Value.int .i32)) ∧ Below w.heap.size w w'
/-- the numbers of a row of our own, as a slice that is read -/
theorem runes_of_own {B : Nat} {w : World} {v : Value} {e : TypeId} {k : IntKind} {xs : List Int} (h : w.ownsRow B e 1 v xs.length (xs.map (Value.int k))) : IntsIn (fun b => B ≤ b) k w v xs := by
  rcases h.2 with ⟨rfl, h0⟩ | ⟨g, cap, cur, rfl, hg, hgb, h1, h2, h3, h4⟩
  · obtain rfl := List.eq_nil_of_length_eq_zero h0; exact .nil _ _ _
  · refine ⟨_, _, rfl, ⟨h1, h2⟩, fun i x hx => ⟨g, 0, rfl, hg, (Array.getElem?_eq_some_iff.1 hgb).1, ?_⟩⟩
    have hi : i < xs.length := (List.getElem?_eq_some_iff.1 hx).1
    have e : (cur.toList.take (xs.length * 1))[i]? = some (.int k x) := by rw [h4]; simp [hx]
    rw [List.getElem?_take, if_pos (by omega)] at e
    simp [World.cell?, hgb]; simpa using e
theorem ownsRow_mono {base base' : Nat} {e : TypeId} {size n : Nat} {v : Value} {xs : List Value} {w : World} (h : w.ownsRow base e size v n xs) (hb : base' ≤ base) : w.ownsRow base' e size v n xs := by
  refine ⟨h.1, ?_⟩
  rcases h.2 with h' | ⟨g, cap, cur, rfl, hg, hgb, hr⟩
  · exact .inl h'
  · exact .inr ⟨g, cap, cur, rfl, Nat.le_trans hb hg, hgb, hr⟩
theorem hang_len (r : Int) (h1 : 44032 ≤ r) (h2 : r ≤ 55203) : ∃ n, (hang r).length = n + 1 := by
  unfold hang; rw [if_neg (by omega)]
  split <;> exact ⟨_, rfl⟩
set_option maxHeartbeats 1000000 in
set_option maxRecDepth 100000 in
theorem whole_hang (p : Option Addr) (n c : Nat) (r : Int) (w : World) (h1 : 44032 ≤ r) (h2 : r ≤ 55203) :
    Calls Tryz.prog 133 #[.slice p n c, .int .i32 r] w (NewRunes (hang r) w) := by
  have hh := hangul_yes r h1 h2 w
  have HL := Lib.hid (hang_len r h1 h2)
  clear h1 h2
  go_enter Tryz.func133, Tryz.ntmps133
  go_wp2_with fail
  refine hh.mono ?_
  rintro e w1 ⟨v, rfl, hr, hb⟩
  obtain ⟨m, hm⟩ := HL.out
  have hr' := hr
  rw [hm] at hr'
  obtain ⟨g, cap, rfl⟩ := ownsRow_succ hr'
  have HR := Lib.hid hr
  clear hh hr hr' hm
  go_wp2_with fail
  go_ret
  exact ⟨_, rfl, HR.out, hb⟩
set_option maxHeartbeats 1000000 in
set_option maxRecDepth 100000 in
theorem whole_leaf (R : Nat → Prop) (d : List T3) (v : Value) (r : Int) (w : World) (hv : TrisIn R .i32 w v d) (hd : decFrom none d = true) (hl : d.length ≤ 8000) (hr : -2147483648 ≤ r ∧ r ≤ 2147483647) (h0 : r < 44032 ∨ 55203 < r) (h1 : dOne d r = none) :
    Calls Tryz.prog 133 #[v, .int .i32 r] w (NewRunes [r] w) := by
  have hh := hangul_no r h0 w
  have hone := one_any R d v r w hv hd hl hr
  obtain ⟨p, cp, rfl, hcp, _⟩ := hv
  rw [h1] at hone
  clear hd h0
  go_enter Tryz.func133, Tryz.ntmps133
  go_wp2_with fail
  refine hh.mono ?_
  rintro e w1 ⟨rfl, rfl⟩
  go_wp2_with fail
  refine hone.mono ?_
  rintro e w1 ⟨rfl, hb1⟩
  unfold oneAgg triAgg
  simp only [Option.isSome_none]
  clear hone hh
  go_wp2_with fail
  go_ret
  have hz := hb1.size
  refine ⟨_, rfl, ?_, (hb1.alloc hz _).alloc (by simp; omega) _⟩
  have := World.ownsRow_lit (base := w.heap.size) (e := 21) (size := 1) (w1.alloc (.cells #[.int .i32 0, .int .i32 0, .int .i32 0] 94)) #[.int .i32 r] 1 (by simp; omega) (by decide) rfl
  rwa [World.size_alloc] at this
theorem deep_len (d : List T3) : ∀ (k : Nat) (r : Int), (deep d k r).1.length ≤ 3 + k := by
  intro k
  induction k with
  | zero =>
    intro r; unfold deep; split
    · unfold hang; split
      · simp
      · split <;> simp
    · cases dOne d r <;> simp
  | succ k ih =>
    intro r; unfold deep; split
    · unfold hang; split
      · simp
      · split <;> simp <;> omega
    · cases dOne d r with
      | none => simp; omega
      | some x =>
        have := ih x.2.1
        simp only [List.length_append]
        split <;> simp <;> omega
theorem hang_in {r : Int} (h : hang r ≠ []) : 44032 ≤ r ∧ r ≤ 55203 := by
  rcases Int.lt_or_le r 44032 with h1 | h1
  · exact absurd (hang_no (.inl h1)) h
  · rcases Int.lt_or_le 55203 r with h2 | h2
    · exact absurd (hang_no (.inr h2)) h
    · exact ⟨h1, h2⟩
theorem hang_out {r : Int} (h : hang r = []) : r < 44032 ∨ 55203 < r := by
  rcases Int.lt_or_le r 44032 with h1 | h1
  · exact .inl h1
  · rcases Int.lt_or_le 55203 r with h2 | h2
    · exact .inr h2
    · obtain ⟨n, hn⟩ := hang_len r h1 h2
      rw [h] at hn; simp at hn
def withB (L : List Int) (b : Int) : List Int := L ++ (if b = 0 then [] else [b])
theorem withB_no {L : List Int} {b : Int} (h : b = 0) : withB L b = L := by unfold withB; rw [if_pos h, List.append_nil]
theorem withB_yes {L : List Int} {b : Int} (h : ¬ b = 0) : withB L b = L ++ [b] := by unfold withB; rw [if_neg h]
set_option maxHeartbeats 4000000 in
set_option maxRecDepth 100000 in
theorem whole_step (R : Nat → Prop) (d : List T3) (v : Value) (x : T3) (L : List Int) (r : Int) (w : World) (hv : TrisIn R .i32 w v d) (hd : decFrom none d = true) (hl : d.length ≤ 8000) (hr : -2147483648 ≤ r ∧ r ≤ 2147483647) (hout : r < 44032 ∨ 55203 < r) (hn : dOne d r = some x)
    (hxb : 0 ≤ x.2.1 ∧ x.2.1 ≤ 1114111 ∧ 0 ≤ x.2.2 ∧ x.2.2 ≤ 1114111) (hrec : ∀ w1, TrisIn R .i32 w1 v d → Calls Tryz.prog 133 #[v, .int .i32 x.2.1] w1 (NewRunes L w1))
    (hBx : x.2.2 = 0 ∨ (dOne d x.2.2 = none ∧ hang x.2.2 = [])) (hlen : L.length ≤ 7) :
    Calls Tryz.prog 133 #[v, .int .i32 r] w (NewRunes (withB L x.2.2) w) := by
  obtain ⟨i0, hi, hz0, hz1, hz2⟩ := info_parts Tryz.infoI32
  have hh := hangul_no r hout w
  have hone := one_any R d v r w hv hd hl hr
  have HV := Lib.hid hv
  have HD := Lib.hid hd
  have HREC := Lib.hid hrec
  have HBX := Lib.hid hBx
  have HXB := Lib.hid hxb
  obtain ⟨p, cp, rfl, hcp, _⟩ := hv
  rw [hn] at hone
  clear hd hout hrec hBx hxb hr hn
  go_enter Tryz.func133, Tryz.ntmps133
  go_wp2_with fail
  refine hh.mono ?_
  rintro e w1 ⟨rfl, rfl⟩
  go_wp2_with fail
  refine hone.mono ?_
  rintro e w1 ⟨rfl, hb1⟩
  unfold oneAgg triAgg
  simp only [Option.isSome_some]
  have HB1 : Hid (Below w.heap.size w (w1.alloc (.cells #[.int .i32 x.1, .int .i32 x.2.1, .int .i32 x.2.2] 94))) := hb1.alloc hb1.size _
  clear hone hh
  go_wp2_with fail
  refine (HREC.out _ (HV.out.kept (Kept.below HB1.out))).mono ?_
  rintro e w2 ⟨v2, rfl, hr2, hb2⟩
  have q2 : w2.cell? ⟨w1.heap.size, 2, none⟩ = some (.int .i32 x.2.2) := by
    rw [hb2.cell (p := ⟨w1.heap.size, 2, none⟩) (by simp)]
    unfold World.cell?; rw [World.alloc_heap_new]; rfl
  have HR2 : Hid (w2.ownsRow w.heap.size 21 1 v2 L.length (L.map (Value.int .i32))) := ownsRow_mono hr2 HB1.out.size
  have HB2 : Hid (Below w.heap.size w w2) := HB1.out.trans (hb2.mono HB1.out.size)
  clear hr2 hb2 hb1
  by_cases h0 : x.2.2 = 0
  · have d0 : (x.2.2 != 0) = false := by rw [h0]; rfl
    have HW := Lib.hid (withB_no (L := L) h0)
    clear h0
    go_wp2_with fail
    go_ret
    exact ⟨v2, rfl, by rw [HW.out]; exact HR2.out, HB2.out⟩
  · have d0 : (x.2.2 != 0) = true := by simpa using h0
    have HW := Lib.hid (withB_yes (L := L) h0)
    have hBy := HBX.out.resolve_left h0
    have hxb := HXB.out
    have hleaf := whole_leaf R d _ x.2.2 w2 (HV.out.kept (Kept.below HB2.out)) HD.out hl (by omega) (hang_out hBy.2) hBy.1
    clear h0 hBy hxb
    go_wp2_with fail
    refine hleaf.mono ?_
    rintro e w3 ⟨v3, rfl, hr3, hb3⟩
    have HR3 := Lib.hid (ownsRow_below HR2.out hb3)
    have HB3 : Hid (Below w.heap.size w w3) := HB2.out.trans (hb3.mono HB2.out.size)
    obtain ⟨g, o, c3, rfl, _, _, hc3⟩ := (runes_of_own hr3).place (by simp)
    have HC3 := Lib.hid hc3
    have hl1 : ([x.2.2] : List Int).length = 1 := rfl
    clear hleaf hr3 hb3 hc3 HR2 HB2
    go_wp2_with (at_builtin; refine app_stop ⟨_, _, rfl⟩ ?_)
    refine Lib.hid ?_; refine wpList_append_own _ rfl _ _ 42 rfl (w.heap.size) 21 i0 (.int .i32 0) 1 4 Tryz.underlying42 hi hz0 hz1 hz2 rfl (by decide) _ _ _ rfl (HR3.out) (⟨g, o, none⟩) _ _ (([x.2.2]).map (Value.int .i32)) rfl (by simp; try omega) (news_of (HC3.out)) (by simp [Value.oneCell']) (by unfold maxLen; omega) (by omega) (HB3.out.size) ?_
    intro v5 w5 hr5 hg5 _
    have hg5' : w3.grownBy w5 v2.ownBlock := hg5
    have HR5 : Hid (w5.ownsRow w.heap.size 21 1 v5 (L ++ [x.2.2]).length ((L ++ [x.2.2]).map (Value.int .i32))) := by
      show World.ownsRow _ _ _ _ _ _ _
      rw [List.length_append, List.map_append]; exact hr5
    have HB5 : Hid (Below w.heap.size w w5) := HB3.out.grown hg5' HB3.out.size (fun j hj => (HR3.out.lt j hj).1)
    clear hr5 hg5 hg5' HR3 HB3
    go_wp2
    refine bodyPost_ret (v := v5) (by simp [results, Tryz.results133, go_sem]) rfl ⟨v5, rfl, by rw [HW.out]; exact HR5.out, HB5.out⟩
set_option maxHeartbeats 2000000 in
set_option maxRecDepth 100000 in
theorem whole_any (R : Nat → Prop) (d : List T3) (v : Value) (hd : decFrom none d = true) (hl : d.length ≤ 8000) (hB : ∀ x ∈ d, x.2.2 = 0 ∨ (dOne d x.2.2 = none ∧ hang x.2.2 = [])) :
    ∀ (k : Nat), k ≤ 4 → ∀ (r : Int) (w : World), TrisIn R .i32 w v d → (-2147483648 ≤ r ∧ r ≤ 2147483647) → ends d k r → Calls Tryz.prog 133 #[v, .int .i32 r] w (NewRunes (deep d k r).1 w) := by
  intro k
  induction k with
  | zero =>
    intro _ r w hv hr he
    by_cases hh : hang r ≠ []
    · have e : (deep d 0 r).1 = hang r := by unfold deep; rw [if_pos hh]
      rw [e]
      obtain ⟨p, cp, rfl, hcp, _⟩ := hv
      exact whole_hang _ _ _ r w (hang_in hh).1 (hang_in hh).2
    · have hn : dOne d r = none := he
      have e : (deep d 0 r).1 = [r] := by unfold deep; rw [if_neg hh, hn]
      rw [e]
      exact whole_leaf R d v r w hv hd hl hr (hang_out (Decidable.not_not.1 hh)) hn
  | succ k ih =>
    intro hk r w hv hr he
    by_cases hh : hang r ≠ []
    · have e : (deep d (k + 1) r).1 = hang r := by unfold deep; rw [if_pos hh]
      rw [e]
      obtain ⟨p, cp, rfl, hcp, _⟩ := hv
      exact whole_hang _ _ _ r w (hang_in hh).1 (hang_in hh).2
    · have hout := hang_out (Decidable.not_not.1 hh)
      cases hn : dOne d r with
      | none =>
        have e : (deep d (k + 1) r).1 = [r] := by unfold deep; rw [if_neg hh, hn]
        rw [e]
        exact whole_leaf R d v r w hv hd hl hr hout hn
      | some x =>
        have e : (deep d (k + 1) r).1 = withB (deep d k x.2.1).1 x.2.2 := by
          conv => lhs; unfold deep
          rw [if_neg hh, hn]; rfl
        have hek : ends d k x.2.1 := by
          unfold ends at he
          rw [hn] at he; exact he
        have hxb := ends_bound hd hn
        have hrec := fun w1 (h : TrisIn R .i32 w1 v d) => ih (by omega) x.2.1 w1 h (by omega) hek
        have hBx := hB x (dOne_at hn).2
        have hlen := deep_len d k x.2.1
        rw [e]
        exact whole_step R d v x _ r w hv hd hl hr hout hn hxb hrec hBx (by omega)
end Go.Proofs.YtnglhgogkemgbaaGreatDoor
namespace Go.Proofs.YtnglhgogkemgbaaGreatDoor
open Go.RowKit

/-- where a decomposition by one step stands; -1: there is none -/
def StepTold (d : List T3) (r : Int) (w : World) (e : Ending) (w' : World) : Prop :=
  ∃ k : Int, e = .returned (.int .i64 k) ∧ ((k = -1 ∧ dOne d r = none) ∨ ∃ (i : Nat) (x : T3), k = (i : Int) ∧ d[i]? = some x ∧ dOne d r = some x) ∧ Below w.heap.size w w'
set_option maxHeartbeats 2000000 in
set_option maxRecDepth 100000 in
theorem rstep_any (R : Nat → Prop) (d : List T3) (v : Value) (r : Int) (w : World) (hv : TrisIn R .i32 w v d) (hl : d.length ≤ 8000) :
    Calls Tryz.prog 77 #[v, .int .i32 r] w (StepTold d r w) := by
  have HV := Lib.hid hv
  obtain ⟨p, cp, rfl, hcp, _⟩ := hv
  go_enter Tryz.func77, Tryz.ntmps77
  go_wp2
  go_loopw [9] (fun iv wr => ∃ i : Nat, iv = .int .i64 i ∧ i ≤ d.length ∧ (∀ (j : Nat) (y : T3), j < i → d[j]? = some y → (y.1 == r) = false) ∧ Below w.heap.size w wr) (fun iv _ => d.length - (intOf iv).toNat)
  case atStart => exact ⟨0, rfl, by omega, fun j y hj => by omega, Below.refl _ _⟩
  case round =>
    obtain ⟨i, rfl, hi, hno, hb⟩ := hrel
    have HB := Lib.hid hb
    have HNO := Lib.hid hno
    by_cases hlt : i < d.length
    · have e1 : decide ((i : Int) < (d.length : Int)) = true := decide_eq_true (by omega)
      have e2 : decide (i < d.length) = true := decide_eq_true hlt
      have hx : d[i]? = some d[i] := List.getElem?_eq_getElem hlt
      generalize d[i] = x at hx
      obtain ⟨b, o, rfl, hbR, hbl, q0, q1, q2⟩ := (HV.out.kept (Kept.below hb)).at i x hx
      have HX := Lib.hid hx
      have HL := Lib.hid hlt
      cases hq : (x.1 == r) with
      | true =>
        clear hx hlt hb hno
        go_wp2
        go_ret
        exact ⟨(i : Int), rfl, .inr ⟨i, x, rfl, HX.out, find_at _ d i x HX.out hq HNO.out⟩, HB.out.alloc HB.out.size _⟩
      | false =>
        clear hx hlt hb hno
        have HQ := Lib.hid hq
        go_wp2
        go_roundw
        case rel =>
          refine ⟨i + 1, by go_num, by have := HL.out; omega, fun j y hj hy => ?_, HB.out.alloc HB.out.size _⟩
          rcases Nat.lt_or_ge j i with h | h
          · exact HNO.out j y h hy
          · obtain rfl : j = i := by omega
            rw [HX.out] at hy; cases hy; exact HQ.out
        case measure => (have hq := HL.out; simp [intOf]; omega)
    · have e1 : decide ((i : Int) < (d.length : Int)) = false := decide_eq_false (by omega)
      have e2 : decide (i < d.length) = false := decide_eq_false hlt
      have HL := Lib.hid hlt
      clear hlt hb hno
      go_wp2
      go_ret
      exact ⟨-1, rfl, .inl ⟨rfl, find_no _ d fun j y hy => HNO.out j y (by have := (List.getElem?_eq_some_iff.1 hy).1; have := HL.out; omega) hy⟩, HB.out⟩
set_option maxHeartbeats 2000000 in
set_option maxRecDepth 100000 in
theorem rclass_any (R : Nat → Prop) (c : List T3) (v : Value) (r : Int) (w : World) (hv : TrisIn R .i64 w v c) (hl : c.length ≤ 4000) :
    Calls Tryz.prog 27 #[v, .int .i32 r] w fun e w' => e = .returned (.int .i64 (clsOf c r)) ∧ Below w.heap.size w w' := by
  have HV := Lib.hid hv
  obtain ⟨p, cp, rfl, hcp, _⟩ := hv
  go_enter Tryz.func27, Tryz.ntmps27
  go_wp2
  go_loopw [9] (fun iv wr => ∃ i : Nat, iv = .int .i64 i ∧ i ≤ c.length ∧ (∀ (j : Nat) (y : T3), j < i → c[j]? = some y → (decide (y.1 ≤ r) && decide (r ≤ y.2.1)) = false) ∧ Below w.heap.size w wr) (fun iv _ => c.length - (intOf iv).toNat)
  case atStart => exact ⟨0, rfl, by omega, fun j y hj => by omega, Below.refl _ _⟩
  case round =>
    obtain ⟨i, rfl, hi, hno, hb⟩ := hrel
    have HB := Lib.hid hb
    have HNO := Lib.hid hno
    by_cases hlt : i < c.length
    · have e1 : decide ((i : Int) < (c.length : Int)) = true := decide_eq_true (by omega)
      have e2 : decide (i < c.length) = true := decide_eq_true hlt
      have hx : c[i]? = some c[i] := List.getElem?_eq_getElem hlt
      generalize c[i] = x at hx
      obtain ⟨b, o, rfl, hbR, hbl, q0, q1, q2⟩ := (HV.out.kept (Kept.below hb)).at i x hx
      have HX := Lib.hid hx
      have HL := Lib.hid hlt
      have hparts : (decide (x.1 ≤ r) = false) ∨ (decide (x.1 ≤ r) = true ∧ decide (r ≤ x.2.1) = false) ∨ (decide (x.1 ≤ r) = true ∧ decide (r ≤ x.2.1) = true) := by
        cases decide (x.1 ≤ r) <;> cases decide (r ≤ x.2.1) <;> simp
      clear hx hlt hb hno
      rcases hparts with h1 | ⟨h1, h2⟩ | ⟨h1, h2⟩
      case inr.inr =>
        have HQ : Hid ((decide (x.1 ≤ r) && decide (r ≤ x.2.1)) = true) := by show _ = _; rw [h1, h2]; rfl
        go_wp2
        go_ret
        refine ⟨?_, HB.out.alloc HB.out.size _⟩
        unfold clsOf
        rw [find_at _ c i x HX.out HQ.out HNO.out]
        rfl
      all_goals
        have HQ : Hid ((decide (x.1 ≤ r) && decide (r ≤ x.2.1)) = false) := by show _ = _; rw [h1]; first | rfl | (rw [h2]; rfl)
        go_wp2
        go_roundw
      all_goals first
        | (refine ⟨i + 1, by go_num, by have := HL.out; omega, fun j y hj hy => ?_, HB.out.alloc HB.out.size _⟩
           rcases Nat.lt_or_ge j i with h | h
           · exact HNO.out j y h hy
           · obtain rfl : j = i := by omega
             rw [HX.out] at hy; cases hy; exact HQ.out)
        | (have hq := HL.out; simp [intOf]; omega)
    · have e1 : decide ((i : Int) < (c.length : Int)) = false := decide_eq_false (by omega)
      have e2 : decide (i < c.length) = false := decide_eq_false hlt
      have HL := Lib.hid hlt
      clear hlt hb hno
      go_wp2
      go_ret
      refine ⟨?_, HB.out⟩
      unfold clsOf
      rw [find_no _ c fun j y hy => HNO.out j y (by have := (List.getElem?_eq_some_iff.1 hy).1; have := HL.out; omega) hy]
      rfl
set_option maxHeartbeats 1000000 in
set_option maxRecDepth 100000 in
theorem told_any (r : Int) (w : World) :
    Calls Tryz.prog 76 #[.int .i32 r] w fun e w' => e = .returned (.bool (told r)) ∧ w = w' := by
  have hc : (told r = true ∧ ((decide (4352 ≤ r) = true ∧ decide (r ≤ 4370) = true) ∨ (decide (4352 ≤ r) = true ∧ decide (r ≤ 4370) = false ∧ decide (4449 ≤ r) = true ∧ decide (r ≤ 4469) = true) ∨ (decide (4352 ≤ r) = true ∧ decide (r ≤ 4370) = false ∧ decide (4449 ≤ r) = true ∧ decide (r ≤ 4469) = false ∧ decide (4520 ≤ r) = true ∧ decide (r ≤ 4546) = true))) ∨
      (told r = false ∧ ((decide (4352 ≤ r) = false ∧ decide (4449 ≤ r) = false ∧ decide (4520 ≤ r) = false) ∨ (decide (4352 ≤ r) = true ∧ decide (r ≤ 4370) = false ∧ decide (4449 ≤ r) = false ∧ decide (4520 ≤ r) = false) ∨ (decide (4352 ≤ r) = true ∧ decide (r ≤ 4370) = false ∧ decide (4449 ≤ r) = true ∧ decide (r ≤ 4469) = false ∧ decide (4520 ≤ r) = false) ∨
        (decide (4352 ≤ r) = true ∧ decide (r ≤ 4370) = false ∧ decide (4449 ≤ r) = true ∧ decide (r ≤ 4469) = false ∧ decide (4520 ≤ r) = true ∧ decide (r ≤ 4546) = false))) := by
    unfold told
    simp only [decide_eq_true_eq, decide_eq_false_iff_not, Bool.or_eq_true, Bool.and_eq_true, Bool.or_eq_false_iff, Bool.and_eq_false_iff]
    omega
  rcases hc with ⟨hh, h⟩ | ⟨hh, h⟩
  · rw [hh]; clear hh
    rcases h with ⟨a, b⟩ | ⟨a, b, c, d⟩ | ⟨a, b, c, d, e, f⟩
    all_goals
      go_enter Tryz.func76, Tryz.ntmps76
      go_wp2
      go_ret
      exact ⟨rfl, rfl⟩
  · rw [hh]; clear hh
    rcases h with ⟨a, b, c⟩ | ⟨a, b, c, d⟩ | ⟨a, b, c, d, e⟩ | ⟨a, b, c, d, e, f⟩
    all_goals
      go_enter Tryz.func76, Tryz.ntmps76
      go_wp2
      go_ret
      exact ⟨rfl, rfl⟩
set_option maxHeartbeats 1000000 in
set_option maxRecDepth 100000 in
theorem rhangul_no (r : Int) (h : r < 44032 ∨ 55203 < r) (w : World) :
    Calls Tryz.prog 78 #[.int .i32 r] w fun e w' => e = .returned (.slice none 0 0) ∧ w = w' := by
  go_enter Tryz.func78, Tryz.ntmps78
  by_cases h1 : r < 44032
  · have d1 : decide (r < 44032) = true := decide_eq_true h1
    go_wp2
    all_goals first | (exfalso; omega) | (go_ret; exact ⟨rfl, rfl⟩)
  · have d1 : decide (r < 44032) = false := decide_eq_false h1
    have d2 : decide (55203 < r) = true := decide_eq_true (by omega)
    go_wp2
    all_goals first | (exfalso; omega) | (go_ret; exact ⟨rfl, rfl⟩)
set_option maxHeartbeats 2000000 in
set_option maxRecDepth 100000 in
theorem rhangul_yes (r : Int) (h1 : 44032 ≤ r) (h2 : r ≤ 55203) (w : World) :
    Calls Tryz.prog 78 #[.int .i32 r] w fun e w' => ∃ v, e = .returned v ∧ w'.ownsRow w.heap.size 21 1 v (hang r).length ((hang r).map (Value.int .i32)) ∧ Below w.heap.size w w' := by
  obtain ⟨i0, hi, hz0, hz1, hz2⟩ := info_parts Tryz.infoI32
  have HH : Hid (hang r = [4352 + (r - 44032) / 588, 4449 + (r - 44032) % 588 / 28] ++ (if (r - 44032) % 28 = 0 then [] else [4519 + (r - 44032) % 28])) := by
    show _ = _; unfold hang; rw [if_neg (by omega)]
  have hsw : IntKind.i32.wrap (r - 44032) = r - 44032 := by rw [IntKind.wrap_i32]; omega
  have d1 : decide (r < 44032) = false := decide_eq_false (by omega)
  have d2 : decide (55203 < r) = false := decide_eq_false (by omega)
  by_cases h28 : (r - 44032) % 28 = 0
  · have d3 : ((r - 44032) % 28 != 0) = false := by rw [h28]; rfl
    rw [if_pos h28, List.append_nil] at HH
    clear h28
    go_enter Tryz.func78, Tryz.ntmps78
    go_wp2_with (at_builtin; refine app_stop ⟨_, _, rfl⟩ ?_)
    generalize 4352 + (r - 44032) / 588 = x0 at *
    generalize 4449 + (r - 44032) % 588 / 28 = x1 at *
    go_ret
    refine ⟨_, rfl, ?_, (Below.refl _ w).alloc (Nat.le_refl _) _⟩
    rw [HH.out]
    exact World.ownsRow_lit w #[.int .i32 x0, .int .i32 x1] 2 (Nat.le_refl _) (by decide) rfl
  · have d3 : ((r - 44032) % 28 != 0) = true := by simpa using h28
    rw [if_neg h28] at HH
    clear h28
    go_enter Tryz.func78, Tryz.ntmps78
    go_wp2_with (at_builtin; refine app_stop ⟨_, _, rfl⟩ ?_)
    generalize 4352 + (r - 44032) / 588 = x0 at *
    generalize 4449 + (r - 44032) % 588 / 28 = x1 at *
    generalize 4519 + (r - 44032) % 28 = x2 at *
    have HR : Hid ((w.alloc (.cells #[.int .i32 x0, .int .i32 x1] 21)).ownsRow w.heap.size 21 1 (.slice (some ⟨w.heap.size, 0, none⟩) 2 2) ([x0, x1] : List Int).length (([x0, x1] : List Int).map (Value.int .i32))) := World.ownsRow_lit w #[.int .i32 x0, .int .i32 x1] 2 (Nat.le_refl _) (by decide) rfl
    have hz := (w.alloc (.cells #[.int .i32 x0, .int .i32 x1] 21)).size_alloc (.cells #[.int .i32 x2] 21)
    have HC : Hid (∀ (i : Nat) (x : Int), [x2][i]? = some x → ((w.alloc (.cells #[.int .i32 x0, .int .i32 x1] 21)).alloc (.cells #[.int .i32 x2] 21)).cell? ⟨w.heap.size + 1, 0 + i, none⟩ = some (.int .i32 x)) := by
      intro i x hx
      match i with
      | 0 =>
        have := World.alloc_heap_new (w.alloc (.cells #[.int .i32 x0, .int .i32 x1] 21)) (.cells #[.int .i32 x2] 21)
        rw [World.size_alloc] at this
        unfold World.cell?; rw [this]; simpa using hx
      | i + 1 => simp at hx
    have hl2 : ([x0, x1] : List Int).length = 2 := rfl
    refine Lib.hid ?_; refine wpList_append_own _ rfl _ _ 42 rfl (w.heap.size) 21 i0 (.int .i32 0) 1 4 Tryz.underlying42 hi hz0 hz1 hz2 rfl (by decide) _ _ _ rfl (HR.out.alloc _) (⟨w.heap.size + 1, 0, none⟩) _ _ (([x2]).map (Value.int .i32)) rfl (by simp; try omega) (news_of (HC.out)) (by simp [Value.oneCell']) (by unfold maxLen; omega) (by omega) (by simp; omega) ?_
    intro v5 w5 hr5 hg5 _
    go_wp2
    refine bodyPost_ret (v := v5) (by simp [results, Tryz.results78, go_sem]) rfl ⟨v5, rfl, ?_, ?_⟩
    · rw [HH.out]; simpa using hr5
    · refine (((Below.refl _ w).alloc (Nat.le_refl _) _).alloc (by simp) _).grown hg5 (by simp; omega) (fun j hj => ?_)
      have : some w.heap.size = some j := hj
      simp at this; omega
/-- what deep tells -/
def DeepTold (L : List Int) (b : Bool) (w : World) (e : Ending) (w' : World) : Prop :=
  ∃ u, e = .returned (.tuple #[u, .bool b]) ∧ w'.ownsRow w.heap.size 21 1 u L.length (L.map (Value.int .i32)) ∧ Below w.heap.size w w'
set_option maxHeartbeats 1000000 in
set_option maxRecDepth 100000 in
theorem rdeep_hang (p : Option Addr) (n c : Nat) (r : Int) (k : Nat) (w : World) (h1 : 44032 ≤ r) (h2 : r ≤ 55203) :
    Calls Tryz.prog 79 #[.slice p n c, .int .i32 r, .int .i64 k] w (DeepTold (hang r) true w) := by
  have hh := rhangul_yes r h1 h2 w
  have HL := Lib.hid (hang_len r h1 h2)
  clear h1 h2
  go_enter Tryz.func79, Tryz.ntmps79
  go_wp2_with fail
  refine hh.mono ?_
  rintro e w1 ⟨v, rfl, hr, hb⟩
  obtain ⟨m, hm⟩ := HL.out
  have hr' := hr
  rw [hm] at hr'
  obtain ⟨g, cap, rfl⟩ := ownsRow_succ hr'
  have HR := Lib.hid hr
  clear hh hr hr' hm
  go_wp2_with fail
  go_ret2
  exact ⟨_, rfl, HR.out, hb⟩
set_option maxHeartbeats 1000000 in
set_option maxRecDepth 100000 in
theorem rdeep_leaf (R : Nat → Prop) (d : List T3) (v : Value) (r : Int) (k : Nat) (w : World) (hv : TrisIn R .i32 w v d) (hl : d.length ≤ 8000) (h0 : r < 44032 ∨ 55203 < r) (h1 : dOne d r = none) :
    Calls Tryz.prog 79 #[v, .int .i32 r, .int .i64 k] w (DeepTold [r] true w) := by
  have hh := rhangul_no r h0 w
  have hone := rstep_any R d v r w hv hl
  have H1 := Lib.hid h1
  obtain ⟨p, cp, rfl, hcp, _⟩ := hv
  clear h0 h1
  go_enter Tryz.func79, Tryz.ntmps79
  go_wp2_with fail
  refine hh.mono ?_
  rintro e w1 ⟨rfl, rfl⟩
  go_wp2_with fail
  refine hone.mono ?_
  rintro e w1 ⟨q, rfl, hq, hb1⟩
  obtain ⟨rfl, _⟩ | ⟨i, x, _, _, hx⟩ := hq
  case inr => rw [H1.out] at hx; cases hx
  clear hone hh
  go_wp2_with fail
  go_ret2
  have hz := hb1.size
  refine ⟨_, rfl, ?_, hb1.alloc hz _⟩
  exact World.ownsRow_lit (base := w.heap.size) (e := 21) (size := 1) w1 #[.int .i32 r] 1 hz (by decide) rfl
set_option maxHeartbeats 1000000 in
set_option maxRecDepth 100000 in
theorem rdeep_stop (R : Nat → Prop) (d : List T3) (v : Value) (r : Int) (x : T3) (w : World) (hv : TrisIn R .i32 w v d) (hl : d.length ≤ 8000) (h0 : r < 44032 ∨ 55203 < r) (h1 : dOne d r = some x) :
    Calls Tryz.prog 79 #[v, .int .i32 r, .int .i64 0] w (DeepTold [] false w) := by
  have hh := rhangul_no r h0 w
  have hone := rstep_any R d v r w hv hl
  have H1 := Lib.hid h1
  obtain ⟨p, cp, rfl, hcp, _⟩ := hv
  clear h0 h1
  go_enter Tryz.func79, Tryz.ntmps79
  go_wp2_with fail
  refine hh.mono ?_
  rintro e w1 ⟨rfl, rfl⟩
  go_wp2_with fail
  refine hone.mono ?_
  rintro e w1 ⟨q, rfl, hq, hb1⟩
  obtain ⟨_, hx⟩ | ⟨i, x, rfl, _, _⟩ := hq
  · rw [H1.out] at hx; cases hx
  have e0 : decide ((i : Int) < 0) = false := decide_eq_false (by omega)
  clear hone hh
  go_wp2_with fail
  go_ret2
  exact ⟨_, rfl, ⟨rfl, .inl ⟨rfl, rfl⟩⟩, hb1⟩
set_option maxHeartbeats 4000000 in
set_option maxRecDepth 100000 in
theorem rdeep_step (R : Nat → Prop) (d : List T3) (v : Value) (x : T3) (L : List Int) (bb : Bool) (r : Int) (k : Nat) (w : World) (hk : k ≤ 4) (hv : TrisIn R .i32 w v d) (hl : d.length ≤ 8000) (h0 : r < 44032 ∨ 55203 < r) (hn : dOne d r = some x)
    (hrec : ∀ w1, TrisIn R .i32 w1 v d → Calls Tryz.prog 79 #[v, .int .i32 x.2.1, .int .i64 k] w1 (DeepTold L bb w1)) (hlen : L.length ≤ 7) :
    Calls Tryz.prog 79 #[v, .int .i32 r, .int .i64 ((k + 1 : Nat) : Int)] w (DeepTold (withB L x.2.2) bb w) := by
  obtain ⟨i0, hi, hz0, hz1, hz2⟩ := info_parts Tryz.infoI32
  have hh := rhangul_no r h0 w
  have hone := rstep_any R d v r w hv hl
  have HV := Lib.hid hv
  have H1 := Lib.hid hn
  have HREC := Lib.hid hrec
  obtain ⟨p, cp, rfl, hcp, _⟩ := hv
  clear h0 hn hrec
  have k1 : (((k + 1 : Nat) : Int) == 0) = false := by simp; omega
  have k2 : wrap64 (((k + 1 : Nat) : Int) - 1) = (k : Int) := by rw [IntWalk.wrap64_in _ (by omega)]; omega
  have k3 : ((k + 1 : Nat) == 0) = false := by simp
  generalize hk1 : ((k + 1 : Nat) : Int) = kk at *
  clear hk1 k3
  go_enter Tryz.func79, Tryz.ntmps79
  go_wp2_with fail
  refine hh.mono ?_
  rintro e w1 ⟨rfl, rfl⟩
  go_wp2_with fail
  refine hone.mono ?_
  rintro e w1 ⟨q, rfl, hq, hb1⟩
  obtain ⟨_, hx⟩ | ⟨i, y, rfl, hiy, hx⟩ := hq
  · rw [H1.out] at hx; cases hx
  rw [H1.out] at hx; cases hx
  have e0 : decide ((i : Int) < 0) = false := decide_eq_false (by omega)
  have hil := (List.getElem?_eq_some_iff.1 hiy).1
  obtain ⟨b, o, rfl, hbR, hbl, q0, q1, q2⟩ := (HV.out.kept (Kept.below hb1)).at i x hiy
  have HB1 := Lib.hid hb1
  have HIY := Lib.hid hiy
  clear hone hh hb1 hiy
  go_wp2_with fail
  refine (HREC.out _ (HV.out.kept (Kept.below HB1.out))).mono ?_
  rintro e w2 ⟨v2, rfl, hr2, hb2⟩
  have c2 : w2.cell? ⟨b, o + i * 3 + 2, none⟩ = some (.int .i32 x.2.2) := (hb2.cell (p := ⟨b, o + i * 3 + 2, none⟩) hbl).trans q2
  have hbl2 : b < w2.heap.size := by have := hb2.size; omega
  have HR2 : Hid (w2.ownsRow w.heap.size 21 1 v2 L.length (L.map (Value.int .i32))) := ownsRow_mono hr2 HB1.out.size
  have HB2 : Hid (Below w.heap.size w w2) := HB1.out.trans (hb2.mono HB1.out.size)
  clear hr2 hb2 q0 q1 q2 hbl
  by_cases h0 : x.2.2 = 0
  · have d0 : (x.2.2 != 0) = false := by rw [h0]; rfl
    have HW := Lib.hid (withB_no (L := L) h0)
    clear h0
    go_wp2_with fail
    go_ret2
    exact ⟨v2, rfl, by rw [HW.out]; exact HR2.out, HB2.out⟩
  · have d0 : (x.2.2 != 0) = true := by simpa using h0
    have HW := Lib.hid (withB_yes (L := L) h0)
    clear h0
    go_wp2_with (at_builtin; refine app_stop ⟨_, _, rfl⟩ ?_)
    have HN2 : Hid (∀ (j : Nat) (y : Int), [x.2.2][j]? = some y → (w2.alloc (.cells #[.int .i32 x.2.2] 21)).cell? ⟨w2.heap.size, 0 + j, none⟩ = some (.int .i32 y)) := by
      intro j y hy
      match j with
      | 0 =>
        unfold World.cell?; rw [World.alloc_heap_new]; simpa using hy
      | j + 1 => simp at hy
    have hl1 : ([x.2.2] : List Int).length = 1 := rfl
    refine Lib.hid ?_; refine wpList_append_own _ rfl _ _ 42 rfl (w.heap.size) 21 i0 (.int .i32 0) 1 4 Tryz.underlying42 hi hz0 hz1 hz2 rfl (by decide) _ _ _ rfl (HR2.out.alloc _) (⟨w2.heap.size, 0, none⟩) _ _ (([x.2.2]).map (Value.int .i32)) rfl (by simp; try omega) (news_of (HN2.out)) (by simp [Value.oneCell']) (by unfold maxLen; omega) (by omega) (by have := HB2.out.size; simp; omega) ?_
    intro v5 w5 hr5 hg5 _
    have HR5 : Hid (w5.ownsRow w.heap.size 21 1 v5 (L ++ [x.2.2]).length ((L ++ [x.2.2]).map (Value.int .i32))) := by
      show World.ownsRow _ _ _ _ _ _ _
      rw [List.length_append, List.map_append]; exact hr5
    have HB5 : Hid (Below w.heap.size w w5) := (HB2.out.alloc HB2.out.size _).grown hg5 (by have := HB2.out.size; simp; omega) (fun j hj => (HR2.out.lt j hj).1)
    clear hr5 hg5
    go_wp2
    refine bodyPost_ret (v := .tuple #[v5, .bool bb]) (by simp [results, Tryz.results79, go_sem]) rfl ⟨v5, rfl, by rw [HW.out]; exact HR5.out, HB5.out⟩
set_option maxHeartbeats 2000000 in
set_option maxRecDepth 100000 in
theorem rdeep_any (R : Nat → Prop) (d : List T3) (v : Value) (hl : d.length ≤ 8000) :
    ∀ (k : Nat), k ≤ 4 → ∀ (r : Int) (w : World), TrisIn R .i32 w v d → Calls Tryz.prog 79 #[v, .int .i32 r, .int .i64 k] w (DeepTold (deep d k r).1 (deep d k r).2 w) := by
  intro k
  induction k with
  | zero =>
    intro _ r w hv
    by_cases hh : hang r ≠ []
    · have e : deep d 0 r = (hang r, true) := by unfold deep; rw [if_pos hh]
      rw [e]
      obtain ⟨p, cp, rfl, hcp, _⟩ := hv
      exact rdeep_hang _ _ _ r 0 w (hang_in hh).1 (hang_in hh).2
    · have hout := hang_out (Decidable.not_not.1 hh)
      cases hn : dOne d r with
      | none =>
        have e : deep d 0 r = ([r], true) := by unfold deep; rw [if_neg hh, hn]
        rw [e]
        exact rdeep_leaf R d v r 0 w hv hl hout hn
      | some x =>
        have e : deep d 0 r = ([], false) := by unfold deep; rw [if_neg hh, hn]
        rw [e]
        exact rdeep_stop R d v r x w hv hl hout hn
  | succ k ih =>
    intro hk r w hv
    by_cases hh : hang r ≠ []
    · have e : deep d (k + 1) r = (hang r, true) := by unfold deep; rw [if_pos hh]
      rw [e]
      obtain ⟨p, cp, rfl, hcp, _⟩ := hv
      exact rdeep_hang _ _ _ r _ w (hang_in hh).1 (hang_in hh).2
    · have hout := hang_out (Decidable.not_not.1 hh)
      cases hn : dOne d r with
      | none =>
        have e : deep d (k + 1) r = ([r], true) := by unfold deep; rw [if_neg hh, hn]
        rw [e]
        exact rdeep_leaf R d v r _ w hv hl hout hn
      | some x =>
        have e : deep d (k + 1) r = (withB (deep d k x.2.1).1 x.2.2, (deep d k x.2.1).2) := by
          conv => lhs; unfold deep
          rw [if_neg hh, hn]; rfl
        have hlen := deep_len d k x.2.1
        rw [e]
        exact rdeep_step R d v x _ _ r k w (by omega) hv hl hout hn (fun w1 h => ih (by omega) x.2.1 w1 h) (by omega)
end Go.Proofs.YtnglhgogkemgbaaGreatDoor
