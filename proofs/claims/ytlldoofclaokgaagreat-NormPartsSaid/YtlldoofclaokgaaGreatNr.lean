/- Package norms: whole. -/
import Derived.Test.YtlldoofclaokgaaGreatNl
namespace Go.Proofs.YtlldoofclaokgaaGreat
open Go.RowKit

/-- new runes of our own -/
def NewRunes (xs : List Int) (w : World) (e : Ending) (w' : World) : Prop :=
  ∃ v, e = .returned v ∧ w'.ownsRow w.heap.size 21 1 v xs.length (xs.map (Value.int .i32)) ∧ Below w.heap.size w w'
/-- the numbers of a row of our own, as a slice that is read -/
theorem runes_of_own {B : Nat} {w : World} {v : Value} {e : TypeId} {k : IntKind} {xs : List Int} (h : w.ownsRow B e 1 v xs.length (xs.map (Value.int k))) : IntsIn (fun b => B ≤ b) k w v xs := by
  rcases h.2 with ⟨rfl, h0⟩ | ⟨g, cap, cur, rfl, hg, hgb, h1, h2, h3, h4⟩
  · obtain rfl := List.eq_nil_of_length_eq_zero h0; exact .nil _ _ _
  · refine ⟨_, _, rfl, ⟨h1, h2⟩, fun i x hx => ⟨g, 0, rfl, hg, (Array.getElem?_eq_some_iff.1 hgb).1, ?_⟩⟩
    have hi : i < xs.length := (List.getElem?_eq_some_iff.1 hx).1
    have e : (cur.toList.take (xs.length * 1))[i]? = some (.int k x) := by rw [h4]; simp [hx]
    rw [List.getElem?_take, if_pos (by omega)] at e
    simp [World.cell?, hgb]; simpa using e
theorem ownsRow_mono {base base' : Nat} {e : TypeId} {size n : Nat} {v : Value} {xs : List Value} {w : World} (h : w.ownsRow base e size v n xs) (hb : base' ≤ base) : w.ownsRow base' e size v n xs := by
  refine ⟨h.1, ?_⟩
  rcases h.2 with h' | ⟨g, cap, cur, rfl, hg, hgb, hr⟩
  · exact .inl h'
  · exact .inr ⟨g, cap, cur, rfl, Nat.le_trans hb hg, hgb, hr⟩
theorem hang_len (r : Int) (h1 : 44032 ≤ r) (h2 : r ≤ 55203) : ∃ n, (hang r).length = n + 1 := by
  unfold hang; rw [if_neg (by omega)]
  split <;> exact ⟨_, rfl⟩
set_option maxHeartbeats 1000000 in
set_option maxRecDepth 100000 in
theorem whole_hang (p : Option Addr) (n c : Nat) (r : Int) (w : World) (h1 : 44032 ≤ r) (h2 : r ≤ 55203) :
    Calls Tryz.prog 88 #[.slice p n c, .int .i32 r] w (NewRunes (hang r) w) := by
  have hh := hangul_yes r h1 h2 w
  have HL := Lib.hid (hang_len r h1 h2)
  clear h1 h2
  go_enter Tryz.func88, Tryz.ntmps88
  go_wp2_with fail
  refine hh.mono ?_
  rintro e w1 ⟨v, rfl, hr, hb⟩
  obtain ⟨m, hm⟩ := HL.out
  have hr' := hr
  rw [hm] at hr'
  obtain ⟨g, cap, rfl⟩ := ownsRow_succ hr'
  have HR := Lib.hid hr
  clear hh hr hr' hm
  go_wp2_with fail
  go_ret
  exact ⟨_, rfl, HR.out, hb⟩
set_option maxHeartbeats 1000000 in
set_option maxRecDepth 100000 in
theorem whole_leaf (R : Nat → Prop) (d : List T3) (v : Value) (r : Int) (w : World) (hv : TrisIn R .i32 w v d) (hd : decFrom none d = true) (hl : d.length ≤ 8000) (hr : -2147483648 ≤ r ∧ r ≤ 2147483647) (h0 : r < 44032 ∨ 55203 < r) (h1 : dOne d r = none) :
    Calls Tryz.prog 88 #[v, .int .i32 r] w (NewRunes [r] w) := by
  have hh := hangul_no r h0 w
  have hone := one_any R d v r w hv hd hl hr
  obtain ⟨p, cp, rfl, hcp, _⟩ := hv
  rw [h1] at hone
  clear hd h0
  go_enter Tryz.func88, Tryz.ntmps88
  go_wp2_with fail
  refine hh.mono ?_
  rintro e w1 ⟨rfl, rfl⟩
  go_wp2_with fail
  refine hone.mono ?_
  rintro e w1 ⟨rfl, hb1⟩
  unfold oneAgg triAgg
  simp only [Option.isSome_none]
  clear hone hh
  go_wp2_with fail
  go_ret
  have hz := hb1.size
  refine ⟨_, rfl, ?_, (hb1.alloc hz _).alloc (by simp; omega) _⟩
  have := World.ownsRow_lit (base := w.heap.size) (e := 21) (size := 1) (w1.alloc (.cells #[.int .i32 0, .int .i32 0, .int .i32 0] 104)) #[.int .i32 r] 1 (by simp; omega) (by decide) rfl
  rwa [World.size_alloc] at this
theorem deep_len (d : List T3) : ∀ (k : Nat) (r : Int), (deep d k r).1.length ≤ 3 + k := by
  intro k
  induction k with
  | zero =>
    intro r; unfold deep; split
    · unfold hang; split
      · simp
      · split <;> simp
    · cases dOne d r <;> simp
  | succ k ih =>
    intro r; unfold deep; split
    · unfold hang; split
      · simp
      · split <;> simp <;> omega
    · cases dOne d r with
      | none => simp; omega
      | some x =>
        have := ih x.2.1
        simp only [List.length_append]
        split <;> simp <;> omega
theorem hang_in {r : Int} (h : hang r ≠ []) : 44032 ≤ r ∧ r ≤ 55203 := by
  rcases Int.lt_or_le r 44032 with h1 | h1
  · exact absurd (hang_no (.inl h1)) h
  · rcases Int.lt_or_le 55203 r with h2 | h2
    · exact absurd (hang_no (.inr h2)) h
    · exact ⟨h1, h2⟩
theorem hang_out {r : Int} (h : hang r = []) : r < 44032 ∨ 55203 < r := by
  rcases Int.lt_or_le r 44032 with h1 | h1
  · exact .inl h1
  · rcases Int.lt_or_le 55203 r with h2 | h2
    · exact .inr h2
    · obtain ⟨n, hn⟩ := hang_len r h1 h2
      rw [h] at hn; simp at hn
def withB (L : List Int) (b : Int) : List Int := L ++ (if b = 0 then [] else [b])
theorem withB_no {L : List Int} {b : Int} (h : b = 0) : withB L b = L := by unfold withB; rw [if_pos h, List.append_nil]
theorem withB_yes {L : List Int} {b : Int} (h : ¬ b = 0) : withB L b = L ++ [b] := by unfold withB; rw [if_neg h]
set_option maxHeartbeats 4000000 in
set_option maxRecDepth 100000 in
theorem whole_step (R : Nat → Prop) (d : List T3) (v : Value) (x : T3) (L : List Int) (r : Int) (w : World) (hv : TrisIn R .i32 w v d) (hd : decFrom none d = true) (hl : d.length ≤ 8000) (hr : -2147483648 ≤ r ∧ r ≤ 2147483647) (hout : r < 44032 ∨ 55203 < r) (hn : dOne d r = some x)
    (hxb : 0 ≤ x.2.1 ∧ x.2.1 ≤ 1114111 ∧ 0 ≤ x.2.2 ∧ x.2.2 ≤ 1114111) (hrec : ∀ w1, TrisIn R .i32 w1 v d → Calls Tryz.prog 88 #[v, .int .i32 x.2.1] w1 (NewRunes L w1))
    (hBx : x.2.2 = 0 ∨ (dOne d x.2.2 = none ∧ hang x.2.2 = [])) (hlen : L.length ≤ 7) :
    Calls Tryz.prog 88 #[v, .int .i32 r] w (NewRunes (withB L x.2.2) w) := by
  obtain ⟨i0, hi, hz0, hz1, hz2⟩ := info_parts Tryz.infoI32
  have hh := hangul_no r hout w
  have hone := one_any R d v r w hv hd hl hr
  have HV := Lib.hid hv
  have HD := Lib.hid hd
  have HREC := Lib.hid hrec
  have HBX := Lib.hid hBx
  have HXB := Lib.hid hxb
  obtain ⟨p, cp, rfl, hcp, _⟩ := hv
  rw [hn] at hone
  clear hd hout hrec hBx hxb hr hn
  go_enter Tryz.func88, Tryz.ntmps88
  go_wp2_with fail
  refine hh.mono ?_
  rintro e w1 ⟨rfl, rfl⟩
  go_wp2_with fail
  refine hone.mono ?_
  rintro e w1 ⟨rfl, hb1⟩
  unfold oneAgg triAgg
  simp only [Option.isSome_some]
  have HB1 : Hid (Below w.heap.size w (w1.alloc (.cells #[.int .i32 x.1, .int .i32 x.2.1, .int .i32 x.2.2] 104))) := hb1.alloc hb1.size _
  clear hone hh
  go_wp2_with fail
  refine (HREC.out _ (HV.out.kept (Kept.below HB1.out))).mono ?_
  rintro e w2 ⟨v2, rfl, hr2, hb2⟩
  have q2 : w2.cell? ⟨w1.heap.size, 2, none⟩ = some (.int .i32 x.2.2) := by
    rw [hb2.cell (p := ⟨w1.heap.size, 2, none⟩) (by simp)]
    unfold World.cell?; rw [World.alloc_heap_new]; rfl
  have HR2 : Hid (w2.ownsRow w.heap.size 21 1 v2 L.length (L.map (Value.int .i32))) := ownsRow_mono hr2 HB1.out.size
  have HB2 : Hid (Below w.heap.size w w2) := HB1.out.trans (hb2.mono HB1.out.size)
  clear hr2 hb2 hb1
  by_cases h0 : x.2.2 = 0
  · have d0 : (x.2.2 != 0) = false := by rw [h0]; rfl
    have HW := Lib.hid (withB_no (L := L) h0)
    clear h0
    go_wp2_with fail
    go_ret
    exact ⟨v2, rfl, by rw [HW.out]; exact HR2.out, HB2.out⟩
  · have d0 : (x.2.2 != 0) = true := by simpa using h0
    have HW := Lib.hid (withB_yes (L := L) h0)
    have hBy := HBX.out.resolve_left h0
    have hxb := HXB.out
    have hleaf := whole_leaf R d _ x.2.2 w2 (HV.out.kept (Kept.below HB2.out)) HD.out hl (by omega) (hang_out hBy.2) hBy.1
    clear h0 hBy hxb
    go_wp2_with fail
    refine hleaf.mono ?_
    rintro e w3 ⟨v3, rfl, hr3, hb3⟩
    have HR3 := Lib.hid (ownsRow_below HR2.out hb3)
    have HB3 : Hid (Below w.heap.size w w3) := HB2.out.trans (hb3.mono HB2.out.size)
    obtain ⟨g, o, c3, rfl, _, _, hc3⟩ := (runes_of_own hr3).place (by simp)
    have HC3 := Lib.hid hc3
    have hl1 : ([x.2.2] : List Int).length = 1 := rfl
    clear hleaf hr3 hb3 hc3 HR2 HB2
    go_wp2_with (at_builtin; refine app_stop ⟨_, _, rfl⟩ ?_)
    refine Lib.hid ?_; refine wpList_append_own _ rfl _ _ 48 rfl (w.heap.size) 21 i0 (.int .i32 0) 1 4 Tryz.underlying48 hi hz0 hz1 hz2 rfl (by decide) _ _ _ rfl (HR3.out) (⟨g, o, none⟩) _ _ (([x.2.2]).map (Value.int .i32)) rfl (by simp; try omega) (news_of (HC3.out)) (by simp [Value.oneCell']) (by unfold maxLen; omega) (by omega) (HB3.out.size) ?_
    intro v5 w5 hr5 hg5 _
    have hg5' : w3.grownBy w5 v2.ownBlock := hg5
    have HR5 : Hid (w5.ownsRow w.heap.size 21 1 v5 (L ++ [x.2.2]).length ((L ++ [x.2.2]).map (Value.int .i32))) := by
      show World.ownsRow _ _ _ _ _ _ _
      rw [List.length_append, List.map_append]; exact hr5
    have HB5 : Hid (Below w.heap.size w w5) := HB3.out.grown hg5' HB3.out.size (fun j hj => (HR3.out.lt j hj).1)
    clear hr5 hg5 hg5' HR3 HB3
    go_wp2
    refine bodyPost_ret (v := v5) (by simp [results, Tryz.results88, go_sem]) rfl ⟨v5, rfl, by rw [HW.out]; exact HR5.out, HB5.out⟩
set_option maxHeartbeats 2000000 in
set_option maxRecDepth 100000 in
theorem whole_any (R : Nat → Prop) (d : List T3) (v : Value) (hd : decFrom none d = true) (hl : d.length ≤ 8000) (hB : ∀ x ∈ d, x.2.2 = 0 ∨ (dOne d x.2.2 = none ∧ hang x.2.2 = [])) :
    ∀ (k : Nat), k ≤ 4 → ∀ (r : Int) (w : World), TrisIn R .i32 w v d → (-2147483648 ≤ r ∧ r ≤ 2147483647) → ends d k r → Calls Tryz.prog 88 #[v, .int .i32 r] w (NewRunes (deep d k r).1 w) := by
  intro k
  induction k with
  | zero =>
    intro _ r w hv hr he
    by_cases hh : hang r ≠ []
    · have e : (deep d 0 r).1 = hang r := by unfold deep; rw [if_pos hh]
      rw [e]
      obtain ⟨p, cp, rfl, hcp, _⟩ := hv
      exact whole_hang _ _ _ r w (hang_in hh).1 (hang_in hh).2
    · have hn : dOne d r = none := he
      have e : (deep d 0 r).1 = [r] := by unfold deep; rw [if_neg hh, hn]
      rw [e]
      exact whole_leaf R d v r w hv hd hl hr (hang_out (Decidable.not_not.1 hh)) hn
  | succ k ih =>
    intro hk r w hv hr he
    by_cases hh : hang r ≠ []
    · have e : (deep d (k + 1) r).1 = hang r := by unfold deep; rw [if_pos hh]
      rw [e]
      obtain ⟨p, cp, rfl, hcp, _⟩ := hv
      exact whole_hang _ _ _ r w (hang_in hh).1 (hang_in hh).2
    · have hout := hang_out (Decidable.not_not.1 hh)
      cases hn : dOne d r with
      | none =>
        have e : (deep d (k + 1) r).1 = [r] := by unfold deep; rw [if_neg hh, hn]
        rw [e]
        exact whole_leaf R d v r w hv hd hl hr hout hn
      | some x =>
        have e : (deep d (k + 1) r).1 = withB (deep d k x.2.1).1 x.2.2 := by
          conv => lhs; unfold deep
          rw [if_neg hh, hn]; rfl
        have hek : ends d k x.2.1 := by
          unfold ends at he
          rw [hn] at he; exact he
        have hxb := ends_bound hd hn
        have hrec := fun w1 (h : TrisIn R .i32 w1 v d) => ih (by omega) x.2.1 w1 h (by omega) hek
        have hBx := hB x (dOne_at hn).2
        have hlen := deep_len d k x.2.1
        rw [e]
        exact whole_step R d v x _ r w hv hd hl hr hout hn hxb hrec hBx (by omega)
end Go.Proofs.YtlldoofclaokgaaGreat
