/- Package tailor: whether all numbers are scalars: the program's closures, the reference's loop. -/
import Derived.Test.YtchjjfjjcdjjcaaGreatDoorVa
import Derived.Test.YtchjjfjjcdjjcaaGreatDoorR4
namespace Go.Proofs.YtchjjfjjcdjjcaaGreatDoor
open Go.RowKit

/-- the place of the first that is no scalar; -1: none -/
def ixS (xs : List Int) : Int := match xs.findIdx? (fun r => !sc r) with | none => -1 | some k => k
theorem ixS_here {xs : List Int} {k : Nat} (hk : k < xs.length) (h : ∀ r ∈ xs.take k, sc r = true) (hb : sc (xs.getD k 0) = false) : ixS xs = k := by
  have : xs.findIdx? (fun r => !sc r) = some k := by
    rw [List.findIdx?_eq_some_iff_getElem]
    refine ⟨hk, ?_, fun j hj => ?_⟩
    · rw [List.getD_eq_getElem?_getD, List.getElem?_eq_getElem hk] at hb; simp at hb; simp [hb]
    · have : xs[j] ∈ xs.take k := by rw [List.mem_take_iff_getElem]; exact ⟨j, by omega, rfl⟩
      simp [h _ this]
  unfold ixS; rw [this]
theorem ixS_nowhere {xs : List Int} (h : ∀ r ∈ xs, sc r = true) : ixS xs = -1 := by
  have : xs.findIdx? (fun r => !sc r) = none := by rw [List.findIdx?_eq_none_iff]; intro x hx; simp [h x hx]
  unfold ixS; rw [this]
theorem ixS_all (xs : List Int) : decide (0 ≤ ixS xs) = !xs.all sc := by
  unfold ixS
  cases h : xs.findIdx? (fun r => !sc r) with
  | none =>
    rw [List.findIdx?_eq_none_iff] at h
    have : xs.all sc = true := by rw [List.all_eq_true]; intro x hx; simpa using h x hx
    rw [this]; rfl
  | some k =>
    rw [List.findIdx?_eq_some_iff_getElem] at h
    obtain ⟨h1, h2, _⟩ := h
    have : xs.all sc = false := by rw [List.all_eq_false]; exact ⟨xs[k], List.getElem_mem _, by simpa using h2⟩
    rw [this]; simp
theorem allS_take {xs : List Int} {k : Nat} (hk : k < xs.length) (h : ∀ r ∈ xs.take k, sc r = true) (hb : sc (xs.getD k 0) = true) : ∀ r ∈ xs.take (k + 1), sc r = true := by
  have e : xs.take (k + 1) = xs.take k ++ [xs.getD k 0] := by
    rw [List.take_add_one, List.getElem?_eq_getElem hk, List.getD_eq_getElem?_getD, List.getElem?_eq_getElem hk]; rfl
  intro r hr
  rw [e] at hr
  rcases List.mem_append.1 hr with hr | hr
  · exact h r hr
  · simp only [List.mem_singleton] at hr; rw [hr]; exact hb
theorem allS_no {xs : List Int} {k : Nat} (hk : k < xs.length) (hb : sc (xs.getD k 0) = false) : xs.all sc = false := by
  rw [List.all_eq_false]
  rw [List.getD_eq_getElem?_getD, List.getElem?_eq_getElem hk] at hb
  exact ⟨xs[k], List.getElem_mem _, by simpa using hb⟩
set_option maxRecDepth 100000 in
theorem mayc_any (r : Int) (w : World) : Calls Tryz.prog 38 #[.int .i32 r] w fun e w' => e = .returned (.bool (!sc r)) ∧ w = w' := by
  go_enter Tryz.func38, Tryz.ntmps38
  go_wp2_with fail
  refine (scalar_any _ _).mono ?_
  rintro e w1 ⟨rfl, rfl⟩
  go_wp2_with fail
  go_ret
  exact ⟨rfl, rfl⟩
set_option maxHeartbeats 1000000 in
set_option maxRecDepth 100000 in
theorem indexS_any (R : Nat → Prop) (xs : List Int) (v : Value) (w : World) (hv : IntsIn R .i32 w v xs) (hx : xs.length ≤ maxLen) :
    Calls Tryz.prog 64 #[v, .func (.func 38) #[] #[]] w fun e w' => e = .returned (.int .i64 (ixS xs)) ∧ w = w' := by
  have HV := Lib.hid hv
  obtain ⟨p, cp, rfl, _⟩ := hv
  unfold maxLen at hx
  go_enter Tryz.func64, Tryz.ntmps64
  go_wp2
  go_loop [8] (fun i => ∃ k : Nat, i = .int .i64 k ∧ k ≤ xs.length ∧ ∀ r ∈ xs.take k, sc r = true) (fun i => xs.length - (intOf i).toNat)
  case atStart => exact ⟨0, rfl, Nat.zero_le _, by simp⟩
  case round =>
    obtain ⟨k, rfl, hk, hr⟩ := hrel
    have HR := Lib.hid hr
    clear hr
    by_cases hlt : k < xs.length
    · have hlt' : decide (k < xs.length) = true := decide_eq_true hlt
      obtain ⟨b', o, rfl, _, hb, hc⟩ := HV.out.at k hlt
      have HL := Lib.hid hlt
      have HX := Lib.hid (fun h => ixS_here (xs := xs) hlt HR.out h)
      have HT := Lib.hid (fun h => allS_take (xs := xs) hlt HR.out h)
      generalize xs.getD k 0 = x at hc HX HT
      clear hlt
      cases hp : sc x
      · have HE := Lib.hid (HX.out hp)
        go_wp2_with fail
        refine (mayc_any x _).mono ?_
        rw [hp]
        rintro e w1 ⟨rfl, rfl⟩
        go_wp2_with fail
        go_ret
        exact ⟨by rw [HE.out]; rfl, rfl⟩
      · have HE := Lib.hid (HT.out hp)
        go_wp2_with fail
        refine (mayc_any x _).mono ?_
        rw [hp]
        rintro e w1 ⟨rfl, rfl⟩
        go_wp2_with fail
        go_round
        case rel => exact ⟨k + 1, by go_num, HL.out, HE.out⟩
        case measure => (have hq := HL.out; simp [intOf]; omega)
    · have hlt' : decide (k < xs.length) = false := decide_eq_false hlt
      have HE : Hid (ixS xs = -1) := ixS_nowhere (by have := HR.out; rwa [List.take_of_length_le (by omega)] at this)
      clear hlt
      go_wp2_with fail
      go_ret
      exact ⟨by rw [HE.out]; rfl, rfl⟩
set_option maxHeartbeats 1000000 in
set_option maxRecDepth 100000 in
theorem maysc_any (R : Nat → Prop) (xs : List Int) (v : Value) (w : World) (hv : IntsIn R .i32 w v xs) :
    Calls Tryz.prog 36 #[v] w fun e w' => e = .returned (.bool (xs.all sc)) ∧ w = w' := by
  have hcap : xs.length ≤ maxLen := by obtain ⟨_, _, _, h, _⟩ := hv; omega
  have HA := Lib.hid (ixS_all xs)
  have HI := Lib.hid (indexS_any R xs v w hv hcap)
  have hc : Calls Tryz.prog 37 #[v, .func (.func 38) #[] #[]] w fun e w' => e = .returned (.bool (!xs.all sc)) ∧ w = w' := by
    clear hv hcap
    go_enter Tryz.func37, Tryz.ntmps37
    go_wp2_with fail
    refine HI.out.mono ?_
    rintro e w1 ⟨rfl, rfl⟩
    go_wp2_with fail
    go_ret
    exact ⟨by rw [← HA.out]; rfl, rfl⟩
  have HC := Lib.hid hc
  clear hc hv hcap HA HI
  generalize xs.all sc = q at *
  cases q
  · go_enter Tryz.func36, Tryz.ntmps36
    go_wp2_with fail
    refine HC.out.mono ?_
    rintro e w1 ⟨rfl, rfl⟩
    go_wp2_with fail
    go_ret
    exact ⟨rfl, rfl⟩
  · go_enter Tryz.func36, Tryz.ntmps36
    go_wp2_with fail
    refine HC.out.mono ?_
    rintro e w1 ⟨rfl, rfl⟩
    go_wp2_with fail
    go_ret
    exact ⟨rfl, rfl⟩
set_option maxHeartbeats 1000000 in
set_option maxRecDepth 100000 in
theorem rscalars_any (R : Nat → Prop) (xs : List Int) (v : Value) (w : World) (hv : IntsIn R .i32 w v xs) :
    Calls Tryz.prog 22 #[v] w fun e w' => e = .returned (.bool (xs.all sc)) ∧ w = w' := by
  have hx : xs.length ≤ maxLen := by obtain ⟨_, _, _, h, _⟩ := hv; omega
  have HV := Lib.hid hv
  obtain ⟨p, cp, rfl, _⟩ := hv
  unfold maxLen at hx
  go_enter Tryz.func22, Tryz.ntmps22
  go_wp2
  go_loop [3] (fun i => ∃ k : Nat, i = .int .i64 k ∧ k ≤ xs.length ∧ ∀ r ∈ xs.take k, sc r = true) (fun i => xs.length - (intOf i).toNat)
  case atStart => exact ⟨0, rfl, Nat.zero_le _, by simp⟩
  case round =>
    obtain ⟨k, rfl, hk, hr⟩ := hrel
    have HR := Lib.hid hr
    clear hr
    by_cases hlt : k < xs.length
    · have hlt' : decide (k < xs.length) = true := decide_eq_true hlt
      obtain ⟨b', o, rfl, _, hb, hc⟩ := HV.out.at k hlt
      have HL := Lib.hid hlt
      have HX := Lib.hid (fun h => allS_no (xs := xs) hlt h)
      have HT := Lib.hid (fun h => allS_take (xs := xs) hlt HR.out h)
      generalize xs.getD k 0 = x at hc HX HT
      clear hlt
      cases hp : sc x
      · have HE := Lib.hid (HX.out hp)
        go_wp2_with fail
        refine (r4scalar_any x _).mono ?_
        rw [hp]
        rintro e w1 ⟨rfl, rfl⟩
        go_wp2_with fail
        go_ret
        exact ⟨by rw [HE.out]; rfl, rfl⟩
      · have HE := Lib.hid (HT.out hp)
        go_wp2_with fail
        refine (r4scalar_any x _).mono ?_
        rw [hp]
        rintro e w1 ⟨rfl, rfl⟩
        go_wp2_with fail
        go_round
        case rel => exact ⟨k + 1, by go_num, HL.out, HE.out⟩
        case measure => (have hq := HL.out; simp [intOf]; omega)
    · have hlt' : decide (k < xs.length) = false := decide_eq_false hlt
      have HE : Hid (xs.all sc = true) := by show _ = _; rw [List.all_eq_true]; have := HR.out; rwa [List.take_of_length_le (by omega)] at this
      clear hlt
      go_wp2_with fail
      go_ret
      exact ⟨by rw [HE.out]; rfl, rfl⟩
end Go.Proofs.YtchjjfjjcdjjcaaGreatDoor
