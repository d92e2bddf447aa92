/- Small functions of package trie: point, all. -/
import Derived.Test.YtcifoallahmjbaaBase
import Derived.Test.YtcifoallahmjbaaTmem
namespace Go.Proofs.Ytcifoallahmjbaa
open Go.RowKit

set_option maxRecDepth 100000 in
theorem tpoint_any (r : Int) (w : World) :
    Calls Try.prog 43 #[.int .i32 r] w fun e w' => e = .returned (.bool (pt r)) ∧ w = w' := by
  go_enter Try.func43, Try.ntmps43
  go_wp2
  all_goals go_ret
  all_goals (refine ⟨?_, rfl⟩; show Ending.returned _ = _; unfold pt; first | (simp_all; done) | (simp_all; omega))
set_option maxRecDepth 100000 in
theorem scalar5_any (r : Int) (w : World) :
    Calls Try.prog 29 #[.int .i32 r] w fun e w' => e = .returned (.bool (pt r)) ∧ w = w' := by
  go_enter Try.func29, Try.ntmps29
  go_wp2
  all_goals go_ret
  all_goals (refine ⟨?_, rfl⟩; show Ending.returned _ = _; unfold pt; first | (simp_all; done) | (simp_all; omega))
set_option maxRecDepth 100000 in
theorem all1_any (r : Int) (b : Nat) (w : World) (h : w.cell? ⟨b, 0, none⟩ = some (.func (.func 43) #[] #[])) :
    Calls Try.prog 53 #[.int .i32 r, .pointer (some ⟨b, 0, none⟩)] w fun e w' => e = .returned (.bool (!pt r)) ∧ w = w' := by
  go_enter Try.func53, Try.ntmps53
  go_wp2_with fail
  refine (tpoint_any _ _).mono ?_
  rintro e w1 ⟨rfl, rfl⟩
  go_wp2_with fail
  go_ret
  exact ⟨rfl, rfl⟩
/-- the place of the first that is no code point; -1: none -/
def ixF (xs : List Int) : Int := match xs.findIdx? (fun r => !pt r) with | none => -1 | some k => k
theorem ixF_here {xs : List Int} {k : Nat} (hk : k < xs.length) (h : ∀ r ∈ xs.take k, pt r = true) (hb : pt (xs.getD k 0) = false) : ixF xs = k := by
  have : xs.findIdx? (fun r => !pt r) = some k := by
    rw [List.findIdx?_eq_some_iff_getElem]
    refine ⟨hk, ?_, fun j hj => ?_⟩
    · rw [List.getD_eq_getElem?_getD, List.getElem?_eq_getElem hk] at hb; simp at hb; simp [hb]
    · have : xs[j] ∈ xs.take k := by rw [List.mem_take_iff_getElem]; exact ⟨j, by omega, rfl⟩
      simp [h _ this]
  unfold ixF; rw [this]
theorem ixF_nowhere {xs : List Int} (h : ∀ r ∈ xs, pt r = true) : ixF xs = -1 := by
  have : xs.findIdx? (fun r => !pt r) = none := by rw [List.findIdx?_eq_none_iff]; intro x hx; simp [h x hx]
  unfold ixF; rw [this]
theorem ixF_all (xs : List Int) : decide (0 ≤ ixF xs) = !xs.all pt := by
  unfold ixF
  cases h : xs.findIdx? (fun r => !pt r) with
  | none =>
    rw [List.findIdx?_eq_none_iff] at h
    have : xs.all pt = true := by rw [List.all_eq_true]; intro x hx; simpa using h x hx
    rw [this]; rfl
  | some k =>
    rw [List.findIdx?_eq_some_iff_getElem] at h
    obtain ⟨h1, h2, _⟩ := h
    have : xs.all pt = false := by rw [List.all_eq_false]; exact ⟨xs[k], List.getElem_mem _, by simpa using h2⟩
    rw [this]; simp
theorem all_take {xs : List Int} {k : Nat} (hk : k < xs.length) (h : ∀ r ∈ xs.take k, pt r = true) (hb : pt (xs.getD k 0) = true) : ∀ r ∈ xs.take (k + 1), pt r = true := by
  have e : xs.take (k + 1) = xs.take k ++ [xs.getD k 0] := by
    rw [List.take_add_one, List.getElem?_eq_getElem hk, List.getD_eq_getElem?_getD, List.getElem?_eq_getElem hk]; rfl
  intro r hr
  rw [e] at hr
  rcases List.mem_append.1 hr with hr | hr
  · exact h r hr
  · simp only [List.mem_singleton] at hr; rw [hr]; exact hb

set_option maxHeartbeats 1000000 in
set_option maxRecDepth 100000 in
theorem index_any (R : Nat → Prop) (xs : List Int) (v : Value) (b : Nat) (w : World) (hv : IntsIn R .i32 w v xs) (hx : xs.length ≤ maxLen) (h : w.cell? ⟨b, 0, none⟩ = some (.func (.func 43) #[] #[])) :
    Calls Try.prog 58 #[v, .func (.func 53) #[] #[.pointer (some ⟨b, 0, none⟩)]] w fun e w' => e = .returned (.int .i64 (ixF xs)) ∧ w = w' := by
  have HV := Lib.hid hv
  obtain ⟨p, cp, rfl, _⟩ := hv
  have HC := Lib.hid h
  unfold maxLen at hx
  clear h
  go_enter Try.func58, Try.ntmps58
  go_wp2
  go_loop [8] (fun i => ∃ k : Nat, i = .int .i64 k ∧ k ≤ xs.length ∧ ∀ r ∈ xs.take k, pt r = true) (fun i => xs.length - (intOf i).toNat)
  case atStart => exact ⟨0, rfl, Nat.zero_le _, by simp⟩
  case round =>
    obtain ⟨k, rfl, hk, hr⟩ := hrel
    have HR := Lib.hid hr
    clear hr
    by_cases hlt : k < xs.length
    · have hlt' : decide (k < xs.length) = true := decide_eq_true hlt
      obtain ⟨b', o, rfl, _, hb, hc⟩ := HV.out.at k hlt
      have HL := Lib.hid hlt
      have HX := Lib.hid (fun h => ixF_here (xs := xs) hlt HR.out h)
      have HT := Lib.hid (fun h => all_take (xs := xs) hlt HR.out h)
      generalize xs.getD k 0 = x at hc HX HT
      clear hlt
      cases hp : pt x
      · have HE := Lib.hid (HX.out hp)
        go_wp2_with fail
        refine (all1_any x b _ HC.out).mono ?_
        rw [hp]
        rintro e w1 ⟨rfl, rfl⟩
        go_wp2_with fail
        go_ret
        exact ⟨by rw [HE.out]; rfl, rfl⟩
      · have HE := Lib.hid (HT.out hp)
        go_wp2_with fail
        refine (all1_any x b _ HC.out).mono ?_
        rw [hp]
        rintro e w1 ⟨rfl, rfl⟩
        go_wp2_with fail
        go_round
        case rel => exact ⟨k + 1, by go_num, HL.out, HE.out⟩
        case measure => (have hq := HL.out; simp [intOf]; omega)
    · have hlt' : decide (k < xs.length) = false := decide_eq_false hlt
      have HE : Hid (ixF xs = -1) := ixF_nowhere (by have := HR.out; rwa [List.take_of_length_le (by omega)] at this)
      clear hlt
      go_wp2_with fail
      go_ret
      exact ⟨by rw [HE.out]; rfl, rfl⟩

set_option maxHeartbeats 1000000 in
set_option maxRecDepth 100000 in
theorem allp_any (R : Nat → Prop) (xs : List Int) (v : Value) (w : World) (hv : IntsIn R .i32 w v xs) (hx : xs.length ≤ maxLen) :
    Calls Try.prog 42 #[v, .func (.func 43) #[] #[]] w fun e w' => e = .returned (.bool (xs.all pt)) ∧ Below w.heap.size w w' := by
  have HV := Lib.hid (hv.kept (Kept.below ((Below.refl _ w).alloc (Nat.le_refl _) (.cells #[.func (.func 43) #[] #[]] 75))))
  obtain ⟨p, cp, rfl, _⟩ := hv
  have HX := Lib.hid hx
  have HA := Lib.hid (ixF_all xs)
  have hmf : ∀ (fn : Fn) (first cap : Array Value) (w : World), (Instr.makeFunc fn first cap).run Try.prog w = .ok (.func fn first cap) w := fun _ _ _ _ => rfl
  clear hx
  go_enter Try.func42, Try.ntmps42
  go_wp2_with fail
  have hcf : ∀ W : World, IntsIn R .i32 W (.slice p xs.length cp) xs → W.cell? ⟨w.heap.size, 0, none⟩ = some (.func (.func 43) #[] #[]) → Calls Try.prog 52 #[.slice p xs.length cp, .func (.func 53) #[] #[.pointer (some ⟨w.heap.size, 0, none⟩)]] W fun e w' => e = .returned (.bool (!xs.all pt)) ∧ W = w' := by
    intro W hW hWc
    have H1 := Lib.hid hW
    have H2 := Lib.hid hWc
    clear hW hWc
    go_enter Try.func52, Try.ntmps52
    go_wp2_with fail
    refine (index_any R xs _ _ _ H1.out HX.out H2.out).mono ?_
    rintro e w1 ⟨rfl, rfl⟩
    go_wp2_with fail
    go_ret
    exact ⟨by rw [← HA.out]; rfl, rfl⟩
  refine (hcf _ HV.out (by simp [go_sem])).mono ?_
  clear hcf
  rintro e w1 ⟨rfl, rfl⟩
  go_wp2_with fail
  go_ret
  exact ⟨by simp, (Below.refl _ _).alloc (Nat.le_refl _) _⟩
end Go.Proofs.Ytcifoallahmjbaa
