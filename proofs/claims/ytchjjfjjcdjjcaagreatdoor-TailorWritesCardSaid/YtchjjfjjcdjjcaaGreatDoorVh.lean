/- UTF-8 in plain words: how long forms are, what is written of numbers. -/
import Derived.Test.YtchjjfjjcdjjcaaGreatDoorVb
import Derived.Test.YtchjjfjjcdjjcaaGreatDoorBase
import Derived.Lib.Bytealg
namespace Go.Proofs.YtchjjfjjcdjjcaaGreatDoor
open Go.RowKit
open PlainAid (bt)
theorem enc_bd (r : Int) (h : sc r = true) : ∀ x ∈ enc r, 0 ≤ x ∧ x < 256 := by
  have hr : 0 ≤ r ∧ r ≤ 1114111 := by unfold sc at h; simp at h; omega
  intro x hx
  unfold enc at hx
  split at hx
  · simp at hx; omega
  · split at hx
    · simp at hx; omega
    · split at hx
      · simp at hx; omega
      · simp at hx; omega
theorem enc_len (r : Int) : (enc r).length = lg r := by unfold enc lg; repeat' split <;> try rfl
theorem enc_pos (r : Int) : 1 ≤ lg r ∧ lg r ≤ 4 := by unfold lg; constructor <;> (repeat' split) <;> omega
end Go.Proofs.YtchjjfjjcdjjcaaGreatDoor
namespace Go.Proofs.YtchjjfjjcdjjcaaGreatDoor
open Go.RowKit
open PlainAid (bt)
theorem sc_bd {r : Int} (h : sc r = true) : 0 ≤ r ∧ r ≤ 1114111 := by unfold sc at h; simp at h; omega
end Go.Proofs.YtchjjfjjcdjjcaaGreatDoor
namespace Go.Proofs.YtchjjfjjcdjjcaaGreatDoor
open Go.RowKit
open PlainAid (bt)
/-- the first number that is no scalar -/
def fb (xs : List Int) : Option Nat := xs.findIdx? fun r => !sc r
def ecS (xs : List Int) : ByteArray := match fb xs with | none => strOfNums (xs.flatMap enc) | some _ => ⟨#[]⟩
def ecA (xs : List Int) : Int := match fb xs with | none => 0 | some k => k
def ecE (xs : List Int) : Int := match fb xs with | none => 0 | some _ => 41
theorem ec_none {xs : List Int} (h : fb xs = none) : ecS xs = strOfNums (xs.flatMap enc) ∧ ecA xs = 0 ∧ ecE xs = 0 := by unfold ecS ecA ecE; rw [h]; exact ⟨rfl, rfl, rfl⟩
theorem ec_some {xs : List Int} {k : Nat} (h : fb xs = some k) : ecS xs = ⟨#[]⟩ ∧ ecA xs = k ∧ ecE xs = 41 := by unfold ecS ecA ecE; rw [h]; exact ⟨rfl, rfl, rfl⟩
theorem fb_here {xs : List Int} {k : Nat} (hk : k < xs.length) (h : ∀ r ∈ xs.take k, sc r = true) (hb : sc (xs.getD k 0) = false) : fb xs = some k := by
  unfold fb
  rw [List.findIdx?_eq_some_iff_getElem]
  refine ⟨hk, ?_, fun j hj => ?_⟩
  · rw [List.getD_eq_getElem?_getD, List.getElem?_eq_getElem hk] at hb; simp at hb; simp [hb]
  · have : xs[j] ∈ xs.take k := by rw [List.mem_take_iff_getElem]; exact ⟨j, by omega, rfl⟩
    simp [h _ this]
theorem fb_nowhere {xs : List Int} (h : ∀ r ∈ xs, sc r = true) : fb xs = none := by
  unfold fb; rw [List.findIdx?_eq_none_iff]; intro x hx; simp [h x hx]
theorem enc_flat_len (xs : List Int) : (xs.flatMap enc).length ≤ xs.length * 4 := by
  induction xs with
  | nil => simp
  | cons x xs ih => have := enc_len x; have := enc_pos x; simp only [List.flatMap_cons, List.length_append, List.length_cons]; omega
theorem take_step (xs : List Int) (k : Nat) (h : k < xs.length) : xs.take (k + 1) = xs.take k ++ [xs.getD k 0] := by
  rw [List.take_add_one, List.getElem?_eq_getElem h, List.getD_eq_getElem?_getD, List.getElem?_eq_getElem h]; rfl

end Go.Proofs.YtchjjfjjcdjjcaaGreatDoor
