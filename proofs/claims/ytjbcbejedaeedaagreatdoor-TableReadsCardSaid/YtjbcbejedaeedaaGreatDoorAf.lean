/- Package table: codes: walked; it throws. -/
import Derived.Test.YtjbcbejedaeedaaGreatDoorAe
import Derived.Test.YtjbcbejedaeedaaGreatDoorAd
import Derived.Test.YtjbcbejedaeedaaGreatDoorCe
namespace Go.Proofs.YtjbcbejedaeedaaGreatDoor
open Go.RowKit
open PlainAid (bt)

theorem Tryz.infoI : (Tryz.prog.info? 21).map (fun i => (i.zero, i.size, i.bytes)) = some (some (.int .i32 0), 1, 4) := by kernel_rfl
/-- the first place at which something is so, -1: none -/
def fIdx {α : Type} (p : α → Bool) : List α → Int
  | [] => -1
  | x :: xs => if p x then 0 else if fIdx p xs < 0 then -1 else fIdx p xs + 1
theorem fIdx_ge {α : Type} (p : α → Bool) : ∀ (l : List α), -1 ≤ fIdx p l
  | [] => Int.le_refl _
  | x :: xs => by have := fIdx_ge p xs; unfold fIdx; split <;> (try split) <;> omega
theorem fIdx_none {α : Type} {p : α → Bool} : ∀ {l : List α}, (∀ x ∈ l, p x = false) → fIdx p l = -1
  | [], _ => rfl
  | x :: xs, h => by rw [fIdx, if_neg (by rw [h x (List.mem_cons_self ..)]; exact Bool.false_ne_true), if_pos (by rw [fIdx_none (fun y hy => h y (List.mem_cons_of_mem _ hy))]; decide)]
theorem fIdx_some {α : Type} {p : α → Bool} : ∀ {l : List α} {i : Nat} {x : α}, l[i]? = some x → p x = true → (∀ j y, j < i → l[j]? = some y → p y = false) → fIdx p l = i
  | [], i, x, h, _, _ => by simp at h
  | y :: ys, 0, x, h, hp, _ => by simp at h; subst h; rw [fIdx, if_pos hp]; rfl
  | y :: ys, i + 1, x, h, hp, hn => by
    rw [fIdx, if_neg (by rw [hn 0 y (by omega) rfl]; exact Bool.false_ne_true), fIdx_some (l := ys) (i := i) (by simpa using h) hp (fun j z hj hz => hn (j + 1) z (by omega) (by simpa using hz)), if_neg (by omega)]; omega
theorem fIdx_neg {α : Type} (p : α → Bool) (l : List α) : decide (0 ≤ fIdx p l) = l.any p := by
  induction l with
  | nil => rfl
  | cons x xs ih =>
    have := fIdx_ge p xs
    rw [fIdx, List.any_cons, ← ih]
    cases p x
    · rw [if_neg Bool.false_ne_true, Bool.false_or]
      by_cases h : fIdx p xs < 0
      · rw [if_pos h, decide_eq_false (by omega), decide_eq_false (by omega)]
      · rw [if_neg h, decide_eq_true (by omega), decide_eq_true (by omega)]
    · rfl
set_option maxHeartbeats 2000000 in
set_option maxRecDepth 100000 in
theorem indexFuncR_any (R : Nat → Prop) (xs : List Int) (v : Value) (g : Nat) (p : Int → Bool) (eg : ∀ args w, (callFunc g args).run Tryz.prog w = .ok (.enter g args) w)
    (hg : ∀ r w, Calls Tryz.prog g #[.int .i32 r] w fun e w' => e = .returned (.bool (p r)) ∧ w = w') (w : World) (hv : IntsIn R .i32 w v xs) (hx : xs.length ≤ 1000000000) :
    Calls Tryz.prog 146 #[v, .func (.func g) #[] #[]] w fun e w' => e = .returned (.int .i64 (fIdx p xs)) ∧ w = w' := by
  have HV := Lib.hid hv
  obtain ⟨q, cq, rfl, _⟩ := hv
  obtain ⟨n, hn⟩ : ∃ n, n = xs.length := ⟨_, rfl⟩
  rw [← hn] at HV hx ⊢
  have HN := Lib.hid hn
  clear hn
  go_enter Tryz.func146, Tryz.ntmps146
  go_wp2_with fail
  go_loop [8] (fun iv => ∃ i : Nat, iv = .int .i64 i ∧ i ≤ n ∧ ∀ j y, j < i → xs[j]? = some y → p y = false) (fun iv => n - (intOf iv).toNat)
  case atStart => exact ⟨0, rfl, Nat.zero_le _, fun j y hj => absurd hj (Nat.not_lt_zero _)⟩
  case round =>
    obtain ⟨i, rfl, hin, hsm⟩ := hrel
    have HSM := Lib.hid hsm
    clear hsm
    by_cases hlt : i < n
    · have g1 : (i : Int) < (n : Int) := by omega
      obtain ⟨x, hx1⟩ : ∃ x, xs[i]? = some x := ⟨xs[i]'(by rw [← HN.out]; exact hlt), List.getElem?_eq_getElem _⟩
      obtain ⟨p', cap', he, _, hc⟩ := HV.out
      injection he with he1 he2 he3
      clear he2 he3
      obtain ⟨b, o, hp, _, hbl, c0⟩ := hc i x hx1
      subst he1 hp
      have HX := Lib.hid hx1
      clear hc hx1
      cases hpx : p x with
      | true =>
        have HPX := Lib.hid hpx
        go_wp2_with (refine (hg _ _).mono ?_; rintro e w' ⟨rfl, rfl⟩)
        go_ret
        exact ⟨by rw [fIdx_some HX.out HPX.out HSM.out] <;> rfl, rfl⟩
      | false =>
        have HPX := Lib.hid hpx
        go_wp2_with (refine (hg _ _).mono ?_; rintro e w' ⟨rfl, rfl⟩)
        go_round
        case rel =>
          refine ⟨i + 1, by go_num, by omega, fun j y hj hy => ?_⟩
          rcases Nat.lt_succ_iff_lt_or_eq.1 hj with h | rfl
          · exact HSM.out j y h hy
          · rw [HX.out] at hy; cases hy; exact HPX.out
        case measure => simp [intOf]; omega
    · have g1 : ¬ ((i : Int) < (n : Int)) := by omega
      obtain rfl : i = n := by omega
      go_wp2_with fail
      go_ret
      refine ⟨?_, rfl⟩
      rw [fIdx_none (fun x hx => ?_)] <;> try rfl
      obtain ⟨j, hj⟩ := List.mem_iff_getElem?.1 hx
      exact HSM.out j x (by rw [HN.out]; exact (List.getElem?_eq_some_iff.1 hj).1) hj
theorem codes1_any (r : Int) (w : World) : Calls Tryz.prog 128 #[.int .i32 r] w fun e w' => e = .returned (.bool (!pt r)) ∧ w = w' := by
  go_enter Tryz.func128, Tryz.ntmps128
  go_wp2_with (go_at_call 110; refine (scalarT_any _ _).mono ?_; rintro e w' ⟨rfl, rfl⟩)
  go_ret
  exact ⟨rfl, rfl⟩
theorem entry1_any (r : Int) (w : World) : Calls Tryz.prog 109 #[.int .i32 r] w fun e w' => e = .returned (.bool (!pt r)) ∧ w = w' := by
  go_enter Tryz.func109, Tryz.ntmps109
  go_wp2_with (go_at_call 110; refine (scalarT_any _ _).mono ?_; rintro e w' ⟨rfl, rfl⟩)
  go_ret
  exact ⟨rfl, rfl⟩
theorem containsFuncR_any (R : Nat → Prop) (xs : List Int) (v : Value) (g : Nat) (p : Int → Bool) (eg : ∀ args w, (callFunc g args).run Tryz.prog w = .ok (.enter g args) w)
    (hg : ∀ r w, Calls Tryz.prog g #[.int .i32 r] w fun e w' => e = .returned (.bool (p r)) ∧ w = w') (w : World) (hv : IntsIn R .i32 w v xs) (hx : xs.length ≤ 1000000000) :
    Calls Tryz.prog 108 #[v, .func (.func g) #[] #[]] w fun e w' => e = .returned (.bool (xs.any p)) ∧ w = w' := by
  have hc := fun w (hv : IntsIn R .i32 w v xs) => indexFuncR_any R xs v g p eg hg w hv hx
  have HV := Lib.hid hv
  obtain ⟨q, cq, rfl, _⟩ := hv
  rw [← fIdx_neg]
  go_enter Tryz.func108, Tryz.ntmps108
  go_wp2_with (refine (hc _ HV.out).mono ?_; rintro e w' ⟨rfl, rfl⟩)
  go_ret
  exact ⟨rfl, rfl⟩
end Go.Proofs.YtjbcbejedaeedaaGreatDoor
