/- Compare of package weight and of its reference. -/
import Derived.Test.YtobblnpldphclaaWa
import Derived.Test.YtobblnpldphclaaBase
namespace Go.Proofs.Ytobblnpldphclaa
open Go.RowKit

theorem cmp_same (a b : Int) (w : World) :
    Calls Try.prog 27 #[.int .i64 a, .int .i64 b] w fun e w' => e = .returned (.int .i64 (sgn a b)) ∧ w' = w :=
  (cmp_any a b w).mono fun e w' ⟨h, h'⟩ => ⟨h, h'.symm⟩
def or3 (x y z : Int) : Int := if x ≠ 0 then x else if y ≠ 0 then y else z

set_option maxHeartbeats 1000000 in
theorem or_any (x y z : Int) (b : Nat) (w : World) (h0 : w.cell? ⟨b, 0, none⟩ = some (.int .i64 x)) (h1 : w.cell? ⟨b, 1, none⟩ = some (.int .i64 y)) (h2 : w.cell? ⟨b, 2, none⟩ = some (.int .i64 z)) :
    Calls Try.prog 26 #[.slice (some ⟨b, 0, none⟩) 3 3] w fun e w' => e = .returned (.int .i64 (or3 x y z)) ∧ w = w' := by
  go_enter Try.func26, Try.ntmps26
  go_wp2
  refine wp_loop_rounds 4 ?_
  rw [rounds_succ]
  go_wp2
  · go_ret
    refine ⟨?_, rfl⟩
    simp_all [or3]
  rw [rounds_succ]
  go_wp2
  · go_ret
    refine ⟨?_, rfl⟩
    simp_all [or3]
  rw [rounds_succ]
  go_wp2
  · go_ret
    refine ⟨?_, rfl⟩
    simp_all [or3]
  rw [rounds_succ]
  go_wp2
  go_ret
  refine ⟨?_, rfl⟩
  simp_all [or3]

def eqE (p s t q r u : Int) : Bool := p == q && (s == r && t == u)
set_option maxHeartbeats 2000000 in
set_option maxRecDepth 100000 in
theorem compare_any (p s t q r u : Int) (v x : Bool) (w : World) :
    Calls Try.prog 17 #[.agg #[.int .i64 p, .int .i64 s, .int .i64 t, .bool v], .agg #[.int .i64 q, .int .i64 r, .int .i64 u, .bool x]] w fun e w' => e = .returned (.int .i64 (cmp3 p s t q r u)) ∧ Below w.heap.size w w' := by
  by_cases hp : p = q
  · subst hp
    by_cases hs : s = r
    · subst hs
      by_cases ht : t = u
      · subst ht
        have H : Hid (cmp3 p s t p s t = 0) := by show _ = _; simp [cmp3, sgn]
        go_enter Try.func17, Try.ntmps17
        go_wp2
        go_ret
        exact ⟨by rw [H.out]; rfl, by (repeat' (first | (with_reducible exact Below.refl _ _) | (with_reducible assumption) | (with_reducible refine Below.alloc ?_ ?_ _) | (with_reducible refine Below.drew ?_) | (with_reducible refine below_drewN ?_ _) | (with_reducible refine Below.setCell ?_ ?_ _) | (with_reducible refine Below.trans ?_ (Below.mono (by assumption) ?_)) | go_size))⟩
      · have h' : (t == u) = false := beq_eq_false_iff_ne.2 ht
        have H : Hid (cmp3 p s t p s u = or3 (sgn p p) (sgn s s) (sgn t u)) := rfl
        clear ht
        go_enter Try.func17, Try.ntmps17
        go_wp2
        refine wp_tail 15 (by kernel_rfl) (by kernel_rfl) ?_; simp only [List.take_succ_cons, List.take_zero, List.drop_succ_cons, List.drop_zero]; (repeat (first | still_step | still_call (cmp_same _ _ _))); refine wpStill_nil ?_
        go_wp2_with fail
        refine (or_any (sgn p p) (sgn s s) (sgn t u) _ _ ?_ ?_ ?_).mono ?_
        any_goals (simp [go_sem]; done)
        rintro e w' ⟨rfl, rfl⟩
        go_wp2_with fail
        go_ret
        exact ⟨by rw [H.out]; rfl, by (repeat' (first | (with_reducible exact Below.refl _ _) | (with_reducible assumption) | (with_reducible refine Below.alloc ?_ ?_ _) | (with_reducible refine Below.drew ?_) | (with_reducible refine below_drewN ?_ _) | (with_reducible refine Below.setCell ?_ ?_ _) | (with_reducible refine Below.trans ?_ (Below.mono (by assumption) ?_)) | go_size))⟩
    · have h' : (s == r) = false := beq_eq_false_iff_ne.2 hs
      have H : Hid (cmp3 p s t p r u = or3 (sgn p p) (sgn s r) (sgn t u)) := rfl
      clear hs
      go_enter Try.func17, Try.ntmps17
      go_wp2
      refine wp_tail 15 (by kernel_rfl) (by kernel_rfl) ?_; simp only [List.take_succ_cons, List.take_zero, List.drop_succ_cons, List.drop_zero]; (repeat (first | still_step | still_call (cmp_same _ _ _))); refine wpStill_nil ?_
      go_wp2_with fail
      refine (or_any (sgn p p) (sgn s r) (sgn t u) _ _ ?_ ?_ ?_).mono ?_
      any_goals (simp [go_sem]; done)
      rintro e w' ⟨rfl, rfl⟩
      go_wp2_with fail
      go_ret
      exact ⟨by rw [H.out]; rfl, by (repeat' (first | (with_reducible exact Below.refl _ _) | (with_reducible assumption) | (with_reducible refine Below.alloc ?_ ?_ _) | (with_reducible refine Below.drew ?_) | (with_reducible refine below_drewN ?_ _) | (with_reducible refine Below.setCell ?_ ?_ _) | (with_reducible refine Below.trans ?_ (Below.mono (by assumption) ?_)) | go_size))⟩
  · have h' : (p == q) = false := beq_eq_false_iff_ne.2 hp
    have H : Hid (cmp3 p s t q r u = or3 (sgn p q) (sgn s r) (sgn t u)) := rfl
    clear hp
    go_enter Try.func17, Try.ntmps17
    go_wp2
    refine wp_tail 15 (by kernel_rfl) (by kernel_rfl) ?_; simp only [List.take_succ_cons, List.take_zero, List.drop_succ_cons, List.drop_zero]; (repeat (first | still_step | still_call (cmp_same _ _ _))); refine wpStill_nil ?_
    go_wp2_with fail
    refine (or_any (sgn p q) (sgn s r) (sgn t u) _ _ ?_ ?_ ?_).mono ?_
    any_goals (simp [go_sem]; done)
    rintro e w' ⟨rfl, rfl⟩
    go_wp2_with fail
    go_ret
    exact ⟨by rw [H.out]; rfl, by (repeat' (first | (with_reducible exact Below.refl _ _) | (with_reducible assumption) | (with_reducible refine Below.alloc ?_ ?_ _) | (with_reducible refine Below.drew ?_) | (with_reducible refine below_drewN ?_ _) | (with_reducible refine Below.setCell ?_ ?_ _) | (with_reducible refine Below.trans ?_ (Below.mono (by assumption) ?_)) | go_size))⟩

set_option maxHeartbeats 1000000 in
set_option maxRecDepth 100000 in
theorem rcompare_any (p s t q r u : Int) (v x : Bool) (w : World) :
    Calls Try.prog 18 #[.agg #[.int .i64 p, .int .i64 s, .int .i64 t, .bool v], .agg #[.int .i64 q, .int .i64 r, .int .i64 u, .bool x]] w fun e w' => e = .returned (.int .i64 (cmp3 p s t q r u)) ∧ Below w.heap.size w w' := by
  go_enter Try.func18, Try.ntmps18
  go_wp2_with (go_at_call 28; refine (sign_any _ _ _).mono ?_; rintro e w' ⟨rfl, rfl⟩)
  all_goals go_ret
  all_goals refine ⟨?_, by (repeat' (first | (with_reducible exact Below.refl _ _) | (with_reducible assumption) | (with_reducible refine Below.alloc ?_ ?_ _) | (with_reducible refine Below.drew ?_) | (with_reducible refine below_drewN ?_ _) | (with_reducible refine Below.setCell ?_ ?_ _) | (with_reducible refine Below.trans ?_ (Below.mono (by assumption) ?_)) | go_size))⟩
  all_goals simp_all [cmp3]
end Go.Proofs.Ytobblnpldphclaa
