/- Hexadecimal digits of package weight and of its reference. Show of package weight. -/
import Derived.Test.YtjbcbejedaeedaaGreatDoorWa
import Derived.Test.YtjbcbejedaeedaaGreatDoorBase
import Derived.Lib.SlBytesConst
/-! Hexadecimal digits of package weight and of its reference. -/
namespace Go.Proofs.YtjbcbejedaeedaaGreatDoor
open Go.RowKit

set_option maxHeartbeats 1000000 in
set_option maxRecDepth 100000 in
theorem four_any (n : Int) (w : World) (h0 : 0 ≤ n) (h1 : n ≤ 65535) :
    Calls Tryz.prog 113 #[.int .i64 n] w fun e w' => e = .returned (.string (strOfNums (hex4 n))) ∧ Below w.heap.size w w' := by
  have kc := fun (w : World) (C : Array Value) (n c : Nat) => Lib.run_convert_bytes_const (P := Tryz.prog) w 85 5 C n c Tryz.underlying85 Tryz.underlying5
  have b0 := i64_and15 (n / 4096) (by omega) (by omega)
  have b1 := i64_and15 (n / 256) (by omega) (by omega)
  have b2 := i64_and15 (n / 16) (by omega) (by omega)
  have b3 := i64_and15 n (by omega) (by omega)
  have hx := fun (k : Nat) (h : k < 16) => hexget k h
  go_enter Tryz.func113, Tryz.ntmps113
  go_wp2
  refine wp_loop_rounds 5 ?_
  iterate 5
    rw [rounds_succ]
    go_wp2
  rw [run_convert_bytes_arg _ 85 5 Tryz.underlying85 Tryz.underlying5 _ 0 4 4 (hex4 n) rfl ?_ 9 Tryz.underlying9]
  · go_wp2
    go_ret
    exact ⟨rfl, by (repeat' (first | (with_reducible exact Below.refl _ _) | (with_reducible assumption) | (with_reducible refine Below.alloc ?_ ?_ _) | (with_reducible refine Below.drew ?_) | (with_reducible refine below_drewN ?_ _) | (with_reducible refine Below.setCell ?_ ?_ _) | (with_reducible refine Below.trans ?_ (Below.mono (by assumption) ?_)) | go_size))⟩
  · intro i hi
    have : i = 0 ∨ i = 1 ∨ i = 2 ∨ i = 3 := by omega
    rcases this with rfl | rfl | rfl | rfl <;> simp [hex4, go_sem]

end Go.Proofs.YtjbcbejedaeedaaGreatDoor
/-! Show of package weight. -/
namespace Go.Proofs.YtjbcbejedaeedaaGreatDoor
open Go.RowKit

def showL (p s t : Int) (v : Bool) : List Int := if inB p 0 65535 && inB s 0 65535 && inB t 0 65535 then 91 :: (if v then 42 else 46) :: (hex4 p ++ 46 :: (hex4 s ++ 46 :: (hex4 t ++ [93]))) else []

set_option maxHeartbeats 2000000 in
set_option maxRecDepth 100000 in
theorem show_yes (p s t : Int) (v : Bool) (w : World) (hp : inB p 0 65535 = true) (hs : inB s 0 65535 = true) (ht : inB t 0 65535 = true) :
    Calls Tryz.prog 72 #[.agg #[.int .i64 p, .int .i64 s, .int .i64 t, .bool v]] w fun e w' => e = .returned (.string (strOfNums (showL p s t v))) ∧ Below w.heap.size w w' := by
  have hl := hex4_len
  have hb := byte_app
  have hbb := byte_byte
  have ha := app_byte
  have hp' : 0 ≤ p ∧ p ≤ 65535 := by simpa [inB] using hp
  have hs' : 0 ≤ s ∧ s ≤ 65535 := by simpa [inB] using hs
  have ht' : 0 ≤ t ∧ t ≤ 65535 := by simpa [inB] using ht
  obtain ⟨p0, p1⟩ := hp'; obtain ⟨s0, s1⟩ := hs'; obtain ⟨t0, t1⟩ := ht'
  have i0 : ∀ w, (Instr.index 160 (.agg #[.int .i64 p, .int .i64 s, .int .i64 t]) (.int .i64 0)).run Tryz.prog w = .ok (.int .i64 p) w := fun _ => by kernel_rfl
  have i1 : ∀ w, (Instr.index 160 (.agg #[.int .i64 p, .int .i64 s, .int .i64 t]) (.int .i64 1)).run Tryz.prog w = .ok (.int .i64 s) w := fun _ => by kernel_rfl
  have i2 : ∀ w, (Instr.index 160 (.agg #[.int .i64 p, .int .i64 s, .int .i64 t]) (.int .i64 2)).run Tryz.prog w = .ok (.int .i64 t) w := fun _ => by kernel_rfl
  cases v
  all_goals
    go_enter Tryz.func72, Tryz.ntmps72
    go_wp2
    refine wp_loop_rounds 4 ?_
    iterate 4
      rw [rounds_succ]
      go_wp2_with (go_at_call 55; refine (within_any _ _ _ _).mono ?_; rintro e w' ⟨rfl, rfl⟩)
    refine wp_region_over (by kernel_rfl) (by kernel_rfl) ?_; (repeat (go_big_quiet_step ((go_at_call 113; exact over_of (four_any _ _ (by assumption) (by assumption)))))); refine wpQuiet_nil ?_; intro w1 hb1
    go_wp2
    go_ret
    exact ⟨by simp [showL, hp, hs, ht], ((Below.refl _ _).alloc (Nat.le_refl _) _).trans (hb1.mono (by simp))⟩

set_option maxHeartbeats 2000000 in
set_option maxRecDepth 100000 in
theorem show_no (p s t : Int) (v : Bool) (w : World) (h : (inB p 0 65535 && inB s 0 65535 && inB t 0 65535) = false) :
    Calls Tryz.prog 72 #[.agg #[.int .i64 p, .int .i64 s, .int .i64 t, .bool v]] w fun e w' => e = .returned (.string (strOfNums (showL p s t v))) ∧ Below w.heap.size w w' := by
  have H := Lib.hid h
  have i0 : ∀ w, (Instr.index 160 (.agg #[.int .i64 p, .int .i64 s, .int .i64 t]) (.int .i64 0)).run Tryz.prog w = .ok (.int .i64 p) w := fun _ => by kernel_rfl
  have i1 : ∀ w, (Instr.index 160 (.agg #[.int .i64 p, .int .i64 s, .int .i64 t]) (.int .i64 1)).run Tryz.prog w = .ok (.int .i64 s) w := fun _ => by kernel_rfl
  have i2 : ∀ w, (Instr.index 160 (.agg #[.int .i64 p, .int .i64 s, .int .i64 t]) (.int .i64 2)).run Tryz.prog w = .ok (.int .i64 t) w := fun _ => by kernel_rfl
  cases hp : inB p 0 65535
  · clear h
    go_enter Tryz.func72, Tryz.ntmps72
    go_wp2
    refine wp_loop_rounds 1 ?_
    rw [rounds_succ]
    go_wp2_with (go_at_call 55; refine (within_any _ _ _ _).mono ?_; rintro e w' ⟨rfl, rfl⟩)
    go_ret
    exact ⟨by rw [showL, H.out]; rfl, by (repeat' (first | (with_reducible exact Below.refl _ _) | (with_reducible assumption) | (with_reducible refine Below.alloc ?_ ?_ _) | (with_reducible refine Below.drew ?_) | (with_reducible refine below_drewN ?_ _) | (with_reducible refine Below.setCell ?_ ?_ _) | (with_reducible refine Below.trans ?_ (Below.mono (by assumption) ?_)) | go_size))⟩
  · cases hs : inB s 0 65535
    · clear h
      go_enter Tryz.func72, Tryz.ntmps72
      go_wp2
      refine wp_loop_rounds 2 ?_
      iterate 2
        rw [rounds_succ]
        go_wp2_with (go_at_call 55; refine (within_any _ _ _ _).mono ?_; rintro e w' ⟨rfl, rfl⟩)
      go_ret
      exact ⟨by rw [showL, H.out]; rfl, by (repeat' (first | (with_reducible exact Below.refl _ _) | (with_reducible assumption) | (with_reducible refine Below.alloc ?_ ?_ _) | (with_reducible refine Below.drew ?_) | (with_reducible refine below_drewN ?_ _) | (with_reducible refine Below.setCell ?_ ?_ _) | (with_reducible refine Below.trans ?_ (Below.mono (by assumption) ?_)) | go_size))⟩
    · have ht : inB t 0 65535 = false := by simpa [hp, hs] using h
      clear h
      go_enter Tryz.func72, Tryz.ntmps72
      go_wp2
      refine wp_loop_rounds 3 ?_
      iterate 3
        rw [rounds_succ]
        go_wp2_with (go_at_call 55; refine (within_any _ _ _ _).mono ?_; rintro e w' ⟨rfl, rfl⟩)
      go_ret
      exact ⟨by rw [showL, H.out]; rfl, by (repeat' (first | (with_reducible exact Below.refl _ _) | (with_reducible assumption) | (with_reducible refine Below.alloc ?_ ?_ _) | (with_reducible refine Below.drew ?_) | (with_reducible refine below_drewN ?_ _) | (with_reducible refine Below.setCell ?_ ?_ _) | (with_reducible refine Below.trans ?_ (Below.mono (by assumption) ?_)) | go_size))⟩

theorem show_any (p s t : Int) (v : Bool) (w : World) :
    Calls Tryz.prog 72 #[.agg #[.int .i64 p, .int .i64 s, .int .i64 t, .bool v]] w fun e w' => e = .returned (.string (strOfNums (showL p s t v))) ∧ Below w.heap.size w w' := by
  cases h : (inB p 0 65535 && inB s 0 65535 && inB t 0 65535)
  · exact show_no p s t v w h
  · simp only [Bool.and_eq_true] at h
    exact show_yes p s t v w h.1.1 h.1.2 h.2
end Go.Proofs.YtjbcbejedaeedaaGreatDoor
