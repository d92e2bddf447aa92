/- norm.sorted's comparator, by the class of a code point. -/
import Derived.Test.YtlldoofclaokgaaGreatSc
namespace Go.Proofs.YtlldoofclaokgaaGreat
open Go.RowKit

set_option maxHeartbeats 1000000 in
set_option maxRecDepth 100000 in
theorem cmp_num (f : Int → Int) (g nb : Nat) (rv : Value) (I : World → Prop) (hf : ∀ r, 0 ≤ f r ∧ f r ≤ 255)
    (hcl : ∀ r W, I W → Calls Tryz.prog 15 #[rv, .int .i32 r] W fun e w' => e = .returned (.int .i64 (f r)) ∧ Below W.heap.size W w')
    (hI : ∀ W W', I W → Only (fun k => k = g) W W' → I W') (hne : nb ≠ g) :
    CmpBy f g nb (fun W => I W ∧ W.cell? ⟨nb, 0, none⟩ = some (.func (.func 15) #[rv] #[])) := by
  refine ⟨fun x y W ⟨hi, hc⟩ => ?_, fun W W' ⟨hi, hc⟩ ho => ⟨hI W W' hi ho, ?_⟩⟩
  · have HCL := Lib.hid hcl
    have HI := Lib.hid hi
    have HII := Lib.hid hI
    have hx := hf x
    have hy := hf y
    clear hcl hi hI hf
    generalize hfx : f x = fx at *
    generalize hfy : f y = fy at *
    have h1 : ∀ W', Below W.heap.size W W' → Calls Tryz.prog 15 #[rv, .int .i32 x] W' fun e w' => e = .returned (.int .i64 fx) ∧ Below W'.heap.size W' w' :=
      fun W' hb => by rw [← hfx]; exact HCL.out x W' (HII.out _ _ HI.out ((Only.refl _ _).below hb))
    have h2 : ∀ W', Below W.heap.size W W' → Calls Tryz.prog 15 #[rv, .int .i32 y] W' fun e w' => e = .returned (.int .i64 fy) ∧ Below W'.heap.size W' w' :=
      fun W' hb => by rw [← hfy]; exact HCL.out y W' (HII.out _ _ HI.out ((Only.refl _ _).below hb))
    have hnl : nb < W.heap.size := World.block_lt_of_cell? W ⟨nb, 0, none⟩ hc
    have H1 := Lib.hid h1
    have H2 := Lib.hid h2
    clear h1 h2 hfx hfy
    go_enter Tryz.func93, Tryz.ntmps93
    go_wp2_with fail
    refine wp_region_over (by kernel_rfl) (by kernel_rfl) ?_; (repeat (go_big_quiet_step (((go_at_call 15; first | (with_reducible exact over_of (H1.out _ (below_over _ _))) | (with_reducible exact over_of (H2.out _ (below_over _ _)))))))); refine wpQuiet_nil ?_; intro w1 hb1
    go_wp2_with fail
    go_ret
    exact ⟨rfl, hb1⟩
  · rw [World.cell?_of_block (w := W) (a := ⟨nb, 0, none⟩) (ho.block nb (World.block_lt_of_cell? W ⟨nb, 0, none⟩ hc) hne)]; exact hc
end Go.Proofs.YtlldoofclaokgaaGreat
