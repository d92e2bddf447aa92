/- The example of package norms: walked. -/
import Derived.Test.YtlldoofclaokgaaGreatNan
namespace Go.Proofs.YtlldoofclaokgaaGreat
open Go.RowKit

theorem dec1 : (deep smallD 4 7853).1 = [97, 803, 770] := by decide +kernel
theorem dec2 : (deep smallD 4 44033).1 = [4352, 4449, 4520] := by decide +kernel
theorem dec3 : clsOf smallC 769 = 230 := by decide +kernel
theorem dec4 : clsOf smallC 97 = 0 := by decide +kernel
theorem only_kept {R S : Nat → Prop} {a b : World} (h : Only S a b) (hd : ∀ i, R i → ¬ S i) : Kept R a b := ⟨h.size, fun i hi hl => h.block i hl (hd i hi)⟩
set_option maxHeartbeats 4000000 in
set_option maxRecDepth 100000 in
theorem awake5_any (w : World) :
    Calls Tryz.prog 10 #[] w fun e w' => e = .returned (.bool true) ∧ Below w.heap.size w w' := by
  go_enter Tryz.func10, Tryz.ntmps10
  go_wp2_with fail
  refine (small_any _).mono ?_
  rintro e w1 ⟨z, rfl, hr1, hb1⟩
  have HB1 := Lib.hid hb1
  have hld := load_nrm _ smallC smallD z w1 (ints_of_own hr1) small_ok
  clear hr1 hb1
  go_wp2_with fail
  refine hld.mono ?_
  rintro e w2 ⟨pb, rfl, hn, hp, hb2⟩
  have HB2 := Lib.hid (HB1.out.trans (hb2.mono HB1.out.size))
  have HP : Hid (w1.heap.size ≤ pb ∧ w.heap.size ≤ w1.heap.size ∧ pb < w2.heap.size) := ⟨hp, HB1.out.size, hn.lt⟩
  have hR : Hid (w1.heap.size ≤ w2.heap.size) := hb2.size
  have hd1 := decomp_any _ pb smallC smallD 7853 w2 (fun b hb => Nat.le_trans hb2.size hb) hn ⟨by decide, by decide⟩
  rw [dec1] at hd1
  clear hld hn hb2 hp
  go_wp2_with fail
  refine hd1.mono ?_
  rintro e w3 ⟨⟨v1, rfl, hv1⟩, hn3, ho3⟩
  have HV1 : Hid (IntsIn (fun b => w2.heap.size ≤ b) .i32 w3 v1 [97, 803, 770]) := runes_of_own hv1
  have HB3 : Hid (Below w.heap.size w w3) := only_below2 HB2.out ho3 (fun i hi => by have := HP.out; omega)
  have HZ3 : Hid (w2.heap.size ≤ w3.heap.size) := ho3.size
  have hd2 := decomp_any _ pb smallC smallD 44033 w3 (fun b hb => Nat.le_trans (Nat.le_trans hR.out ho3.size) hb) hn3 ⟨by decide, by decide⟩
  rw [dec2] at hd2
  clear hd1 hn3 ho3 hv1
  go_wp2_with fail
  refine hd2.mono ?_
  rintro e w4 ⟨⟨v2, rfl, hv2⟩, hn4, ho4⟩
  have HV2 : IntsIn (fun b => w3.heap.size ≤ b) .i32 w4 v2 [4352, 4449, 4520] := runes_of_own hv2
  have HB4 : Hid (Below w.heap.size w w4) := only_below2 HB3.out ho4 (fun i hi => by have := HP.out; omega)
  have HV3 := HV1.out.kept (only_kept ho4 (fun i hi => by have := HP.out; omega))
  have hcl := nClass_any _ pb smallC smallD 769 w4 hn4
  rw [dec3] at hcl
  have hst := fun w5 hb => nStarter_any _ pb smallC smallD 97 w5 (hn4.below (W' := w5) hb)
  rw [dec4] at hst
  obtain ⟨b1, o1, c1, rfl, _, hl1, h1⟩ := HV3.place (by decide)
  obtain ⟨b2, o2, c2, rfl, _, hl2, h2⟩ := HV2.place (by decide)
  have k1 := h1 1 803 rfl
  have k2 := h2 2 4520 rfl
  simp only [List.length_cons, List.length_nil, Nat.zero_add, Nat.reduceAdd]
  clear hd2 hn4 ho4 hv2 HV3 HV2 h1 h2
  go_wp2_with fail
  refine hcl.mono ?_
  rintro e w5 ⟨rfl, hb5⟩
  have HB5 := Lib.hid hb5
  have hs5 := hst w5 hb5
  clear hcl hst hb5
  go_wp2_with fail
  refine hs5.mono ?_
  rintro e w6 ⟨rfl, hb6⟩
  clear hs5
  go_wp2_with fail
  go_ret
  have hz := HB4.out.size
  exact ⟨rfl, (HB4.out.trans (HB5.out.mono hz)).trans (hb6.mono (Nat.le_trans hz HB5.out.size))⟩
end Go.Proofs.YtlldoofclaokgaaGreat
