/- TailorWrites: the law, walked. -/
import Derived.Test.YtchjjfjjcdjjcaaGreatDoorZi
import Derived.Test.YtchjjfjjcdjjcaaGreatDoorZf
import Derived.Test.YtchjjfjjcdjjcaaGreatDoorIi
namespace Go.Proofs.YtchjjfjjcdjjcaaGreatDoor
open Go.RowKit

set_option maxHeartbeats 8000000 in
set_option maxRecDepth 100000 in
theorem tailorWrites_any (l m : List Rul) (v u : Value) (w : World) (hv : RulsIn (· < w.heap.size) w v l) (hu : RulsIn (· < w.heap.size) w u m) (hl : l.length ≤ 140737488351232) (hm : m.length ≤ 140737488351232) (hok : ∀ x ∈ l, RulWf x) :
    Calls Tryz.prog 3 #[v, u] w fun e w' => e = .returned (.bool true) ∧ Below w.heap.size w w' := by
  have HV := Lib.hid hv
  have HU := Lib.hid hu
  have HLM := Lib.hid (fun W (h : Below w.heap.size w W) => light_any _ m u W (hu.kept (Kept.below h)) hm)
  have HS1 := Lib.hid (fun W (h : Below w.heap.size w W) => tsame_any _ _ l m v u W (hv.kept (Kept.below h)) (hu.kept (Kept.below h)) hl hm)
  have HS2 := Lib.hid (fun W (h : Below w.heap.size w W) => rsame10_any _ _ l m v u W (hv.kept (Kept.below h)) (hu.kept (Kept.below h)) hl hm)
  have HMY := Lib.hid (fun W (h : Below w.heap.size w W) => rmay_any _ l v W (hv.kept (Kept.below h)) hl)
  have hqq : (decide (l = m) != decide (l = m)) = false := by cases decide (l = m) <;> rfl
  by_cases hmz : mayT l = 0
  · have hfew : Hid (∀ W, Below w.heap.size w W → Calls Tryz.prog 5 #[v] W fun e w' => e = .returned (.bool (decide (l.length + sumR l ≤ 600))) ∧ Below W.heap.size W w') := fun W h => light_small _ l v W (hv.kept (Kept.below h)) hok (may_zero hmz).2
    rw [hmz] at HMY
    by_cases hf : l.length + sumR l ≤ 600
    · rw [decide_eq_true hf] at hfew
      have HWR := Lib.hid (fun W (h : Below w.heap.size w W) => write_any _ l v W (hv.kept (Kept.below h)) hmz hf (fun b hb => Nat.lt_of_lt_of_le hb h.size))
      have HSZ : Hid ((strOfNums (writeT l)).size ≤ 65536) := by show _ ≤ _; rw [strOfNums_len]; have := writeT_len l; omega
      have HPW := Lib.hid (par_ok (parse_write hmz))
      have HPR := Lib.hid (fun W => rparse_any (strOfNums (writeT l)) W HSZ.out)
      have HS3 := Lib.hid (fun W lv (h : Below w.heap.size w W) (hp : RulsIn (fun b => w.heap.size ≤ b) W lv l) => rsame10_any _ _ l l lv v W hp (hv.kept (Kept.below h)) hl hl)
      obtain ⟨p, cp, rfl, _⟩ := hv
      obtain ⟨q, cq, rfl, _⟩ := hu
      unfold ParsePost at HPR
      rw [HPW.out.1, HPW.out.2.1, HPW.out.2.2] at HPR
      generalize decide (l = m) = qb at *
      generalize strOfNums (writeT l) = S at *
      clear hl hm hok hmz hf HPW HSZ
      go_enter Tryz.func3, Tryz.ntmps3
      go_wp2_with fail
      refine (awake10_any _).mono ?_
      rintro e w1 ⟨rfl, hb1⟩
      have HB1 := Lib.hid hb1
      clear hb1
      go_wp2_with fail
      refine (hfew.out _ HB1.out).mono ?_
      rintro e w2 ⟨rfl, hb2⟩
      have HB2 := Lib.hid (HB1.out.trans (hb2.mono HB1.out.size))
      clear hb2
      go_wp2_with fail
      refine (HLM.out _ HB2.out).mono ?_
      rintro e w3 ⟨b3, rfl, hb3⟩
      have HB3 := Lib.hid (HB2.out.trans (hb3.mono HB2.out.size))
      clear hb3
      cases b3
      · go_wp2_with fail
        go_ret
        exact ⟨rfl, HB3.out⟩
      · go_wp2_with fail
        refine (HS1.out _ HB3.out).mono ?_
        rintro e w4 ⟨rfl, hb4⟩
        have HB4 := Lib.hid (HB3.out.trans (hb4.mono HB3.out.size))
        clear hb4
        go_wp2_with fail
        refine (HS2.out _ HB4.out).mono ?_
        rintro e w5 ⟨rfl, hb5⟩
        have HB5 := Lib.hid (HB4.out.trans (hb5.mono HB4.out.size))
        clear hb5
        go_wp2_with fail
        refine (HWR.out _ HB5.out).mono ?_
        rintro e w6 ⟨rfl, hb6⟩
        have HB6 := Lib.hid (HB5.out.trans (hb6.mono HB5.out.size))
        clear hb6
        go_wp2_with fail
        refine (HMY.out _ HB6.out).mono ?_
        rintro e w7 ⟨rfl, hb7⟩
        have HB7 := Lib.hid (HB6.out.trans (hb7.mono HB6.out.size))
        clear hb7
        go_wp2_with fail
        refine (HPR.out _).mono ?_
        rintro e w8 ⟨lv, rfl, hr8, hb8⟩
        have HB8 := Lib.hid (HB7.out.trans (hb8.mono HB7.out.size))
        have HC8 := Lib.hid (HS3.out _ lv HB8.out (hr8.mono (fun b hb _ => Nat.le_trans HB7.out.size hb)))
        obtain ⟨p8, c8, rfl, _⟩ := hr8
        clear hb8
        simp only [decide_true] at HC8
        go_wp2_with fail
        refine HC8.out.mono ?_
        rintro e w9 ⟨rfl, hb9⟩
        have HB9 := Lib.hid (HB8.out.trans (hb9.mono HB8.out.size))
        clear hb9
        go_wp2_with fail
        go_ret
        exact ⟨rfl, HB9.out⟩
    · rw [decide_eq_false hf] at hfew
      obtain ⟨p, cp, rfl, _⟩ := hv
      obtain ⟨q, cq, rfl, _⟩ := hu
      clear hl hm hok hmz hf
      go_enter Tryz.func3, Tryz.ntmps3
      go_wp2_with fail
      refine (awake10_any _).mono ?_
      rintro e w1 ⟨rfl, hb1⟩
      have HB1 := Lib.hid hb1
      clear hb1
      go_wp2_with fail
      refine (hfew.out _ HB1.out).mono ?_
      rintro e w2 ⟨rfl, hb2⟩
      have HB2 := Lib.hid (HB1.out.trans (hb2.mono HB1.out.size))
      clear hb2
      go_wp2_with fail
      go_ret
      exact ⟨rfl, HB2.out⟩
  · have HLL := Lib.hid (fun W (h : Below w.heap.size w W) => light_any _ l v W (hv.kept (Kept.below h)) hl)
    have HWR := Lib.hid (fun W (h : Below w.heap.size w W) => write_bad _ l v W (hv.kept (Kept.below h)) hl hmz)
    have hne : (mayT l != 0) = true := by simpa using hmz
    have hee : (mayT l == mayT l) = true := by simp
    obtain ⟨p, cp, rfl, _⟩ := hv
    obtain ⟨q, cq, rfl, _⟩ := hu
    generalize decide (l = m) = qb at *
    generalize mayT l = z at *
    clear hl hm hok hmz
    go_enter Tryz.func3, Tryz.ntmps3
    go_wp2_with fail
    refine (awake10_any _).mono ?_
    rintro e w1 ⟨rfl, hb1⟩
    have HB1 := Lib.hid hb1
    clear hb1
    go_wp2_with fail
    refine (HLL.out _ HB1.out).mono ?_
    rintro e w2 ⟨b2, rfl, hb2⟩
    have HB2 := Lib.hid (HB1.out.trans (hb2.mono HB1.out.size))
    clear hb2
    cases b2
    · go_wp2_with fail
      go_ret
      exact ⟨rfl, HB2.out⟩
    · go_wp2_with fail
      refine (HLM.out _ HB2.out).mono ?_
      rintro e w3 ⟨b3, rfl, hb3⟩
      have HB3 := Lib.hid (HB2.out.trans (hb3.mono HB2.out.size))
      clear hb3
      cases b3
      · go_wp2_with fail
        go_ret
        exact ⟨rfl, HB3.out⟩
      · go_wp2_with fail
        refine (HS1.out _ HB3.out).mono ?_
        rintro e w4 ⟨rfl, hb4⟩
        have HB4 := Lib.hid (HB3.out.trans (hb4.mono HB3.out.size))
        clear hb4
        go_wp2_with fail
        refine (HS2.out _ HB4.out).mono ?_
        rintro e w5 ⟨rfl, hb5⟩
        have HB5 := Lib.hid (HB4.out.trans (hb5.mono HB4.out.size))
        clear hb5
        go_wp2_with fail
        refine (HWR.out _ HB5.out).mono ?_
        rintro e w6 ⟨rfl, hb6⟩
        have HB6 := Lib.hid (HB5.out.trans (hb6.mono HB5.out.size))
        clear hb6
        go_wp2_with fail
        refine (HMY.out _ HB6.out).mono ?_
        rintro e w7 ⟨rfl, hb7⟩
        have HB7 := Lib.hid (HB6.out.trans (hb7.mono HB6.out.size))
        clear hb7
        go_wp2_with fail
        go_ret
        exact ⟨rfl, HB7.out⟩
end Go.Proofs.YtchjjfjjcdjjcaaGreatDoor
