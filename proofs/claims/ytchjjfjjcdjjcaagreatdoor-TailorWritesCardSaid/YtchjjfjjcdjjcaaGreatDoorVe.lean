/- The reference's forms: walks. The reference's way to read a form at a place: the walk. -/
import Derived.Test.YtchjjfjjcdjjcaaGreatDoorVd
import Derived.Test.YtchjjfjjcdjjcaaGreatDoorR4
import Derived.Deep.RegionHeld
import Derived.Lib.Strings
namespace Go.Proofs.YtchjjfjjcdjjcaaGreatDoor
open Go.RowKit
open PlainAid (bt)
def encCells (r : Int) : Array Value := ((enc r).map (Value.int .u8)).toArray

set_option maxHeartbeats 1000000 in
theorem rform_any (r : Int) (w : World) (h : sc r = true) :
    Calls Tryz.prog 70 #[.int .i32 r] w fun e w' => e = .returned (.slice (some ⟨w.heap.size, 0, none⟩) (lg r) (lg r)) ∧ w.alloc (.cells (encCells r) 5) = w' := by
  have hr : 0 ≤ r ∧ r ≤ 1114111 := by unfold sc at h; simp at h; omega
  obtain ⟨r0, r1⟩ := hr
  clear h
  by_cases h1 : r < 128
  · have e1 : lg r = 1 := by unfold lg; rw [if_pos h1]
    have e2 : encCells r = #[.int .u8 r] := by unfold encCells enc; rw [if_pos h1]; rfl
    rw [e1, e2]
    clear e1 e2
    go_enter Tryz.func70, Tryz.ntmps70
    go_wp2
    go_ret
    exact ⟨rfl, rfl⟩
  · by_cases h2 : r < 2048
    · have e1 : lg r = 2 := by unfold lg; rw [if_neg h1, if_pos h2]
      have e2 : encCells r = #[.int .u8 (192 + r / 64), .int .u8 (128 + r % 64)] := by unfold encCells enc; rw [if_neg h1, if_pos h2]; rfl
      rw [e1, e2]
      clear e1 e2
      go_enter Tryz.func70, Tryz.ntmps70
      go_wp2
      go_ret
      exact ⟨rfl, rfl⟩
    · by_cases h3 : r < 65536
      · have e1 : lg r = 3 := by unfold lg; rw [if_neg h1, if_neg h2, if_pos h3]
        have e2 : encCells r = #[.int .u8 (224 + r / 4096), .int .u8 (128 + r / 64 % 64), .int .u8 (128 + r % 64)] := by unfold encCells enc; rw [if_neg h1, if_neg h2, if_pos h3]; rfl
        rw [e1, e2]
        clear e1 e2
        go_enter Tryz.func70, Tryz.ntmps70
        go_wp2
        go_ret
        exact ⟨rfl, rfl⟩
      · have e1 : lg r = 4 := by unfold lg; rw [if_neg h1, if_neg h2, if_neg h3]
        have e2 : encCells r = #[.int .u8 (240 + r / 262144), .int .u8 (128 + r / 4096 % 64), .int .u8 (128 + r / 64 % 64), .int .u8 (128 + r % 64)] := by unfold encCells enc; rw [if_neg h1, if_neg h2, if_neg h3]; rfl
        rw [e1, e2]
        clear e1 e2
        go_enter Tryz.func70, Tryz.ntmps70
        go_wp2
        go_ret
        exact ⟨rfl, rfl⟩
/-- a row of a form is read as a string -/
theorem enc_string {P : Program} (w : World) (r : Int) (src e dst : TypeId) (hs : P.underlying src = some (.slice e)) (he : P.underlying e = some (.int .u8)) (hd : P.underlying dst = some .string) :
    (convert src dst (.slice (some ⟨w.heap.size, 0, none⟩) (lg r) (lg r))).run P (w.alloc (.cells (encCells r) e)) = .ok (.string (strOfNums (enc r))) (w.alloc (.cells (encCells r) e)) := by
  refine run_convert_bytes_arg _ src e hs he w.heap.size 0 (lg r) (lg r) (enc r) (enc_len r) ?_ dst hd
  intro i hi
  rw [Nat.zero_add, World.cell?_alloc_new]
  unfold encCells
  rw [← enc_len] at hi
  simp [List.getD, hi]
end Go.Proofs.YtchjjfjjcdjjcaaGreatDoor
namespace Go.Proofs.YtchjjfjjcdjjcaaGreatDoor
open Go.RowKit
open PlainAid (bt)

theorem toList_inj {a b : ByteArray} (h : a.toList = b.toList) : a = b := by
  rw [Lib.toList_data, Lib.toList_data] at h
  exact ByteArray.ext (Array.ext' h)
theorem r4scalar_no (r : Int) (w : World) (h : sc r = false) :
    Calls Tryz.prog 44 #[.int .i32 r] w fun e w' => e = .returned (.bool false) ∧ w = w' :=
  (r4scalar_any r w).mono fun e w' ⟨he, hw⟩ => ⟨by rw [he, h], hw⟩
def isn (s : ByteArray) (a : Nat) (n : Nat) : Bool := if n = 1 then is1 s a else if n = 2 then is2 s a else if n = 3 then is3 s a else if n = 4 then is4 s a else false
theorem fm_none_of (s : ByteArray) (a : Nat) (h : ∀ m, 1 ≤ m → m ≤ 4 → isn s a m = false) : fmR s a = 0 ∧ fmN s a = 0 := by
  have h1 : is1 s a = false := h 1 (by omega) (by omega)
  have h2 : is2 s a = false := h 2 (by omega) (by omega)
  have h3 : is3 s a = false := h 3 (by omega) (by omega)
  have h4 : is4 s a = false := h 4 (by omega) (by omega)
  unfold fmR fmN; rw [h1, h2, h3, h4]; exact ⟨rfl, rfl⟩
theorem isn_size (s : ByteArray) (a n : Nat) (h : s.size < a + n) : isn s a n = false := by
  cases hh : isn s a n
  · rfl
  · unfold isn at hh
    by_cases c1 : n = 1
    · rw [if_pos c1] at hh; simp only [is1, Bool.and_eq_true, decide_eq_true_eq] at hh; omega
    rw [if_neg c1] at hh
    by_cases c2 : n = 2
    · rw [if_pos c2] at hh; simp only [is2, Bool.and_eq_true, decide_eq_true_eq] at hh; omega
    rw [if_neg c2] at hh
    by_cases c3 : n = 3
    · rw [if_pos c3] at hh; simp only [is3, Bool.and_eq_true, decide_eq_true_eq] at hh; omega
    rw [if_neg c3] at hh
    by_cases c4 : n = 4
    · rw [if_pos c4] at hh; simp only [is4, Bool.and_eq_true, decide_eq_true_eq] at hh; omega
    rw [if_neg c4] at hh; cases hh
def AtRel (s : ByteArray) (a : Nat) (w : World) (k : Nat) (wr : World) : Prop := (∀ m, 1 ≤ m → m < k → isn s a m = false) ∧ Below w.heap.size w wr
theorem atRel_step {s : ByteArray} {a : Nat} {w wr w' : World} {k : Nat} (h : AtRel s a w k wr) (hk : isn s a k = false) (hb : Below wr.heap.size wr w') : AtRel s a w (k + 1) w' :=
  ⟨fun m h1 h2 => by
    by_cases e : m = k
    · rw [e]; exact hk
    · exact h.1 m h1 (by omega), h.2.trans (hb.mono h.2.size)⟩
set_option maxHeartbeats 8000000 in
set_option maxRecDepth 100000 in
theorem at_any (s : ByteArray) (a : Nat) (w : World) (hs : s.size ≤ 140737488351232) (ha : a ≤ s.size) :
    Calls Tryz.prog 45 #[.string s, .int .i64 a] w fun e w' => e = .returned (.tuple #[.int .i32 (fmR s a), .int .i64 (fmN s a)]) ∧ Below w.heap.size w w' := by
  have hb := PlainAid.get_bt s
  go_enter Tryz.func45, Tryz.ntmps45
  go_wp2
  go_loopw [6] (fun n wr => ∃ k : Nat, 1 ≤ k ∧ k ≤ 5 ∧ n = .int .i64 k ∧ AtRel s a w k wr) (fun n _ => 5 - (intOf n).toNat)
  case atStart => exact ⟨1, by omega, by omega, rfl, fun m h1 h2 => by omega, Below.refl _ _⟩
  case round =>
    obtain ⟨k, hk0, hk1, rfl, hR⟩ := hrel
    have HR := Lib.hid hR
    clear hR
    by_cases hlt : k ≤ 4 ∧ a + k ≤ s.size
    · obtain ⟨hk4, hsz⟩ := hlt
      have hk : k = 1 ∨ k = 2 ∨ k = 3 ∨ k = 4 := by omega
      rcases hk with rfl | rfl | rfl | rfl
      · -- 1
        have bl0 := PlainAid.bt_nonneg s a
        have bh0 := PlainAid.bt_le s a
        have hq : Hid ((sc (bt s a) = true ∧ strOfNums (enc (bt s a)) = s.extract a (a + 1)) ↔ is1 s a = true) := is1_iff s a hsz
        by_cases hsc : sc (bt s a) = true
        · have hc : ∀ w : World, (convert 54 9 (.slice (some ⟨w.heap.size, 0, none⟩) (lg (bt s a)) (lg (bt s a)))).run Tryz.prog ((w.alloc (.cells (encCells (bt s a)) 5)).drew) = .ok (.string (strOfNums (enc (bt s a)))) ((w.alloc (.cells (encCells (bt s a)) 5)).drew) := fun (w : World) => enc_string (P := Tryz.prog) w.drew (bt s a) 54 5 9 Tryz.underlying54 Tryz.underlying5 Tryz.underlying9
          by_cases heq : strOfNums (enc (bt s a)) = s.extract a (a + 1)
          · have hi : is1 s a = true := hq.out.1 ⟨hsc, heq⟩
            have HV := Lib.hid (fm_yes1 s a hi)
            have heq' : ((strOfNums (enc (bt s a))).toList == (s.extract a (a + 1)).toList) = true := by rw [heq]; exact beq_self_eq_true _

            clear heq hi hq
            go_wp2_with fail
            refine wp_loop_rounds 1 ?_
            rw [rounds_succ]
            go_wp2_with fail
            have sw1 : IntKind.i64.wrap ((a : Int) + 1) = (a : Int) + 1 := IntWalk.i64_in _ (by omega)
            have sw2 : ((a : Int) + 1).toNat = a + 1 := by omega
            have sw3 : (0 : Int) ≤ (a : Int) + 1 := by omega
            have sw4 : (a : Int) ≤ (a : Int) + 1 := by omega
            have sw5 : (a : Int) + 1 ≤ (s.size : Int) := by omega
            go_region_held (fun _ : World => True) (trivial) ((first | (go_at_call 44; refine (r4scalar_any _ _).mono ?_; rintro e w' ⟨rfl, rfl⟩) | (go_at_call 70; refine (rform_any _ _ hsc).mono ?_; rintro e w' ⟨rfl, rfl⟩)))
            clear sw1 sw2 sw3 sw4 sw5
            go_wp2_with fail
            go_ret2
            exact ⟨by rw [HV.out.1, HV.out.2]; rfl, HR.out.2.trans (by have := HR.out.2.size; (repeat' (first | (with_reducible exact Below.refl _ _) | (with_reducible assumption) | (with_reducible refine Below.alloc ?_ ?_ _) | (with_reducible refine Below.drew ?_) | (with_reducible refine below_drewN ?_ _) | (with_reducible refine Below.setCell ?_ ?_ _) | (with_reducible refine Below.trans ?_ (Below.mono (by assumption) ?_)) | go_size)))⟩
          · have hi : isn s a 1 = false := by
              show is1 s a = false
              cases hh : is1 s a
              · rfl
              · exact absurd (hq.out.2 hh).2 heq
            have HI := Lib.hid hi
            have heq' : ((strOfNums (enc (bt s a))).toList == (s.extract a (a + 1)).toList) = false := beq_eq_false_iff_ne.2 (fun e => heq (toList_inj e))
            clear heq hi hq
            go_wp2_with fail
            refine wp_loop_rounds 1 ?_
            rw [rounds_succ]
            go_wp2_with fail
            have sw1 : IntKind.i64.wrap ((a : Int) + 1) = (a : Int) + 1 := IntWalk.i64_in _ (by omega)
            have sw2 : ((a : Int) + 1).toNat = a + 1 := by omega
            have sw3 : (0 : Int) ≤ (a : Int) + 1 := by omega
            have sw4 : (a : Int) ≤ (a : Int) + 1 := by omega
            have sw5 : (a : Int) + 1 ≤ (s.size : Int) := by omega
            go_region_held (fun _ : World => True) (trivial) ((first | (go_at_call 44; refine (r4scalar_any _ _).mono ?_; rintro e w' ⟨rfl, rfl⟩) | (go_at_call 70; refine (rform_any _ _ hsc).mono ?_; rintro e w' ⟨rfl, rfl⟩)))
            clear sw1 sw2 sw3 sw4 sw5
            go_wp2_with fail
            go_roundw
            case rel => exact ⟨1 + 1, by omega, by omega, rfl, atRel_step HR.out HI.out (by (repeat' (first | (with_reducible exact Below.refl _ _) | (with_reducible assumption) | (with_reducible refine Below.alloc ?_ ?_ _) | (with_reducible refine Below.drew ?_) | (with_reducible refine below_drewN ?_ _) | (with_reducible refine Below.setCell ?_ ?_ _) | (with_reducible refine Below.trans ?_ (Below.mono (by assumption) ?_)) | go_size)))⟩
            case measure => simp [intOf]
        · have hi : isn s a 1 = false := by
            show is1 s a = false
            cases hh : is1 s a
            · rfl
            · exact absurd (hq.out.2 hh).1 hsc
          have HI := Lib.hid hi
          have hsc' : sc (bt s a) = false := by
            cases hh : sc (bt s a)
            · rfl
            · exact absurd hh hsc
          clear hsc hi hq
          go_wp2_with fail
          refine wp_loop_rounds 1 ?_
          rw [rounds_succ]
          go_wp2_with fail
          have sw1 : IntKind.i64.wrap ((a : Int) + 1) = (a : Int) + 1 := IntWalk.i64_in _ (by omega)
          have sw2 : ((a : Int) + 1).toNat = a + 1 := by omega
          have sw3 : (0 : Int) ≤ (a : Int) + 1 := by omega
          have sw4 : (a : Int) ≤ (a : Int) + 1 := by omega
          have sw5 : (a : Int) + 1 ≤ (s.size : Int) := by omega
          refine wp_region_over (by kernel_rfl) (by kernel_rfl) ?_; (repeat (go_big_quiet_step ((go_at_call 44; exact over_same (r4scalar_no _ _ hsc'))))); refine wpQuiet_nil ?_; intro w1 hb1
          clear sw1 sw2 sw3 sw4 sw5
          go_wp2_with fail
          go_roundw
          case rel => exact ⟨1 + 1, by omega, by omega, rfl, atRel_step HR.out HI.out (by (repeat' (first | (with_reducible exact Below.refl _ _) | (with_reducible assumption) | (with_reducible refine Below.alloc ?_ ?_ _) | (with_reducible refine Below.drew ?_) | (with_reducible refine below_drewN ?_ _) | (with_reducible refine Below.setCell ?_ ?_ _) | (with_reducible refine Below.trans ?_ (Below.mono (by assumption) ?_)) | go_size)))⟩
          case measure => simp [intOf]
      · -- 2
        have bl0 := PlainAid.bt_nonneg s a
        have bh0 := PlainAid.bt_le s a
        have bl1 := PlainAid.bt_nonneg s (a + 1)
        have bh1 := PlainAid.bt_le s (a + 1)
        have hq : Hid ((sc ((bt s a - 192) * 64 + bt s (a + 1) - 128) = true ∧ strOfNums (enc ((bt s a - 192) * 64 + bt s (a + 1) - 128)) = s.extract a (a + 2)) ↔ is2 s a = true) := (is2_iff s a hsz).1
        have qe : Hid (is2 s a = true → (bt s a - 192) * 64 + bt s (a + 1) - 128 = r2 s a) := (is2_iff s a hsz).2
        by_cases hsc : sc ((bt s a - 192) * 64 + bt s (a + 1) - 128) = true
        · have hc : ∀ w : World, (convert 54 9 (.slice (some ⟨w.heap.size, 0, none⟩) (lg ((bt s a - 192) * 64 + bt s (a + 1) - 128)) (lg ((bt s a - 192) * 64 + bt s (a + 1) - 128)))).run Tryz.prog ((w.alloc (.cells (encCells ((bt s a - 192) * 64 + bt s (a + 1) - 128)) 5)).drew) = .ok (.string (strOfNums (enc ((bt s a - 192) * 64 + bt s (a + 1) - 128)))) ((w.alloc (.cells (encCells ((bt s a - 192) * 64 + bt s (a + 1) - 128)) 5)).drew) := fun (w : World) => enc_string (P := Tryz.prog) w.drew ((bt s a - 192) * 64 + bt s (a + 1) - 128) 54 5 9 Tryz.underlying54 Tryz.underlying5 Tryz.underlying9
          by_cases heq : strOfNums (enc ((bt s a - 192) * 64 + bt s (a + 1) - 128)) = s.extract a (a + 2)
          · have hi : is2 s a = true := hq.out.1 ⟨hsc, heq⟩
            have HV := Lib.hid (fm_yes2 s a hi)
            have heq' : ((strOfNums (enc ((bt s a - 192) * 64 + bt s (a + 1) - 128))).toList == (s.extract a (a + 2)).toList) = true := by rw [heq]; exact beq_self_eq_true _
            have QE := Lib.hid (qe.out hi)
            clear heq hi hq
            go_wp2_with fail
            refine wp_loop_rounds 2 ?_
            rw [rounds_succ]
            go_wp2_with fail
            rw [rounds_succ]
            go_wp2_with fail
            have sw1 : IntKind.i64.wrap ((a : Int) + 2) = (a : Int) + 2 := IntWalk.i64_in _ (by omega)
            have sw2 : ((a : Int) + 2).toNat = a + 2 := by omega
            have sw3 : (0 : Int) ≤ (a : Int) + 2 := by omega
            have sw4 : (a : Int) ≤ (a : Int) + 2 := by omega
            have sw5 : (a : Int) + 2 ≤ (s.size : Int) := by omega
            go_region_held (fun _ : World => True) (trivial) ((first | (go_at_call 44; refine (r4scalar_any _ _).mono ?_; rintro e w' ⟨rfl, rfl⟩) | (go_at_call 70; refine (rform_any _ _ hsc).mono ?_; rintro e w' ⟨rfl, rfl⟩)))
            clear sw1 sw2 sw3 sw4 sw5
            go_wp2_with fail
            go_ret2
            exact ⟨by rw [HV.out.1, HV.out.2, ← QE.out]; rfl, HR.out.2.trans (by have := HR.out.2.size; (repeat' (first | (with_reducible exact Below.refl _ _) | (with_reducible assumption) | (with_reducible refine Below.alloc ?_ ?_ _) | (with_reducible refine Below.drew ?_) | (with_reducible refine below_drewN ?_ _) | (with_reducible refine Below.setCell ?_ ?_ _) | (with_reducible refine Below.trans ?_ (Below.mono (by assumption) ?_)) | go_size)))⟩
          · have hi : isn s a 2 = false := by
              show is2 s a = false
              cases hh : is2 s a
              · rfl
              · exact absurd (hq.out.2 hh).2 heq
            have HI := Lib.hid hi
            have heq' : ((strOfNums (enc ((bt s a - 192) * 64 + bt s (a + 1) - 128))).toList == (s.extract a (a + 2)).toList) = false := beq_eq_false_iff_ne.2 (fun e => heq (toList_inj e))
            clear heq hi hq
            go_wp2_with fail
            refine wp_loop_rounds 2 ?_
            rw [rounds_succ]
            go_wp2_with fail
            rw [rounds_succ]
            go_wp2_with fail
            have sw1 : IntKind.i64.wrap ((a : Int) + 2) = (a : Int) + 2 := IntWalk.i64_in _ (by omega)
            have sw2 : ((a : Int) + 2).toNat = a + 2 := by omega
            have sw3 : (0 : Int) ≤ (a : Int) + 2 := by omega
            have sw4 : (a : Int) ≤ (a : Int) + 2 := by omega
            have sw5 : (a : Int) + 2 ≤ (s.size : Int) := by omega
            go_region_held (fun _ : World => True) (trivial) ((first | (go_at_call 44; refine (r4scalar_any _ _).mono ?_; rintro e w' ⟨rfl, rfl⟩) | (go_at_call 70; refine (rform_any _ _ hsc).mono ?_; rintro e w' ⟨rfl, rfl⟩)))
            clear sw1 sw2 sw3 sw4 sw5
            go_wp2_with fail
            go_roundw
            case rel => exact ⟨2 + 1, by omega, by omega, rfl, atRel_step HR.out HI.out (by (repeat' (first | (with_reducible exact Below.refl _ _) | (with_reducible assumption) | (with_reducible refine Below.alloc ?_ ?_ _) | (with_reducible refine Below.drew ?_) | (with_reducible refine below_drewN ?_ _) | (with_reducible refine Below.setCell ?_ ?_ _) | (with_reducible refine Below.trans ?_ (Below.mono (by assumption) ?_)) | go_size)))⟩
            case measure => simp [intOf]
        · have hi : isn s a 2 = false := by
            show is2 s a = false
            cases hh : is2 s a
            · rfl
            · exact absurd (hq.out.2 hh).1 hsc
          have HI := Lib.hid hi
          have hsc' : sc ((bt s a - 192) * 64 + bt s (a + 1) - 128) = false := by
            cases hh : sc ((bt s a - 192) * 64 + bt s (a + 1) - 128)
            · rfl
            · exact absurd hh hsc
          clear hsc hi hq
          go_wp2_with fail
          refine wp_loop_rounds 2 ?_
          rw [rounds_succ]
          go_wp2_with fail
          rw [rounds_succ]
          go_wp2_with fail
          have sw1 : IntKind.i64.wrap ((a : Int) + 2) = (a : Int) + 2 := IntWalk.i64_in _ (by omega)
          have sw2 : ((a : Int) + 2).toNat = a + 2 := by omega
          have sw3 : (0 : Int) ≤ (a : Int) + 2 := by omega
          have sw4 : (a : Int) ≤ (a : Int) + 2 := by omega
          have sw5 : (a : Int) + 2 ≤ (s.size : Int) := by omega
          refine wp_region_over (by kernel_rfl) (by kernel_rfl) ?_; (repeat (go_big_quiet_step ((go_at_call 44; exact over_same (r4scalar_no _ _ hsc'))))); refine wpQuiet_nil ?_; intro w1 hb1
          clear sw1 sw2 sw3 sw4 sw5
          go_wp2_with fail
          go_roundw
          case rel => exact ⟨2 + 1, by omega, by omega, rfl, atRel_step HR.out HI.out (by (repeat' (first | (with_reducible exact Below.refl _ _) | (with_reducible assumption) | (with_reducible refine Below.alloc ?_ ?_ _) | (with_reducible refine Below.drew ?_) | (with_reducible refine below_drewN ?_ _) | (with_reducible refine Below.setCell ?_ ?_ _) | (with_reducible refine Below.trans ?_ (Below.mono (by assumption) ?_)) | go_size)))⟩
          case measure => simp [intOf]
      · -- 3
        have bl0 := PlainAid.bt_nonneg s a
        have bh0 := PlainAid.bt_le s a
        have bl1 := PlainAid.bt_nonneg s (a + 1)
        have bh1 := PlainAid.bt_le s (a + 1)
        have bl2 := PlainAid.bt_nonneg s (a + 2)
        have bh2 := PlainAid.bt_le s (a + 2)
        have hq : Hid ((sc (((bt s a - 224) * 64 + bt s (a + 1) - 128) * 64 + bt s (a + 2) - 128) = true ∧ strOfNums (enc (((bt s a - 224) * 64 + bt s (a + 1) - 128) * 64 + bt s (a + 2) - 128)) = s.extract a (a + 3)) ↔ is3 s a = true) := (is3_iff s a hsz).1
        have qe : Hid (is3 s a = true → ((bt s a - 224) * 64 + bt s (a + 1) - 128) * 64 + bt s (a + 2) - 128 = r3 s a) := (is3_iff s a hsz).2
        by_cases hsc : sc (((bt s a - 224) * 64 + bt s (a + 1) - 128) * 64 + bt s (a + 2) - 128) = true
        · have hc : ∀ w : World, (convert 54 9 (.slice (some ⟨w.heap.size, 0, none⟩) (lg (((bt s a - 224) * 64 + bt s (a + 1) - 128) * 64 + bt s (a + 2) - 128)) (lg (((bt s a - 224) * 64 + bt s (a + 1) - 128) * 64 + bt s (a + 2) - 128)))).run Tryz.prog ((w.alloc (.cells (encCells (((bt s a - 224) * 64 + bt s (a + 1) - 128) * 64 + bt s (a + 2) - 128)) 5)).drew) = .ok (.string (strOfNums (enc (((bt s a - 224) * 64 + bt s (a + 1) - 128) * 64 + bt s (a + 2) - 128)))) ((w.alloc (.cells (encCells (((bt s a - 224) * 64 + bt s (a + 1) - 128) * 64 + bt s (a + 2) - 128)) 5)).drew) := fun (w : World) => enc_string (P := Tryz.prog) w.drew (((bt s a - 224) * 64 + bt s (a + 1) - 128) * 64 + bt s (a + 2) - 128) 54 5 9 Tryz.underlying54 Tryz.underlying5 Tryz.underlying9
          by_cases heq : strOfNums (enc (((bt s a - 224) * 64 + bt s (a + 1) - 128) * 64 + bt s (a + 2) - 128)) = s.extract a (a + 3)
          · have hi : is3 s a = true := hq.out.1 ⟨hsc, heq⟩
            have HV := Lib.hid (fm_yes3 s a hi)
            have heq' : ((strOfNums (enc (((bt s a - 224) * 64 + bt s (a + 1) - 128) * 64 + bt s (a + 2) - 128))).toList == (s.extract a (a + 3)).toList) = true := by rw [heq]; exact beq_self_eq_true _
            have QE := Lib.hid (qe.out hi)
            clear heq hi hq
            go_wp2_with fail
            refine wp_loop_rounds 3 ?_
            rw [rounds_succ]
            go_wp2_with fail
            rw [rounds_succ]
            go_wp2_with fail
            rw [rounds_succ]
            go_wp2_with fail
            have sw1 : IntKind.i64.wrap ((a : Int) + 3) = (a : Int) + 3 := IntWalk.i64_in _ (by omega)
            have sw2 : ((a : Int) + 3).toNat = a + 3 := by omega
            have sw3 : (0 : Int) ≤ (a : Int) + 3 := by omega
            have sw4 : (a : Int) ≤ (a : Int) + 3 := by omega
            have sw5 : (a : Int) + 3 ≤ (s.size : Int) := by omega
            go_region_held (fun _ : World => True) (trivial) ((first | (go_at_call 44; refine (r4scalar_any _ _).mono ?_; rintro e w' ⟨rfl, rfl⟩) | (go_at_call 70; refine (rform_any _ _ hsc).mono ?_; rintro e w' ⟨rfl, rfl⟩)))
            clear sw1 sw2 sw3 sw4 sw5
            go_wp2_with fail
            go_ret2
            exact ⟨by rw [HV.out.1, HV.out.2, ← QE.out]; rfl, HR.out.2.trans (by have := HR.out.2.size; (repeat' (first | (with_reducible exact Below.refl _ _) | (with_reducible assumption) | (with_reducible refine Below.alloc ?_ ?_ _) | (with_reducible refine Below.drew ?_) | (with_reducible refine below_drewN ?_ _) | (with_reducible refine Below.setCell ?_ ?_ _) | (with_reducible refine Below.trans ?_ (Below.mono (by assumption) ?_)) | go_size)))⟩
          · have hi : isn s a 3 = false := by
              show is3 s a = false
              cases hh : is3 s a
              · rfl
              · exact absurd (hq.out.2 hh).2 heq
            have HI := Lib.hid hi
            have heq' : ((strOfNums (enc (((bt s a - 224) * 64 + bt s (a + 1) - 128) * 64 + bt s (a + 2) - 128))).toList == (s.extract a (a + 3)).toList) = false := beq_eq_false_iff_ne.2 (fun e => heq (toList_inj e))
            clear heq hi hq
            go_wp2_with fail
            refine wp_loop_rounds 3 ?_
            rw [rounds_succ]
            go_wp2_with fail
            rw [rounds_succ]
            go_wp2_with fail
            rw [rounds_succ]
            go_wp2_with fail
            have sw1 : IntKind.i64.wrap ((a : Int) + 3) = (a : Int) + 3 := IntWalk.i64_in _ (by omega)
            have sw2 : ((a : Int) + 3).toNat = a + 3 := by omega
            have sw3 : (0 : Int) ≤ (a : Int) + 3 := by omega
            have sw4 : (a : Int) ≤ (a : Int) + 3 := by omega
            have sw5 : (a : Int) + 3 ≤ (s.size : Int) := by omega
            go_region_held (fun _ : World => True) (trivial) ((first | (go_at_call 44; refine (r4scalar_any _ _).mono ?_; rintro e w' ⟨rfl, rfl⟩) | (go_at_call 70; refine (rform_any _ _ hsc).mono ?_; rintro e w' ⟨rfl, rfl⟩)))
            clear sw1 sw2 sw3 sw4 sw5
            go_wp2_with fail
            go_roundw
            case rel => exact ⟨3 + 1, by omega, by omega, rfl, atRel_step HR.out HI.out (by (repeat' (first | (with_reducible exact Below.refl _ _) | (with_reducible assumption) | (with_reducible refine Below.alloc ?_ ?_ _) | (with_reducible refine Below.drew ?_) | (with_reducible refine below_drewN ?_ _) | (with_reducible refine Below.setCell ?_ ?_ _) | (with_reducible refine Below.trans ?_ (Below.mono (by assumption) ?_)) | go_size)))⟩
            case measure => simp [intOf]
        · have hi : isn s a 3 = false := by
            show is3 s a = false
            cases hh : is3 s a
            · rfl
            · exact absurd (hq.out.2 hh).1 hsc
          have HI := Lib.hid hi
          have hsc' : sc (((bt s a - 224) * 64 + bt s (a + 1) - 128) * 64 + bt s (a + 2) - 128) = false := by
            cases hh : sc (((bt s a - 224) * 64 + bt s (a + 1) - 128) * 64 + bt s (a + 2) - 128)
            · rfl
            · exact absurd hh hsc
          clear hsc hi hq
          go_wp2_with fail
          refine wp_loop_rounds 3 ?_
          rw [rounds_succ]
          go_wp2_with fail
          rw [rounds_succ]
          go_wp2_with fail
          rw [rounds_succ]
          go_wp2_with fail
          have sw1 : IntKind.i64.wrap ((a : Int) + 3) = (a : Int) + 3 := IntWalk.i64_in _ (by omega)
          have sw2 : ((a : Int) + 3).toNat = a + 3 := by omega
          have sw3 : (0 : Int) ≤ (a : Int) + 3 := by omega
          have sw4 : (a : Int) ≤ (a : Int) + 3 := by omega
          have sw5 : (a : Int) + 3 ≤ (s.size : Int) := by omega
          refine wp_region_over (by kernel_rfl) (by kernel_rfl) ?_; (repeat (go_big_quiet_step ((go_at_call 44; exact over_same (r4scalar_no _ _ hsc'))))); refine wpQuiet_nil ?_; intro w1 hb1
          clear sw1 sw2 sw3 sw4 sw5
          go_wp2_with fail
          go_roundw
          case rel => exact ⟨3 + 1, by omega, by omega, rfl, atRel_step HR.out HI.out (by (repeat' (first | (with_reducible exact Below.refl _ _) | (with_reducible assumption) | (with_reducible refine Below.alloc ?_ ?_ _) | (with_reducible refine Below.drew ?_) | (with_reducible refine below_drewN ?_ _) | (with_reducible refine Below.setCell ?_ ?_ _) | (with_reducible refine Below.trans ?_ (Below.mono (by assumption) ?_)) | go_size)))⟩
          case measure => simp [intOf]
      · -- 4
        have bl0 := PlainAid.bt_nonneg s a
        have bh0 := PlainAid.bt_le s a
        have bl1 := PlainAid.bt_nonneg s (a + 1)
        have bh1 := PlainAid.bt_le s (a + 1)
        have bl2 := PlainAid.bt_nonneg s (a + 2)
        have bh2 := PlainAid.bt_le s (a + 2)
        have bl3 := PlainAid.bt_nonneg s (a + 3)
        have bh3 := PlainAid.bt_le s (a + 3)
        have hq : Hid ((sc ((((bt s a - 240) * 64 + bt s (a + 1) - 128) * 64 + bt s (a + 2) - 128) * 64 + bt s (a + 3) - 128) = true ∧ strOfNums (enc ((((bt s a - 240) * 64 + bt s (a + 1) - 128) * 64 + bt s (a + 2) - 128) * 64 + bt s (a + 3) - 128)) = s.extract a (a + 4)) ↔ is4 s a = true) := (is4_iff s a hsz).1
        have qe : Hid (is4 s a = true → (((bt s a - 240) * 64 + bt s (a + 1) - 128) * 64 + bt s (a + 2) - 128) * 64 + bt s (a + 3) - 128 = r4 s a) := (is4_iff s a hsz).2
        by_cases hsc : sc ((((bt s a - 240) * 64 + bt s (a + 1) - 128) * 64 + bt s (a + 2) - 128) * 64 + bt s (a + 3) - 128) = true
        · have hc : ∀ w : World, (convert 54 9 (.slice (some ⟨w.heap.size, 0, none⟩) (lg ((((bt s a - 240) * 64 + bt s (a + 1) - 128) * 64 + bt s (a + 2) - 128) * 64 + bt s (a + 3) - 128)) (lg ((((bt s a - 240) * 64 + bt s (a + 1) - 128) * 64 + bt s (a + 2) - 128) * 64 + bt s (a + 3) - 128)))).run Tryz.prog ((w.alloc (.cells (encCells ((((bt s a - 240) * 64 + bt s (a + 1) - 128) * 64 + bt s (a + 2) - 128) * 64 + bt s (a + 3) - 128)) 5)).drew) = .ok (.string (strOfNums (enc ((((bt s a - 240) * 64 + bt s (a + 1) - 128) * 64 + bt s (a + 2) - 128) * 64 + bt s (a + 3) - 128)))) ((w.alloc (.cells (encCells ((((bt s a - 240) * 64 + bt s (a + 1) - 128) * 64 + bt s (a + 2) - 128) * 64 + bt s (a + 3) - 128)) 5)).drew) := fun (w : World) => enc_string (P := Tryz.prog) w.drew ((((bt s a - 240) * 64 + bt s (a + 1) - 128) * 64 + bt s (a + 2) - 128) * 64 + bt s (a + 3) - 128) 54 5 9 Tryz.underlying54 Tryz.underlying5 Tryz.underlying9
          by_cases heq : strOfNums (enc ((((bt s a - 240) * 64 + bt s (a + 1) - 128) * 64 + bt s (a + 2) - 128) * 64 + bt s (a + 3) - 128)) = s.extract a (a + 4)
          · have hi : is4 s a = true := hq.out.1 ⟨hsc, heq⟩
            have HV := Lib.hid (fm_yes4 s a hi)
            have heq' : ((strOfNums (enc ((((bt s a - 240) * 64 + bt s (a + 1) - 128) * 64 + bt s (a + 2) - 128) * 64 + bt s (a + 3) - 128))).toList == (s.extract a (a + 4)).toList) = true := by rw [heq]; exact beq_self_eq_true _
            have QE := Lib.hid (qe.out hi)
            clear heq hi hq
            go_wp2_with fail
            refine wp_loop_rounds 4 ?_
            rw [rounds_succ]
            go_wp2_with fail
            rw [rounds_succ]
            go_wp2_with fail
            rw [rounds_succ]
            go_wp2_with fail
            rw [rounds_succ]
            go_wp2_with fail
            have sw1 : IntKind.i64.wrap ((a : Int) + 4) = (a : Int) + 4 := IntWalk.i64_in _ (by omega)
            have sw2 : ((a : Int) + 4).toNat = a + 4 := by omega
            have sw3 : (0 : Int) ≤ (a : Int) + 4 := by omega
            have sw4 : (a : Int) ≤ (a : Int) + 4 := by omega
            have sw5 : (a : Int) + 4 ≤ (s.size : Int) := by omega
            go_region_held (fun _ : World => True) (trivial) ((first | (go_at_call 44; refine (r4scalar_any _ _).mono ?_; rintro e w' ⟨rfl, rfl⟩) | (go_at_call 70; refine (rform_any _ _ hsc).mono ?_; rintro e w' ⟨rfl, rfl⟩)))
            clear sw1 sw2 sw3 sw4 sw5
            go_wp2_with fail
            go_ret2
            exact ⟨by rw [HV.out.1, HV.out.2, ← QE.out]; rfl, HR.out.2.trans (by have := HR.out.2.size; (repeat' (first | (with_reducible exact Below.refl _ _) | (with_reducible assumption) | (with_reducible refine Below.alloc ?_ ?_ _) | (with_reducible refine Below.drew ?_) | (with_reducible refine below_drewN ?_ _) | (with_reducible refine Below.setCell ?_ ?_ _) | (with_reducible refine Below.trans ?_ (Below.mono (by assumption) ?_)) | go_size)))⟩
          · have hi : isn s a 4 = false := by
              show is4 s a = false
              cases hh : is4 s a
              · rfl
              · exact absurd (hq.out.2 hh).2 heq
            have HI := Lib.hid hi
            have heq' : ((strOfNums (enc ((((bt s a - 240) * 64 + bt s (a + 1) - 128) * 64 + bt s (a + 2) - 128) * 64 + bt s (a + 3) - 128))).toList == (s.extract a (a + 4)).toList) = false := beq_eq_false_iff_ne.2 (fun e => heq (toList_inj e))
            clear heq hi hq
            go_wp2_with fail
            refine wp_loop_rounds 4 ?_
            rw [rounds_succ]
            go_wp2_with fail
            rw [rounds_succ]
            go_wp2_with fail
            rw [rounds_succ]
            go_wp2_with fail
            rw [rounds_succ]
            go_wp2_with fail
            have sw1 : IntKind.i64.wrap ((a : Int) + 4) = (a : Int) + 4 := IntWalk.i64_in _ (by omega)
            have sw2 : ((a : Int) + 4).toNat = a + 4 := by omega
            have sw3 : (0 : Int) ≤ (a : Int) + 4 := by omega
            have sw4 : (a : Int) ≤ (a : Int) + 4 := by omega
            have sw5 : (a : Int) + 4 ≤ (s.size : Int) := by omega
            go_region_held (fun _ : World => True) (trivial) ((first | (go_at_call 44; refine (r4scalar_any _ _).mono ?_; rintro e w' ⟨rfl, rfl⟩) | (go_at_call 70; refine (rform_any _ _ hsc).mono ?_; rintro e w' ⟨rfl, rfl⟩)))
            clear sw1 sw2 sw3 sw4 sw5
            go_wp2_with fail
            go_roundw
            case rel => exact ⟨4 + 1, by omega, by omega, rfl, atRel_step HR.out HI.out (by (repeat' (first | (with_reducible exact Below.refl _ _) | (with_reducible assumption) | (with_reducible refine Below.alloc ?_ ?_ _) | (with_reducible refine Below.drew ?_) | (with_reducible refine below_drewN ?_ _) | (with_reducible refine Below.setCell ?_ ?_ _) | (with_reducible refine Below.trans ?_ (Below.mono (by assumption) ?_)) | go_size)))⟩
            case measure => simp [intOf]
        · have hi : isn s a 4 = false := by
            show is4 s a = false
            cases hh : is4 s a
            · rfl
            · exact absurd (hq.out.2 hh).1 hsc
          have HI := Lib.hid hi
          have hsc' : sc ((((bt s a - 240) * 64 + bt s (a + 1) - 128) * 64 + bt s (a + 2) - 128) * 64 + bt s (a + 3) - 128) = false := by
            cases hh : sc ((((bt s a - 240) * 64 + bt s (a + 1) - 128) * 64 + bt s (a + 2) - 128) * 64 + bt s (a + 3) - 128)
            · rfl
            · exact absurd hh hsc
          clear hsc hi hq
          go_wp2_with fail
          refine wp_loop_rounds 4 ?_
          rw [rounds_succ]
          go_wp2_with fail
          rw [rounds_succ]
          go_wp2_with fail
          rw [rounds_succ]
          go_wp2_with fail
          rw [rounds_succ]
          go_wp2_with fail
          have sw1 : IntKind.i64.wrap ((a : Int) + 4) = (a : Int) + 4 := IntWalk.i64_in _ (by omega)
          have sw2 : ((a : Int) + 4).toNat = a + 4 := by omega
          have sw3 : (0 : Int) ≤ (a : Int) + 4 := by omega
          have sw4 : (a : Int) ≤ (a : Int) + 4 := by omega
          have sw5 : (a : Int) + 4 ≤ (s.size : Int) := by omega
          refine wp_region_over (by kernel_rfl) (by kernel_rfl) ?_; (repeat (go_big_quiet_step ((go_at_call 44; exact over_same (r4scalar_no _ _ hsc'))))); refine wpQuiet_nil ?_; intro w1 hb1
          clear sw1 sw2 sw3 sw4 sw5
          go_wp2_with fail
          go_roundw
          case rel => exact ⟨4 + 1, by omega, by omega, rfl, atRel_step HR.out HI.out (by (repeat' (first | (with_reducible exact Below.refl _ _) | (with_reducible assumption) | (with_reducible refine Below.alloc ?_ ?_ _) | (with_reducible refine Below.drew ?_) | (with_reducible refine below_drewN ?_ _) | (with_reducible refine Below.setCell ?_ ?_ _) | (with_reducible refine Below.trans ?_ (Below.mono (by assumption) ?_)) | go_size)))⟩
          case measure => simp [intOf]
    · have HV := Lib.hid (fm_none_of s a (fun m h1 h2 => by
        by_cases c : m < k
        · exact HR.out.1 m h1 c
        · exact isn_size s a m (by omega)))
      by_cases hk4 : k ≤ 4
      · have hsz : s.size < a + k := by omega
        clear hlt
        go_wp2_with fail
        go_ret2
        exact ⟨by rw [HV.out.1, HV.out.2]; rfl, HR.out.2⟩
      · have hk5 : 5 ≤ k := by omega
        clear hlt hk4
        go_wp2_with fail
        go_ret2
        exact ⟨by rw [HV.out.1, HV.out.2]; rfl, HR.out.2⟩
end Go.Proofs.YtchjjfjjcdjjcaaGreatDoor
