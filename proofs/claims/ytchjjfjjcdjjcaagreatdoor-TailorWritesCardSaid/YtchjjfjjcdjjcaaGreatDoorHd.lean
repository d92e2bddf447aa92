/- The reference's reader of rules: escapes. The reference's reader of rules: what stands in quotes. -/
import Derived.Test.YtchjjfjjcdjjcaaGreatDoorHa
/-! The reference's reader of rules: escapes. -/
namespace Go.Proofs.YtchjjfjjcdjjcaaGreatDoor
open Go.RowKit
open PlainAid (bt)

theorem hxG_le (s : ByteArray) (a : Nat) : ∀ (k : Nat), (∀ j, j < k → hexOk (bt s (a + j))) → 0 ≤ hxG s a k ∧ hxG s a k < 16 ^ k
  | 0, _ => by simp [hxG]
  | k + 1, h => by
    have h1 := hxG_le s a k (fun j hj => h j (by omega))
    have h2 := hexV_le _ (h k (by omega))
    rw [hxG, Int.pow_succ]
    omega
theorem esc_has {s : ByteArray} {i : Nat} (hi : i < s.size) (h92 : bt s i = 92) : hasT s i ⟨#[92, 117]⟩ = decide (escN s i = 4) ∧ hasT s i ⟨#[92, 85]⟩ = decide (escN s i = 6) := by
  rw [hasT2, hasT2]
  have e1 : ((92 : UInt8).toNat : Int) = 92 := rfl
  have e2 : ((117 : UInt8).toNat : Int) = 117 := rfl
  have e3 : ((85 : UInt8).toNat : Int) = 85 := rfl
  rw [e1, e2, e3]
  unfold escN
  by_cases h1 : i + 1 < s.size ∧ bt s (i + 1) = 117
  · rw [if_pos h1]
    refine ⟨?_, ?_⟩
    · rw [decide_eq_true (p := i + 2 ≤ s.size ∧ bt s i = 92 ∧ bt s (i + 1) = 117) ⟨by omega, h92, h1.2⟩]; rfl
    · rw [decide_eq_false (p := i + 2 ≤ s.size ∧ bt s i = 92 ∧ bt s (i + 1) = 85) (fun h => by have := h.2.2; omega)]; rfl
  · rw [if_neg h1]
    by_cases h2 : i + 1 < s.size ∧ bt s (i + 1) = 85
    · rw [if_pos h2]
      refine ⟨?_, ?_⟩
      · rw [decide_eq_false (p := i + 2 ≤ s.size ∧ bt s i = 92 ∧ bt s (i + 1) = 117) (fun h => by have := h.2.2; omega)]; rfl
      · rw [decide_eq_true (p := i + 2 ≤ s.size ∧ bt s i = 92 ∧ bt s (i + 1) = 85) ⟨by omega, h92, h2.2⟩]; rfl
    · rw [if_neg h2]
      refine ⟨?_, ?_⟩
      · rw [decide_eq_false (p := i + 2 ≤ s.size ∧ bt s i = 92 ∧ bt s (i + 1) = 117) (fun h => h1 ⟨by omega, h.2.2⟩)]; rfl
      · rw [decide_eq_false (p := i + 2 ≤ s.size ∧ bt s i = 92 ∧ bt s (i + 1) = 85) (fun h => h2 ⟨by omega, h.2.2⟩)]; rfl
/-- how an escape's reader ends -/
def EscEnd (s : ByteArray) (pb i : Nat) (a x : Int) (w : World) (e : Ending) (w' : World) : Prop :=
  (∃ y m, escT s i = some (y, m) ∧ e = .returned (.tuple #[.int .i32 y, .bool true]) ∧ RdAt w' pb s (i + m) a x ∧ Only (fun k => k = pb) w w') ∨
    (escT s i = none ∧ e = .returned (.tuple #[.int .i32 0, .bool false]) ∧ RdAt w' pb s i a x ∧ Only (fun k => k = pb) w w')
set_option maxHeartbeats 4000000 in
set_option maxRecDepth 100000 in
theorem rescape_4 (s : ByteArray) (pb i : Nat) (a x : Int) (w : World) (h : RdAt w pb s i a x) (hi : i < s.size) (hs : s.size ≤ 1000000) (h92 : bt s i = 92) (hn : escN s i = 4) :
    Calls Tryz.prog 46 #[.pointer (some ⟨pb, 0, none⟩)] w (EscEnd s pb i a x w) := by
  obtain ⟨hu, hU⟩ := esc_has hi h92
  rw [hn] at hu hU
  have HET : Hid (escT s i = if 0 < escN s i ∧ i + 2 + escN s i ≤ s.size ∧ hexAll s (i + 2) (escN s i) = true ∧ sc (hxG s (i + 2) (escN s i)) = true then some (hxG s (i + 2) (escN s i), 2 + escN s i) else none) := rfl
  rw [hn] at HET
  have hbt := PlainAid.get_bt s
  have HR := Lib.hid h
  clear h hn h92
  have HH := fun t (ht : t.size ≤ 1000) W (h : RdAt W pb s i a x) => rhas_any s t pb i a x W h (Nat.le_of_lt hi) hs ht
  have HU := Lib.hid (HH ⟨#[92, 117]⟩ (by decide))
  have HU2 := Lib.hid (HH ⟨#[92, 85]⟩ (by decide))
  rw [hu] at HU
  rw [hU] at HU2
  clear hu hU HH
  by_cases hlen : i + 2 + 4 ≤ s.size
  · have hlz : decide ((s.size : Int) - (i : Int) < 6) = false := decide_eq_false (by omega)
    have hlz2 : ¬ ((s.size : Int) - (i : Int) < 6) := by omega
    go_enter Tryz.func46, Tryz.ntmps46
    go_wp2_with fail
    refine (HU.out _ HR.out).mono ?_
    rintro e w1 ⟨rfl, hb1⟩
    have HR1 := Lib.hid (HR.out.below hb1)
    have HB1 := Lib.hid hb1
    clear hb1
    go_wp2_with fail
    refine (HU2.out _ HR1.out).mono ?_
    rintro e w2 ⟨rfl, hb2⟩
    have HR2 := Lib.hid (HR1.out.below hb2)
    have HB2 : Hid (Below w.heap.size w w2) := HB1.out.trans (hb2.mono HB1.out.size)
    obtain ⟨c0, c1, _, _, cf, cpl⟩ := HR2.out.cells
    have f1 := cf 1
    clear hb2 HR1 HB1 cf HU HU2 HR
    go_wp2_with fail
    refine wp_region_over (by kernel_rfl) (by kernel_rfl) ?_; (repeat (go_big_quiet_step ((fail)))); refine wpQuiet_nil ?_; intro w1 hb1
    have HR3 := Lib.hid (HR2.out.below hb1)
    have HB3 : Hid (Below w.heap.size w w1) := HB2.out.trans (hb1.mono HB2.out.size)
    clear HR2 HB2 hb1 c0 c1 f1 cpl
    go_wp2_with fail
    obtain ⟨c, hc⟩ : ∃ c, c = i + 2 := ⟨_, rfl⟩
    rw [← hc] at HET
    have HC := Lib.hid hc
    have c2 : (i : Int) + 2 = (c : Int) := by omega
    clear hc
    go_loopw [5, 6] (fun xv kv wr => ∃ k : Nat, kv = .int .i64 k ∧ xv = .int .i32 (hxG s c k) ∧ k ≤ 4 ∧ (∀ j, j < k → hexOk (bt s (c + j))) ∧ RdAt wr pb s i a x ∧ Below w.heap.size w wr) (fun _ kv _ => 4 - (intOf kv).toNat)
    case atStart => exact ⟨0, rfl, rfl, by omega, fun j hj => absurd hj (by omega), HR3.out, HB3.out⟩
    case round =>
      obtain ⟨k, rfl, rfl, hk, hx, hr, hbw⟩ := hrel
      have HX := Lib.hid hx
      have HR4 := Lib.hid hr
      have HB4 := Lib.hid hbw
      obtain ⟨c0, c1, _, _, cf, cpl⟩ := hr.cells
      have f1 := cf 1
      clear hx hr hbw cf
      by_cases hlt : k < 4
      · have hkz : (k : Int) < 4 := by omega
        obtain ⟨q, hq⟩ : ∃ q, q = c + k := ⟨_, rfl⟩
        have hqs : q < s.size := by have := HC.out; omega
        have c3 : (c : Int) + (k : Int) = (q : Int) := by omega
        have hqz : (0 : Int) ≤ (q : Int) ∧ (q : Int) < (s.size : Int) := by omega
        have HQ := Lib.hid hq
        clear hq
        have hdg := fun W => rdigit_any (bt s q) W (PlainAid.bt_nonneg s q) (PlainAid.bt_le s q)
        have HDG := Lib.hid hdg
        clear hdg
        go_wp2_with fail
        go_quiet (exact quiet_same (HDG.out _))
        obtain ⟨y, hy⟩ : ∃ y, bt s q = y := ⟨_, rfl⟩
        have hdv : digV y = if hexOk y then hexV y else -1 := rfl
        rw [hy]
        have HY := Lib.hid hy
        clear hy HDG
        by_cases hok : hexOk y
        · rw [if_pos hok] at hdv
          have hv := hexV_le y hok
          have hg := hxG_le s c k HX.out
          have hp : (16 : Int) ^ k ≤ 16 ^ 5 := by
            have : (16 : Nat) ^ k ≤ 16 ^ 5 := Nat.pow_le_pow_right (by decide) (by omega)
            exact_mod_cast this
          have g0 : 0 ≤ hxG s c k := hg.1
          have g1 : hxG s c k ≤ 1048575 := by have := hg.2; omega
          have HE : Hid (hxG s c (k + 1) = hxG s c k * 16 + hexV y) := by
            show _ = _
            rw [hxG, ← HQ.out, HY.out]
          rw [hdv]
          obtain ⟨v1, v2⟩ := hv
          have HOK := Lib.hid hok
          clear hg hp hok hdv
          generalize hxG s c k = n at *
          generalize hexV y = v at *
          go_wp2_with fail
          go_roundw
          case rel => exact ⟨k + 1, by go_num, by rw [HE.out], by omega, fun j hj => by
            rcases Nat.lt_succ_iff_lt_or_eq.1 hj with h | rfl
            · exact HX.out j h
            · rw [← HQ.out, HY.out]; exact HOK.out, HR4.out.drewN _, below_drewN HB4.out _⟩
          case measure => (show 4 - ((k : Int) + 1).toNat < 4 - (k : Int).toNat; omega)
        · rw [if_neg hok] at hdv
          have HE : Hid (escT s i = none) := by
            show _ = _
            rw [HET.out, if_neg]
            rintro ⟨_, _, hall, _⟩
            have := (hexAll_iff s c 4).1 hall k hlt
            rw [← HQ.out, HY.out] at this
            exact hok this
          rw [hdv]
          clear hok hdv
          go_wp2_with fail
          go_ret2
          exact .inr ⟨HE.out, rfl, HR4.out.drewN _, (Only.refl _ w).below (below_drewN HB4.out _)⟩
      · obtain rfl : k = 4 := by omega
        have hall : hexAll s c 4 = true := (hexAll_iff s c 4).2 HX.out
        rw [hall] at HET
        have hg := hxG_le s c 4 HX.out
        have g0 : 0 ≤ hxG s c 4 := hg.1
        have g1 : hxG s c 4 ≤ 16777215 := by have := hg.2; omega
        clear hg hall
        generalize hxG s c 4 = n at *
        cases hsc : sc n with
        | true =>
          rw [hsc] at HET
          have HE : Hid (escT s i = some (n, 2 + 4)) := by
            show _ = _
            rw [HET.out, if_pos ⟨by omega, by have := HC.out; omega, rfl, rfl⟩]
          go_wp2_with (go_at_call 44; refine (r4scalar_any _ _).mono ?_; rintro e w' ⟨rfl, h5⟩; rw [hsc]; subst h5)
          go_ret2
          refine .inl ⟨_, _, HE.out, rfl, ?_, ((Only.refl (fun k => k = pb) w).below HB4.out).setCell (p := ⟨pb, 1, none⟩) rfl _⟩
          rw [show (c : Int) + 4 = ((i + (2 + 4) : Nat) : Int) from by have := HC.out; omega]
          exact HR4.out.go _
        | false =>
          rw [hsc] at HET
          have HE : Hid (escT s i = none) := by
            show _ = _
            rw [HET.out, if_neg (by simp)]
          go_wp2_with (go_at_call 44; refine (r4scalar_any _ _).mono ?_; rintro e w' ⟨rfl, h5⟩; rw [hsc]; subst h5)
          go_ret2
          exact .inr ⟨HE.out, rfl, HR4.out, (Only.refl _ w).below HB4.out⟩
  · have hlz : decide ((s.size : Int) - (i : Int) < 6) = true := decide_eq_true (by omega)
    have hlz2 : ((s.size : Int) - (i : Int) < 6) := by omega
    have HE : Hid (escT s i = none) := by
      show _ = _
      rw [HET.out, if_neg (fun h => hlen h.2.1)]
    clear hlen HET
    go_enter Tryz.func46, Tryz.ntmps46
    go_wp2_with fail
    refine (HU.out _ HR.out).mono ?_
    rintro e w1 ⟨rfl, hb1⟩
    have HR1 := Lib.hid (HR.out.below hb1)
    have HB1 := Lib.hid hb1
    clear hb1
    go_wp2_with fail
    refine (HU2.out _ HR1.out).mono ?_
    rintro e w2 ⟨rfl, hb2⟩
    have HR2 := Lib.hid (HR1.out.below hb2)
    have HB2 : Hid (Below w.heap.size w w2) := HB1.out.trans (hb2.mono HB1.out.size)
    obtain ⟨c0, c1, _, _, cf, cpl⟩ := HR2.out.cells
    clear hb2 HR1 HB1 cf HU HU2 HR
    go_wp2_with fail
    refine wp_region_over (by kernel_rfl) (by kernel_rfl) ?_; (repeat (go_big_quiet_step ((fail)))); refine wpQuiet_nil ?_; intro w1 hb1
    have HR3 := Lib.hid (HR2.out.below hb1)
    have HB3 : Hid (Below w.heap.size w w1) := HB2.out.trans (hb1.mono HB2.out.size)
    clear HR2 HB2 hb1 c0 c1 cpl
    go_wp2_with fail
    go_ret2
    exact .inr ⟨HE.out, rfl, HR3.out, (Only.refl _ w).below HB3.out⟩
set_option maxHeartbeats 4000000 in
set_option maxRecDepth 100000 in
theorem rescape_6 (s : ByteArray) (pb i : Nat) (a x : Int) (w : World) (h : RdAt w pb s i a x) (hi : i < s.size) (hs : s.size ≤ 1000000) (h92 : bt s i = 92) (hn : escN s i = 6) :
    Calls Tryz.prog 46 #[.pointer (some ⟨pb, 0, none⟩)] w (EscEnd s pb i a x w) := by
  obtain ⟨hu, hU⟩ := esc_has hi h92
  rw [hn] at hu hU
  have HET : Hid (escT s i = if 0 < escN s i ∧ i + 2 + escN s i ≤ s.size ∧ hexAll s (i + 2) (escN s i) = true ∧ sc (hxG s (i + 2) (escN s i)) = true then some (hxG s (i + 2) (escN s i), 2 + escN s i) else none) := rfl
  rw [hn] at HET
  have hbt := PlainAid.get_bt s
  have HR := Lib.hid h
  clear h hn h92
  have HH := fun t (ht : t.size ≤ 1000) W (h : RdAt W pb s i a x) => rhas_any s t pb i a x W h (Nat.le_of_lt hi) hs ht
  have HU := Lib.hid (HH ⟨#[92, 117]⟩ (by decide))
  have HU2 := Lib.hid (HH ⟨#[92, 85]⟩ (by decide))
  rw [hu] at HU
  rw [hU] at HU2
  clear hu hU HH
  by_cases hlen : i + 2 + 6 ≤ s.size
  · have hlz : decide ((s.size : Int) - (i : Int) < 8) = false := decide_eq_false (by omega)
    have hlz2 : ¬ ((s.size : Int) - (i : Int) < 8) := by omega
    go_enter Tryz.func46, Tryz.ntmps46
    go_wp2_with fail
    refine (HU.out _ HR.out).mono ?_
    rintro e w1 ⟨rfl, hb1⟩
    have HR1 := Lib.hid (HR.out.below hb1)
    have HB1 := Lib.hid hb1
    clear hb1
    go_wp2_with fail
    refine (HU2.out _ HR1.out).mono ?_
    rintro e w2 ⟨rfl, hb2⟩
    have HR2 := Lib.hid (HR1.out.below hb2)
    have HB2 : Hid (Below w.heap.size w w2) := HB1.out.trans (hb2.mono HB1.out.size)
    obtain ⟨c0, c1, _, _, cf, cpl⟩ := HR2.out.cells
    have f1 := cf 1
    clear hb2 HR1 HB1 cf HU HU2 HR
    go_wp2_with fail
    refine wp_region_over (by kernel_rfl) (by kernel_rfl) ?_; (repeat (go_big_quiet_step ((fail)))); refine wpQuiet_nil ?_; intro w1 hb1
    have HR3 := Lib.hid (HR2.out.below hb1)
    have HB3 : Hid (Below w.heap.size w w1) := HB2.out.trans (hb1.mono HB2.out.size)
    clear HR2 HB2 hb1 c0 c1 f1 cpl
    go_wp2_with fail
    obtain ⟨c, hc⟩ : ∃ c, c = i + 2 := ⟨_, rfl⟩
    rw [← hc] at HET
    have HC := Lib.hid hc
    have c2 : (i : Int) + 2 = (c : Int) := by omega
    clear hc
    go_loopw [5, 6] (fun xv kv wr => ∃ k : Nat, kv = .int .i64 k ∧ xv = .int .i32 (hxG s c k) ∧ k ≤ 6 ∧ (∀ j, j < k → hexOk (bt s (c + j))) ∧ RdAt wr pb s i a x ∧ Below w.heap.size w wr) (fun _ kv _ => 6 - (intOf kv).toNat)
    case atStart => exact ⟨0, rfl, rfl, by omega, fun j hj => absurd hj (by omega), HR3.out, HB3.out⟩
    case round =>
      obtain ⟨k, rfl, rfl, hk, hx, hr, hbw⟩ := hrel
      have HX := Lib.hid hx
      have HR4 := Lib.hid hr
      have HB4 := Lib.hid hbw
      obtain ⟨c0, c1, _, _, cf, cpl⟩ := hr.cells
      have f1 := cf 1
      clear hx hr hbw cf
      by_cases hlt : k < 6
      · have hkz : (k : Int) < 6 := by omega
        obtain ⟨q, hq⟩ : ∃ q, q = c + k := ⟨_, rfl⟩
        have hqs : q < s.size := by have := HC.out; omega
        have c3 : (c : Int) + (k : Int) = (q : Int) := by omega
        have hqz : (0 : Int) ≤ (q : Int) ∧ (q : Int) < (s.size : Int) := by omega
        have HQ := Lib.hid hq
        clear hq
        have hdg := fun W => rdigit_any (bt s q) W (PlainAid.bt_nonneg s q) (PlainAid.bt_le s q)
        have HDG := Lib.hid hdg
        clear hdg
        go_wp2_with fail
        go_quiet (exact quiet_same (HDG.out _))
        obtain ⟨y, hy⟩ : ∃ y, bt s q = y := ⟨_, rfl⟩
        have hdv : digV y = if hexOk y then hexV y else -1 := rfl
        rw [hy]
        have HY := Lib.hid hy
        clear hy HDG
        by_cases hok : hexOk y
        · rw [if_pos hok] at hdv
          have hv := hexV_le y hok
          have hg := hxG_le s c k HX.out
          have hp : (16 : Int) ^ k ≤ 16 ^ 5 := by
            have : (16 : Nat) ^ k ≤ 16 ^ 5 := Nat.pow_le_pow_right (by decide) (by omega)
            exact_mod_cast this
          have g0 : 0 ≤ hxG s c k := hg.1
          have g1 : hxG s c k ≤ 1048575 := by have := hg.2; omega
          have HE : Hid (hxG s c (k + 1) = hxG s c k * 16 + hexV y) := by
            show _ = _
            rw [hxG, ← HQ.out, HY.out]
          rw [hdv]
          obtain ⟨v1, v2⟩ := hv
          have HOK := Lib.hid hok
          clear hg hp hok hdv
          generalize hxG s c k = n at *
          generalize hexV y = v at *
          go_wp2_with fail
          go_roundw
          case rel => exact ⟨k + 1, by go_num, by rw [HE.out], by omega, fun j hj => by
            rcases Nat.lt_succ_iff_lt_or_eq.1 hj with h | rfl
            · exact HX.out j h
            · rw [← HQ.out, HY.out]; exact HOK.out, HR4.out.drewN _, below_drewN HB4.out _⟩
          case measure => (show 6 - ((k : Int) + 1).toNat < 6 - (k : Int).toNat; omega)
        · rw [if_neg hok] at hdv
          have HE : Hid (escT s i = none) := by
            show _ = _
            rw [HET.out, if_neg]
            rintro ⟨_, _, hall, _⟩
            have := (hexAll_iff s c 6).1 hall k hlt
            rw [← HQ.out, HY.out] at this
            exact hok this
          rw [hdv]
          clear hok hdv
          go_wp2_with fail
          go_ret2
          exact .inr ⟨HE.out, rfl, HR4.out.drewN _, (Only.refl _ w).below (below_drewN HB4.out _)⟩
      · obtain rfl : k = 6 := by omega
        have hall : hexAll s c 6 = true := (hexAll_iff s c 6).2 HX.out
        rw [hall] at HET
        have hg := hxG_le s c 6 HX.out
        have g0 : 0 ≤ hxG s c 6 := hg.1
        have g1 : hxG s c 6 ≤ 16777215 := by have := hg.2; omega
        clear hg hall
        generalize hxG s c 6 = n at *
        cases hsc : sc n with
        | true =>
          rw [hsc] at HET
          have HE : Hid (escT s i = some (n, 2 + 6)) := by
            show _ = _
            rw [HET.out, if_pos ⟨by omega, by have := HC.out; omega, rfl, rfl⟩]
          go_wp2_with (go_at_call 44; refine (r4scalar_any _ _).mono ?_; rintro e w' ⟨rfl, h5⟩; rw [hsc]; subst h5)
          go_ret2
          refine .inl ⟨_, _, HE.out, rfl, ?_, ((Only.refl (fun k => k = pb) w).below HB4.out).setCell (p := ⟨pb, 1, none⟩) rfl _⟩
          rw [show (c : Int) + 6 = ((i + (2 + 6) : Nat) : Int) from by have := HC.out; omega]
          exact HR4.out.go _
        | false =>
          rw [hsc] at HET
          have HE : Hid (escT s i = none) := by
            show _ = _
            rw [HET.out, if_neg (by simp)]
          go_wp2_with (go_at_call 44; refine (r4scalar_any _ _).mono ?_; rintro e w' ⟨rfl, h5⟩; rw [hsc]; subst h5)
          go_ret2
          exact .inr ⟨HE.out, rfl, HR4.out, (Only.refl _ w).below HB4.out⟩
  · have hlz : decide ((s.size : Int) - (i : Int) < 8) = true := decide_eq_true (by omega)
    have hlz2 : ((s.size : Int) - (i : Int) < 8) := by omega
    have HE : Hid (escT s i = none) := by
      show _ = _
      rw [HET.out, if_neg (fun h => hlen h.2.1)]
    clear hlen HET
    go_enter Tryz.func46, Tryz.ntmps46
    go_wp2_with fail
    refine (HU.out _ HR.out).mono ?_
    rintro e w1 ⟨rfl, hb1⟩
    have HR1 := Lib.hid (HR.out.below hb1)
    have HB1 := Lib.hid hb1
    clear hb1
    go_wp2_with fail
    refine (HU2.out _ HR1.out).mono ?_
    rintro e w2 ⟨rfl, hb2⟩
    have HR2 := Lib.hid (HR1.out.below hb2)
    have HB2 : Hid (Below w.heap.size w w2) := HB1.out.trans (hb2.mono HB1.out.size)
    obtain ⟨c0, c1, _, _, cf, cpl⟩ := HR2.out.cells
    clear hb2 HR1 HB1 cf HU HU2 HR
    go_wp2_with fail
    refine wp_region_over (by kernel_rfl) (by kernel_rfl) ?_; (repeat (go_big_quiet_step ((fail)))); refine wpQuiet_nil ?_; intro w1 hb1
    have HR3 := Lib.hid (HR2.out.below hb1)
    have HB3 : Hid (Below w.heap.size w w1) := HB2.out.trans (hb1.mono HB2.out.size)
    clear HR2 HB2 hb1 c0 c1 cpl
    go_wp2_with fail
    go_ret2
    exact .inr ⟨HE.out, rfl, HR3.out, (Only.refl _ w).below HB3.out⟩
set_option maxHeartbeats 4000000 in
set_option maxRecDepth 100000 in
theorem rescape_0 (s : ByteArray) (pb i : Nat) (a x : Int) (w : World) (h : RdAt w pb s i a x) (hi : i < s.size) (hs : s.size ≤ 1000000) (h92 : bt s i = 92) (hn : escN s i = 0) :
    Calls Tryz.prog 46 #[.pointer (some ⟨pb, 0, none⟩)] w (EscEnd s pb i a x w) := by
  obtain ⟨hu, hU⟩ := esc_has hi h92
  rw [hn] at hu hU
  have HE : Hid (escT s i = none) := by show _ = _; unfold escT; rw [if_neg (by omega)]
  have HR := Lib.hid h
  clear h hn h92
  have HH := fun t (ht : t.size ≤ 1000) W (h : RdAt W pb s i a x) => rhas_any s t pb i a x W h (Nat.le_of_lt hi) hs ht
  have HU := Lib.hid (HH ⟨#[92, 117]⟩ (by decide))
  have HU2 := Lib.hid (HH ⟨#[92, 85]⟩ (by decide))
  rw [hu] at HU
  rw [hU] at HU2
  clear hu hU HH
  go_enter Tryz.func46, Tryz.ntmps46
  go_wp2_with fail
  refine (HU.out _ HR.out).mono ?_
  rintro e w1 ⟨rfl, hb1⟩
  have HR1 := Lib.hid (HR.out.below hb1)
  have HB1 := Lib.hid hb1
  clear hb1
  go_wp2_with fail
  refine (HU2.out _ HR1.out).mono ?_
  rintro e w2 ⟨rfl, hb2⟩
  have HR2 := Lib.hid (HR1.out.below hb2)
  have HB2 : Hid (Below w.heap.size w w2) := HB1.out.trans (hb2.mono HB1.out.size)
  obtain ⟨c0, c1, _, _, cf, cpl⟩ := HR2.out.cells
  clear hb2 HR1 HB1 cf HU HU2 HR
  go_wp2_with fail
  refine wp_region_over (by kernel_rfl) (by kernel_rfl) ?_; (repeat (go_big_quiet_step ((fail)))); refine wpQuiet_nil ?_; intro w1 hb1
  have HR3 := Lib.hid (HR2.out.below hb1)
  have HB3 : Hid (Below w.heap.size w w1) := HB2.out.trans (hb1.mono HB2.out.size)
  clear HR2 HB2 hb1 c0 c1 cpl
  go_wp2_with fail
  go_ret2
  exact .inr ⟨HE.out, rfl, HR3.out, (Only.refl _ w).below HB3.out⟩
theorem rescape_any (s : ByteArray) (pb i : Nat) (a x : Int) (w : World) (h : RdAt w pb s i a x) (hi : i < s.size) (hs : s.size ≤ 1000000) (h92 : bt s i = 92) :
    Calls Tryz.prog 46 #[.pointer (some ⟨pb, 0, none⟩)] w (EscEnd s pb i a x w) := by
  rcases escN_cases s i with hn | hn | hn
  · exact rescape_0 s pb i a x w h hi hs h92 hn
  · exact rescape_4 s pb i a x w h hi hs h92 hn
  · exact rescape_6 s pb i a x w h hi hs h92 hn
end Go.Proofs.YtchjjfjjcdjjcaaGreatDoor
/-! The reference's reader of rules: what stands in quotes. -/
namespace Go.Proofs.YtchjjfjjcdjjcaaGreatDoor
open Go.RowKit
open PlainAid (bt)

/-- between two rounds of the reference's readers -/
structure RxAt (s : ByteArray) (pb : Nat) (a x : Int) (w : World) (j : Nat) (acc : List Int) (v : Value) (W : World) : Prop where
  row : W.ownsRow w.heap.size 21 1 v acc.length (acc.map (Value.int .i32))
  rd : RdAt W pb s j a x
  only : Only (fun k => k = pb) w W
  hpb : pb < w.heap.size
section
variable {s : ByteArray} {pb : Nat} {a x : Int} {w W W' : World} {j : Nat} {acc : List Int} {v : Value}
theorem RxAt.call (h : RxAt s pb a x w j acc v W) (ho : Only (fun k => k = pb) W W') {j' : Nat} {a' x' : Int} (hp : RdAt W' pb s j' a' x') : RxAt s pb a' x' w j' acc v W' :=
  ⟨gBlock h.row (fun i hi hl => ho.block i hl (fun e => by have := ownBlock_ge h.row hi; have := h.hpb; omega)), hp, h.only.trans ho, h.hpb⟩
theorem RxAt.below (h : RxAt s pb a x w j acc v W) (hb : Below W.heap.size W W') : RxAt s pb a x w j acc v W' :=
  h.call ((Only.refl _ W).below hb) (h.rd.below hb)
theorem RxAt.go (h : RxAt s pb a x w j acc v W) (i : Nat) : RxAt s pb a x w i acc v (W.setCell ⟨pb, 1, none⟩ (.int .i64 (i : Nat))) :=
  h.call ((Only.refl (fun k => k = pb) W).setCell (p := ⟨pb, 1, none⟩) rfl _) (h.rd.go i)
theorem RxAt.drewN (h : RxAt s pb a x w j acc v W) (n : Nat) : RxAt s pb a x w j acc v (W.drewN n) :=
  ⟨gBlock h.row (fun _ _ _ => rfl), h.rd.drewN n, only_drewN h.only n, h.hpb⟩
theorem RxAt.app (h : RxAt s pb a x w j acc v W) {v' : Value} {acc' : List Int} (hr : W'.ownsRow w.heap.size 21 1 v' acc'.length (acc'.map (Value.int .i32))) (hg : W.grownBy W' v.ownBlock) : RxAt s pb a x w j acc' v' W' := by
  have hne : ∀ k, k < w.heap.size → some k ≠ v.ownBlock := fun k hk e => by have := ownBlock_ge h.row e.symm; omega
  have hsz := h.only.size
  refine ⟨hr, ?_, ⟨hg.os.trans h.only.os, hg.tape.trans h.only.tape, hg.output.trans h.only.output, Nat.le_trans h.only.size hg.size, fun k hk hs => ?_⟩, h.hpb⟩
  · exact (hg.block pb (by have := h.hpb; omega) (hne pb h.hpb)).trans h.rd
  · exact (hg.block k (by omega) (hne k hk)).trans (h.only.block k hk hs)
theorem RxAt.form (h : RxAt s pb a x w j acc v W) : ∃ p cap, v = .slice p acc.length cap := by
  rcases h.row.2 with ⟨rfl, h0⟩ | ⟨g, cap, cur, rfl, _⟩
  · exact ⟨none, 0, by rw [h0]⟩
  · exact ⟨_, _, rfl⟩
end
/-- how the reference's reader of quotes ends -/
def QuoEnd (s : ByteArray) (pb i : Nat) (a x : Int) (w : World) (e : Ending) (w' : World) : Prop :=
  (∃ l m v, quoT s i = some (l, m) ∧ e = .returned (.tuple #[v, .bool true]) ∧ Runes w.heap.size w' v l ∧ RdAt w' pb s (i + m) a x ∧ Only (fun k => k = pb) w w') ∨
    (quoT s i = none ∧ e = .returned (.tuple #[.slice none 0 0, .bool false]) ∧ RdAt w' pb s i a x ∧ Only (fun k => k = pb) w w')
set_option maxHeartbeats 4000000 in
set_option maxRecDepth 100000 in
theorem rquote_any (s : ByteArray) (pb i : Nat) (a x : Int) (w : World) (h : RdAt w pb s i a x) (hi : i < s.size) (hs : s.size ≤ 1000000) (h39 : bt s i = 39) (hb : BD s i = none) :
    Calls Tryz.prog 48 #[.pointer (some ⟨pb, 0, none⟩)] w (QuoEnd s pb i a x w) := by
  obtain ⟨q1, q2, q3, q4⟩ := qE_is s (i + 1) (by omega)
  have HQT : Hid (quoT s i = if qE s (i + 1) < s.size ∧ bt s (qE s (i + 1)) = 39 then some (if qE s (i + 1) = i + 1 then [39] else dTo s (i + 1) (qE s (i + 1)), qE s (i + 1) + 1 - i) else none) := rfl
  have hb1 : BD s (i + 1) = none := bd_next hb hi (by omega)
  have hbt := PlainAid.get_bt s
  obtain ⟨c0, c1, _, _, cf, cpl⟩ := h.cells
  have HR := Lib.hid h
  generalize qE s (i + 1) = J at *
  have HQ3 := Lib.hid q3
  have HQ4 := Lib.hid q4
  clear h h39 hb q3 q4 cf
  obtain ⟨b, hbb⟩ : ∃ b, b = i + 1 := ⟨_, rfl⟩
  rw [← hbb] at HQT q1 hb1 HQ3
  have a1 : (i : Int) + 1 = (b : Int) := by omega
  have HBB := Lib.hid hbb
  clear hbb
  obtain ⟨i0, hti, hz0, hz1, hz2⟩ := info_parts Tryz.infoR
  go_enter Tryz.func48, Tryz.ntmps48
  go_wp2_with fail
  have hdl := fun p (h1 : b ≤ p) (h2 : BD s p = none) (h3 : p ≤ J) => dT_len s J (J - p) p h2 q2
  go_loopw [4, 5] (fun lv iv wr => ∃ (p : Nat) (acc : List Int), iv = .int .i64 p ∧ RxAt s pb a x w i acc lv wr ∧ b ≤ p ∧ p ≤ J ∧ BD s p = none ∧ acc ++ dTo s p J = dTo s b J ∧ acc.length ≤ p) (fun _ iv _ => s.size - (intOf iv).toNat)
  case atStart => exact ⟨b, [], rfl, ⟨World.ownsRow_nil _ _ _ _, HR.out, Only.refl _ _, cpl⟩, Nat.le_refl _, q1, hb1, rfl, Nat.zero_le _⟩
  case round =>
    obtain ⟨p, acc, rfl, hT, hbp, hpJ, hbdp, hac, hal⟩ := hrel
    have HT := Lib.hid hT
    have HAC := Lib.hid hac
    obtain ⟨d0, d1, _, _, df, dpl⟩ := hT.rd.cells
    have f1 := df 1
    clear hT hac df c0 c1 hdl
    by_cases hlt : p < J
    · have hps : p < s.size := by omega
      have hlz : decide ((p : Int) < (s.size : Int)) = true := decide_eq_true (by omega)
      obtain ⟨n39, n10⟩ := HQ3.out p hbp hlt
      have e39 : (bt s p == 39) = false := by simpa using n39
      have e10 : (bt s p == 10) = false := by simpa using n10
      have e10' : (bt s p != 10) = true := by simpa using n10
      have hfac := bd_step hbdp hps
      have hle : p + fmN s p ≤ J := by
        refine Nat.le_of_not_lt fun hl => ?_
        have h1 := form_tail s p (J - p) (by omega) (by omega)
        rw [show p + (J - p) = J by omega] at h1
        have := HQ4.out (by omega)
        omega
      have HEF : Hid ((acc ++ [fmR s p]) ++ dTo s (p + fmN s p) J = dTo s b J) := by
        show _ = _
        rw [← HAC.out, dTo_step hbdp q2 hlt]; simp
      have HFAC := Lib.hid hfac
      have hpos : 1 ≤ fmN s p := by have := hfac.1; omega
      have hnx : ∀ W : World, Calls Tryz.prog 50 #[.string s, .int .i64 p] W fun e w' => e = .returned (.tuple #[.int .i32 (fmR s p), .int .i64 (fmN s p), .int .i64 (erN (fmN s p))]) ∧ Below W.heap.size W w' := fun W => rnext_in s p W (by omega) hps
      have HNX := Lib.hid hnx
      clear hnx hfac n39 n10
      go_wp2_with fail
      refine (HNX.out _).mono ?_
      rintro e w2 ⟨rfl, hb2⟩
      have HT2 := Lib.hid (HT.out.below hb2)
      have HT3 := Lib.hid (HT2.out.below ((Below.refl _ w2).alloc (Nat.le_refl _) (.cells #[.int .i32 (fmR s p)] 21)))
      have hsz := HT3.out.only.size
      clear hb2 HNX d0 d1 f1 e39 e10 e10'
      generalize fmR s p = r at *
      generalize fmN s p = m at *
      generalize erN m = em at *
      go_wp2_with (at_builtin; refine gStop ⟨_, _, rfl⟩ ?_)
      refine Lib.hid ?_
      refine wpList_append_own_at _ rfl _ _ 34 rfl w.heap.size 21 i0 (.int .i32 0) 1 4 Tryz.underlying34 hti hz0 hz1 hz2 rfl (by decide) _ acc.length (acc.map (Value.int .i32)) rfl HT3.out.row ⟨w2.heap.size, 0, none⟩ 1 1 [.int .i32 r] rfl rfl (gCells _ _ _) (by simp [Value.oneCell']) (by unfold maxLen; omega) (by omega) hsz ?_
      intro v7 w7 hrow7 hg7 _ _
      have HT8 := Lib.hid (HT3.out.app (acc' := acc ++ [r]) (by rw [List.length_append, List.map_append]; exact hrow7) hg7)
      clear hrow7 hg7 HT3 HT2 hsz
      go_wp2_with fail
      go_roundw
      case rel => exact ⟨p + m, acc ++ [r], by go_num, HT8.out, by omega, hle, HFAC.out.2.1, HEF.out, by simp; omega⟩
      case measure => (simp [intOf]; omega)
    · obtain rfl : p = J := by omega
      have HAC2 : Hid (acc = dTo s b p) := by
        have := HAC.out; rwa [dTo_end, List.append_nil] at this
      clear hlt
      by_cases hps : p < s.size
      · have hlz : decide ((p : Int) < (s.size : Int)) = true := decide_eq_true (by omega)
        have hor := HQ4.out hps
        by_cases h39 : bt s p = 39
        · have e39 : (bt s p == 39) = true := by simpa using h39
          have e10 : (bt s p == 10) = false := by rw [h39]; rfl
          have e10' : (bt s p != 10) = true := by rw [h39]; rfl
          have HM : Hid (i + (p + 1 - i) = p + 1) := by show _ = _; have := HBB.out; omega
          rw [if_pos ⟨hps, h39⟩] at HQT
          clear hor h39
          by_cases hpb : p = b
          · have g1 : ((b : Int) == (p : Int)) = true := by simp; omega
            rw [if_pos hpb] at HQT
            have HN := Lib.hid hpb
            clear hpb
            go_wp2_with fail
            go_ret2
            refine .inl ⟨_, _, _, HQT.out, rfl, ?_, ?_, ?_⟩
            · have := runes_one w.heap.size (wr.setCell ⟨pb, 1, none⟩ (.int .i64 ((p : Int) + 1))) 39 21 (by simp; exact HT.out.only.size)
              simpa using this
            · rw [HM.out]
              have h2 := HT.out.rd.go (p + 1)
              exact h2.below ((Below.refl _ _).alloc (Nat.le_refl _) _)
            · exact (HT.out.only.setCell (p := ⟨pb, 1, none⟩) rfl _).alloc _
          · have g1 : ((b : Int) == (p : Int)) = false := by simp; omega
            rw [if_neg hpb] at HQT
            clear hpb
            go_wp2_with fail
            go_ret2
            refine .inl ⟨_, _, _, HQT.out, rfl, ?_, ?_, ?_⟩
            · rw [← HAC2.out]; exact gRunes (HT.out.go (p + 1)).row
            · rw [HM.out]; exact HT.out.rd.go (p + 1)
            · exact HT.out.only.setCell (p := ⟨pb, 1, none⟩) rfl _
        · have i10 : bt s p = 10 := by omega
          have e10 : (bt s p == 10) = true := by simpa using i10
          have e10' : (bt s p != 10) = false := by simpa using i10
          rw [if_neg (fun h => h39 h.2)] at HQT
          clear hor h39 i10
          go_wp2_with fail
          go_ret2
          exact .inr ⟨HQT.out, rfl, HT.out.rd, HT.out.only⟩
      · have hlz : decide ((p : Int) < (s.size : Int)) = false := decide_eq_false (by omega)
        rw [if_neg (fun h => hps h.1)] at HQT
        go_wp2_with fail
        go_ret2
        exact .inr ⟨HQT.out, rfl, HT.out.rd, HT.out.only⟩
end Go.Proofs.YtchjjfjjcdjjcaaGreatDoor
