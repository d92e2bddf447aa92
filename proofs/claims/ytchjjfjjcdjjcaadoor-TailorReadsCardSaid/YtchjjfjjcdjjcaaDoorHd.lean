/- The reference's reader of rules: escapes. -/
import Derived.Test.YtchjjfjjcdjjcaaDoorHc
namespace Go.Proofs.YtchjjfjjcdjjcaaDoor
open Go.RowKit
open PlainAid (bt)

theorem hxG_le (s : ByteArray) (a : Nat) : ∀ (k : Nat), (∀ j, j < k → hexOk (bt s (a + j))) → 0 ≤ hxG s a k ∧ hxG s a k < 16 ^ k
  | 0, _ => by simp [hxG]
  | k + 1, h => by
    have h1 := hxG_le s a k (fun j hj => h j (by omega))
    have h2 := hexV_le _ (h k (by omega))
    rw [hxG, Int.pow_succ]
    omega
theorem esc_has {s : ByteArray} {i : Nat} (hi : i < s.size) (h92 : bt s i = 92) : hasT s i ⟨#[92, 117]⟩ = decide (escN s i = 4) ∧ hasT s i ⟨#[92, 85]⟩ = decide (escN s i = 6) := by
  rw [hasT2, hasT2]
  have e1 : ((92 : UInt8).toNat : Int) = 92 := rfl
  have e2 : ((117 : UInt8).toNat : Int) = 117 := rfl
  have e3 : ((85 : UInt8).toNat : Int) = 85 := rfl
  rw [e1, e2, e3]
  unfold escN
  by_cases h1 : i + 1 < s.size ∧ bt s (i + 1) = 117
  · rw [if_pos h1]
    refine ⟨?_, ?_⟩
    · rw [decide_eq_true (p := i + 2 ≤ s.size ∧ bt s i = 92 ∧ bt s (i + 1) = 117) ⟨by omega, h92, h1.2⟩]; rfl
    · rw [decide_eq_false (p := i + 2 ≤ s.size ∧ bt s i = 92 ∧ bt s (i + 1) = 85) (fun h => by have := h.2.2; omega)]; rfl
  · rw [if_neg h1]
    by_cases h2 : i + 1 < s.size ∧ bt s (i + 1) = 85
    · rw [if_pos h2]
      refine ⟨?_, ?_⟩
      · rw [decide_eq_false (p := i + 2 ≤ s.size ∧ bt s i = 92 ∧ bt s (i + 1) = 117) (fun h => by have := h.2.2; omega)]; rfl
      · rw [decide_eq_true (p := i + 2 ≤ s.size ∧ bt s i = 92 ∧ bt s (i + 1) = 85) ⟨by omega, h92, h2.2⟩]; rfl
    · rw [if_neg h2]
      refine ⟨?_, ?_⟩
      · rw [decide_eq_false (p := i + 2 ≤ s.size ∧ bt s i = 92 ∧ bt s (i + 1) = 117) (fun h => h1 ⟨by omega, h.2.2⟩)]; rfl
      · rw [decide_eq_false (p := i + 2 ≤ s.size ∧ bt s i = 92 ∧ bt s (i + 1) = 85) (fun h => h2 ⟨by omega, h.2.2⟩)]; rfl
/-- how an escape's reader ends -/
def EscEnd (s : ByteArray) (pb i : Nat) (a x : Int) (w : World) (e : Ending) (w' : World) : Prop :=
  (∃ y m, escT s i = some (y, m) ∧ e = .returned (.tuple #[.int .i32 y, .bool true]) ∧ RdAt w' pb s (i + m) a x ∧ Only (fun k => k = pb) w w') ∨
    (escT s i = none ∧ e = .returned (.tuple #[.int .i32 0, .bool false]) ∧ RdAt w' pb s i a x ∧ Only (fun k => k = pb) w w')
set_option maxHeartbeats 4000000 in
set_option maxRecDepth 100000 in
theorem rescape_4 (s : ByteArray) (pb i : Nat) (a x : Int) (w : World) (h : RdAt w pb s i a x) (hi : i < s.size) (hs : s.size ≤ 1000000) (h92 : bt s i = 92) (hn : escN s i = 4) :
    Calls Tryd.prog 39 #[.pointer (some ⟨pb, 0, none⟩)] w (EscEnd s pb i a x w) := by
  obtain ⟨hu, hU⟩ := esc_has hi h92
  rw [hn] at hu hU
  have HET : Hid (escT s i = if 0 < escN s i ∧ i + 2 + escN s i ≤ s.size ∧ hexAll s (i + 2) (escN s i) = true ∧ sc (hxG s (i + 2) (escN s i)) = true then some (hxG s (i + 2) (escN s i), 2 + escN s i) else none) := rfl
  rw [hn] at HET
  have hbt := PlainAid.get_bt s
  have HR := Lib.hid h
  clear h hn h92
  have HH := fun t (ht : t.size ≤ 1000) W (h : RdAt W pb s i a x) => rhas_any s t pb i a x W h (Nat.le_of_lt hi) hs ht
  have HU := Lib.hid (HH ⟨#[92, 117]⟩ (by decide))
  have HU2 := Lib.hid (HH ⟨#[92, 85]⟩ (by decide))
  rw [hu] at HU
  rw [hU] at HU2
  clear hu hU HH
  by_cases hlen : i + 2 + 4 ≤ s.size
  · have hlz : decide ((s.size : Int) - (i : Int) < 6) = false := decide_eq_false (by omega)
    have hlz2 : ¬ ((s.size : Int) - (i : Int) < 6) := by omega
    go_enter Tryd.func39, Tryd.ntmps39
    go_wp2_with fail
    refine (HU.out _ HR.out).mono ?_
    rintro e w1 ⟨rfl, hb1⟩
    have HR1 := Lib.hid (HR.out.below hb1)
    have HB1 := Lib.hid hb1
    clear hb1
    go_wp2_with fail
    refine (HU2.out _ HR1.out).mono ?_
    rintro e w2 ⟨rfl, hb2⟩
    have HR2 := Lib.hid (HR1.out.below hb2)
    have HB2 : Hid (Below w.heap.size w w2) := HB1.out.trans (hb2.mono HB1.out.size)
    obtain ⟨c0, c1, _, _, cf, cpl⟩ := HR2.out.cells
    have f1 := cf 1
    clear hb2 HR1 HB1 cf HU HU2 HR
    go_wp2_with fail
    refine wp_region_over (by kernel_rfl) (by kernel_rfl) ?_; (repeat (go_big_quiet_step ((fail)))); refine wpQuiet_nil ?_; intro w1 hb1
    have HR3 := Lib.hid (HR2.out.below hb1)
    have HB3 : Hid (Below w.heap.size w w1) := HB2.out.trans (hb1.mono HB2.out.size)
    clear HR2 HB2 hb1 c0 c1 f1 cpl
    go_wp2_with fail
    obtain ⟨c, hc⟩ : ∃ c, c = i + 2 := ⟨_, rfl⟩
    rw [← hc] at HET
    have HC := Lib.hid hc
    have c2 : (i : Int) + 2 = (c : Int) := by omega
    clear hc
    go_loopw [5, 6] (fun xv kv wr => ∃ k : Nat, kv = .int .i64 k ∧ xv = .int .i32 (hxG s c k) ∧ k ≤ 4 ∧ (∀ j, j < k → hexOk (bt s (c + j))) ∧ RdAt wr pb s i a x ∧ Below w.heap.size w wr) (fun _ kv _ => 4 - (intOf kv).toNat)
    case atStart => exact ⟨0, rfl, rfl, by omega, fun j hj => absurd hj (by omega), HR3.out, HB3.out⟩
    case round =>
      obtain ⟨k, rfl, rfl, hk, hx, hr, hbw⟩ := hrel
      have HX := Lib.hid hx
      have HR4 := Lib.hid hr
      have HB4 := Lib.hid hbw
      obtain ⟨c0, c1, _, _, cf, cpl⟩ := hr.cells
      have f1 := cf 1
      clear hx hr hbw cf
      by_cases hlt : k < 4
      · have hkz : (k : Int) < 4 := by omega
        obtain ⟨q, hq⟩ : ∃ q, q = c + k := ⟨_, rfl⟩
        have hqs : q < s.size := by have := HC.out; omega
        have c3 : (c : Int) + (k : Int) = (q : Int) := by omega
        have hqz : (0 : Int) ≤ (q : Int) ∧ (q : Int) < (s.size : Int) := by omega
        have HQ := Lib.hid hq
        clear hq
        have hdg := fun W => rdigit_any (bt s q) W (PlainAid.bt_nonneg s q) (PlainAid.bt_le s q)
        have HDG := Lib.hid hdg
        clear hdg
        go_wp2_with fail
        go_quiet (exact quiet_same (HDG.out _))
        obtain ⟨y, hy⟩ : ∃ y, bt s q = y := ⟨_, rfl⟩
        have hdv : digV y = if hexOk y then hexV y else -1 := rfl
        rw [hy]
        have HY := Lib.hid hy
        clear hy HDG
        by_cases hok : hexOk y
        · rw [if_pos hok] at hdv
          have hv := hexV_le y hok
          have hg := hxG_le s c k HX.out
          have hp : (16 : Int) ^ k ≤ 16 ^ 5 := by
            have : (16 : Nat) ^ k ≤ 16 ^ 5 := Nat.pow_le_pow_right (by decide) (by omega)
            exact_mod_cast this
          have g0 : 0 ≤ hxG s c k := hg.1
          have g1 : hxG s c k ≤ 1048575 := by have := hg.2; omega
          have HE : Hid (hxG s c (k + 1) = hxG s c k * 16 + hexV y) := by
            show _ = _
            rw [hxG, ← HQ.out, HY.out]
          rw [hdv]
          obtain ⟨v1, v2⟩ := hv
          have HOK := Lib.hid hok
          clear hg hp hok hdv
          generalize hxG s c k = n at *
          generalize hexV y = v at *
          go_wp2_with fail
          go_roundw
          case rel => exact ⟨k + 1, by go_num, by rw [HE.out], by omega, fun j hj => by
            rcases Nat.lt_succ_iff_lt_or_eq.1 hj with h | rfl
            · exact HX.out j h
            · rw [← HQ.out, HY.out]; exact HOK.out, HR4.out.drewN _, below_drewN HB4.out _⟩
          case measure => (show 4 - ((k : Int) + 1).toNat < 4 - (k : Int).toNat; omega)
        · rw [if_neg hok] at hdv
          have HE : Hid (escT s i = none) := by
            show _ = _
            rw [HET.out, if_neg]
            rintro ⟨_, _, hall, _⟩
            have := (hexAll_iff s c 4).1 hall k hlt
            rw [← HQ.out, HY.out] at this
            exact hok this
          rw [hdv]
          clear hok hdv
          go_wp2_with fail
          go_ret2
          exact .inr ⟨HE.out, rfl, HR4.out.drewN _, (Only.refl _ w).below (below_drewN HB4.out _)⟩
      · obtain rfl : k = 4 := by omega
        have hall : hexAll s c 4 = true := (hexAll_iff s c 4).2 HX.out
        rw [hall] at HET
        have hg := hxG_le s c 4 HX.out
        have g0 : 0 ≤ hxG s c 4 := hg.1
        have g1 : hxG s c 4 ≤ 16777215 := by have := hg.2; omega
        clear hg hall
        generalize hxG s c 4 = n at *
        cases hsc : sc n with
        | true =>
          rw [hsc] at HET
          have HE : Hid (escT s i = some (n, 2 + 4)) := by
            show _ = _
            rw [HET.out, if_pos ⟨by omega, by have := HC.out; omega, rfl, rfl⟩]
          go_wp2_with (go_at_call 58; refine (r4scalar_any _ _).mono ?_; rintro e w' ⟨rfl, h5⟩; rw [hsc]; subst h5)
          go_ret2
          refine .inl ⟨_, _, HE.out, rfl, ?_, ((Only.refl (fun k => k = pb) w).below HB4.out).setCell (p := ⟨pb, 1, none⟩) rfl _⟩
          rw [show (c : Int) + 4 = ((i + (2 + 4) : Nat) : Int) from by have := HC.out; omega]
          exact HR4.out.go _
        | false =>
          rw [hsc] at HET
          have HE : Hid (escT s i = none) := by
            show _ = _
            rw [HET.out, if_neg (by simp)]
          go_wp2_with (go_at_call 58; refine (r4scalar_any _ _).mono ?_; rintro e w' ⟨rfl, h5⟩; rw [hsc]; subst h5)
          go_ret2
          exact .inr ⟨HE.out, rfl, HR4.out, (Only.refl _ w).below HB4.out⟩
  · have hlz : decide ((s.size : Int) - (i : Int) < 6) = true := decide_eq_true (by omega)
    have hlz2 : ((s.size : Int) - (i : Int) < 6) := by omega
    have HE : Hid (escT s i = none) := by
      show _ = _
      rw [HET.out, if_neg (fun h => hlen h.2.1)]
    clear hlen HET
    go_enter Tryd.func39, Tryd.ntmps39
    go_wp2_with fail
    refine (HU.out _ HR.out).mono ?_
    rintro e w1 ⟨rfl, hb1⟩
    have HR1 := Lib.hid (HR.out.below hb1)
    have HB1 := Lib.hid hb1
    clear hb1
    go_wp2_with fail
    refine (HU2.out _ HR1.out).mono ?_
    rintro e w2 ⟨rfl, hb2⟩
    have HR2 := Lib.hid (HR1.out.below hb2)
    have HB2 : Hid (Below w.heap.size w w2) := HB1.out.trans (hb2.mono HB1.out.size)
    obtain ⟨c0, c1, _, _, cf, cpl⟩ := HR2.out.cells
    clear hb2 HR1 HB1 cf HU HU2 HR
    go_wp2_with fail
    refine wp_region_over (by kernel_rfl) (by kernel_rfl) ?_; (repeat (go_big_quiet_step ((fail)))); refine wpQuiet_nil ?_; intro w1 hb1
    have HR3 := Lib.hid (HR2.out.below hb1)
    have HB3 : Hid (Below w.heap.size w w1) := HB2.out.trans (hb1.mono HB2.out.size)
    clear HR2 HB2 hb1 c0 c1 cpl
    go_wp2_with fail
    go_ret2
    exact .inr ⟨HE.out, rfl, HR3.out, (Only.refl _ w).below HB3.out⟩
set_option maxHeartbeats 4000000 in
set_option maxRecDepth 100000 in
theorem rescape_6 (s : ByteArray) (pb i : Nat) (a x : Int) (w : World) (h : RdAt w pb s i a x) (hi : i < s.size) (hs : s.size ≤ 1000000) (h92 : bt s i = 92) (hn : escN s i = 6) :
    Calls Tryd.prog 39 #[.pointer (some ⟨pb, 0, none⟩)] w (EscEnd s pb i a x w) := by
  obtain ⟨hu, hU⟩ := esc_has hi h92
  rw [hn] at hu hU
  have HET : Hid (escT s i = if 0 < escN s i ∧ i + 2 + escN s i ≤ s.size ∧ hexAll s (i + 2) (escN s i) = true ∧ sc (hxG s (i + 2) (escN s i)) = true then some (hxG s (i + 2) (escN s i), 2 + escN s i) else none) := rfl
  rw [hn] at HET
  have hbt := PlainAid.get_bt s
  have HR := Lib.hid h
  clear h hn h92
  have HH := fun t (ht : t.size ≤ 1000) W (h : RdAt W pb s i a x) => rhas_any s t pb i a x W h (Nat.le_of_lt hi) hs ht
  have HU := Lib.hid (HH ⟨#[92, 117]⟩ (by decide))
  have HU2 := Lib.hid (HH ⟨#[92, 85]⟩ (by decide))
  rw [hu] at HU
  rw [hU] at HU2
  clear hu hU HH
  by_cases hlen : i + 2 + 6 ≤ s.size
  · have hlz : decide ((s.size : Int) - (i : Int) < 8) = false := decide_eq_false (by omega)
    have hlz2 : ¬ ((s.size : Int) - (i : Int) < 8) := by omega
    go_enter Tryd.func39, Tryd.ntmps39
    go_wp2_with fail
    refine (HU.out _ HR.out).mono ?_
    rintro e w1 ⟨rfl, hb1⟩
    have HR1 := Lib.hid (HR.out.below hb1)
    have HB1 := Lib.hid hb1
    clear hb1
    go_wp2_with fail
    refine (HU2.out _ HR1.out).mono ?_
    rintro e w2 ⟨rfl, hb2⟩
    have HR2 := Lib.hid (HR1.out.below hb2)
    have HB2 : Hid (Below w.heap.size w w2) := HB1.out.trans (hb2.mono HB1.out.size)
    obtain ⟨c0, c1, _, _, cf, cpl⟩ := HR2.out.cells
    have f1 := cf 1
    clear hb2 HR1 HB1 cf HU HU2 HR
    go_wp2_with fail
    refine wp_region_over (by kernel_rfl) (by kernel_rfl) ?_; (repeat (go_big_quiet_step ((fail)))); refine wpQuiet_nil ?_; intro w1 hb1
    have HR3 := Lib.hid (HR2.out.below hb1)
    have HB3 : Hid (Below w.heap.size w w1) := HB2.out.trans (hb1.mono HB2.out.size)
    clear HR2 HB2 hb1 c0 c1 f1 cpl
    go_wp2_with fail
    obtain ⟨c, hc⟩ : ∃ c, c = i + 2 := ⟨_, rfl⟩
    rw [← hc] at HET
    have HC := Lib.hid hc
    have c2 : (i : Int) + 2 = (c : Int) := by omega
    clear hc
    go_loopw [5, 6] (fun xv kv wr => ∃ k : Nat, kv = .int .i64 k ∧ xv = .int .i32 (hxG s c k) ∧ k ≤ 6 ∧ (∀ j, j < k → hexOk (bt s (c + j))) ∧ RdAt wr pb s i a x ∧ Below w.heap.size w wr) (fun _ kv _ => 6 - (intOf kv).toNat)
    case atStart => exact ⟨0, rfl, rfl, by omega, fun j hj => absurd hj (by omega), HR3.out, HB3.out⟩
    case round =>
      obtain ⟨k, rfl, rfl, hk, hx, hr, hbw⟩ := hrel
      have HX := Lib.hid hx
      have HR4 := Lib.hid hr
      have HB4 := Lib.hid hbw
      obtain ⟨c0, c1, _, _, cf, cpl⟩ := hr.cells
      have f1 := cf 1
      clear hx hr hbw cf
      by_cases hlt : k < 6
      · have hkz : (k : Int) < 6 := by omega
        obtain ⟨q, hq⟩ : ∃ q, q = c + k := ⟨_, rfl⟩
        have hqs : q < s.size := by have := HC.out; omega
        have c3 : (c : Int) + (k : Int) = (q : Int) := by omega
        have hqz : (0 : Int) ≤ (q : Int) ∧ (q : Int) < (s.size : Int) := by omega
        have HQ := Lib.hid hq
        clear hq
        have hdg := fun W => rdigit_any (bt s q) W (PlainAid.bt_nonneg s q) (PlainAid.bt_le s q)
        have HDG := Lib.hid hdg
        clear hdg
        go_wp2_with fail
        go_quiet (exact quiet_same (HDG.out _))
        obtain ⟨y, hy⟩ : ∃ y, bt s q = y := ⟨_, rfl⟩
        have hdv : digV y = if hexOk y then hexV y else -1 := rfl
        rw [hy]
        have HY := Lib.hid hy
        clear hy HDG
        by_cases hok : hexOk y
        · rw [if_pos hok] at hdv
          have hv := hexV_le y hok
          have hg := hxG_le s c k HX.out
          have hp : (16 : Int) ^ k ≤ 16 ^ 5 := by
            have : (16 : Nat) ^ k ≤ 16 ^ 5 := Nat.pow_le_pow_right (by decide) (by omega)
            exact_mod_cast this
          have g0 : 0 ≤ hxG s c k := hg.1
          have g1 : hxG s c k ≤ 1048575 := by have := hg.2; omega
          have HE : Hid (hxG s c (k + 1) = hxG s c k * 16 + hexV y) := by
            show _ = _
            rw [hxG, ← HQ.out, HY.out]
          rw [hdv]
          obtain ⟨v1, v2⟩ := hv
          have HOK := Lib.hid hok
          clear hg hp hok hdv
          generalize hxG s c k = n at *
          generalize hexV y = v at *
          go_wp2_with fail
          go_roundw
          case rel => exact ⟨k + 1, by go_num, by rw [HE.out], by omega, fun j hj => by
            rcases Nat.lt_succ_iff_lt_or_eq.1 hj with h | rfl
            · exact HX.out j h
            · rw [← HQ.out, HY.out]; exact HOK.out, HR4.out.drewN _, below_drewN HB4.out _⟩
          case measure => (show 6 - ((k : Int) + 1).toNat < 6 - (k : Int).toNat; omega)
        · rw [if_neg hok] at hdv
          have HE : Hid (escT s i = none) := by
            show _ = _
            rw [HET.out, if_neg]
            rintro ⟨_, _, hall, _⟩
            have := (hexAll_iff s c 6).1 hall k hlt
            rw [← HQ.out, HY.out] at this
            exact hok this
          rw [hdv]
          clear hok hdv
          go_wp2_with fail
          go_ret2
          exact .inr ⟨HE.out, rfl, HR4.out.drewN _, (Only.refl _ w).below (below_drewN HB4.out _)⟩
      · obtain rfl : k = 6 := by omega
        have hall : hexAll s c 6 = true := (hexAll_iff s c 6).2 HX.out
        rw [hall] at HET
        have hg := hxG_le s c 6 HX.out
        have g0 : 0 ≤ hxG s c 6 := hg.1
        have g1 : hxG s c 6 ≤ 16777215 := by have := hg.2; omega
        clear hg hall
        generalize hxG s c 6 = n at *
        cases hsc : sc n with
        | true =>
          rw [hsc] at HET
          have HE : Hid (escT s i = some (n, 2 + 6)) := by
            show _ = _
            rw [HET.out, if_pos ⟨by omega, by have := HC.out; omega, rfl, rfl⟩]
          go_wp2_with (go_at_call 58; refine (r4scalar_any _ _).mono ?_; rintro e w' ⟨rfl, h5⟩; rw [hsc]; subst h5)
          go_ret2
          refine .inl ⟨_, _, HE.out, rfl, ?_, ((Only.refl (fun k => k = pb) w).below HB4.out).setCell (p := ⟨pb, 1, none⟩) rfl _⟩
          rw [show (c : Int) + 6 = ((i + (2 + 6) : Nat) : Int) from by have := HC.out; omega]
          exact HR4.out.go _
        | false =>
          rw [hsc] at HET
          have HE : Hid (escT s i = none) := by
            show _ = _
            rw [HET.out, if_neg (by simp)]
          go_wp2_with (go_at_call 58; refine (r4scalar_any _ _).mono ?_; rintro e w' ⟨rfl, h5⟩; rw [hsc]; subst h5)
          go_ret2
          exact .inr ⟨HE.out, rfl, HR4.out, (Only.refl _ w).below HB4.out⟩
  · have hlz : decide ((s.size : Int) - (i : Int) < 8) = true := decide_eq_true (by omega)
    have hlz2 : ((s.size : Int) - (i : Int) < 8) := by omega
    have HE : Hid (escT s i = none) := by
      show _ = _
      rw [HET.out, if_neg (fun h => hlen h.2.1)]
    clear hlen HET
    go_enter Tryd.func39, Tryd.ntmps39
    go_wp2_with fail
    refine (HU.out _ HR.out).mono ?_
    rintro e w1 ⟨rfl, hb1⟩
    have HR1 := Lib.hid (HR.out.below hb1)
    have HB1 := Lib.hid hb1
    clear hb1
    go_wp2_with fail
    refine (HU2.out _ HR1.out).mono ?_
    rintro e w2 ⟨rfl, hb2⟩
    have HR2 := Lib.hid (HR1.out.below hb2)
    have HB2 : Hid (Below w.heap.size w w2) := HB1.out.trans (hb2.mono HB1.out.size)
    obtain ⟨c0, c1, _, _, cf, cpl⟩ := HR2.out.cells
    clear hb2 HR1 HB1 cf HU HU2 HR
    go_wp2_with fail
    refine wp_region_over (by kernel_rfl) (by kernel_rfl) ?_; (repeat (go_big_quiet_step ((fail)))); refine wpQuiet_nil ?_; intro w1 hb1
    have HR3 := Lib.hid (HR2.out.below hb1)
    have HB3 : Hid (Below w.heap.size w w1) := HB2.out.trans (hb1.mono HB2.out.size)
    clear HR2 HB2 hb1 c0 c1 cpl
    go_wp2_with fail
    go_ret2
    exact .inr ⟨HE.out, rfl, HR3.out, (Only.refl _ w).below HB3.out⟩
set_option maxHeartbeats 4000000 in
set_option maxRecDepth 100000 in
theorem rescape_0 (s : ByteArray) (pb i : Nat) (a x : Int) (w : World) (h : RdAt w pb s i a x) (hi : i < s.size) (hs : s.size ≤ 1000000) (h92 : bt s i = 92) (hn : escN s i = 0) :
    Calls Tryd.prog 39 #[.pointer (some ⟨pb, 0, none⟩)] w (EscEnd s pb i a x w) := by
  obtain ⟨hu, hU⟩ := esc_has hi h92
  rw [hn] at hu hU
  have HE : Hid (escT s i = none) := by show _ = _; unfold escT; rw [if_neg (by omega)]
  have HR := Lib.hid h
  clear h hn h92
  have HH := fun t (ht : t.size ≤ 1000) W (h : RdAt W pb s i a x) => rhas_any s t pb i a x W h (Nat.le_of_lt hi) hs ht
  have HU := Lib.hid (HH ⟨#[92, 117]⟩ (by decide))
  have HU2 := Lib.hid (HH ⟨#[92, 85]⟩ (by decide))
  rw [hu] at HU
  rw [hU] at HU2
  clear hu hU HH
  go_enter Tryd.func39, Tryd.ntmps39
  go_wp2_with fail
  refine (HU.out _ HR.out).mono ?_
  rintro e w1 ⟨rfl, hb1⟩
  have HR1 := Lib.hid (HR.out.below hb1)
  have HB1 := Lib.hid hb1
  clear hb1
  go_wp2_with fail
  refine (HU2.out _ HR1.out).mono ?_
  rintro e w2 ⟨rfl, hb2⟩
  have HR2 := Lib.hid (HR1.out.below hb2)
  have HB2 : Hid (Below w.heap.size w w2) := HB1.out.trans (hb2.mono HB1.out.size)
  obtain ⟨c0, c1, _, _, cf, cpl⟩ := HR2.out.cells
  clear hb2 HR1 HB1 cf HU HU2 HR
  go_wp2_with fail
  refine wp_region_over (by kernel_rfl) (by kernel_rfl) ?_; (repeat (go_big_quiet_step ((fail)))); refine wpQuiet_nil ?_; intro w1 hb1
  have HR3 := Lib.hid (HR2.out.below hb1)
  have HB3 : Hid (Below w.heap.size w w1) := HB2.out.trans (hb1.mono HB2.out.size)
  clear HR2 HB2 hb1 c0 c1 cpl
  go_wp2_with fail
  go_ret2
  exact .inr ⟨HE.out, rfl, HR3.out, (Only.refl _ w).below HB3.out⟩
theorem rescape_any (s : ByteArray) (pb i : Nat) (a x : Int) (w : World) (h : RdAt w pb s i a x) (hi : i < s.size) (hs : s.size ≤ 1000000) (h92 : bt s i = 92) :
    Calls Tryd.prog 39 #[.pointer (some ⟨pb, 0, none⟩)] w (EscEnd s pb i a x w) := by
  rcases escN_cases s i with hn | hn | hn
  · exact rescape_0 s pb i a x w h hi hs h92 hn
  · exact rescape_4 s pb i a x w h hi hs h92 hn
  · exact rescape_6 s pb i a x w h hi hs h92 hn
end Go.Proofs.YtchjjfjjcdjjcaaDoor
