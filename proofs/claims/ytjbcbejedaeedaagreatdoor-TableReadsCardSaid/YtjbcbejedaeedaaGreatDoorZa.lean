/- Package strings: ContainsAny at two plain bytes; ContainsRune at eight. -/
import Derived.Test.YtjbcbejedaeedaaGreatDoorGg
namespace Go.Proofs.YtjbcbejedaeedaaGreatDoor
open Go.RowKit Go.Shelf Go.Lib
open PlainAid (bt)

theorem containsAny_any (s chars : ByteArray) (w : World) (h2 : chars.size = 2) (hs : s.size < 4294967281) (hac : ∀ (j : Nat) b, chars.data.toList[j]? = some b → b.toNat < 128) :
    Calls Tryz.prog 90 #[.string s, .string chars] w fun e w' => e = .returned (.bool (decide (0 ≤ Lib.indexAny s.data.toList chars.data.toList))) ∧ Below w.heap.size w w' := by
  have H := Lib.hid (fun w => indexAny_any s chars w h2 hs hac)
  clear h2 hs hac
  generalize Lib.indexAny s.data.toList chars.data.toList = q at *
  go_enter Tryz.func90, Tryz.ntmps90
  go_wp2_with fail
  refine (H.out _).mono ?_
  rintro e w1 ⟨rfl, hb⟩
  have HB := Lib.hid hb
  clear hb
  by_cases hq : 0 ≤ q
  · have d1 : decide (0 ≤ q) = true := decide_eq_true hq
    clear hq
    go_wp2_with fail
    go_ret
    exact ⟨by rw [d1]; rfl, HB.out⟩
  · have d1 : decide (0 ≤ q) = false := decide_eq_false hq
    clear hq
    go_wp2_with fail
    go_ret
    exact ⟨by rw [d1]; rfl, HB.out⟩
theorem indexByte_high : ∀ (l : List UInt8) (x : UInt8), (∀ b ∈ l, b.toNat < 128) → 128 ≤ x.toNat → Lib.indexByte l x = -1
  | [], _, _, _ => rfl
  | b :: l, x, h, hx => by
    have h1 := h b (List.mem_cons_self ..)
    have hne : (b == x) = false := beq_eq_false_iff_ne.2 (fun e => by rw [e] at h1; omega)
    rw [Lib.indexByte, hne, indexByte_high l x (fun y hy => h y (List.mem_cons_of_mem _ hy)) hx]
    rfl
set_option maxHeartbeats 4000000 in
set_option maxRecDepth 100000 in
/-- a scalar beyond the plain ones isn't among eight plain bytes -/
theorem indexRune_none8 (s : ByteArray) (r : Int) (w : World) (hsz : s.size = 8) (hac : ∀ (j : Nat) b, s.data.toList[j]? = some b → b.toNat < 128) (h0 : 128 ≤ r) (hv : Lib.validRune r = true) :
    Calls Tryz.prog 84 #[.string s, .int .i32 r] w fun e w' => e = .returned (.int .i64 (-1)) ∧ Below w.heap.size w w' := by
  have HA := Lib.hid hac
  clear hac
  have hbt := PlainAid.get_bt s
  by_cases he : r = 65533
  · subst he
    clear hv
    go_enter Tryz.func84, Tryz.ntmps84
    go_wp2
    go_loopg [5, 6] s.size (fun g _ _ wx => ∃ i : Nat, i + g = s.size ∧ wx = w.iter s i)
    case atStart => exact ⟨0, by omega, rfl⟩
    case round =>
      obtain ⟨i, hig, rfl⟩ := hrel
      cases gk with
      | zero =>
        obtain rfl : i = 8 := by omega
        have hnx := fun ty => run_next_end (P := Tryz.prog) w s 8 ty (by omega)
        go_wp2
        go_ret
        exact ⟨rfl, (Below.refl _ _).alloc (Nat.le_refl _) _⟩
      | succ g =>
        have hi : i < s.size := by omega
        obtain ⟨x, hx⟩ : ∃ x : UInt8, s[i]'hi = x := ⟨_, rfl⟩
        have hxl : s.data.toList[i]? = some x := by rw [← hx]; exact Lib.data_getElem? s i hi
        have hx128 : x.toNat < 128 := HA.out i x hxl
        have hnx := fun ty => run_next_ascii (P := Tryz.prog) w s i ty hi (by rw [hx]; exact hx128)
        rw [hx] at hnx
        have hxz : ¬ (x.toNat : Int) = 65533 := by omega
        clear hxl hx
        go_wp2_with fail
        go_roundg g
        case measure => omega
        case rel => exact ⟨i + 1, by omega, rfl⟩
  · have hvv : Utf8.valid r = true := by rw [validRune_eq r]; exact hv
    obtain ⟨e2, e4, elast⟩ := encode_facts r hvv h0
    have HE := Lib.hid elast
    have h0' : ¬ r < 128 := by omega
    clear hvv elast
    obtain ⟨e, hee⟩ : ∃ e, Utf8.encode r = e := ⟨_, rfl⟩
    rw [hee] at e2 e4 HE
    have hbe := PlainAid.get_bt e
    obtain ⟨m, hm⟩ : ∃ m, m + 1 = e.size := ⟨e.size - 1, by omega⟩
    have hm1 : (e.size : Int) - 1 = (m : Int) := by omega
    have hm8 : m + 1 < 8 := by omega
    have hbm : 128 ≤ bt e m := by
      rw [← hbe m (by omega)]
      have := HE.out (by omega)
      simp only [show e.size - 1 = m by omega] at this
      exact_mod_cast this
    have hbm2 : bt e m ≤ 255 := PlainAid.bt_le e m
    have hbs : bt s m < 128 := by
      have hh := HA.out m (s[m]'(by omega)) (Lib.data_getElem? s m (by omega))
      rw [← hbt m (by omega)]
      omega
    have hne : ¬ bt s m = bt e m := by omega
    have hez : ¬ e.size = 0 := by omega
    have hml : (m : Int) < (e.size : Int) := by omega
    have hml2 : m < e.size := by omega
    have hix : Lib.indexByte (s.extract (m + 1) s.size).data.toList (bt e m).toNat.toUInt8 = -1 := by
      rw [Lib.extract_to_end]
      refine indexByte_high _ _ (fun b hb => ?_) ?_
      · obtain ⟨j, hj⟩ := List.mem_iff_getElem?.1 hb
        rw [List.getElem?_drop] at hj
        exact HA.out _ b hj
      · obtain ⟨n, hn⟩ : ∃ n : Nat, bt e m = n := ⟨(bt e m).toNat, by omega⟩
        rw [hn, Int.toNat_natCast]
        have : (n.toUInt8).toNat = n % 256 := by simp
        rw [this]; omega
    obtain ⟨a, ha⟩ : ∃ a, a = m + 1 := ⟨_, rfl⟩
    rw [← ha] at hix
    have HIX := Lib.hid hix
    have a1 : (m : Int) + 1 = (a : Int) := by omega
    have hl1 : (m : Int) < (s.size : Int) := by omega
    have hl3 : m < s.size := by omega
    have hl4 : a ≤ s.size := by omega
    have hl5 : (0 : Int) ≤ (a : Int) ∧ (a : Int) ≤ (s.size : Int) := by omega
    have hl7 : (a : Int) ≤ (s.size : Int) := by omega
    have hm9 : (m : Int) ≤ 8 := by omega
    clear hix e4 e2 hsz hm8 hbm hbs hm hbm2 ha
    go_enter Tryz.func84, Tryz.ntmps84
    go_wp2_with (go_at_call 122; refine (validRune_any _ _).mono ?_; rintro e w' ⟨rfl, rfl⟩; rw [hv])
    go_step3
    go_wp2
    go_loopg [9] 0 (fun _ s9 wx => s9 = .int .i64 m ∧ wx = w')
    case atStart => exact ⟨rfl, rfl⟩
    case round =>
      obtain ⟨rfl, rfl⟩ := hrel
      go_wp2
      go_step3
      go_wp2
      go_quiet (fail)
      go_wp2
      go_quiet (exact (indexByte_any _ _ _).mono fun _ _ ⟨h1, h2⟩ => ⟨h1, _, h2.symm⟩)
      simp only [HIX.out]
      go_wp2
      (try simp only [Exit.noGoto_ret, Exit.inBlock, Exit.then])
      go_ret
      exact ⟨rfl, below_drewN (Below.refl _ _) _⟩
/-- the bytes that mixed puts into quotes one by one -/
def quotL : List Int := [32, 9, 38, 60, 61, 47, 35, 92]
theorem quot_at (n : Nat) (h : n < 128) : decide (0 ≤ Lib.indexByte ([32, 9, 38, 60, 61, 47, 35, 92] : List UInt8) n.toUInt8) = quotL.contains (n : Int) := by
  have h := List.all_eq_true.1 (show (List.range 128).all (fun n => decide (0 ≤ Lib.indexByte ([32, 9, 38, 60, 61, 47, 35, 92] : List UInt8) n.toUInt8) == quotL.contains (n : Int)) = true by kernel_rfl) n (List.mem_range.2 h)
  simpa using h
set_option maxHeartbeats 1000000 in
set_option maxRecDepth 100000 in
theorem containsRune_any (r : Int) (w : World) (hv : Lib.validRune r = true) :
    Calls Tryz.prog 119 #[.string ⟨#[32, 9, 38, 60, 61, 47, 35, 92]⟩, .int .i32 r] w fun e w' => e = .returned (.bool (quotL.contains r)) ∧ Below w.heap.size w w' := by
  have h0 : 0 ≤ r := by unfold Lib.validRune at hv; simp at hv; omega
  by_cases h1 : r < 128
  · have H := Lib.hid (fun w => indexRune_ascii ⟨#[32, 9, 38, 60, 61, 47, 35, 92]⟩ r w h0 h1)
    obtain ⟨n, rfl⟩ : ∃ n : Nat, r = n := ⟨r.toNat, by omega⟩
    have HQ := Lib.hid (quot_at n (by omega))
    rw [Int.toNat_natCast] at H
    clear h0 h1 hv
    generalize quotL.contains (n : Int) = qb at *
    obtain ⟨q, hq⟩ : ∃ q, q = Lib.indexByte ([32, 9, 38, 60, 61, 47, 35, 92] : List UInt8) n.toUInt8 := ⟨_, rfl⟩
    have H2 : Hid (∀ w, Calls Tryz.prog 84 #[.string ⟨#[32, 9, 38, 60, 61, 47, 35, 92]⟩, .int .i32 (n : Int)] w fun e w' => e = .returned (.int .i64 q) ∧ w' = w) := fun w => by rw [hq]; exact H.out w
    rw [← hq] at HQ
    clear hq H
    cases qb
    · have d1 : decide (0 ≤ q) = false := HQ.out
      clear HQ
      go_enter Tryz.func119, Tryz.ntmps119
      go_wp2_with fail
      refine (H2.out _).mono ?_
      rintro e w1 ⟨rfl, rfl⟩
      go_wp2_with fail
      go_ret
      exact ⟨rfl, Below.refl _ _⟩
    · have d1 : decide (0 ≤ q) = true := HQ.out
      clear HQ
      go_enter Tryz.func119, Tryz.ntmps119
      go_wp2_with fail
      refine (H2.out _).mono ?_
      rintro e w1 ⟨rfl, rfl⟩
      go_wp2_with fail
      go_ret
      exact ⟨rfl, Below.refl _ _⟩
  · have hq : quotL.contains r = false := by
      unfold quotL; simp; omega
    rw [hq]
    have H := Lib.hid (fun w => indexRune_none8 ⟨#[32, 9, 38, 60, 61, 47, 35, 92]⟩ r w rfl (fun j b hj => by
      have hm := List.mem_iff_getElem?.2 ⟨j, hj⟩
      simp at hm
      rcases hm with rfl | rfl | rfl | rfl | rfl | rfl | rfl | rfl <;> decide) (by omega) hv)
    clear hq h0 h1 hv
    go_enter Tryz.func119, Tryz.ntmps119
    go_wp2_with fail
    refine (H.out _).mono ?_
    rintro e w1 ⟨rfl, hb⟩
    have HB := Lib.hid hb
    clear hb
    go_wp2_with fail
    go_ret
    exact ⟨rfl, HB.out⟩
end Go.Proofs.YtjbcbejedaeedaaGreatDoor
