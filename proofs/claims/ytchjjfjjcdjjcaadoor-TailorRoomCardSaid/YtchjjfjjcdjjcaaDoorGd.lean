/- Package tailor: a sign is read. -/
import Derived.Test.YtchjjfjjcdjjcaaDoorGc
import Derived.Deep.CutRange
namespace Go.Proofs.YtchjjfjjcdjjcaaDoor
open Go.RowKit
open PlainAid (bt)

/-- behind signs '<', at most so many -/
def ltsF (s : ByteArray) : Nat → Nat → Nat
  | 0, e => e
  | n + 1, e => if e < s.size ∧ bt s e = 60 then ltsF s n (e + 1) else e
/-- a sign's end -/
def endS (s : ByteArray) (i : Nat) : Nat := if ltsF s 3 i = i ∧ i < s.size then i + 1 else ltsF s 3 i
theorem ltsF_le (s : ByteArray) : ∀ (n e : Nat), e ≤ s.size → e ≤ ltsF s n e ∧ ltsF s n e ≤ s.size ∧ ltsF s n e ≤ e + n
  | 0, e, h => ⟨Nat.le_refl _, h, Nat.le_refl _⟩
  | n + 1, e, h => by
    rw [ltsF]
    split
    · rename_i c
      have := ltsF_le s n (e + 1) (by omega)
      omega
    · omega
theorem endS_le (s : ByteArray) (i : Nat) (h : i ≤ s.size) : i ≤ endS s i ∧ endS s i ≤ s.size ∧ endS s i ≤ i + 3 := by
  have := ltsF_le s 3 i h
  unfold endS
  split <;> omega
/-- the sign that stands at a place -/
def sgnT (s : ByteArray) (i : Nat) : Option Int := signK (s.extract i (endS s i)).data.toList
/-- whether it may stand there -/
def sgnOk (s : ByteArray) (i : Nat) (reset : Bool) : Bool := (sgnT s i).isSome && (!reset || (sgnT s i).getD 0 == 0)
set_option maxHeartbeats 4000000 in
set_option maxRecDepth 100000 in
theorem sign_any (s : ByteArray) (pb i : Nat) (lv : Value) (reset : Bool) (w : World) (h : PsAt w pb s i lv) (hi : i ≤ s.size) (hs : s.size ≤ 1000000) :
    Calls Tryd.prog 35 #[.pointer (some ⟨pb, 0, none⟩), .bool reset] w fun e w' => Only (fun k => k = pb) w w' ∧
      ((sgnOk s i reset = true ∧ e = .returned (.int .i64 ((sgnT s i).getD 0)) ∧ PsAt w' pb s (endS s i) lv) ∨ (sgnOk s i reset = false ∧ e = .panicked (chainT i 100))) := by
  have hbt := PlainAid.get_bt s
  obtain ⟨c0, c1, c2, cf, hpl⟩ := h.cells
  have f1 := cf 1
  have HP := Lib.hid h
  clear h cf
  go_enter Tryd.func35, Tryd.ntmps35
  go_wp2_with fail
  go_loopw [5] (fun ev wr => ∃ e : Nat, ev = .int .i64 e ∧ (i ≤ e ∧ e ≤ i + 3 ∧ e ≤ s.size ∧ ltsF s (3 - (e - i)) e = ltsF s 3 i) ∧ w = wr) (fun ev _ => i + 3 - (intOf ev).toNat)
  case atStart => exact ⟨i, rfl, ⟨Nat.le_refl _, by omega, hi, by rw [Nat.sub_self]⟩, rfl⟩
  case round =>
    obtain ⟨e, rfl, hr, rfl⟩ := hrel
    have HR := Lib.hid hr
    obtain ⟨h1, h2, h3, h4⟩ := hr
    clear h4
    go_upto_region 2 with fail
    go_cut [36] from 12 to 38 (fun s36 wx => s36 = .bool (decide (e < s.size ∧ e < i + 3 ∧ bt s e = 60)) ∧ w = wx)
    case first =>
      by_cases g1 : e < s.size
      · have d1 : decide ((e : Int) < (s.size : Int)) = true := decide_eq_true (by omega)
        by_cases g2 : e < i + 3
        · have d2 : decide ((e : Int) < (i : Int) + 3) = true := decide_eq_true (by omega)
          by_cases g3 : bt s e = 60
          · have d3 : (bt s e == 60) = true := by simpa using g3
            go_wp2_with fail
            go_meet
            case rel => exact ⟨by rw [decide_eq_true ⟨g1, g2, g3⟩], rfl⟩
          · have d3 : (bt s e == 60) = false := beq_eq_false_iff_ne.2 g3
            go_wp2_with fail
            go_meet
            case rel => exact ⟨by rw [decide_eq_false (fun h => g3 h.2.2)], rfl⟩
        · have d2 : decide ((e : Int) < (i : Int) + 3) = false := decide_eq_false (by omega)
          go_wp2_with fail
          go_meet
          case rel => exact ⟨by rw [decide_eq_false (fun h => g2 h.2.1)], rfl⟩
      · have d1 : decide ((e : Int) < (s.size : Int)) = false := decide_eq_false (by omega)
        go_wp2_with fail
        go_meet
        case rel => exact ⟨by rw [decide_eq_false (fun h => g1 h.1)], rfl⟩
    case rest =>
    obtain ⟨rfl, rfl⟩ := hcut
    by_cases hc : e < s.size ∧ e < i + 3 ∧ bt s e = 60
    · have HN : Hid (ltsF s (3 - (e + 1 - i)) (e + 1) = ltsF s 3 i) := by
        have h5 := HR.out.2.2.2
        rw [show 3 - (e - i) = (3 - (e + 1 - i)) + 1 by omega, ltsF, if_pos ⟨hc.1, hc.2.2⟩] at h5
        exact h5
      have g1 := hc.1
      have g2 := hc.2.1
      rw [decide_eq_true hc]
      clear hc
      go_wp2_with fail
      go_roundw
      case rel => exact ⟨e + 1, by go_num, ⟨by omega, by omega, by omega, HN.out⟩, by first | trivial | rfl⟩
      case measure => (simp [intOf]; omega)
    have HF : e = ltsF s 3 i := by
      have h5 := HR.out.2.2.2
      cases hq : 3 - (e - i) with
      | zero => rw [hq] at h5; exact h5
      | succ n =>
        rw [hq, ltsF, if_neg (fun h => hc ⟨h.1, by omega, h.2⟩)] at h5; exact h5
    rw [decide_eq_false hc]
    rw [HF] at *
    clear HF hc h1 h2 h3 HR
    have hlt3 := ltsF_le s 3 i hi
    have HKP : Hid (∀ V : World, Below w.heap.size w V → V.cell? ⟨pb, 0, none⟩ = some (.string s) ∧ V.cell? ⟨pb, 1, none⟩ = some (.int .i64 (i : Nat)) ∧ Below w.heap.size w V) := fun V hV => ⟨(hV.cell (p := ⟨pb, 0, none⟩) hpl).trans c0, (hV.cell (p := ⟨pb, 1, none⟩) hpl).trans c1, hV⟩
    have HED : Hid (endS s i = if ltsF s 3 i = i ∧ i < s.size then i + 1 else ltsF s 3 i) := rfl
    by_cases hz : ltsF s 3 i = i ∧ i < s.size
    · obtain ⟨z1, z2⟩ := hz
      have HEN0 : endS s i = i + 1 := HED.out.trans (if_pos ⟨z1, z2⟩)
      rw [z1] at hlt3 ⊢
      have d1 : ((i : Int) == (i : Int)) = true := by simp
      have d2 : decide ((i : Int) < (s.size : Int)) = true := decide_eq_true (by omega)
      clear HED
      go_wp2_with fail
      obtain ⟨E, hE⟩ : ∃ E, E = i + 1 := ⟨_, rfl⟩
      have HEN : Hid (endS s i = E) := HEN0.trans hE.symm
      rw [show ((i : Int) + 1) = (E : Int) from by omega]
      clear HEN0 hE
      have hel := endS_le s i hi
      have HSG : Hid (sgnT s i = signK (s.extract i (endS s i)).data.toList) := rfl
      have HOKK : Hid (sgnOk s i reset = ((sgnT s i).isSome && (!reset || (sgnT s i).getD 0 == 0))) := rfl
      have hxs : (s.extract i (endS s i)).size ≤ maxLen := by
        rw [size_extract' s i (endS s i) hel.2.1 hel.1]; unfold maxLen; omega
      rw [HEN.out] at hxs HSG hel
      have sl1 : 0 ≤ (E : Int) ∧ (E : Int) ≤ (s.size : Int) := by omega
      have sl2 : (i : Int) ≤ (E : Int) := by omega
      have hEs : E ≤ s.size := hel.2.1
      have hiE : i ≤ E := hel.1
      go_region_held (fun V : World => V.cell? ⟨pb, 0, none⟩ = some (.string s) ∧ V.cell? ⟨pb, 1, none⟩ = some (.int .i64 (i : Nat)) ∧ Below w.heap.size w V) (first | assumption | exact ⟨c0, c1, (Below.refl _ w).drew⟩ | exact HKP.out _ (by first | assumption | exact (Below.refl _ w).drew.trans (by assumption))) ((refine (kinds_any _).mono ?_; rintro e w5 ⟨rfl, hk5, hb5⟩; have hlk : (Instr.lookup 96 (.map (some w.heap.size)) (.string (s.extract i E)) true).run Tryd.prog w5 = .ok (.tuple #[.int .i64 ((sgnT s i).getD 0), .bool (sgnT s i).isSome]) w5 := (by rw [HSG.out]; exact hk5.look _ hxs); have HB5 : Hid (Below w.heap.size w w5) := (Below.refl _ w).drew.trans hb5))
      have HP5 : Hid (PsAt w5 pb s i lv) := HP.out.below HB5.out
      have HO : Hid (Only (fun k => k = pb) w w5) := (Only.refl _ w).below HB5.out
      obtain ⟨k0, k1, k2, kf, _⟩ := HP5.out.cells
      have kf1 := kf 1
      generalize hkk : (sgnT s i).getD 0 = kk at *
      have HKK := Lib.hid hkk
      clear hkk
      generalize (sgnT s i).isSome = q1 at *
      clear kf hlk hk5 hb5 HKP
      cases q1 with
      | false =>
        go_wp2_with (go_at_call 36; refine (must_no _ _ _).mono ?_; rintro e w' ⟨rfl, rfl⟩)
        exact ⟨rfl, HO.out, .inr ⟨by rw [HOKK.out]; simp [*], rfl⟩⟩
      | true =>
        cases reset with
        | false =>
          go_wp2_with (go_at_call 36; refine (must_ok _ _ _).mono ?_; rintro e w' ⟨rfl, rfl⟩)
          go_ret
          exact ⟨HO.out.setCell rfl _, .inl ⟨by rw [HOKK.out]; simp, by rw [HKK.out]; rfl, by rw [HEN.out]; exact HP5.out.go E⟩⟩
        | true =>
          by_cases hk0 : kk = 0
          · subst hk0
            go_wp2_with (go_at_call 36; refine (must_ok _ _ _).mono ?_; rintro e w' ⟨rfl, rfl⟩)
            go_ret
            exact ⟨HO.out.setCell rfl _, .inl ⟨by rw [HOKK.out]; simp, by rw [HKK.out]; rfl, by rw [HEN.out]; exact HP5.out.go E⟩⟩
          · have hk1 : (kk == 0) = false := beq_eq_false_iff_ne.2 hk0
            go_wp2_with (go_at_call 36; refine (must_no _ _ _).mono ?_; rintro e w' ⟨rfl, rfl⟩)
            exact ⟨rfl, HO.out, .inr ⟨by rw [HOKK.out]; simp [*], rfl⟩⟩
    · have HEN0 : endS s i = ltsF s 3 i := HED.out.trans (if_neg hz)
      obtain ⟨E, hE⟩ : ∃ E, E = ltsF s 3 i := ⟨_, rfl⟩
      have HEN : Hid (endS s i = E) := HEN0.trans hE.symm
      rw [← hE] at hlt3 hz ⊢
      clear HEN0 hE HED
      by_cases hz1 : E = i
      · have d1 : ((E : Int) == (i : Int)) = true := by rw [hz1]; simp
        have d2 : decide ((E : Int) < (s.size : Int)) = false := decide_eq_false (by omega)
        have d3 : decide (E < s.size) = false := decide_eq_false (by omega)
        clear hz1 hz
        go_wp2_with fail
        have hel := endS_le s i hi
        have HSG : Hid (sgnT s i = signK (s.extract i (endS s i)).data.toList) := rfl
        have HOKK : Hid (sgnOk s i reset = ((sgnT s i).isSome && (!reset || (sgnT s i).getD 0 == 0))) := rfl
        have hxs : (s.extract i (endS s i)).size ≤ maxLen := by
          rw [size_extract' s i (endS s i) hel.2.1 hel.1]; unfold maxLen; omega
        rw [HEN.out] at hxs HSG hel
        have sl1 : 0 ≤ (E : Int) ∧ (E : Int) ≤ (s.size : Int) := by omega
        have sl2 : (i : Int) ≤ (E : Int) := by omega
        have hEs : E ≤ s.size := hel.2.1
        have hiE : i ≤ E := hel.1
        go_region_held (fun V : World => V.cell? ⟨pb, 0, none⟩ = some (.string s) ∧ V.cell? ⟨pb, 1, none⟩ = some (.int .i64 (i : Nat)) ∧ Below w.heap.size w V) (first | assumption | exact ⟨c0, c1, (Below.refl _ w).drew⟩ | exact HKP.out _ (by first | assumption | exact (Below.refl _ w).drew.trans (by assumption))) ((refine (kinds_any _).mono ?_; rintro e w5 ⟨rfl, hk5, hb5⟩; have hlk : (Instr.lookup 96 (.map (some w.heap.size)) (.string (s.extract i E)) true).run Tryd.prog w5 = .ok (.tuple #[.int .i64 ((sgnT s i).getD 0), .bool (sgnT s i).isSome]) w5 := (by rw [HSG.out]; exact hk5.look _ hxs); have HB5 : Hid (Below w.heap.size w w5) := (Below.refl _ w).drew.trans hb5))
        have HP5 : Hid (PsAt w5 pb s i lv) := HP.out.below HB5.out
        have HO : Hid (Only (fun k => k = pb) w w5) := (Only.refl _ w).below HB5.out
        obtain ⟨k0, k1, k2, kf, _⟩ := HP5.out.cells
        have kf1 := kf 1
        generalize hkk : (sgnT s i).getD 0 = kk at *
        have HKK := Lib.hid hkk
        clear hkk
        generalize (sgnT s i).isSome = q1 at *
        clear kf hlk hk5 hb5 HKP
        cases q1 with
        | false =>
          go_wp2_with (go_at_call 36; refine (must_no _ _ _).mono ?_; rintro e w' ⟨rfl, rfl⟩)
          exact ⟨rfl, HO.out, .inr ⟨by rw [HOKK.out]; simp [*], rfl⟩⟩
        | true =>
          cases reset with
          | false =>
            go_wp2_with (go_at_call 36; refine (must_ok _ _ _).mono ?_; rintro e w' ⟨rfl, rfl⟩)
            go_ret
            exact ⟨HO.out.setCell rfl _, .inl ⟨by rw [HOKK.out]; simp, by rw [HKK.out]; rfl, by rw [HEN.out]; exact HP5.out.go E⟩⟩
          | true =>
            by_cases hk0 : kk = 0
            · subst hk0
              go_wp2_with (go_at_call 36; refine (must_ok _ _ _).mono ?_; rintro e w' ⟨rfl, rfl⟩)
              go_ret
              exact ⟨HO.out.setCell rfl _, .inl ⟨by rw [HOKK.out]; simp, by rw [HKK.out]; rfl, by rw [HEN.out]; exact HP5.out.go E⟩⟩
            · have hk1 : (kk == 0) = false := beq_eq_false_iff_ne.2 hk0
              go_wp2_with (go_at_call 36; refine (must_no _ _ _).mono ?_; rintro e w' ⟨rfl, rfl⟩)
              exact ⟨rfl, HO.out, .inr ⟨by rw [HOKK.out]; simp [*], rfl⟩⟩
      · have d1 : ((E : Int) == (i : Int)) = false := beq_eq_false_iff_ne.2 (by omega)
        clear hz
        go_wp2_with fail
        have hel := endS_le s i hi
        have HSG : Hid (sgnT s i = signK (s.extract i (endS s i)).data.toList) := rfl
        have HOKK : Hid (sgnOk s i reset = ((sgnT s i).isSome && (!reset || (sgnT s i).getD 0 == 0))) := rfl
        have hxs : (s.extract i (endS s i)).size ≤ maxLen := by
          rw [size_extract' s i (endS s i) hel.2.1 hel.1]; unfold maxLen; omega
        rw [HEN.out] at hxs HSG hel
        have sl1 : 0 ≤ (E : Int) ∧ (E : Int) ≤ (s.size : Int) := by omega
        have sl2 : (i : Int) ≤ (E : Int) := by omega
        have hEs : E ≤ s.size := hel.2.1
        have hiE : i ≤ E := hel.1
        go_region_held (fun V : World => V.cell? ⟨pb, 0, none⟩ = some (.string s) ∧ V.cell? ⟨pb, 1, none⟩ = some (.int .i64 (i : Nat)) ∧ Below w.heap.size w V) (first | assumption | exact ⟨c0, c1, (Below.refl _ w).drew⟩ | exact HKP.out _ (by first | assumption | exact (Below.refl _ w).drew.trans (by assumption))) ((refine (kinds_any _).mono ?_; rintro e w5 ⟨rfl, hk5, hb5⟩; have hlk : (Instr.lookup 96 (.map (some w.heap.size)) (.string (s.extract i E)) true).run Tryd.prog w5 = .ok (.tuple #[.int .i64 ((sgnT s i).getD 0), .bool (sgnT s i).isSome]) w5 := (by rw [HSG.out]; exact hk5.look _ hxs); have HB5 : Hid (Below w.heap.size w w5) := (Below.refl _ w).drew.trans hb5))
        have HP5 : Hid (PsAt w5 pb s i lv) := HP.out.below HB5.out
        have HO : Hid (Only (fun k => k = pb) w w5) := (Only.refl _ w).below HB5.out
        obtain ⟨k0, k1, k2, kf, _⟩ := HP5.out.cells
        have kf1 := kf 1
        generalize hkk : (sgnT s i).getD 0 = kk at *
        have HKK := Lib.hid hkk
        clear hkk
        generalize (sgnT s i).isSome = q1 at *
        clear kf hlk hk5 hb5 HKP
        cases q1 with
        | false =>
          go_wp2_with (go_at_call 36; refine (must_no _ _ _).mono ?_; rintro e w' ⟨rfl, rfl⟩)
          exact ⟨rfl, HO.out, .inr ⟨by rw [HOKK.out]; simp [*], rfl⟩⟩
        | true =>
          cases reset with
          | false =>
            go_wp2_with (go_at_call 36; refine (must_ok _ _ _).mono ?_; rintro e w' ⟨rfl, rfl⟩)
            go_ret
            exact ⟨HO.out.setCell rfl _, .inl ⟨by rw [HOKK.out]; simp, by rw [HKK.out]; rfl, by rw [HEN.out]; exact HP5.out.go E⟩⟩
          | true =>
            by_cases hk0 : kk = 0
            · subst hk0
              go_wp2_with (go_at_call 36; refine (must_ok _ _ _).mono ?_; rintro e w' ⟨rfl, rfl⟩)
              go_ret
              exact ⟨HO.out.setCell rfl _, .inl ⟨by rw [HOKK.out]; simp, by rw [HKK.out]; rfl, by rw [HEN.out]; exact HP5.out.go E⟩⟩
            · have hk1 : (kk == 0) = false := beq_eq_false_iff_ne.2 hk0
              go_wp2_with (go_at_call 36; refine (must_no _ _ _).mono ?_; rintro e w' ⟨rfl, rfl⟩)
              exact ⟨rfl, HO.out, .inr ⟨by rw [HOKK.out]; simp [*], rfl⟩⟩
end Go.Proofs.YtchjjfjjcdjjcaaDoor
