/- Package tailor: what stands in quotes is read. -/
import Derived.Test.YtchjjfjjcdjjcaaDoorGg
import Derived.Test.YtchjjfjjcdjjcaaDoorGh
import Derived.Test.YtchjjfjjcdjjcaaDoorVe
namespace Go.Proofs.YtchjjfjjcdjjcaaDoor
open Go.RowKit
open PlainAid (bt)

theorem runes_one (n : Nat) (W : World) (r : Int) (t : TypeId) (h : n ≤ W.heap.size) : Runes n (W.alloc (.cells #[.int .i32 r] t)) (.slice (some ⟨W.heap.size, 0, none⟩) 1 1) [r] := by
  refine ⟨_, _, rfl, ⟨Nat.le_refl _, by decide⟩, fun i x hx => ?_⟩
  cases i with
  | zero => cases hx; exact ⟨_, _, rfl, h, by simp, by simp [go_sem]⟩
  | succ i => simp at hx
set_option maxHeartbeats 4000000 in
set_option maxRecDepth 100000 in
theorem quote_any (s : ByteArray) (pb i : Nat) (lv : Value) (w : World) (h : PsAt w pb s i lv) (hi : i < s.size) (hs : s.size ≤ 1000000) (h39 : bt s i = 39) (hb : BD s i = none) :
    Calls Tryd.prog 56 #[.pointer (some ⟨pb, 0, none⟩)] w fun e w' => Only (fun k => k = pb) w w' ∧
      ((∃ x m v, quoT s i = some (x, m) ∧ e = .returned v ∧ Runes w.heap.size w' v x ∧ PsAt w' pb s (i + m) lv) ∨ (quoT s i = none ∧ e = .panicked (chainT i 100))) := by
  have hq := qE_is s (i + 1) (by omega)
  have HQE : Hid (qE s (i + 1) = if Lib.indexAny (s.data.toList.drop (i + 1)) [39, 10] < 0 then s.size else i + 1 + (Lib.indexAny (s.data.toList.drop (i + 1)) [39, 10]).toNat) := rfl
  have HQT : Hid (quoT s i = if qE s (i + 1) < s.size ∧ bt s (qE s (i + 1)) = 39 then some (if qE s (i + 1) = i + 1 then [39] else dTo s (i + 1) (qE s (i + 1)), qE s (i + 1) + 1 - i) else none) := rfl
  have HPI := fun J (h1 : J ≤ s.size) (h2 : i + 1 ≤ J) (h3 : J < s.size → bt s J < 128) => piece_is s (i + 1) J h1 h2 (bd_next hb hi (by omega)) h3
  have hbt := PlainAid.get_bt s
  obtain ⟨c0, c1, c2, cf, hpl⟩ := h.cells
  have f1 := cf 1
  have HP := Lib.hid h
  have hia := fun (w : World) => indexAny_any (s.extract (i + 1) s.size) ⟨#[39, 10]⟩ w rfl (by rw [size_extract' s (i + 1) s.size (Nat.le_refl _) (by omega)]; omega) (by
    intro j b hj
    have : b = 39 ∨ b = 10 := by
      have hm := List.mem_iff_getElem?.2 ⟨j, hj⟩
      simpa using hm
    rcases this with rfl | rfl <;> decide)
  rw [Lib.extract_to_end] at hia
  obtain ⟨J, hJ⟩ : ∃ J, qE s (i + 1) = J := ⟨_, rfl⟩
  rw [hJ] at hq HQE HQT
  obtain ⟨q1, q2, q3, q4⟩ := hq
  have hql : ∀ n : Nat, Lib.indexAny (s.data.toList.drop (i + 1)) [39, 10] = n → i + 1 + n < s.size := by
    intro n hn
    obtain ⟨_, x, h2, _⟩ := qe_yes hn
    rw [list_bt] at h2
    refine Nat.lt_of_not_le fun hle => ?_
    rw [if_neg (by omega)] at h2; cases h2
  have HQL := Lib.hid hql
  clear hql
  generalize Lib.indexAny (s.data.toList.drop (i + 1)) [39, 10] = q at *
  have HK : Hid (∀ V : World, Below w.heap.size w V → V.cell? ⟨pb, 0, none⟩ = some (.string s) ∧ V.cell? ⟨pb, 1, none⟩ = some (.int .i64 (i : Nat)) ∧ V.frozen? ⟨pb, 1, none⟩ = false) :=
    fun V hV => ⟨(hV.cell (p := ⟨pb, 0, none⟩) hpl).trans c0, (hV.cell (p := ⟨pb, 1, none⟩) hpl).trans c1, (hV.frozen (p := ⟨pb, 1, none⟩) hpl).trans f1⟩
  have HQ4 := Lib.hid q4
  clear h cf hJ q3 q4 hb
  obtain ⟨a, ha⟩ : ∃ a, a = i + 1 := ⟨_, rfl⟩
  have a1 : (i : Int) + 1 = (a : Int) := by omega
  have has : a ≤ s.size := by omega
  have sl1 : (0 : Int) ≤ (a : Int) ∧ (a : Int) ≤ (s.size : Int) := by omega
  rw [← ha] at hia HQE HQT HPI q1
  have HA := Lib.hid ha
  clear ha
  by_cases hneg : q < 0
  · have HE : Hid (quoT s i = none) := by
      show _ = _
      have := HQE.out
      rw [if_pos hneg] at this
      rw [HQT.out, this, if_neg (by omega)]
    have g1 : decide (0 ≤ q) = false := decide_eq_false (by omega)
    have g2 : ¬ 0 ≤ q := by omega
    clear HQ4 HPI
    go_enter Tryd.func56, Tryd.ntmps56
    go_wp2_with (first | (go_at_call 68; refine (hia _).mono ?_; rintro e w5 ⟨rfl, hb5⟩) | (go_at_call 36; refine (must_no _ _ _).mono ?_; rintro e w' ⟨rfl, rfl⟩))
    exact ⟨rfl, (Only.refl _ w).below hb5, .inr ⟨HE.out, rfl⟩⟩
  · obtain ⟨n, rfl⟩ : ∃ n : Nat, q = n := ⟨q.toNat, by omega⟩
    have HJ0 : Hid (J = a + n) := by have := HQE.out; rwa [if_neg hneg, Int.toNat_natCast] at this
    have j1 : (a : Int) + (n : Int) = (J : Int) := by have := HJ0.out; omega
    have hn0 : n ≤ s.size := by omega
    have hJs : J < s.size := by have := HQL.out n rfl; have := HJ0.out; have := HA.out; omega
    clear HQE hneg HQL
    · have hj2 : (0 : Int) ≤ (J : Int) ∧ (J : Int) < (s.size : Int) := by omega
      by_cases hc : bt s J = 39
      · have g1 : (bt s J == 39) = true := by simpa using hc
        have hpi := HPI J q2 q1 (fun _ => by omega)
        have HPI2 := Lib.hid hpi
        have hdz : ∀ w : World, Calls Tryd.prog 69 #[.string (s.extract a J)] w (DecPost (s.extract a J) w) := fun w => uDecode_any _ _ (by rw [size_extract' s a J q2 q1]; omega)
        have HD := Lib.hid hdz
        clear hdz hpi
        have HO : Hid (∀ V V' : World, Below w.heap.size w V → Below V.heap.size (V.setCell ⟨pb, 1, none⟩ (.int .i64 ((J + 1 : Nat) : Int))) V' → Only (fun k => k = pb) w V' ∧ PsAt V' pb s (J + 1) lv ∧ V'.cell? ⟨pb, 0, none⟩ = some (.string s)) := by
          intro V V' h1 h2
          have hp1 := (HP.out.below h1).go (J + 1)
          have h2' : Below (V.setCell ⟨pb, 1, none⟩ (.int .i64 ((J + 1 : Nat) : Int))).heap.size (V.setCell ⟨pb, 1, none⟩ (.int .i64 ((J + 1 : Nat) : Int))) V' := by simpa using h2
          have hp2 := hp1.below h2'
          exact ⟨((Only.below (Only.refl (fun k => k = pb) w) h1).setCell (p := ⟨pb, 1, none⟩) rfl _).below h2', hp2, hp2.cells.1⟩
        have HM : Hid (i + (J + 1 - i) = J + 1) := by show _ = _; have := HA.out; omega
        have e1 : (i : Int) + ((n : Int) + 2) = ((J + 1 : Nat) : Int) := by have := HJ0.out; have := HA.out; omega
        have e2 : (i : Int) + (n : Int) + 2 = ((J + 1 : Nat) : Int) := by omega
        obtain ⟨J1, hJ1⟩ : ∃ J1, J1 = J + 1 := ⟨_, rfl⟩
        rw [← hJ1] at HO HM e1 e2
        have HJ1 := Lib.hid hJ1
        clear hJ1
        by_cases hn : n = 0
        · have hnz : ((n : Int) == 0) = true := by rw [hn]; rfl
          have HE : Hid (quoT s i = some ([39], J + 1 - i)) := by
            show _ = _
            rw [HQT.out, if_pos ⟨hJs, hc⟩, if_pos (by have := HJ0.out; omega)]
          clear hn hc HD HPI2 HPI HQT HQ4
          go_enter Tryd.func56, Tryd.ntmps56
          go_wp2_with (first | (go_at_call 68; refine (hia _).mono ?_; rintro e w5 ⟨rfl, hb5⟩; obtain ⟨v0, v1, v2⟩ := HK.out w5 hb5) | (go_at_call 36; refine (must_ok _ _ _).mono ?_; rintro e w' ⟨rfl, rfl⟩))
          go_ret
          obtain ⟨k1, k2, _⟩ := HO.out w5 _ hb5 (Below.alloc (Below.refl _ _) (by simp) _)
          refine ⟨k1, .inl ⟨_, _, _, HE.out, rfl, ?_, ?_⟩⟩
          · have := runes_one w.heap.size (w5.setCell ⟨pb, 1, none⟩ (.int .i64 J1)) 39 21 (by simp; exact hb5.size)
            simpa using this
          · rw [← HJ1.out, HM.out]; exact k2
        · have hnz : ((n : Int) == 0) = false := by simpa using hn
          have HE : Hid (quoT s i = some (dTo s a J, J + 1 - i)) := by
            show _ = _
            rw [HQT.out, if_pos ⟨hJs, hc⟩, if_neg (by have := HJ0.out; omega)]
          have sl2 : (a : Int) ≤ (J : Int) := by omega
          have sl3 : (0 : Int) ≤ (J : Int) ∧ (J : Int) ≤ (s.size : Int) := by omega
          clear hn hc HPI HQT HQ4
          go_enter Tryd.func56, Tryd.ntmps56
          go_wp2_with (first | (go_at_call 68; refine (hia _).mono ?_; rintro e w5 ⟨rfl, hb5⟩; obtain ⟨v0, v1, v2⟩ := HK.out w5 hb5) | (go_at_call 36; refine (must_ok _ _ _).mono ?_; rintro e w' ⟨rfl, rfl⟩) | (go_at_call 69; refine (HD.out _).mono ?_; rintro e w7 ⟨v, rfl, hr7, hb7⟩))
          go_ret
          obtain ⟨k1, k2, _⟩ := HO.out w5 _ hb5 (by simpa using hb7)
          refine ⟨k1, .inl ⟨_, _, _, HE.out, rfl, ?_, ?_⟩⟩
          · rw [← HPI2.out.2]; exact hr7.mono (by simp; exact hb5.size)
          · rw [← HJ1.out, HM.out]; exact k2
      · have HE : Hid (quoT s i = none) := by
          show _ = _
          rw [HQT.out, if_neg (fun h => hc h.2)]
        have g1 : (bt s J == 39) = false := by simpa using hc
        clear hc HPI HQT HQ4
        go_enter Tryd.func56, Tryd.ntmps56
        go_wp2_with (first | (go_at_call 68; refine (hia _).mono ?_; rintro e w5 ⟨rfl, hb5⟩; obtain ⟨v0, v1, v2⟩ := HK.out w5 hb5) | (go_at_call 36; refine (must_no _ _ _).mono ?_; rintro e w' ⟨rfl, rfl⟩))
        exact ⟨rfl, (Only.refl _ w).below hb5, .inr ⟨HE.out, rfl⟩⟩
end Go.Proofs.YtchjjfjjcdjjcaaDoor
