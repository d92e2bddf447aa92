/- The reference of chapter 8: what stands ahead of a byte, between blanks, in digits: walked. The reference of chapter 8: words, code points: walked. The reference of chapter 8: elements, an entry's line: walked. Plain: a line of a table's text, as the reference of chapter 8 reads it, says what the program's way says. The reference of chapter 8: what stands behind a word: walked. The reference of chapter 8: what its reader holds; a range is read, and put in order. -/
import Derived.Test.YtjbcbejedaeedaaGreatDoorAg
import Derived.Test.YtjbcbejedaeedaaGreatDoorAw
import Derived.Test.YtjbcbejedaeedaaGreatDoorAr
import Derived.Test.YtjbcbejedaeedaaGreatDoorAh
import Derived.Test.YtjbcbejedaeedaaGreatDoorWi
import Derived.Test.YtjbcbejedaeedaaGreatDoorDa
import Derived.Test.YtjbcbejedaeedaaGreatDoorEi
import Derived.Test.YtjbcbejedaeedaaGreatDoorHeldS
import Derived.Deep.AppendLies
/-! The reference of chapter 8: what stands ahead of a byte, between blanks, in digits: walked. -/
namespace Go.Proofs.YtjbcbejedaeedaaGreatDoor
open Go.RowKit
open PlainAid (bt)

set_option maxRecDepth 100000 in
theorem rblank_any (c : Int) (w : World) : Calls Tryz.prog 56 #[.int .u8 c] w fun e w' => e = .returned (.bool (decide (c = 32 ∨ c = 9))) ∧ w = w' := by
  by_cases h0 : c = 32
  · subst h0
    go_enter Tryz.func56, Tryz.ntmps56
    go_wp2
    go_ret
    exact ⟨rfl, rfl⟩
  · by_cases h1 : c = 9
    · subst h1
      go_enter Tryz.func56, Tryz.ntmps56
      go_wp2
      go_ret
      exact ⟨rfl, rfl⟩
    · have g0 : (c == 32) = false := beq_eq_false_iff_ne.2 h0
      have g1 : (c == 9) = false := beq_eq_false_iff_ne.2 h1
      have HE : Hid (decide (c = 32 ∨ c = 9) = false) := decide_eq_false (by omega)
      clear h0 h1
      go_enter Tryz.func56, Tryz.ntmps56
      go_wp2
      go_ret
      exact ⟨by rw [HE.out] <;> rfl, rfl⟩
theorem blk_bt (b : UInt8) : blk b = decide ((b.toNat : Int) = 32 ∨ (b.toNat : Int) = 9) := by
  rw [Bool.eq_iff_iff, decide_eq_true_eq]
  unfold blk
  simp only [List.contains_cons, List.contains_nil, Bool.or_false, Bool.or_eq_true, beq_iff_eq]
  constructor
  · rintro (h | h) <;> (subst h; simp)
  · rintro (h | h)
    · left; apply UInt8.toNat_inj.1; have : b.toNat = 32 := by omega
      rw [this]; rfl
    · right; apply UInt8.toNat_inj.1; have : b.toNat = 9 := by omega
      rw [this]; rfl
theorem rblankY (s : ByteArray) (k : Nat) (b : UInt8) (h : bt s k = (b.toNat : Int)) (hb : blk b = true) (w : World) : Calls Tryz.prog 56 #[.int .u8 (bt s k)] w fun e w' => e = .returned (.bool true) ∧ w = w' := by
  have := rblank_any (bt s k) w
  rwa [h, ← blk_bt, hb, ← h] at this
theorem rblankN (s : ByteArray) (k : Nat) (b : UInt8) (h : bt s k = (b.toNat : Int)) (hb : blk b = false) (w : World) : Calls Tryz.prog 56 #[.int .u8 (bt s k)] w fun e w' => e = .returned (.bool false) ∧ w = w' := by
  have := rblank_any (bt s k) w
  rwa [h, ← blk_bt, hb, ← h] at this
set_option maxHeartbeats 4000000 in
set_option maxRecDepth 100000 in
theorem rcut_any (s : ByteArray) (c : UInt8) (n : Int) (hn : n = (c.toNat : Int)) (w : World) (hs : s.size ≤ 1000000000) :
    Calls Tryz.prog 24 #[.string s, .int .u8 n] w fun e w' => e = .returned (.tuple #[.string (mkB (Lib.cut s.data.toList [c]).1), .string (mkB (Lib.cut s.data.toList [c]).2.1), .bool (Lib.cut s.data.toList [c]).2.2]) ∧ Below w.heap.size w w' := by
  have hbt := PlainAid.get_bt s
  have HN := Lib.hid hn
  clear hn
  go_enter Tryz.func24, Tryz.ntmps24
  go_wp2_with fail
  go_loopw [7] (fun iv wr => ∃ k : Nat, iv = .int .i64 k ∧ k ≤ s.size ∧ (∀ j b, j < k → s.data.toList[j]? = some b → b ≠ c) ∧ Below w.heap.size w wr) (fun iv _ => s.size - (intOf iv).toNat)
  case atStart => exact ⟨0, rfl, Nat.zero_le _, fun j b hj => absurd hj (Nat.not_lt_zero _), Below.refl _ _⟩
  case round =>
    obtain ⟨k, rfl, hk, hd, hbr⟩ := hrel
    have HD := Lib.hid hd
    have HB := Lib.hid hbr
    clear hd hbr
    by_cases hlt : k < s.size
    · have b0 := PlainAid.bt_nonneg s k
      have b1 := PlainAid.bt_le s k
      have q1 : (k : Int) < (s.size : Int) := by omega
      obtain ⟨b, hc1, hc2⟩ := at_bt s k hlt
      have HC := Lib.hid (And.intro hc1 hc2)
      clear hc1 hc2
      by_cases d0 : bt s k = n
      · have g1 : (bt s k == n) = true := by rw [d0]; simp
        have HE : Hid (Lib.cut s.data.toList [c] = (s.data.toList.take k, s.data.toList.drop (k + 1), true)) := cut_at _ _ _ (by
          have h1 := HC.out.2
          have h2 := HN.out
          have : b = c := UInt8.toNat_inj.1 (by omega)
          rw [← this]; exact HC.out.1) (fun j x hj hx => HD.out j x hj hx)
        have HX1 : Hid (s.extract 0 k = mkB (s.data.toList.take k)) := extract_take s k
        have HX2 : Hid (s.extract (k + 1) s.size = mkB (s.data.toList.drop (k + 1))) := by
          show _ = _
          rw [← mkB_data (s.extract (k + 1) s.size), Lib.extract_to_end]
        clear HD HC d0
        go_wp2_with fail
        go_quiet (fail)
        go_wp2_with fail
        go_ret3
        exact ⟨by rw [HE.out, ← HX1.out, ← HX2.out] <;> rfl, HB.out.trans ((below_drewQ _ _).mono HB.out.size)⟩
      · have g1 : (bt s k == n) = false := beq_eq_false_iff_ne.2 d0
        go_wp2_with fail
        go_roundw
        case rel =>
          refine ⟨k + 1, by go_num, hlt, fun j b hj hb he => ?_, HB.out⟩
          by_cases h : j = k
          · subst h; rw [HC.out.1] at hb; cases hb; subst he; exact d0 (by rw [HC.out.2, HN.out])
          · exact HD.out j b (by omega) hb he
        case measure => (simp [intOf]; omega)
    · have q1 : ¬ (k : Int) < (s.size : Int) := by omega
      have HE : Hid (Lib.cut s.data.toList [c] = (s.data.toList, [], false)) := cut_none _ _ (fun x hx => by
        obtain ⟨j, hj⟩ := List.getElem?_of_mem hx
        have h1 := (List.getElem?_eq_some_iff.1 hj).1
        rw [size_data] at h1
        exact HD.out j x (by omega) hj)
      clear HD hlt
      go_wp2_with fail
      go_ret3
      exact ⟨by rw [HE.out]; simp only [mkB_data]; rfl, HB.out⟩
theorem blk_drop1 {l : Bs} {b : UInt8} (h : l[0]? = some b) (hb : blk b = true) : trimW l = trimW (l.drop 1) := by
  cases l with
  | nil => cases h
  | cons c t =>
    simp at h; subst h
    have hd : ∀ (p : Bs), List.dropWhile blk (c :: p) = List.dropWhile blk p := fun p => by rw [List.dropWhile_cons, if_pos hb]
    show trimW (c :: t) = trimW t
    unfold trimW Lib.trimS Lib.trimLeftS Lib.trimRightS
    show List.dropWhile blk (List.dropWhile blk (c :: t).reverse).reverse = List.dropWhile blk (List.dropWhile blk t.reverse).reverse
    rw [List.reverse_cons, List.dropWhile_append]
    split
    · rename_i h
      have h0 : t.reverse.dropWhile blk = [] := List.isEmpty_iff.1 h
      rw [h0, List.dropWhile_cons, if_pos hb]; rfl
    · rw [List.reverse_append]; simp only [List.reverse_cons, List.reverse_nil, List.nil_append, List.singleton_append]; exact hd _
theorem blk_init {m : Bs} {c : UInt8} (hb : blk c = true) : trimW (m ++ [c]) = trimW m := by
  unfold trimW Lib.trimS Lib.trimLeftS Lib.trimRightS
  show List.dropWhile blk (List.dropWhile blk (m ++ [c]).reverse).reverse = List.dropWhile blk (List.dropWhile blk m.reverse).reverse
  rw [List.reverse_append]; simp only [List.reverse_cons, List.reverse_nil, List.nil_append, List.singleton_append]
  rw [List.dropWhile_cons, if_pos hb]
theorem trim_self {l : Bs} {b c : UInt8} (h0 : l[0]? = some b) (hb : blk b = false) (h1 : l[l.length - 1]? = some c) (hc : blk c = false) : trimW l = l := by
  unfold trimW Lib.trimS Lib.trimLeftS Lib.trimRightS
  show List.dropWhile blk (List.dropWhile blk l.reverse).reverse = l
  have e1 : l.reverse.dropWhile blk = l.reverse := by
    cases hr : l.reverse with
    | nil => rfl
    | cons x t =>
      have : l.reverse[0]? = some x := by rw [hr]; rfl
      rw [List.getElem?_reverse (by have := (List.getElem?_eq_some_iff.1 h0).1; omega), show l.length - 1 - 0 = l.length - 1 from by omega, h1] at this
      cases this
      rw [List.dropWhile_cons, if_neg (by rw [hc]; exact Bool.false_ne_true)]
  rw [e1, List.reverse_reverse]
  cases l with
  | nil => rfl
  | cons x t => simp at h0; subst h0; rw [List.dropWhile_cons, if_neg (by rw [hb]; exact Bool.false_ne_true)]
set_option maxHeartbeats 4000000 in
set_option maxRecDepth 100000 in
theorem rtrim_any (s : ByteArray) (w : World) (hs : s.size ≤ 1000000000) :
    Calls Tryz.prog 25 #[.string s] w fun e w' => e = .returned (.string (mkB (trimW s.data.toList))) ∧ w = w' := by
  have HS := Lib.hid hs
  go_enter Tryz.func25, Tryz.ntmps25
  go_wp2_with fail
  go_loopw [0] (fun sv wr => ∃ u : ByteArray, sv = .string u ∧ u.size ≤ s.size ∧ trimW u.data.toList = trimW s.data.toList ∧ w = wr) (fun sv _ => match sv with | .string u => u.size | _ => 0)
  case atStart => exact ⟨s, rfl, Nat.le_refl _, rfl, rfl⟩
  case round =>
    obtain ⟨u, rfl, hus, hu, rfl⟩ := hrel
    have HU := Lib.hid hu
    have hbt := PlainAid.get_bt u
    clear hu
    by_cases h0 : 0 < u.size
    · obtain ⟨b, hc1, hc2⟩ := at_bt u 0 h0
      have b0 := PlainAid.bt_nonneg u 0
      have b1 := PlainAid.bt_le u 0
      have q1 : (u.size : Int) > 0 := by omega
      have HC := Lib.hid (And.intro hc1 hc2)
      have HH0 := Lib.hid h0
      cases hb : blk b with
      | true =>
        have HCA := Lib.hid (rblankY u 0 b hc2 hb)
        have HX2 : Hid ((u.extract 1 u.size).data.toList = u.data.toList.drop 1) := Lib.extract_to_end u 1
        have HT := Lib.hid (blk_drop1 hc1 hb)
        clear hc1 hc2 hb
        go_wp2_with (go_at_call 56; refine (HCA.out _).mono ?_; rintro e w' ⟨rfl, rfl⟩)
        go_roundw
        case rel =>
          have hsz : (u.extract 1 u.size).size = u.size - 1 := by rw [← size_data, HX2.out, List.length_drop, size_data]
          exact ⟨_, rfl, by rw [hsz]; omega, by rw [HX2.out, ← HT.out]; exact HU.out, trivial⟩
        case measure =>
          have hsz : (u.extract 1 u.size).size = u.size - 1 := by rw [← size_data, HX2.out, List.length_drop, size_data]
          show (u.extract 1 u.size).size < u.size
          rw [hsz]; have := HH0.out; omega
      | false =>
        have HCA := Lib.hid (rblankN u 0 b hc2 hb)
        have HBB := Lib.hid (And.intro hc1 hb)
        clear hc1 hc2 hb HC
        go_wp2_with (go_at_call 56; refine (HCA.out _).mono ?_; rintro e w' ⟨rfl, rfl⟩)
        clear hbt b0 b1 q1 h0
        go_loopw [0] (fun sv wr => ∃ v : ByteArray, sv = .string v ∧ v.size ≤ s.size ∧ trimW v.data.toList = trimW s.data.toList ∧ v.data.toList[0]? = some b ∧ w = wr) (fun sv _ => match sv with | .string u => u.size | _ => 0)
        case atStart => exact ⟨u, rfl, hus, HU.out, HBB.out.1, rfl⟩
        case round =>
          clear HCA
          obtain ⟨v, rfl, hvs, hv, hv0, rfl⟩ := hrel
          have hbt := PlainAid.get_bt v
          have hvl := (List.getElem?_eq_some_iff.1 hv0).1
          rw [size_data] at hvl
          obtain ⟨z, hz⟩ : ∃ z, z = v.size - 1 := ⟨_, rfl⟩
          have hz1 : (v.size : Int) - 1 = (z : Int) := by omega
          have hz2 : z < v.size := by omega
          have q1 : (v.size : Int) > 0 := by omega
          obtain ⟨c, hc1, hc2⟩ := at_bt v z hz2
          have b0 := PlainAid.bt_nonneg v z
          have b1 := PlainAid.bt_le v z
          have HV := Lib.hid (And.intro hv (And.intro hv0 (And.intro hc1 hz)))
          clear hv hv0 hc1 hz
          cases hc : blk c with
          | true =>
            have HCA := Lib.hid (rblankY v z c hc2 hc)
            have HX1 : Hid ((v.extract 0 z).data.toList = v.data.toList.take z) := by show _ = _; rw [extract_take, data_mkB]
            have HSP : Hid (v.data.toList = v.data.toList.take z ++ [c]) := by
              show _ = _
              have h1 := take_snocR HV.out.2.2.1
              rw [← h1, List.take_of_length_le]
              rw [size_data]; have := HV.out.2.2.2; omega
            have HCC := Lib.hid hc
            clear hc2 hc
            go_wp2_with (go_at_call 56; refine (HCA.out _).mono ?_; rintro e w' ⟨rfl, rfl⟩)
            go_roundw
            case rel =>
              have hsz : (v.extract 0 z).size = z := by rw [← size_data, HX1.out, List.length_take, size_data]; omega
              refine ⟨_, rfl, by rw [hsz]; omega, ?_, ?_, trivial⟩
              · rw [HX1.out, ← HV.out.1]
                conv => rhs; rw [HSP.out]
                exact (blk_init HCC.out).symm
              · rw [HX1.out, List.getElem?_take_of_lt]
                · exact HV.out.2.1
                · have hne : z ≠ 0 := fun h => by
                    have h1 := HV.out.2.2.1
                    rw [h, HV.out.2.1] at h1
                    cases h1
                    have h2 := HBB.out.2
                    rw [HCC.out] at h2; cases h2
                  omega
            case measure =>
              have hsz : (v.extract 0 z).size = z := by rw [← size_data, HX1.out, List.length_take, size_data]; omega
              show (v.extract 0 z).size < v.size
              rw [hsz]; omega
          | false =>
            have HCA := Lib.hid (rblankN v z c hc2 hc)
            have HF : Hid (mkB (trimW s.data.toList) = v) := by
              show _ = _
              rw [← HV.out.1, trim_self HV.out.2.1 HBB.out.2 (by rw [size_data, ← HV.out.2.2.2]; exact HV.out.2.2.1) hc, mkB_data]
            clear hc2 hc
            go_wp2_with (go_at_call 56; refine (HCA.out _).mono ?_; rintro e w' ⟨rfl, rfl⟩)
            go_ret
            exact ⟨by rw [HF.out] <;> rfl, rfl⟩
    · have q1 : ¬ (u.size : Int) > 0 := by omega
      have HF : Hid (mkB (trimW s.data.toList) = u) := by
        show _ = _
        have hn : u.data.toList = [] := List.eq_nil_of_length_eq_zero (by rw [size_data]; omega)
        rw [← HU.out, hn, ← mkB_data u, hn]; rfl
      clear h0
      go_wp2_with fail
      refine wp_loop_rounds 1 ?_
      rw [rounds_succ]
      go_wp2_with fail
      go_ret
      exact ⟨by rw [HF.out] <;> rfl, rfl⟩
/-- a digit's value, -1: none -/
def vx (c : Int) : Int := if hvB c then hv c else -1
set_option maxRecDepth 100000 in
theorem rvalue_any (c : Int) (h0 : 0 ≤ c) (h1 : c ≤ 255) (w : World) :
    Calls Tryz.prog 131 #[.int .u8 c] w fun e w' => e = .returned (.int .i64 (vx c)) ∧ w = w' := by
  by_cases a1 : 48 ≤ c ∧ c ≤ 57
  · obtain ⟨a1, a2⟩ := a1
    have HE : Hid (vx c = c - 48) := by show _ = _; unfold vx hvB hv; simp [a1, a2]
    go_enter Tryz.func131, Tryz.ntmps131
    go_wp2
    go_ret
    exact ⟨by rw [HE.out] <;> rfl, rfl⟩
  · by_cases a3 : 65 ≤ c ∧ c ≤ 70
    · obtain ⟨a3, a4⟩ := a3
      have a5 : ¬ c ≤ 57 := by omega
      have HE : Hid (vx c = c - 65 + 10) := by
        show _ = _
        unfold vx hvB hv
        rw [if_pos (by simp [a3, a4]), if_neg (by omega), if_pos ⟨a3, a4⟩]; omega
      go_enter Tryz.func131, Tryz.ntmps131
      go_wp2
      go_ret
      exact ⟨by rw [HE.out] <;> rfl, rfl⟩
    · have HE : Hid (vx c = -1) := by
        show _ = _
        unfold vx
        rw [if_neg]
        unfold hvB; simp; omega
      by_cases a5 : 48 ≤ c
      · have a6 : ¬ c ≤ 57 := by omega
        by_cases a7 : 65 ≤ c
        · have a8 : ¬ c ≤ 70 := by omega
          go_enter Tryz.func131, Tryz.ntmps131
          go_wp2
          go_ret
          exact ⟨by rw [HE.out] <;> rfl, rfl⟩
        · go_enter Tryz.func131, Tryz.ntmps131
          go_wp2
          go_ret
          exact ⟨by rw [HE.out] <;> rfl, rfl⟩
      · have a7 : ¬ 65 ≤ c := by omega
        go_enter Tryz.func131, Tryz.ntmps131
        go_wp2
        go_ret
        exact ⟨by rw [HE.out] <;> rfl, rfl⟩
set_option maxHeartbeats 400000 in
theorem rpoint8_any (r : Int) (w : World) :
    Calls Tryz.prog 132 #[.int .i32 r] w fun e w' => e = .returned (.bool (pt r)) ∧ w = w' := by
  go_enter Tryz.func132, Tryz.ntmps132
  go_wp2
  all_goals go_ret
  all_goals refine ⟨congrArg (fun b => Ending.returned (.bool b)) ?_, rfl⟩
  all_goals (rw [Bool.eq_iff_iff]; simp [pt]; omega)
theorem vx_yes {c : Int} (h : hvB c = true) : vx c = hv c := by unfold vx; rw [h]; rfl
theorem vx_no {c : Int} (h : hvB c = false) : vx c = -1 := by unfold vx; rw [h]; rfl
theorem numX_in {l : Bs} {lo hi : Nat} (h : lo ≤ l.length ∧ l.length ≤ hi) : numX l lo hi = if l.all hexB = true then some (hexN l) else none := by
  unfold numX
  by_cases ha : l.all hexB = true
  · rw [if_pos ⟨h.1, h.2, ha⟩, if_pos ha]
  · rw [if_neg (fun x => ha x.2.2), if_neg ha]
def numRV (l : Bs) (lo hi : Nat) : Value := match numX l lo hi with | some n => .tuple #[.int .i64 n, .bool true] | none => .tuple #[.int .i64 0, .bool false]
set_option maxHeartbeats 4000000 in
set_option maxRecDepth 100000 in
theorem rnumber_any (s : ByteArray) (lo hi : Nat) (h6 : hi ≤ 6) (hlo : lo ≤ 6) (w : World) (hs : s.size ≤ 1000000000) :
    Calls Tryz.prog 97 #[.string s, .int .i64 lo, .int .i64 hi] w fun e w' => e = .returned (numRV s.data.toList lo hi) ∧ w = w' := by
  have hbt := PlainAid.get_bt s
  by_cases hx : lo ≤ s.size ∧ s.size ≤ hi
  · obtain ⟨x1, x2⟩ := hx
    have g1 : ¬ (s.size : Int) < (lo : Int) := by omega
    have g2 : ¬ (s.size : Int) > (hi : Int) := by omega
    have HNX := Lib.hid (numX_in (l := s.data.toList) (lo := lo) (hi := hi) (by rw [size_data]; exact ⟨x1, x2⟩))
    go_enter Tryz.func97, Tryz.ntmps97
    go_wp2_with fail
    go_loopw [8, 9, 10] (fun nv iv _ wr => ∃ k : Nat, nv = .int .i64 (hexN (s.data.toList.take k)) ∧ iv = .int .i64 k ∧ k ≤ s.size ∧ (∀ j b, j < k → s.data.toList[j]? = some b → hexB b = true) ∧ w = wr) (fun _ iv _ _ => s.size - (intOf iv).toNat)
    case atStart => exact ⟨0, rfl, rfl, Nat.zero_le _, fun j b hj => absurd hj (Nat.not_lt_zero _), rfl⟩
    case round =>
      obtain ⟨k, rfl, rfl, hk, hd, rfl⟩ := hrel
      have HD := Lib.hid hd
      clear hd
      obtain ⟨n, hn⟩ : ∃ n, n = hexN (s.data.toList.take k) := ⟨_, rfl⟩
      have hbd := hexF_bd (s.data.toList.take k) 0 (Int.le_refl _)
      have hkl : (s.data.toList.take k).length = k := by rw [List.length_take, size_data]; omega
      rw [hkl] at hbd
      have hp : (16 : Int) ^ k ≤ 16 ^ 6 := by
        have : k = 0 ∨ k = 1 ∨ k = 2 ∨ k = 3 ∨ k = 4 ∨ k = 5 ∨ k = 6 := by omega
        rcases this with h | h | h | h | h | h | h <;> rw [h] <;> decide
      have n0 : 0 ≤ n := by rw [hn]; exact hbd.1
      have n1 : n ≤ 16777216 := by rw [hn]; have h2 := hbd.2; unfold hexN; omega
      rw [← hn]
      have HN := Lib.hid hn
      clear hn hbd hp hkl
      by_cases hlt : k < s.size
      · have b0 := PlainAid.bt_nonneg s k
        have b1 := PlainAid.bt_le s k
        have q1 : (k : Int) < (s.size : Int) := by omega
        obtain ⟨b, hc1, hc2⟩ := at_bt s k hlt
        have HC := Lib.hid (And.intro hc1 hc2)
        have HCA := Lib.hid (rvalue_any (bt s k) b0 b1)
        clear hc1 hc2
        cases hh : hvB (bt s k) with
        | false =>
          have HNO : Hid (numRV s.data.toList lo hi = .tuple #[.int .i64 0, .bool false]) := by
            show _ = _
            unfold numRV
            rw [HNX.out, if_neg]
            intro h
            have h1 := List.all_eq_true.1 h b (List.mem_of_getElem? HC.out.1)
            unfold hexB at h1
            rw [← HC.out.2, hh] at h1; cases h1
          rw [vx_no hh] at HCA
          clear hh
          go_wp2_with (go_at_call 131; refine (HCA.out _).mono ?_; rintro e w' ⟨rfl, rfl⟩)
          go_ret2
          exact ⟨by rw [HNO.out] <;> rfl, rfl⟩
        | true =>
          have hv1 := hv_bd (bt s k)
          have HHH := Lib.hid hh
          rw [vx_yes hh] at HCA
          have HH2 : Hid (hexN (s.data.toList.take (k + 1)) = 16 * n + hv (bt s k)) := by
            show _ = _
            rw [take_snocR HC.out.1, hexN_snoc, ← HN.out, ← HC.out.2]; omega
          obtain ⟨v0, v1⟩ := hv1
          generalize hv (bt s k) = v at *
          clear hh b0 b1
          go_wp2_with (go_at_call 131; refine (HCA.out _).mono ?_; rintro e w' ⟨rfl, rfl⟩)
          go_roundw
          case rel =>
            refine ⟨k + 1, by rw [HH2.out], by go_num, hlt, fun j b' hj hb => ?_, trivial⟩
            by_cases h : j = k
            · subst h; rw [HC.out.1] at hb; cases hb; unfold hexB; rw [← HC.out.2]; exact HHH.out
            · exact HD.out j b' (by omega) hb
          case measure => (simp [intOf]; omega)
      · have q1 : ¬ (k : Int) < (s.size : Int) := by omega
        have HYES : Hid (numRV s.data.toList lo hi = .tuple #[.int .i64 n, .bool true]) := by
          show _ = _
          unfold numRV
          have h1 : s.data.toList.take k = s.data.toList := List.take_of_length_le (by rw [size_data]; omega)
          rw [HNX.out, if_pos, HN.out, h1]
          rw [List.all_eq_true]
          intro x hx
          obtain ⟨j, hj⟩ := List.getElem?_of_mem hx
          have h2 := (List.getElem?_eq_some_iff.1 hj).1
          rw [size_data] at h2
          exact HD.out j x (by omega) hj
        clear hlt
        go_wp2_with fail
        go_ret2
        exact ⟨by rw [HYES.out] <;> rfl, rfl⟩
  · have HNO : Hid (numRV s.data.toList lo hi = .tuple #[.int .i64 0, .bool false]) := by
      show _ = _
      unfold numRV numX
      rw [if_neg]
      rw [size_data]; rintro ⟨h1, h2, _⟩; exact hx ⟨h1, h2⟩
    by_cases h1 : s.size < lo
    · have g1 : (s.size : Int) < (lo : Int) := by omega
      go_enter Tryz.func97, Tryz.ntmps97
      go_wp2_with fail
      go_ret2
      exact ⟨by rw [HNO.out] <;> rfl, rfl⟩
    · have g1 : ¬ (s.size : Int) < (lo : Int) := by omega
      have g2 : (s.size : Int) > (hi : Int) := by omega
      clear hx
      go_enter Tryz.func97, Tryz.ntmps97
      go_wp2_with fail
      go_ret2
      exact ⟨by rw [HNO.out] <;> rfl, rfl⟩
end Go.Proofs.YtjbcbejedaeedaaGreatDoor
/-! The reference of chapter 8: words, code points: walked. -/
namespace Go.Proofs.YtjbcbejedaeedaaGreatDoor
open Go.RowKit
open PlainAid (bt)

theorem fldB_end : ∀ (x cur : Bs) (b : UInt8), blk b = true → fldB cur (x ++ [b]) = fldB cur x
  | [], cur, b, hb => by
    rw [List.nil_append]
    by_cases h : cur = []
    · subst h; rw [fldB_blk0 b [] hb]
    · rw [fldB_blk cur b [] h hb, fldB_nil cur h]; rfl
  | c :: x, cur, b, hb => by
    rw [List.cons_append, fldB, fldB, fldB_end x [] b hb, fldB_end x (cur ++ [c]) b hb]
theorem fldB_trim (l : Bs) : fldB [] (trimW l) = fldB [] l := by
  unfold trimW Lib.trimS Lib.trimLeftS Lib.trimRightS
  show fldB [] (List.dropWhile blk (List.dropWhile blk l.reverse).reverse) = fldB [] l
  rw [← fldB_skip]
  have key : ∀ m : Bs, fldB [] (List.dropWhile blk m).reverse = fldB [] m.reverse := by
    intro m
    induction m with
    | nil => rfl
    | cons b t ih =>
      cases hb : blk b with
      | false => rw [List.dropWhile_cons, if_neg (by rw [hb]; exact Bool.false_ne_true)]
      | true => rw [List.dropWhile_cons, if_pos hb, ih, List.reverse_cons, fldB_end _ _ _ hb]
  rw [key, List.reverse_reverse]
theorem words_trim (l : Bs) : wordsW (trimW l) = wordsW l := by rw [wordsW_fldB, wordsW_fldB, fldB_trim]
theorem trim_trim (l : Bs) : trimW (trimW l) = trimW l := by
  have key : ∀ m : Bs, List.dropWhile blk (List.dropWhile blk m) = List.dropWhile blk m := by
    intro m
    induction m with
    | nil => rfl
    | cons b t ih =>
      cases hb : blk b with
      | false => rw [List.dropWhile_cons, if_neg (by rw [hb]; exact Bool.false_ne_true), List.dropWhile_cons, if_neg (by rw [hb]; exact Bool.false_ne_true)]
      | true => rw [List.dropWhile_cons, if_pos hb, ih]
  -- by what stands at its ends
  cases h : trimW l with
  | nil => rfl
  | cons b t =>
    have hb : blk b = false := by
      have h1 : (List.dropWhile blk (List.dropWhile blk l.reverse).reverse) = b :: t := h
      cases hb : blk b with
      | false => rfl
      | true =>
        have h2 := key (List.dropWhile blk l.reverse).reverse
        rw [h1, List.dropWhile_cons, if_pos hb] at h2
        have h3 := congrArg List.length h2
        have h4 := (List.dropWhile_sublist (p := blk) (l := t)).length_le
        simp at h3; omega
    obtain ⟨m, c, hmc⟩ : ∃ m c, b :: t = m ++ [c] := ⟨(b :: t).dropLast, (b :: t).getLast (by simp), (List.dropLast_concat_getLast (by simp)).symm⟩
    have hc : blk c = false := by
      cases hc : blk c with
      | false => rfl
      | true =>
        have h1 : (List.dropWhile blk (List.dropWhile blk l.reverse).reverse) = m ++ [c] := h.trans hmc
        -- the last of what is left of the reversed list is nonblank
        have h2 : ∃ y, (List.dropWhile blk l.reverse).reverse = y ++ (m ++ [c]) := by
          have := List.takeWhile_append_dropWhile (p := blk) (l := (List.dropWhile blk l.reverse).reverse)
          rw [h1] at this; exact ⟨_, this.symm⟩
        obtain ⟨y, hy⟩ := h2
        have h3 : List.dropWhile blk l.reverse = c :: (m.reverse ++ y.reverse) := by
          have := congrArg List.reverse hy
          simpa using this
        have h4 := key l.reverse
        rw [h3, List.dropWhile_cons, if_pos hc] at h4
        have h5 := congrArg List.length h4
        have h6 := (List.dropWhile_sublist (p := blk) (l := m.reverse ++ y.reverse)).length_le
        rw [List.length_cons] at h5; omega
    refine trim_self (b := b) (c := c) rfl hb ?_ hc
    rw [hmc]; simp
/-- one word ahead of the rest -/
theorem words_step {u : Bs} {i : Nat} (h0 : 0 < i) (hi : i ≤ u.length) (hx : ∀ j b, j < i → u[j]? = some b → blk b = false) (he : u.drop i = [] ∨ ∃ b t, u.drop i = b :: t ∧ blk b = true) : wordsW u = u.take i :: wordsW (trimW (u.drop i)) := by
  have hn : ∀ b ∈ u.take i, blk b = false := fun b hb => by
    obtain ⟨j, hj⟩ := List.getElem?_of_mem hb
    have h1 := (List.getElem?_eq_some_iff.1 hj).1
    rw [List.length_take] at h1
    rw [List.getElem?_take_of_lt (by omega)] at hj
    exact hx j b (by omega) hj
  have hne : u.take i ≠ [] := fun h => by have := congrArg List.length h; rw [List.length_take, List.length_nil] at this; omega
  rw [words_trim, wordsW_fldB, wordsW_fldB]
  conv => lhs; rw [← List.take_append_drop i u]
  rw [fldB_run _ _ _ hn, List.nil_append]
  rcases he with h | ⟨b, t, h, hb⟩
  · rw [h, fldB_nil _ hne]; rfl
  · rw [h, fldB_blk _ _ _ hne hb, fldB_blk0 _ _ hb]
def WdRel (L : Bs) (N : Nat) (w : World) (u : ByteArray) (ws : List Bs) (ov : Value) (W : World) : Prop :=
  trimW u.data.toList = u.data.toList ∧ wordsW L = ws ++ wordsW u.data.toList ∧ u.size + ws.length ≤ N ∧ W.ownsRow w.heap.size 9 1 ov ws.length (ws.map fun x => .string (mkB x)) ∧ Below w.heap.size w W
/-- how words ends -/
def WordsEnd (L : Bs) (w : World) (e : Ending) (w' : World) : Prop :=
  ∃ v, e = .returned v ∧ w'.ownsRow w.heap.size 9 1 v (wordsW L).length ((wordsW L).map fun x => .string (mkB x)) ∧ Below w.heap.size w w'
set_option maxHeartbeats 4000000 in
set_option maxRecDepth 100000 in
theorem rwords_any (s : ByteArray) (w : World) (hs : s.size ≤ 1000000) :
    Calls Tryz.prog 58 #[.string s] w (WordsEnd s.data.toList w) := by
  have HS := Lib.hid hs
  obtain ⟨i0, hi, hz0, hz1, hz2⟩ := info_parts Tryz.infoS9
  have HT0 := Lib.hid (fun w => rtrim_any s w (by omega))
  clear hs
  go_enter Tryz.func58, Tryz.ntmps58
  go_wp2_with (go_at_call 25; refine (HT0.out _).mono ?_; rintro e w' ⟨rfl, rfl⟩)
  go_loopw [0, 3, 4] (fun sv ov _ wr => ∃ (u : ByteArray) (ws : List Bs), sv = .string u ∧ WdRel s.data.toList 1000000 w u ws ov wr) (fun sv _ _ _ => strLen sv)
  case atStart => exact ⟨_, [], rfl, by rw [data_mkB]; exact trim_trim _, by rw [data_mkB, words_trim]; rfl, by rw [size_mkB]; have := trimW_le s.data.toList; rw [size_data] at this; have := HS.out; simp; omega, World.ownsRow_nil _ _ _ _, Below.refl _ _⟩
  case round =>
    obtain ⟨u, ws, rfl, hr⟩ := hrel
    generalize u3 = ov at *
    have HR := Lib.hid hr
    have hbt := PlainAid.get_bt u
    clear hr
    by_cases hu : u.data.toList = []
    · have hemp : u.toList.isEmpty = true := by rw [Lib.toList_data, hu]; rfl
      have HF : Hid (wordsW s.data.toList = ws) := by
        show _ = _
        have := HR.out.2.1
        rw [hu] at this
        rw [this]; simp [wordsW, wordsF]
      clear hu
      go_wp2_with fail
      go_ret
      exact ⟨_, rfl, by rw [HF.out]; exact HR.out.2.2.2.1, HR.out.2.2.2.2⟩
    · have hemp : u.toList.isEmpty = false := by
        rw [Lib.toList_data]; cases h : u.data.toList with
        | nil => exact absurd h hu
        | cons _ _ => rfl
      have hu0 : 0 < u.size := by rw [← size_data]; exact List.length_pos_iff.2 hu
      have HU0 := Lib.hid hu0
      have hul : u.size ≤ 1000000 := by have := HR.out.2.2.1; omega
      obtain ⟨b0, hb01, hb02⟩ := at_bt u 0 hu0
      have HH0 : Hid (u.data.toList[0]? = some b0 ∧ blk b0 = false) := ⟨hb01, by
        cases hb : blk b0 with
        | false => rfl
        | true =>
          have h1 := blk_drop1 hb01 hb
          rw [HR.out.1] at h1
          have h2 := congrArg List.length h1
          have h3 := trimW_le (u.data.toList.drop 1)
          rw [List.length_drop] at h3
          have h4 := List.length_pos_iff.2 hu
          omega⟩
      clear hu hb01 hb02
      go_wp2_with fail
      go_loopw [4] (fun iv wr2 => ∃ i : Nat, iv = .int .i64 i ∧ i ≤ u.size ∧ (∀ j b, j < i → u.data.toList[j]? = some b → blk b = false) ∧ wr = wr2) (fun iv _ => u.size - (intOf iv).toNat)
      case atStart => exact ⟨0, rfl, Nat.zero_le _, fun j b hj => absurd hj (Nat.not_lt_zero _), rfl⟩
      case round =>
        obtain ⟨i, rfl, hi2, hnb, rfl⟩ := hrel
        have HNB := Lib.hid hnb
        have HB2 : Hid (Below w.heap.size w wr) := HR.out.2.2.2.2
        clear hnb
        by_cases hlt : i < u.size
        · have q1 : (i : Int) < (u.size : Int) := by omega
          obtain ⟨b, hc1, hc2⟩ := at_bt u i hlt
          have b0' := PlainAid.bt_nonneg u i
          have b1' := PlainAid.bt_le u i
          have HC := Lib.hid hc1
          cases hb : blk b with
          | false =>
            have HCA := Lib.hid (rblankN u i b hc2 hb)
            have HBB := Lib.hid hb
            clear hb hc1 hc2
            go_wp2_with (go_at_call 56; refine (HCA.out _).mono ?_; rintro e w' ⟨rfl, rfl⟩)
            go_roundw
            case rel =>
              refine ⟨i + 1, by go_num, hlt, fun j b' hj hb => ?_, trivial⟩
              by_cases h : j = i
              · subst h; rw [HC.out] at hb; cases hb; exact HBB.out
              · exact HNB.out j b' (by omega) hb
            case measure => (simp [intOf]; omega)
          | true =>
            have HCA := Lib.hid (rblankY u i b hc2 hb)
            have HEND : Hid (u.data.toList.drop i = [] ∨ ∃ b t, u.data.toList.drop i = b :: t ∧ blk b = true) := .inr ⟨b, u.data.toList.drop (i + 1), by
              rw [List.drop_eq_getElem_cons (by rw [size_data]; exact hlt)]
              rw [(List.getElem?_eq_some_iff.1 HC.out).2], hb⟩
            have hi0 : 0 < i := by
              rcases Nat.eq_zero_or_pos i with h | h
              · subst h
                have h1 := HH0.out.1
                rw [HC.out] at h1; cases h1
                rw [HH0.out.2] at hb; cases hb
              · exact h
            clear hb hc1 hc2
            have HUI : Hid (0 < i ∧ i ≤ u.size ∧ wordsW u.data.toList = u.data.toList.take i :: wordsW (trimW (u.data.toList.drop i))) := ⟨by have := HU0.out; omega, hi2, words_step (by have := HU0.out; omega) (by rw [size_data]; exact hi2) (fun j b hj hb => HNB.out j b hj hb) HEND.out⟩
            have HX1 : Hid (u.extract 0 i = mkB (u.data.toList.take i)) := extract_take u i
            have HX2 : Hid ((u.extract i u.size).data.toList = u.data.toList.drop i) := Lib.extract_to_end u i
            have hxs : (u.extract i u.size).size = u.size - i := by rw [← size_data, HX2.out, List.length_drop, size_data]
            have HTR := Lib.hid (fun w => rtrim_any (u.extract i u.size) w (by rw [hxs]; have := HR.out.2.2.1; omega))
            rw [HX2.out] at HTR
            have HXS := Lib.hid hxs
            have HWL : Hid (ws.length ≤ 1000000) := by show _ ≤ _; have := HR.out.2.2.1; omega
            have HWS : Hid (w.heap.size ≤ wr.heap.size) := HB2.out.size
            have HO2 : Hid (wr.ownsRow w.heap.size 9 1 ov ws.length (ws.map fun x => .string (mkB x))) := HR.out.2.2.2.1
            clear hxs HEND
            go_wp2_with (first | (go_at_call 56; refine (HCA.out _).mono ?_; rintro e w' ⟨rfl, rfl⟩) | (go_at_call 25; refine (HTR.out _).mono ?_; rintro e w' ⟨rfl, rfl⟩) | (at_builtin; refine wpList_append_own _ rfl _ _ 95 rfl w.heap.size 9 i0 (.string ByteArray.empty) 1 16 Tryz.underlying95 hi hz0 hz1 hz2 rfl (by decide) _ _ _ rfl (HO2.out.alloc _) ⟨wr.heap.size, 0, none⟩ 1 1 [.string (u.extract 0 i)] rfl rfl (cell_one_newT _ _ _) (by simp [Value.oneCell']) (by unfold maxLen; have := HWL.out; omega) (by have := HWL.out; omega) (by simp; exact Nat.le_succ_of_le HWS.out) ?_; intro v' w3 hown' hgrow _; have HOW := Lib.hid hown'; have HGR := Lib.hid hgrow; clear hown' hgrow))
            go_roundw
            case rel =>
              refine ⟨_, ws ++ [u.data.toList.take i], rfl, ?_⟩
              have h1 := trimW_le (u.data.toList.drop i)
              rw [List.length_drop, size_data] at h1
              have h2 := HUI.out
              have h3 := HR.out
              refine ⟨by rw [data_mkB]; exact trim_trim _, by rw [data_mkB, h3.2.1, h2.2.2, List.append_assoc]; rfl, by rw [size_mkB, List.length_append]; simp only [List.length_cons, List.length_nil]; have := h3.2.2.1; omega, ?_, (HB2.out.alloc HWS.out _).grown HGR.out (by have := HWS.out; simp; omega) (fun j hj => (HO2.out.lt j hj).1)⟩
              have := HOW.out
              rw [HX1.out] at this
              rw [List.length_append, List.map_append]; exact this
            case measure =>
              show (mkB (trimW (u.data.toList.drop i))).size < u.size
              have h1 := trimW_le (u.data.toList.drop i)
              rw [List.length_drop, size_data] at h1
              rw [size_mkB]; have := HUI.out; omega
        · have q1 : ¬ (i : Int) < (u.size : Int) := by omega
          have HEND : Hid (u.data.toList.drop i = [] ∨ ∃ b t, u.data.toList.drop i = b :: t ∧ blk b = true) := .inl (List.drop_of_length_le (by rw [size_data]; omega))
          clear hlt
          have HUI : Hid (0 < i ∧ i ≤ u.size ∧ wordsW u.data.toList = u.data.toList.take i :: wordsW (trimW (u.data.toList.drop i))) := ⟨by have := HU0.out; omega, hi2, words_step (by have := HU0.out; omega) (by rw [size_data]; exact hi2) (fun j b hj hb => HNB.out j b hj hb) HEND.out⟩
          have HX1 : Hid (u.extract 0 i = mkB (u.data.toList.take i)) := extract_take u i
          have HX2 : Hid ((u.extract i u.size).data.toList = u.data.toList.drop i) := Lib.extract_to_end u i
          have hxs : (u.extract i u.size).size = u.size - i := by rw [← size_data, HX2.out, List.length_drop, size_data]
          have HTR := Lib.hid (fun w => rtrim_any (u.extract i u.size) w (by rw [hxs]; have := HR.out.2.2.1; omega))
          rw [HX2.out] at HTR
          have HXS := Lib.hid hxs
          have HWL : Hid (ws.length ≤ 1000000) := by show _ ≤ _; have := HR.out.2.2.1; omega
          have HWS : Hid (w.heap.size ≤ wr.heap.size) := HB2.out.size
          have HO2 : Hid (wr.ownsRow w.heap.size 9 1 ov ws.length (ws.map fun x => .string (mkB x))) := HR.out.2.2.2.1
          clear hxs HEND
          go_wp2_with (first | (go_at_call 56; refine (HCA.out _).mono ?_; rintro e w' ⟨rfl, rfl⟩) | (go_at_call 25; refine (HTR.out _).mono ?_; rintro e w' ⟨rfl, rfl⟩) | (at_builtin; refine wpList_append_own _ rfl _ _ 95 rfl w.heap.size 9 i0 (.string ByteArray.empty) 1 16 Tryz.underlying95 hi hz0 hz1 hz2 rfl (by decide) _ _ _ rfl (HO2.out.alloc _) ⟨wr.heap.size, 0, none⟩ 1 1 [.string (u.extract 0 i)] rfl rfl (cell_one_newT _ _ _) (by simp [Value.oneCell']) (by unfold maxLen; have := HWL.out; omega) (by have := HWL.out; omega) (by simp; exact Nat.le_succ_of_le HWS.out) ?_; intro v' w3 hown' hgrow _; have HOW := Lib.hid hown'; have HGR := Lib.hid hgrow; clear hown' hgrow))
          go_roundw
          case rel =>
            refine ⟨_, ws ++ [u.data.toList.take i], rfl, ?_⟩
            have h1 := trimW_le (u.data.toList.drop i)
            rw [List.length_drop, size_data] at h1
            have h2 := HUI.out
            have h3 := HR.out
            refine ⟨by rw [data_mkB]; exact trim_trim _, by rw [data_mkB, h3.2.1, h2.2.2, List.append_assoc]; rfl, by rw [size_mkB, List.length_append]; simp only [List.length_cons, List.length_nil]; have := h3.2.2.1; omega, ?_, (HB2.out.alloc HWS.out _).grown HGR.out (by have := HWS.out; simp; omega) (fun j hj => (HO2.out.lt j hj).1)⟩
            have := HOW.out
            rw [HX1.out] at this
            rw [List.length_append, List.map_append]; exact this
          case measure =>
            show (mkB (trimW (u.data.toList.drop i))).size < u.size
            have h1 := trimW_le (u.data.toList.drop i)
            rw [List.length_drop, size_data] at h1
            rw [size_mkB]; have := HUI.out; omega
/-- how Codes ends -/
def RCodesEnd (l : Bs) (w : World) (e : Ending) (w' : World) : Prop :=
  Below w.heap.size w w' ∧ ((∃ xs v, codesW l = .ok xs ∧ e = .returned (.tuple #[v, .int .i64 0]) ∧ w'.ownsRow w.heap.size 21 1 v xs.length (xs.map (Value.int .i32))) ∨ ∃ z, codesW l = .error z ∧ e = .returned (.tuple #[.slice none 0 0, .int .i64 z]))
def badZ (ns : List Int) : Int := if ns.all pt = true then 0 else 90
theorem badZ_cons (ns : List Int) (q : Int) : badZ (ns ++ [q]) = if pt q = true then badZ ns else 90 := by
  unfold badZ
  rw [List.all_append]
  cases hq : pt q <;> cases h : ns.all pt <;> simp [h, hq]
theorem badZ_cases (ns : List Int) : badZ ns = 0 ∨ badZ ns = 90 := by unfold badZ; split <;> simp
theorem ownsRow_base {A B : Nat} {e : TypeId} {k : Nat} {v : Value} {n : Nat} {xs : List Value} {w : World} (h : w.ownsRow B e k v n xs) (hA : A ≤ B) : w.ownsRow A e k v n xs := by
  refine ⟨h.1, h.2.imp id ?_⟩
  rintro ⟨g, cap, cur, e1, e2, e3⟩
  exact ⟨g, cap, cur, e1, Nat.le_trans hA e2, e3⟩
set_option maxHeartbeats 4000000 in
set_option maxRecDepth 100000 in
theorem rcodes_any (s : ByteArray) (w : World) (hs : s.size ≤ 1000000) :
    Calls Tryz.prog 98 #[.string s] w (RCodesEnd s.data.toList w) := by
  have HS := Lib.hid hs
  have hl := size_data s
  have HW := fun x (h : x ∈ wordsW s.data.toList) => wordsW_le s.data.toList x h
  have HC := wordsW_count s.data.toList
  rw [hl] at HW HC
  have HCD : Hid (codesW s.data.toList = if wordsW s.data.toList = [] then .error 80 else match numsX (wordsW s.data.toList) with | none => .error 80 | some ns => if ns.length ≤ 8 ∧ ns.all pt = true then .ok ns else .error 90) := rfl
  have hwd := rwords_any s w hs
  unfold WordsEnd at hwd
  generalize wordsW s.data.toList = ws at *
  obtain ⟨i0, hi, hz0, hz1, hz2⟩ := info_parts Tryz.infoI
  clear hl hs
  go_enter Tryz.func98, Tryz.ntmps98
  go_wp2_with fail
  refine hwd.mono ?_
  rintro e w1 ⟨v, rfl, hv, hb1⟩
  have HB1 := Lib.hid hb1
  obtain ⟨m, hm⟩ : ∃ m, m = ws.length := ⟨_, rfl⟩
  rw [← hm] at HC hv
  have HN := Lib.hid hm
  have HV := Lib.hid hv
  have hml : m ≤ 1000000 := by have := HS.out; omega
  clear hm hwd hb1
  have hvf : ∃ p c, v = .slice p m c := by
    rcases hv.2 with ⟨rfl, h0⟩ | ⟨g, cap, cur, rfl, _⟩
    · rw [h0]; exact ⟨_, _, rfl⟩
    · exact ⟨_, _, rfl⟩
  obtain ⟨vp, vc, rfl⟩ := hvf
  clear hv
  by_cases h0 : m = 0
  · have HE : Hid (codesW s.data.toList = .error 80) := by
      show _ = _
      rw [HCD.out, if_pos (List.eq_nil_of_length_eq_zero (by rw [← HN.out]; exact h0))]
    have g0 : ((m : Int) == 0) = true := by rw [h0]; rfl
    subst h0
    go_wp2_with fail
    go_ret2
    exact ⟨HB1.out, .inr ⟨80, HE.out, rfl⟩⟩
  · have g0 : ((m : Int) == 0) = false := beq_eq_false_iff_ne.2 (by omega)
    have HNE : Hid (ws ≠ []) := fun h => h0 (by have := HN.out; rw [h] at this; exact this)
    clear h0
    go_wp2_with fail
    go_loopw [5, 6, 7, 8, 9] (fun ov bv iv _ _ wr => ∃ (k : Nat) (ns : List Int), iv = .int .i64 k ∧ bv = .int .i64 (badZ ns) ∧ k ≤ m ∧ numsX (ws.take k) = some ns ∧ wr.ownsRow w1.heap.size 21 1 ov ns.length (ns.map (Value.int .i32)) ∧ Below w1.heap.size w1 wr) (fun _ _ iv _ _ _ => m - (intOf iv).toNat)
    case atStart => exact ⟨0, [], rfl, rfl, Nat.zero_le _, rfl, World.ownsRow_nil _ _ _ _, Below.refl _ _⟩
    case round =>
      obtain ⟨k, ns, rfl, rfl, hkm, hnx, hown, hbw⟩ := hrel
      have HNX := Lib.hid hnx
      have HO := Lib.hid hown
      have HB := Lib.hid hbw
      clear hnx hown hbw
      obtain ⟨z, hz⟩ : ∃ z, z = badZ ns := ⟨_, rfl⟩
      have hzc := badZ_cases ns
      rw [← hz] at hzc ⊢
      have HZ := Lib.hid hz
      clear hz
      by_cases hlt : k < m
      · have g1 : (k : Int) < (m : Int) := by omega
        obtain ⟨x, hx⟩ : ∃ x, ws[k]? = some x := ⟨ws[k]'(by rw [← HN.out]; exact hlt), List.getElem?_eq_getElem _⟩
        have hxs : x.length ≤ 1000000 := Nat.le_trans (HW x (List.mem_of_getElem? hx)) HS.out
        have hcell : ∃ g, vp = some ⟨g, 0, none⟩ ∧ g < wr.heap.size ∧ wr.cell? ⟨g, k, none⟩ = some (.string (mkB x)) := by
          have hv := HV.out
          rcases hv.2 with ⟨_, h0⟩ | ⟨g, cap, cur, h1, h2, h3, _⟩
          · omega
          · injection h1 with h1 _ _
            refine ⟨g, h1, Nat.lt_of_lt_of_le (Array.getElem?_eq_some_iff.1 h3).1 HB.out.size, ?_⟩
            have hc := hv.cells (g := g) (by rw [h1]; rfl) k (.string (mkB x)) (by rw [List.getElem?_map, hx]; rfl)
            rw [addr_add, Nat.zero_add] at hc
            rw [HB.out.cell (p := ⟨g, k, none⟩) (Array.getElem?_eq_some_iff.1 h3).1]; exact hc
        obtain ⟨g, rfl, hgl, c0⟩ := hcell
        have HX := Lib.hid hx
        have hh := fun W => rnumber_any (mkB x) 4 6 (by decide) (by decide) W (by rw [size_mkB]; omega)
        unfold numRV at hh
        rw [data_mkB] at hh
        cases hq : numX x 4 6 with
        | none =>
          have HE : Hid (codesW s.data.toList = .error 80) := by
            show _ = _
            rw [HCD.out, if_neg HNE.out, numsX_none ws x (List.mem_of_getElem? hx) hq]
          rw [hq] at hh
          simp only at hh
          have HH := Lib.hid hh
          clear hh hx hq hxs HW hzc
          go_wp2_with (go_at_call 97; refine (HH.out _).mono ?_; rintro e w2 ⟨rfl, rfl⟩)
          go_ret2
          exact ⟨HB1.out.trans (HB.out.mono HB1.out.size), .inr ⟨80, HE.out, rfl⟩⟩
        | some q =>
          obtain ⟨q0, q1⟩ := numX_bd hq (by decide)
          have HQ : Hid (numsX (ws.take (k + 1)) = some (ns ++ [q])) := by
            show _ = _
            rw [take_snocR hx]; exact numsX_snoc _ _ _ _ HNX.out hq
          have HL : Hid (ns.length ≤ 1000000) := by
            have h1 := numsX_len _ _ HNX.out
            rw [List.length_take] at h1
            have := HS.out
            show _ ≤ _
            omega
          rw [hq] at hh
          simp only at hh
          have HH := Lib.hid hh
          have HPT := Lib.hid (rpoint8_any q)
          have HBZ := Lib.hid (badZ_cons ns q)
          clear hh hx hq hxs HW
          have HSZ : Hid (w1.heap.size ≤ wr.heap.size) := HB.out.size
          cases hpt : pt q with
          | true =>
            rw [hpt] at HPT HBZ
            go_wp2_with (first | (go_at_call 97; refine (HH.out _).mono ?_; rintro e w2 ⟨rfl, rfl⟩) | (go_at_call 132; refine (HPT.out _).mono ?_; rintro e w2 ⟨rfl, rfl⟩) | (at_builtin; refine wpList_append_own _ rfl _ _ 35 rfl w1.heap.size 21 i0 (.int .i32 0) 1 4 Tryz.underlying35 hi hz0 hz1 hz2 rfl (by decide) _ _ _ rfl (HO.out.alloc _) ⟨wr.heap.size, 0, none⟩ 1 1 [.int .i32 q] rfl rfl (cell_one_newT _ _ _) (by simp [Value.oneCell']) (by unfold maxLen; have := HL.out; omega) (by have := HL.out; omega) (by simp; exact Nat.le_succ_of_le HSZ.out) ?_; intro v' w3 hown' hgrow _; have HOW := Lib.hid hown'; have HGR := Lib.hid hgrow; clear hown' hgrow))
            go_roundw
            case rel => exact ⟨k + 1, ns ++ [q], by go_num, by rw [HBZ.out, HZ.out]; rfl, hlt, HQ.out, by have := HOW.out; simpa using this, (HB.out.alloc HSZ.out _).grown HGR.out (by have := HSZ.out; simp; omega) (fun j hj => (HO.out.lt j hj).1)⟩
            case measure => (simp [intOf]; omega)
          | false =>
            rw [hpt] at HPT HBZ
            go_wp2_with (first | (go_at_call 97; refine (HH.out _).mono ?_; rintro e w2 ⟨rfl, rfl⟩) | (go_at_call 132; refine (HPT.out _).mono ?_; rintro e w2 ⟨rfl, rfl⟩) | (at_builtin; refine wpList_append_own _ rfl _ _ 35 rfl w1.heap.size 21 i0 (.int .i32 0) 1 4 Tryz.underlying35 hi hz0 hz1 hz2 rfl (by decide) _ _ _ rfl (HO.out.alloc _) ⟨wr.heap.size, 0, none⟩ 1 1 [.int .i32 q] rfl rfl (cell_one_newT _ _ _) (by simp [Value.oneCell']) (by unfold maxLen; have := HL.out; omega) (by have := HL.out; omega) (by simp; exact Nat.le_succ_of_le HSZ.out) ?_; intro v' w3 hown' hgrow _; have HOW := Lib.hid hown'; have HGR := Lib.hid hgrow; clear hown' hgrow))
            go_roundw
            case rel => exact ⟨k + 1, ns ++ [q], by go_num, by rw [HBZ.out]; rfl, hlt, HQ.out, by have := HOW.out; simpa using this, (HB.out.alloc HSZ.out _).grown HGR.out (by have := HSZ.out; simp; omega) (fun j hj => (HO.out.lt j hj).1)⟩
            case measure => (simp [intOf]; omega)
      · have g1 : ¬ (k : Int) < (m : Int) := by omega
        have HQ : Hid (numsX ws = some ns) := by
          have := HNX.out
          rwa [List.take_of_length_le (by rw [← HN.out]; omega)] at this
        generalize u5 = ov at *
        obtain ⟨n, hn⟩ : ∃ n, n = ns.length := ⟨_, rfl⟩
        have hvf : ∃ p c, ov = .slice p n c := by
          rcases HO.out.2 with ⟨rfl, h0⟩ | ⟨g, cap, cur, rfl, _⟩
          · rw [hn, h0]; exact ⟨_, _, rfl⟩
          · rw [hn]; exact ⟨_, _, rfl⟩
        have HNN := Lib.hid hn
        obtain ⟨op, oc, rfl⟩ := hvf
        have HBB := Lib.hid (HB1.out.trans (HB.out.mono HB1.out.size))
        have HOB := Lib.hid (ownsRow_base HO.out HB1.out.size)
        clear hn hlt
        by_cases h8 : n ≤ 8
        · have g8 : ¬ (n : Int) > 8 := by omega
          rcases hzc with rfl | rfl
          · have HE : Hid (codesW s.data.toList = .ok ns) := by
              show _ = _
              rw [HCD.out, if_neg HNE.out, HQ.out]
              refine if_pos ⟨by rw [← HNN.out]; exact h8, ?_⟩
              have := HZ.out
              unfold badZ at this
              split at this
              · assumption
              · cases this
            clear h8
            go_wp2_with fail
            go_ret2
            exact ⟨HBB.out, .inl ⟨ns, _, HE.out, rfl, HOB.out⟩⟩
          · have HE : Hid (codesW s.data.toList = .error 90) := by
              show _ = _
              rw [HCD.out, if_neg HNE.out, HQ.out]
              refine if_neg (fun h => ?_)
              have := HZ.out
              unfold badZ at this
              rw [if_pos h.2] at this; cases this
            clear h8
            go_wp2_with fail
            go_ret2
            exact ⟨HBB.out, .inr ⟨90, HE.out, rfl⟩⟩
        · have g8 : (n : Int) > 8 := by omega
          have HE : Hid (codesW s.data.toList = .error 90) := by
            show _ = _
            rw [HCD.out, if_neg HNE.out, HQ.out]
            exact if_neg (fun h => h8 (by rw [HNN.out]; exact h.1))
          clear h8 hzc
          go_wp2_with fail
          go_ret2
          exact ⟨HBB.out, .inr ⟨90, HE.out, rfl⟩⟩
end Go.Proofs.YtjbcbejedaeedaaGreatDoor
/-! The reference of chapter 8: elements, an entry's line: walked. -/
namespace Go.Proofs.YtjbcbejedaeedaaGreatDoor
open Go.RowKit
open PlainAid (bt)

theorem last_blk {u : Bs} (h : trimW u = u) {m : Bs} {c : UInt8} (hm : u = m ++ [c]) : blk c = false := by
  cases hc : blk c with
  | false => rfl
  | true =>
    have h1 := congrArg List.length h
    rw [hm, blk_init hc] at h1
    have := trimW_le m
    rw [List.length_append] at h1
    simp at h1; omega
theorem trim_drop {u : Bs} (h : trimW u = u) (n : Nat) : trimLW (u.drop n) = trimW (u.drop n) := by
  have key : Lib.trimRightS (u.drop n) [32, 9] = u.drop n := by
    unfold Lib.trimRightS
    show (List.dropWhile blk (u.drop n).reverse).reverse = u.drop n
    cases hr : (u.drop n).reverse with
    | nil => rw [List.reverse_eq_nil_iff.1 hr]; rfl
    | cons c t =>
      have hd : u.drop n = t.reverse ++ [c] := by have := congrArg List.reverse hr; simpa using this
      have hc := last_blk h (m := u.take n ++ t.reverse) (c := c) (by rw [List.append_assoc, ← hd, List.take_append_drop])
      rw [List.dropWhile_cons, if_neg (by rw [hc]; exact Bool.false_ne_true), hd]; simp
  unfold trimW Lib.trimS
  rw [key]; rfl
/-- elements, no more than sixteen -/
def elsR (l : Bs) : Except Int (List El) := match elsW (trimW l) with
  | .error e => .error e
  | .ok y => if y.length ≤ 16 then .ok y else .error 2
def RElsEnd (l : Bs) (w : World) (e : Ending) (w' : World) : Prop :=
  Below w.heap.size w w' ∧ ((∃ ys v, elsR l = .ok ys ∧ e = .returned (.tuple #[v, .int .i64 0]) ∧ w'.ownsRow w.heap.size 79 4 v ys.length (ys.flatMap elCells)) ∨ ∃ z, elsR l = .error z ∧ e = .returned (.tuple #[.slice none 0 0, .int .i64 z]))
def ElRel (b0 : Bs) (w : World) (u : ByteArray) (ys : List El) (ov : Value) (W : World) : Prop :=
  trimW u.data.toList = u.data.toList ∧ u.size + 17 * ys.length ≤ 1000000 ∧ elsW b0 = preE ys (elsW u.data.toList) ∧ W.ownsRow w.heap.size 79 4 ov ys.length (ys.flatMap elCells) ∧ Below w.heap.size w W
theorem mkB_self (u : ByteArray) : mkB u.data.toList = u := mkB_data u
set_option maxHeartbeats 8000000 in
set_option maxRecDepth 100000 in
theorem relements_any (s : ByteArray) (w : World) (hs : s.size ≤ 1000000) :
    Calls Tryz.prog 99 #[.string s] w (RElsEnd s.data.toList w) := by
  have HS := Lib.hid hs
  obtain ⟨i0, hi, hz0, hz1, hz2⟩ := info_parts Tryz.infoE
  have HT0 := Lib.hid (fun w => rtrim_any s w (by omega))
  have HEL : Hid (elsR s.data.toList = match elsW (trimW s.data.toList) with
    | .error e => .error e
    | .ok y => if y.length ≤ 16 then .ok y else .error 2) := rfl
  have htt := trim_trim s.data.toList
  have htl := trimW_le s.data.toList
  rw [size_data] at htl
  generalize trimW s.data.toList = b0 at *
  have HTT := Lib.hid (And.intro htt htl)
  clear hs htt htl
  go_enter Tryz.func99, Tryz.ntmps99
  go_wp2_with (go_at_call 25; refine (HT0.out _).mono ?_; rintro e w' ⟨rfl, rfl⟩)
  go_loopw [0, 4, 5, 6, 7] (fun sv ov _ _ _ wr => ∃ (u : ByteArray) (ys : List El), sv = .string u ∧ ElRel b0 w u ys ov wr) (fun sv _ _ _ _ _ => strLen sv)
  case atStart => exact ⟨_, [], rfl, by rw [data_mkB]; exact HTT.out.1, by rw [size_mkB]; have := HTT.out.2; have := HS.out; simp; omega, by rw [data_mkB]; cases elsW b0 <;> rfl, World.ownsRow_nil _ _ _ _, Below.refl _ _⟩
  case round =>
    obtain ⟨u, ys, rfl, hr⟩ := hrel
    generalize u4 = ov at *
    have HR := Lib.hid hr
    clear hr
    by_cases hu : u.data.toList = []
    · have hemp : u.toList.isEmpty = true := by rw [Lib.toList_data, hu]; rfl
      have HY : Hid (elsW b0 = .ok ys) := by
        show _ = _
        have := HR.out.2.2.1
        rw [hu, elsW_nil] at this
        rw [this]; simp [preE]
      obtain ⟨n, hn⟩ : ∃ n, n = ys.length := ⟨_, rfl⟩
      have hvf : ∃ p c, ov = .slice p n c := by
        rcases HR.out.2.2.2.1.2 with ⟨rfl, h0⟩ | ⟨g, cap, cur, rfl, _⟩
        · rw [hn, h0]; exact ⟨_, _, rfl⟩
        · rw [hn]; exact ⟨_, _, rfl⟩
      obtain ⟨op, oc, rfl⟩ := hvf
      have HN := Lib.hid hn
      clear hn hu
      by_cases h16 : n ≤ 16
      · have g1 : ¬ (n : Int) > 16 := by omega
        have HE : Hid (elsR s.data.toList = .ok ys) := by
          show _ = _
          rw [HEL.out, HY.out]; exact if_pos (by rw [← HN.out]; exact h16)
        clear h16
        go_wp2_with fail
        go_ret2
        exact ⟨HR.out.2.2.2.2, .inl ⟨ys, _, HE.out, rfl, HR.out.2.2.2.1⟩⟩
      · have g1 : (n : Int) > 16 := by omega
        have HE : Hid (elsR s.data.toList = .error 2) := by
          show _ = _
          rw [HEL.out, HY.out]; exact if_neg (by rw [← HN.out]; exact h16)
        clear h16
        go_wp2_with fail
        go_ret2
        exact ⟨HR.out.2.2.2.2, .inr ⟨2, HE.out, rfl⟩⟩
    · have hemp : u.toList.isEmpty = false := by
        rw [Lib.toList_data]; cases h : u.data.toList with
        | nil => exact absurd h hu
        | cons _ _ => rfl
      have HU := Lib.hid hu
      have HRD := Lib.hid (fun w => rread_any u w (by unfold maxLen; have := HR.out.2.1; omega))
      have HERR : Hid (∀ z, elsW u.data.toList = .error z → elsR s.data.toList = .error z) := by
        show ∀ z, _
        intro z h
        rw [HEL.out, HR.out.2.2.1, h]; rfl
      have hmk := mkB_self u
      clear hu
      cases hg : goodB u with
      | false =>
        have HE : Hid (elsR s.data.toList = .error 80) := HERR.out 80 (by rw [elsW_eq _ HU.out, hmk, if_pos hg])
        have hrd := HRD.out
        rw [readV_bad _ hg] at hrd
        have HRD2 := Lib.hid hrd
        clear hrd HRD hg hmk
        go_wp2_with (go_at_call 133; refine (HRD2.out _).mono ?_; rintro e w5 ⟨rfl, hb5⟩; have HB5 := Lib.hid (HR.out.2.2.2.2.trans (hb5.mono HR.out.2.2.2.2.size)); clear hb5)
        go_ret2
        exact ⟨HB5.out.alloc HB5.out.size _, .inr ⟨80, HE.out, rfl⟩⟩
      | true =>
        have HG := Lib.hid hg
        by_cases hc : chkS u = 0
        · have hrd := HRD.out
          rw [readV_ok _ hg hc] at hrd
          have h17 := good_17 _ hg
          have HV : Hid (lvS u = lvl (elS u).1 (elS u).2.1 (elS u).2.2.1) := rfl
          have HST := Lib.hid (preE_step ys u.data.toList HU.out (by rw [hmk]; exact hg) (by rw [hmk]; exact hc))
          rw [hmk] at HST
          have HE0 : Hid (lvS u = 0 → elsR s.data.toList = .error 70) := by
            show _ → _
            intro h
            exact HERR.out 70 (by rw [elsW_eq _ HU.out, hmk, if_neg (by rw [hg]; exact fun h => Bool.noConfusion h), if_pos (.inr h)])
          generalize elS u = x at *
          obtain ⟨x1, x2, x3, x4⟩ := x
          simp only [elAgg] at hrd
          have hlv := fun w => rlevel_any x1 x2 x3 x4 w
          simp only at HV
          rw [← HV.out] at hlv
          have HRD2 := Lib.hid hrd
          have HLV := Lib.hid hlv
          clear hrd HRD hg hlv hc
          rcases lvS_cases u with hz | hz
          · have HE := Lib.hid (HE0.out hz)
            rw [hz] at HLV
            clear hz HE0 HST HV
            go_wp2_with (first | (go_at_call 133; refine (HRD2.out _).mono ?_; rintro e w5 ⟨rfl, hb5⟩; have HB5 := Lib.hid (HR.out.2.2.2.2.trans (hb5.mono HR.out.2.2.2.2.size)); clear hb5) | (go_at_call 134; refine (HLV.out _).mono ?_; rintro e w6 ⟨rfl, hb6⟩; have HB6 := Lib.hid hb6; clear hb6))
            go_ret2
            exact ⟨(HB5.out.alloc HB5.out.size _).trans (HB6.out.mono (HB5.out.alloc HB5.out.size _).size), .inr ⟨70, HE.out, rfl⟩⟩
          · have HST2 := Lib.hid (HST.out (by omega))
            have hzz : (lvS u == 0) = false := beq_eq_false_iff_ne.2 (by omega)
            have HTW := HR.out.1
            have HX2 : Hid ((u.extract 17 u.size).data.toList = u.data.toList.drop 17) := Lib.extract_to_end u 17
            have hxs : (u.extract 17 u.size).size = u.size - 17 := by rw [← size_data, HX2.out, List.length_drop, size_data]
            have HTR := Lib.hid (fun w => rtrim_any (u.extract 17 u.size) w (by rw [hxs]; have := HR.out.2.1; omega))
            rw [HX2.out, ← trim_drop HTW] at HTR
            generalize lvS u = lv at *
            have HLN : Hid (ys.length ≤ 1000000) := by show _ ≤ _; have := HR.out.2.1; omega
            clear HE0 HV HTW hxs
            have go17 : (17 : Int) ≤ (u.size : Int) := by omega
            have HOV : Hid (∀ k, ov.ownBlock = some k → w.heap.size ≤ k) := fun k hk => (HR.out.2.2.2.1.lt k hk).1
            go_wp2_with (go_at_call 133; refine (HRD2.out _).mono ?_; rintro e w5 ⟨rfl, hb5⟩; have HB5 := Lib.hid (HR.out.2.2.2.2.trans (hb5.mono HR.out.2.2.2.2.size)); have HW5 := Lib.hid (ownsRow_growT HR.out.2.2.2.1 hb5); clear hb5)
            refine (HLV.out _).mono ?_
            rintro e w6 ⟨rfl, hb6⟩
            have hal := Below.alloc (Below.refl w5.heap.size w5) (Nat.le_refl _) (.cells #[.int .i64 x1, .int .i64 x2, .int .i64 x3, .bool x4] 79)
            have hb6' : Below w5.heap.size w5 w6 := hal.trans (hb6.mono (by simp))
            have HB6 := Lib.hid (HB5.out.trans (hb6'.mono HB5.out.size))
            have HW6 := Lib.hid (ownsRow_growT HW5.out hb6')
            have hx0 : ∀ j u, #[Value.int .i64 x1, .int .i64 x2, .int .i64 x3, .bool x4][j]? = some u → w6.cell? ⟨w5.heap.size, j, none⟩ = some u := fun j u hj => by
              rw [hb6.cell (p := ⟨w5.heap.size, j, none⟩) (by simp), World.cell?_alloc_at _ _ _ _ rfl]; exact hj
            have e0 := hx0 0 _ rfl
            have e1 := hx0 1 _ rfl
            have e2 := hx0 2 _ rfl
            have e3 := hx0 3 _ rfl
            have hw6 : w5.heap.size < w6.heap.size := by have := hb6.size; simp at this; omega
            have HWS : Hid (w.heap.size ≤ w6.heap.size) := HB6.out.size
            clear hb6 hb6' hal hx0
            go_wp2_with (first | (go_at_call 25; refine (HTR.out _).mono ?_; rintro e w' ⟨rfl, rfl⟩) | (at_builtin; refine wpList_append_own _ rfl _ _ 42 rfl w.heap.size 79 i0 (.agg #[.int .i64 0, .int .i64 0, .int .i64 0, .bool false]) 4 32 Tryz.underlying42 hi hz0 hz1 hz2 rfl (by decide) _ _ _ rfl (HW6.out.alloc _) ⟨w6.heap.size, 0, none⟩ 1 1 [.int .i64 x1, .int .i64 x2, .int .i64 x3, .bool x4] rfl rfl (cells_new _ _ _) (by simp [Value.oneCell']) (by unfold maxLen; have := HLN.out; omega) (by have := HLN.out; omega) (by simp; exact Nat.le_succ_of_le HWS.out) ?_; intro v' w7 hown' hgrow _; have HOW := Lib.hid hown'; have HGR := Lib.hid hgrow; clear hown' hgrow e0 e1 e2 e3))
            go_roundw
            case rel =>
              have h2 := HR.out
              have h3 := h2.2.1
              have h1 := trimLW_le (u.data.toList.drop 17)
              rw [List.length_drop, size_data] at h1
              refine ⟨_, ys ++ [(x1, x2, x3, x4)], rfl, by rw [data_mkB, trim_drop h2.1]; exact trim_trim _, by rw [size_mkB, List.length_append]; simp only [List.length_cons, List.length_nil]; omega, by rw [data_mkB]; exact h2.2.2.1.trans HST2.out, ?_, (HB6.out.alloc HWS.out _).grown HGR.out (by have := HWS.out; simp; omega) (fun j hj => (HW6.out.lt j hj).1)⟩
              have := HOW.out
              rw [List.length_append, List.flatMap_append]
              simpa [elCells] using this
            case measure =>
              have h1 := trimLW_le (u.data.toList.drop 17)
              rw [List.length_drop, size_data] at h1
              show (mkB (trimLW (u.data.toList.drop 17))).size < u.size
              rw [size_mkB]; omega
        · have HE : Hid (elsR s.data.toList = .error 70) := HERR.out 70 (by rw [elsW_eq _ HU.out, hmk, if_neg (by rw [hg]; exact fun h => Bool.noConfusion h), if_pos (.inl hc)])
          have hrd := HRD.out
          rw [readV_chk _ hg hc] at hrd
          have HRD2 := Lib.hid hrd
          clear hrd HRD hg hc hmk
          go_wp2_with (go_at_call 133; refine (HRD2.out _).mono ?_; rintro e w5 ⟨rfl, hb5⟩; have HB5 := Lib.hid (HR.out.2.2.2.2.trans (hb5.mono HR.out.2.2.2.2.size)); clear hb5)
          go_ret2
          exact ⟨HB5.out.alloc HB5.out.size _, .inr ⟨70, HE.out, rfl⟩⟩
theorem row_slice {W : World} {B n k : Nat} {e : TypeId} {v : Value} {xs : List Value} (h : W.ownsRow B e k v n xs) : ∃ p c, v = .slice p n c := by
  rcases h.2 with ⟨rfl, h0⟩ | ⟨g, cap, cur, rfl, _⟩
  · rw [h0]; exact ⟨_, _, rfl⟩
  · exact ⟨_, _, rfl⟩
theorem elsR_ne {l : Bs} {z : Int} (h : elsR l = .error z) : z ≠ 0 := by
  unfold elsR at h
  split at h
  · rename_i e he
    cases h; exact elsF_ne _ _ _ he
  · split at h
    · cases h
    · cases h; decide
theorem put_end {w V : World} {n r : Nat} {c u : Value} (hr : n ≤ r) (hb : Below n w V) (h : TwoAt V r c u) (d v : Value) : Below n w ((V.setCell ⟨r, 0, none⟩ d).setCell ⟨r, 1, none⟩ v) ∧ TwoAt ((V.setCell ⟨r, 0, none⟩ d).setCell ⟨r, 1, none⟩ v) r d v :=
  ⟨(hb.setCell (p := ⟨r, 0, none⟩) hr d).setCell (p := ⟨r, 1, none⟩) hr v, h.put2 d v⟩
theorem any_hit {l chars : Bs} {i : Nat} {x : UInt8} (h : Lib.NoAny l chars i) (hx : l[i]? = some x) (hc : chars.contains x = true) : Lib.containsAny l chars = true := by
  unfold Lib.containsAny; rw [Lib.indexAny_hit h hx hc]; exact decide_eq_true (by omega)
theorem any_none {l chars : Bs} (h : Lib.NoAny l chars l.length) : Lib.containsAny l chars = false := by
  unfold Lib.containsAny; rw [Lib.indexAny_none h]; exact decide_eq_false (by omega)
/-- how ReadLine ends -/
def RLineEnd (l : Bs) (w : World) (e : Ending) (w' : World) : Prop :=
  Below w.heap.size w w' ∧ ((∃ x c u, lineW l = .ok x ∧ e = .returned (.tuple #[.agg #[c, u], .int .i64 0]) ∧ w'.ownsRow (w.heap.size + 1) 21 1 c x.1.length (x.1.map (Value.int .i32)) ∧ w'.ownsRow (w.heap.size + 1) 79 4 u x.2.length (x.2.flatMap elCells)) ∨
    ∃ z, lineW l = .error z ∧ e = .returned (.tuple #[.agg #[.slice none 0 0, .slice none 0 0], .int .i64 z]))
set_option maxHeartbeats 8000000 in
set_option maxRecDepth 100000 in
theorem rline_any (s : ByteArray) (w : World) (hs : s.size ≤ 1000000) :
    Calls Tryz.prog 61 #[.string s] w (RLineEnd s.data.toList w) := by
  have HS := Lib.hid hs
  have hbt := PlainAid.get_bt s
  have HCU := Lib.hid (fun w => rcut_any s 59 59 rfl w (by omega))
  have hle := cut_le s.data.toList [59]
  rw [size_data] at hle
  have HLW : Hid (lineW s.data.toList = if Lib.containsAny s.data.toList [35, 10] = true then .error 80 else
      if (Lib.cut s.data.toList [59]).2.2 = false then .error 80 else
      match codesW (Lib.cut s.data.toList [59]).1 with
      | .error e => .error e
      | .ok x => match elsR (Lib.cut s.data.toList [59]).2.1 with
        | .error e => .error e
        | .ok y => .ok (x, y)) := by
    show _ = _
    unfold lineW elsR
    split
    · rfl
    · split
      · rfl
      · cases codesW (Lib.cut s.data.toList [59]).1 with
        | error e => rfl
        | ok x =>
          cases elsW (trimW (Lib.cut s.data.toList [59]).2.1) with
          | error e => rfl
          | ok y => by_cases h : y.length ≤ 16 <;> simp [h]
  generalize Lib.cut s.data.toList [59] = c at *
  obtain ⟨a, b, f⟩ := c
  simp only at hle HLW HCU
  obtain ⟨hla, hlb⟩ := hle
  have HCO := Lib.hid (fun w => rcodes_any (mkB a) w (by rw [size_mkB]; omega))
  have HEL := Lib.hid (fun w => relements_any (mkB b) w (by rw [size_mkB]; omega))
  rw [data_mkB] at HCO HEL
  clear hla hlb
  have hb0 : Below w.heap.size w (w.alloc (.cells #[.slice none 0 0, .slice none 0 0] 45)) := (Below.refl _ w).alloc (Nat.le_refl _) _
  have h20 : TwoAt (w.alloc (.cells #[.slice none 0 0, .slice none 0 0] 45)) w.heap.size (.slice none 0 0) (.slice none 0 0) := World.alloc_heap_new w _
  have HB0 := Lib.hid hb0
  have H20 := Lib.hid h20
  clear hb0 h20
  go_enter Tryz.func61, Tryz.ntmps61
  go_wp2_with fail
  generalize w.alloc (.cells #[.slice none 0 0, .slice none 0 0] 45) = W0 at *
  obtain ⟨t0, t1, tf, tl⟩ := H20.out.cells
  have tf0 := tf 0
  have tf1 := tf 1
  clear tf
  go_loopw [4] (fun iv wr => ∃ k : Nat, iv = .int .i64 k ∧ k ≤ s.size ∧ Lib.NoAny s.data.toList [35, 10] k ∧ W0 = wr) (fun iv _ => s.size - (intOf iv).toNat)
  case atStart => exact ⟨0, rfl, Nat.zero_le _, Lib.NoAny.zero _ _, rfl⟩
  case round =>
    obtain ⟨k, rfl, hk, hna, rfl⟩ := hrel
    have HNA := Lib.hid hna
    clear hna
    by_cases hlt : k < s.size
    · have b0 := PlainAid.bt_nonneg s k
      have b1 := PlainAid.bt_le s k
      have q1 : (k : Int) < (s.size : Int) := by omega
      obtain ⟨x, hc1, hc2⟩ := at_bt s k hlt
      have HC := Lib.hid (And.intro hc1 hc2)
      clear hc1 hc2
      by_cases d0 : bt s k = 35
      · have g1 : (bt s k == 35) = true := by rw [d0]; rfl
        have HE : Hid (lineW s.data.toList = .error 80) := by
          show _ = _
          rw [HLW.out, if_pos]
          refine any_hit HNA.out HC.out.1 ?_
          have h1 := HC.out.2
          have : x = 35 := UInt8.toNat_inj.1 (by show x.toNat = 35; omega)
          rw [this]; decide
        clear d0
        go_wp2_with fail
        have hpe := put_end (Nat.le_refl w.heap.size) HB0.out H20.out (.slice none 0 0) (.slice none 0 0)
        generalize (W0.setCell ⟨w.heap.size, 0, none⟩ (.slice none 0 0)).setCell ⟨w.heap.size, 1, none⟩ (.slice none 0 0) = WF at *
        obtain ⟨q0, q1, _, _⟩ := hpe.2.cells
        refine bodyPost_ret (v := .tuple #[.agg #[.slice none 0 0, .slice none 0 0], .int .i64 80]) (by simp [results, Tryz.results61, go_sem, q0, q1]) rfl ?_
        exact ⟨hpe.1, .inr ⟨80, HE.out, rfl⟩⟩
      · have g1 : (bt s k == 35) = false := beq_eq_false_iff_ne.2 d0
        by_cases d1 : bt s k = 10
        · have g2 : (bt s k == 10) = true := by rw [d1]; rfl
          have HE : Hid (lineW s.data.toList = .error 80) := by
            show _ = _
            rw [HLW.out, if_pos]
            refine any_hit HNA.out HC.out.1 ?_
            have h1 := HC.out.2
            have : x = 10 := UInt8.toNat_inj.1 (by show x.toNat = 10; omega)
            rw [this]; decide
          clear d0 d1
          go_wp2_with fail
          have hpe := put_end (Nat.le_refl w.heap.size) HB0.out H20.out (.slice none 0 0) (.slice none 0 0)
          generalize (W0.setCell ⟨w.heap.size, 0, none⟩ (.slice none 0 0)).setCell ⟨w.heap.size, 1, none⟩ (.slice none 0 0) = WF at *
          obtain ⟨q0, q1, _, _⟩ := hpe.2.cells
          refine bodyPost_ret (v := .tuple #[.agg #[.slice none 0 0, .slice none 0 0], .int .i64 80]) (by simp [results, Tryz.results61, go_sem, q0, q1]) rfl ?_
          exact ⟨hpe.1, .inr ⟨80, HE.out, rfl⟩⟩
        · have g2 : (bt s k == 10) = false := beq_eq_false_iff_ne.2 d1
          go_wp2_with fail
          go_roundw
          case rel =>
            refine ⟨k + 1, by go_num, hlt, HNA.out.succ HC.out.1 ?_, trivial⟩
            have h1 := HC.out.2
            simp only [List.contains_cons, List.contains_nil, Bool.or_false, Bool.or_eq_false_iff, beq_eq_false_iff_ne]
            exact ⟨fun e => d0 (by rw [h1, e]; rfl), fun e => d1 (by rw [h1, e]; rfl)⟩
          case measure => (simp [intOf]; omega)
    · have q1 : ¬ (k : Int) < (s.size : Int) := by omega
      have hca : Lib.containsAny s.data.toList [35, 10] = false := any_none (by rw [size_data, show s.size = k from by omega]; exact HNA.out)
      rw [hca] at HLW
      clear hlt hca
      cases f with
      | false =>
        have HE : Hid (lineW s.data.toList = .error 80) := by show _ = _; rw [HLW.out]; rfl
        go_wp2_with fail
        refine (HCU.out _).mono ?_
        rintro e w1 ⟨rfl, hb1⟩
        have HB1 := Lib.hid (HB0.out.trans (hb1.mono HB0.out.size))
        have HT1 := Lib.hid (H20.out.below hb1)
        clear hb1 t0 t1 tf0 tf1 tl
        obtain ⟨t0, t1, tf, tl⟩ := HT1.out.cells
        have tf0 := tf 0
        have tf1 := tf 1
        clear tf
        go_wp2_with fail
        have hpe := put_end (Nat.le_refl w.heap.size) HB1.out HT1.out (.slice none 0 0) (.slice none 0 0)
        generalize (w1.setCell ⟨w.heap.size, 0, none⟩ (.slice none 0 0)).setCell ⟨w.heap.size, 1, none⟩ (.slice none 0 0) = WF at *
        obtain ⟨q0, q1, _, _⟩ := hpe.2.cells
        refine bodyPost_ret (v := .tuple #[.agg #[.slice none 0 0, .slice none 0 0], .int .i64 80]) (by simp [results, Tryz.results61, go_sem, q0, q1]) rfl ?_
        exact ⟨hpe.1, .inr ⟨80, HE.out, rfl⟩⟩
      | true =>
        have HLW2 : Hid (lineW s.data.toList = match codesW a with
          | .error e => .error e
          | .ok x => match elsR b with
            | .error e => .error e
            | .ok y => .ok (x, y)) := by show _ = _; rw [HLW.out]; rfl
        clear HLW
        go_wp2_with fail
        refine (HCU.out _).mono ?_
        rintro e w1 ⟨rfl, hb1⟩
        have HB1 := Lib.hid (HB0.out.trans (hb1.mono HB0.out.size))
        have HT1 := Lib.hid (H20.out.below hb1)
        have hz1 : w.heap.size + 1 ≤ w1.heap.size := HT1.out.cells.2.2.2
        have HZ1 := Lib.hid hz1
        clear hb1 t0 t1 tf0 tf1 tl hz1
        go_wp2_with fail
        refine (HCO.out _).mono ?_
        rintro e w2 ⟨hb2, ⟨xs, cv, hcx, rfl, hcv⟩ | ⟨z, hcz, rfl⟩⟩
        rotate_left
        · have HE : Hid (lineW s.data.toList = .error z) := by show _ = _; rw [HLW2.out, hcz]
          have hz := codesW_ne hcz
          have z1 : (z == 0) = false := beq_eq_false_iff_ne.2 hz
          have HB2 := Lib.hid (HB1.out.trans (hb2.mono HB1.out.size))
          have HT2 := Lib.hid (HT1.out.below hb2)
          obtain ⟨t0, t1, tf, tl⟩ := HT2.out.cells
          have tf0 := tf 0
          have tf1 := tf 1
          clear tf hb2 hcz hz
          go_wp2_with fail
          have hpe := put_end (Nat.le_refl w.heap.size) HB2.out HT2.out (.slice none 0 0) (.slice none 0 0)
          generalize (w2.setCell ⟨w.heap.size, 0, none⟩ (.slice none 0 0)).setCell ⟨w.heap.size, 1, none⟩ (.slice none 0 0) = WF at *
          obtain ⟨q0, q1, _, _⟩ := hpe.2.cells
          refine bodyPost_ret (v := .tuple #[.agg #[.slice none 0 0, .slice none 0 0], .int .i64 z]) (by simp [results, Tryz.results61, go_sem, q0, q1]) rfl ?_
          exact ⟨hpe.1, .inr ⟨z, HE.out, rfl⟩⟩
        have HLW3 : Hid (lineW s.data.toList = match elsR b with
            | .error e => .error e
            | .ok y => .ok (xs, y)) := by show _ = _; rw [HLW2.out, hcx]
        have HB2 := Lib.hid (HB1.out.trans (hb2.mono HB1.out.size))
        have HT2 := Lib.hid (HT1.out.below hb2)
        have HCV := Lib.hid (ownsRow_base hcv HZ1.out)
        have HZ2 := Lib.hid (Nat.le_trans HZ1.out hb2.size)
        clear hb2 hcx hcv HLW2
        go_wp2_with fail
        refine (HEL.out _).mono ?_
        rintro e w3 ⟨hb3, ⟨ys, uv, hey, rfl, huv⟩ | ⟨z, hez, rfl⟩⟩
        rotate_left
        · have HE : Hid (lineW s.data.toList = .error z) := by show _ = _; rw [HLW3.out, hez]
          have hz := elsR_ne hez
          have z1 : (z == 0) = false := beq_eq_false_iff_ne.2 hz
          have HB3 := Lib.hid (HB2.out.trans (hb3.mono HB2.out.size))
          have HT3 := Lib.hid (HT2.out.below hb3)
          obtain ⟨t0, t1, tf, tl⟩ := HT3.out.cells
          have tf0 := tf 0
          have tf1 := tf 1
          clear tf hb3 hez hz
          go_wp2_with fail
          have hpe := put_end (Nat.le_refl w.heap.size) HB3.out HT3.out (.slice none 0 0) (.slice none 0 0)
          generalize (w3.setCell ⟨w.heap.size, 0, none⟩ (.slice none 0 0)).setCell ⟨w.heap.size, 1, none⟩ (.slice none 0 0) = WF at *
          obtain ⟨q0, q1, _, _⟩ := hpe.2.cells
          refine bodyPost_ret (v := .tuple #[.agg #[.slice none 0 0, .slice none 0 0], .int .i64 z]) (by simp [results, Tryz.results61, go_sem, q0, q1]) rfl ?_
          exact ⟨hpe.1, .inr ⟨z, HE.out, rfl⟩⟩
        have HE : Hid (lineW s.data.toList = .ok (xs, ys)) := by show _ = _; rw [HLW3.out, hey]
        have HB3 := Lib.hid (HB2.out.trans (hb3.mono HB2.out.size))
        have HT3 := Lib.hid (HT2.out.below hb3)
        have HCV3 := Lib.hid (ownsRow_growT HCV.out hb3)
        have HUV := Lib.hid (ownsRow_base huv HZ2.out)
        obtain ⟨t0, t1, tf, tl⟩ := HT3.out.cells
        have tf0 := tf 0
        have tf1 := tf 1
        clear tf hb3 hey huv HLW3
        obtain ⟨cp, cc, rfl⟩ := row_slice HCV3.out
        obtain ⟨up, uc, rfl⟩ := row_slice HUV.out
        go_wp2_with fail
        have hpe := put_end (Nat.le_refl w.heap.size) HB3.out HT3.out (.slice cp xs.length cc) (.slice up ys.length uc)
        have hx1 := ownsRow_put (ownsRow_put HCV3.out (p := ⟨w.heap.size, 0, none⟩) (Nat.lt_succ_self _) (.slice cp xs.length cc)) (p := ⟨w.heap.size, 1, none⟩) (Nat.lt_succ_self _) (.slice up ys.length uc)
        have hx2 := ownsRow_put (ownsRow_put HUV.out (p := ⟨w.heap.size, 0, none⟩) (Nat.lt_succ_self _) (.slice cp xs.length cc)) (p := ⟨w.heap.size, 1, none⟩) (Nat.lt_succ_self _) (.slice up ys.length uc)
        generalize (w3.setCell ⟨w.heap.size, 0, none⟩ (.slice cp xs.length cc)).setCell ⟨w.heap.size, 1, none⟩ (.slice up ys.length uc) = WF at *
        obtain ⟨q0, q1, _, _⟩ := hpe.2.cells
        refine bodyPost_ret (v := .tuple #[.agg #[.slice cp xs.length cc, .slice up ys.length uc], .int .i64 0]) (by simp [results, Tryz.results61, go_sem, q0, q1]) rfl ?_
        exact ⟨hpe.1, .inl ⟨(xs, ys), _, _, HE.out, rfl, hx1, hx2⟩⟩
end Go.Proofs.YtjbcbejedaeedaaGreatDoor
/-! Plain: a line of a table's text, as the reference of chapter 8 reads it, says what the program's way says. -/
namespace Go.Proofs.YtjbcbejedaeedaaGreatDoor
open Go.RowKit

/-- what stands behind a word and a blank -/
def afterW (l word : Bs) : Option Bs := if word.length < l.length ∧ l.take word.length = word ∧ (∃ b, l[word.length]? = some b ∧ blk b = true) then some (trimW (l.drop word.length)) else none
theorem after_first {l word : Bs} {j : Nat} {b : UInt8} (hn : ∀ i c, i < j → l[i]? = some c → blk c = false) (hj : l[j]? = some b) (hb : blk b = true) (hw : ∀ c ∈ word, blk c = false) :
    afterW l word = if l.take j = word then some (trimW (l.drop j)) else none := by
  have hjl := (List.getElem?_eq_some_iff.1 hj).1
  unfold afterW
  by_cases h : l.take j = word
  · have hwl : word.length = j := by rw [← h, List.length_take]; omega
    rw [if_pos h, if_pos ⟨by omega, by rw [hwl]; exact h, b, by rw [hwl]; exact hj, hb⟩, hwl]
  · rw [if_neg h, if_neg]
    rintro ⟨h1, h2, c, h3, h4⟩
    rcases Nat.lt_trichotomy word.length j with hlt | he | hgt
    · have := hn _ _ hlt h3
      rw [this] at h4; cases h4
    · exact h (by rw [← he]; exact h2)
    · have h5 : (l.take word.length)[j]? = some b := by rw [List.getElem?_take_of_lt hgt]; exact hj
      rw [h2] at h5
      have := hw b (List.mem_of_getElem? h5)
      rw [this] at hb; cases hb
theorem after_none {l word : Bs} (hn : ∀ c ∈ l, blk c = false) : afterW l word = none := by
  unfold afterW
  rw [if_neg]
  rintro ⟨h1, h2, c, h3, h4⟩
  have := hn c (List.mem_of_getElem? h3)
  rw [this] at h4; cases h4
/-- what rule makes: ranges in order -/
def ruleR (st : TSt) (whole : Bool) (l : Bs) : Except Int TSt := match rangeW whole l with
  | .error e => .error e
  | .ok x => .ok (st.1, insR x st.2.1, st.2.2)
/-- a line of the reference: its ranges are in order -/
def lineR (st : TSt) (l : Bs) : Except Int TSt :=
  match afterW l verK with
  | some v => if st.1 ≠ none ∨ (wordsW v).length ≠ 1 then .error 80 else if verB v = true then .ok (some v, st.2) else .error 114
  | none => match afterW l impK with
    | some x => ruleR st true x
    | none => match afterW l uniK with
      | some x => ruleR st false x
      | none => match lineW l with
        | .error e => .error e
        | .ok x => if x.1 ∈ st.2.2.map (·.1) then .error 91 else if st.2.2.length = 4000 then .error 2 else .ok (st.1, st.2.1, st.2.2 ++ [x])
/-- with the ranges put in order -/
def srtS (st : TSt) : TSt := (st.1, srtR st.2.1, st.2.2)
theorem srtR_snoc (rs : List Rng) (x : Rng) : srtR (rs ++ [x]) = insR x (srtR rs) := by unfold srtR; rw [List.foldl_append]; rfl
theorem blk_iff (b : UInt8) : blk b = ([32, 9] : Bs).contains b := rfl
theorem pref_at {l : Bs} (h : Lib.hasPrefix l [64] = true) : ∃ t, l = 64 :: t := by
  unfold Lib.hasPrefix at h
  cases l with
  | nil => cases h
  | cons b t =>
    simp [List.isPrefixOf] at h
    exact ⟨t, by rw [h]⟩
theorem pref_no {l : Bs} (h : Lib.hasPrefix l [64] = false) (w : Bs) (hw : w[0]? = some 64) : afterW l w = none := by
  unfold afterW
  rw [if_neg]
  rintro ⟨h1, h2, _⟩
  have hwl := (List.getElem?_eq_some_iff.1 hw).1
  have h3 : (l.take w.length)[0]? = some 64 := by rw [h2]; exact hw
  rw [List.getElem?_take_of_lt hwl] at h3
  unfold Lib.hasPrefix at h
  cases l with
  | nil => cases h3
  | cons b t =>
    simp at h3; subst h3
    simp [List.isPrefixOf] at h
/-- a line that begins with 64 is no entry's -/
theorem lineW_64 (t : Bs) : lineW (64 :: t) = .error 80 := by
  unfold lineW
  split
  · rfl
  · split
    · rfl
    · rename_i hc
      rcases ib_cases (64 :: t) 59 with ⟨_, h⟩ | ⟨i, _, h1, h2⟩
      · rw [cut_none _ _ h] at hc; exact absurd rfl hc
      · rw [cut_at _ _ i h1 h2]
        cases i with
        | zero => cases h1
        | succ i =>
          have hcw : codesW ((64 :: t).take (i + 1)) = .error 80 := by
            have hw : ∃ x xs, wordsW ((64 :: t).take (i + 1)) = (64 :: x) :: xs := by
              rw [wordsW_fldB, List.take_succ_cons, fldB, if_neg (by decide)]
              have key : ∀ (m cur : Bs), cur ≠ [] → ∃ x xs, fldB cur m = (cur ++ x) :: xs := by
                intro m
                induction m with
                | nil => intro cur hc; exact ⟨[], [], by rw [fldB_nil _ hc, List.append_nil]⟩
                | cons b m ih =>
                  intro cur hc
                  rw [fldB]
                  split
                  · exact ⟨[], _, by rw [List.append_nil]⟩
                  · obtain ⟨x, xs, hx⟩ := ih (cur ++ [b]) (by simp)
                    exact ⟨b :: x, xs, by rw [hx]; simp⟩
              obtain ⟨x, xs, hx⟩ := key (t.take i) [64] (by simp)
              exact ⟨x, xs, hx⟩
            obtain ⟨x, xs, hx⟩ := hw
            unfold codesW
            rw [hx, if_neg (by simp), numsX_none _ (64 :: x) (List.mem_cons_self ..)]
            unfold numX
            rw [if_neg]
            rintro ⟨_, _, h⟩
            rw [List.all_cons] at h
            have : hexB 64 = false := by decide
            rw [this] at h; cases h
          simp only [hcw]
theorem any_split (l : Bs) : (Lib.indexAny l [32, 9] = -1 ∧ ∀ c ∈ l, blk c = false) ∨ ∃ (j : Nat) (b : UInt8), Lib.indexAny l [32, 9] = j ∧ l[j]? = some b ∧ blk b = true ∧ ∀ i c, i < j → l[i]? = some c → blk c = false := by
  induction l with
  | nil => exact .inl ⟨rfl, by simp⟩
  | cons b t ih =>
    cases hb : blk b with
    | true => exact .inr ⟨0, b, by rw [Lib.indexAny, if_pos (by exact hb)]; rfl, rfl, hb, fun i c hi => by omega⟩
    | false =>
      have e : (([32, 9] : Bs).contains b) = false := hb
      rcases ih with ⟨h1, h2⟩ | ⟨j, c, h1, h2, h3, h4⟩
      · left
        refine ⟨by rw [Lib.indexAny, e, h1]; rfl, fun x hx => ?_⟩
        rcases List.mem_cons.1 hx with rfl | hx
        · exact hb
        · exact h2 x hx
      · right
        refine ⟨j + 1, c, ?_, by simpa using h2, h3, fun i x hi hx => ?_⟩
        · rw [Lib.indexAny, e, h1, if_neg (by exact Bool.false_ne_true), if_neg (by rw [beq_iff_eq]; omega)]; omega
        · cases i with
          | zero => simp at hx; subst hx; exact hb
          | succ i => exact h4 i x (by omega) (by simpa using hx)
/-- a trimmed text is one word just if no blank stands in it -/
theorem one_word {v : Bs} (ht : trimW v = v) (hv : v ≠ []) : (wordsW v).length = 1 ↔ Lib.containsAny v [32, 9] = false := by
  have hl := List.length_pos_iff.2 hv
  rcases any_split v with ⟨h1, h2⟩ | ⟨j, b, h1, h2, h3, h4⟩
  · have e : wordsW v = [v] := by
      have := words_step (u := v) (i := v.length) hl (Nat.le_refl _) (fun j b _ hb => h2 b (List.mem_of_getElem? hb)) (.inl (List.drop_length ..))
      rw [this, List.take_length, List.drop_length]; rfl
    unfold Lib.containsAny
    rw [e, h1]; simp
  · have hj0 : 0 < j := by
      rcases Nat.eq_zero_or_pos j with h | h
      · subst h
        have := blk_drop1 h2 h3
        rw [ht] at this
        have h5 := congrArg List.length this
        have h6 := trimW_le (v.drop 1)
        rw [List.length_drop] at h6; omega
      · exact h
    have hjl := (List.getElem?_eq_some_iff.1 h2).1
    have e := words_step (u := v) (i := j) hj0 (by omega) (fun i c hi hc => h4 i c hi hc) (.inr ⟨b, v.drop (j + 1), by rw [List.drop_eq_getElem_cons hjl, (List.getElem?_eq_some_iff.1 h2).2], h3⟩)
    have hne : wordsW (trimW (v.drop j)) ≠ [] := by
      -- its last byte is no blank
      obtain ⟨m, c, hmc⟩ : ∃ m c, v = m ++ [c] := ⟨v.dropLast, v.getLast hv, (List.dropLast_concat_getLast hv).symm⟩
      have hc := last_blk ht hmc
      intro h
      rw [words_trim, wordsW_fldB] at h
      have hml : v.length = m.length + 1 := by rw [hmc]; simp
      have hd : v.drop j = m.drop j ++ [c] := by rw [hmc, List.drop_append_of_le_length (by omega)]
      rw [hd] at h
      have key : ∀ (m cur : Bs), fldB cur (m ++ [c]) ≠ [] := by
        intro m
        induction m with
        | nil => intro cur h; rw [List.nil_append, fldB, if_neg (by rw [hc]; exact Bool.false_ne_true), fldB_nil _ (by simp)] at h; cases h
        | cons b m ih =>
          intro cur h
          rw [List.cons_append, fldB] at h
          split at h
          · split at h
            · exact ih [] h
            · cases h
          · exact ih _ h
      exact key _ _ h
    constructor
    · intro h
      rw [e] at h
      cases hx : wordsW (trimW (v.drop j)) with
      | nil => exact absurd hx hne
      | cons x xs => rw [hx] at h; simp at h
    · intro h
      unfold Lib.containsAny at h
      rw [h1] at h
      exact absurd h (by simp)
/-- the reference's line is the program's, the ranges put in order -/
theorem line_same (st : TSt) (l : Bs) (ht : trimW l = l) (hl : l ≠ []) (h4 : st.2.2.length ≤ 4000) : lineR (srtS st) l = match stepW st l with | .error e => .error e | .ok s => .ok (srtS s) := by
  obtain ⟨v0, rs, es⟩ := st
  have h4 : es.length ≤ 4000 := h4
  show lineR (v0, srtR rs, es) l = _
  cases hp : Lib.hasPrefix l [64] with
  | false =>
    unfold lineR
    rw [pref_no hp verK rfl, pref_no hp impK rfl, pref_no hp uniK rfl, stepW_no _ l hp]
    dsimp only
    cases lineW l with
    | error e => rfl
    | ok x =>
      dsimp only
      by_cases hm : x.1 ∈ es.map (·.1)
      · rw [if_pos hm, if_pos hm]
      · rw [if_neg hm, if_neg hm]
        by_cases h5 : es.length = 4000
        · rw [if_pos h5, if_neg (by omega)]
        · rw [if_neg h5, if_pos (by omega)]; rfl
  | true =>
    obtain ⟨t, rfl⟩ := pref_at hp
    rw [stepW_at _ _ hp]
    unfold lineR
    rcases any_split (64 :: t) with ⟨h1, h2⟩ | ⟨j, b, h1, h2, h3, h4'⟩
    · rw [after_none h2, after_none h2, after_none h2, lineW_64, h1]; rfl
    · have hj0 : 0 < j := by
        rcases Nat.eq_zero_or_pos j with h | h
        · subst h; simp at h2; subst h2; exact absurd h3 (by decide)
        · exact h
      have hjl := (List.getElem?_eq_some_iff.1 h2).1
      have hjp : (0 : Int) < (j : Int) := by omega
      rw [after_first h4' h2 h3 (word := verK) (by decide), after_first h4' h2 h3 (word := impK) (by decide), after_first h4' h2 h3 (word := uniK) (by decide), h1, if_pos hjp, Int.toNat_natCast, markW_eq]
      generalize hwd : (64 :: t).take j = wd
      by_cases c1 : wd = verK
      · rw [if_pos c1, if_pos c1]
        simp only
        have hne : trimW ((64 :: t).drop j) ≠ [] := by
          obtain ⟨m, c, hmc⟩ : ∃ m c, 64 :: t = m ++ [c] := ⟨(64 :: t).dropLast, (64 :: t).getLast (by simp), (List.dropLast_concat_getLast (by simp)).symm⟩
          have hc := last_blk ht hmc
          have hml : (64 :: t).length = m.length + 1 := by rw [hmc]; simp
          have hd : (64 :: t).drop j = m.drop j ++ [c] := by rw [hmc, List.drop_append_of_le_length (by omega)]
          intro h
          rw [hd] at h
          have h5 : List.dropWhile blk (List.dropWhile blk (m.drop j ++ [c]).reverse).reverse = [] := h
          rw [List.reverse_append] at h5
          simp only [List.reverse_cons, List.reverse_nil, List.nil_append, List.singleton_append] at h5
          rw [List.dropWhile_cons, if_neg (by rw [hc]; exact Bool.false_ne_true), List.reverse_cons, List.reverse_reverse, List.dropWhile_append] at h5
          split at h5
          · rw [List.dropWhile_cons, if_neg (by rw [hc]; exact Bool.false_ne_true)] at h5; cases h5
          · simp at h5
        have h1w := one_word (trim_trim ((64 :: t).drop j)) hne
        unfold nameW
        dsimp only
        by_cases hs : v0 = none
        · by_cases hcn : Lib.containsAny (trimW ((64 :: t).drop j)) [32, 9] = false
          · have hC : trimW ((64 :: t).drop j) ≠ [] ∧ v0 = none ∧ Lib.containsAny (trimW ((64 :: t).drop j)) [32, 9] = false := ⟨hne, hs, hcn⟩
            have hD : ¬ (v0 ≠ none ∨ (wordsW (trimW ((64 :: t).drop j))).length ≠ 1) := by rw [not_or]; exact ⟨fun h => h hs, fun h => h (h1w.2 hcn)⟩
            rw [if_neg hD, if_pos hC]
            by_cases hv : verB (trimW ((64 :: t).drop j)) = true
            · rw [if_pos hv, if_pos hv]; rfl
            · rw [if_neg hv, if_neg hv]
          · rw [if_pos (.inr (fun h => hcn (h1w.1 h))), if_neg (fun h => hcn h.2.2)]
        · rw [if_pos (.inl hs), if_neg (fun h => hs h.2.1)]
      · rw [if_neg c1, if_neg c1]
        simp only
        have rul : ∀ (wh : Bool) (x : Bs), ruleR (v0, srtR rs, es) wh x = match rangedW (v0, rs, es) wh x with | .error e => .error e | .ok s => .ok (srtS s) := by
          intro wh x
          unfold ruleR rangedW
          cases rangeW wh x with
          | error e => rfl
          | ok r => simp only [srtS, srtR_snoc]
        by_cases c2 : wd = impK
        · rw [if_pos c2, if_pos c2]; exact rul _ _
        · rw [if_neg c2, if_neg c2]
          simp only
          by_cases c3 : wd = uniK
          · rw [if_pos c3, if_pos c3]; exact rul _ _
          · rw [if_neg c3, if_neg c3, lineW_64]
end Go.Proofs.YtjbcbejedaeedaaGreatDoor
/-! The reference of chapter 8: what stands behind a word: walked. -/
namespace Go.Proofs.YtjbcbejedaeedaaGreatDoor
open Go.RowKit
open PlainAid (bt)

def afterV (l word : Bs) : Value := match afterW l word with | some v => .tuple #[.string (mkB v), .bool true] | none => .tuple #[.string ⟨#[]⟩, .bool false]
theorem afterV_no {l word : Bs} (h : ¬ (word.length < l.length ∧ l.take word.length = word ∧ (∃ b, l[word.length]? = some b ∧ blk b = true))) : afterV l word = .tuple #[.string ⟨#[]⟩, .bool false] := by
  unfold afterV afterW; rw [if_neg h]
theorem afterV_yes {l word : Bs} (h : word.length < l.length ∧ l.take word.length = word ∧ (∃ b, l[word.length]? = some b ∧ blk b = true)) : afterV l word = .tuple #[.string (mkB (trimW (l.drop word.length))), .bool true] := by
  unfold afterV afterW; rw [if_pos h]
set_option maxHeartbeats 4000000 in
set_option maxRecDepth 100000 in
theorem rafter_any (s word : ByteArray) (w : World) (hs : s.size ≤ 1000000) (hw : word.size ≤ 1000) :
    Calls Tryz.prog 57 #[.string s, .string word] w fun e w' => e = .returned (afterV s.data.toList word.data.toList) ∧ w = w' := by
  have hbt := PlainAid.get_bt s
  have HNO : Hid (¬ (word.size < s.size ∧ s.data.toList.take word.size = word.data.toList ∧ (∃ b, s.data.toList[word.size]? = some b ∧ blk b = true)) → afterV s.data.toList word.data.toList = .tuple #[.string ⟨#[]⟩, .bool false]) := by
    show _ → _
    intro h
    exact afterV_no (by rw [size_data, size_data]; exact h)
  have HYES : Hid ((word.size < s.size ∧ s.data.toList.take word.size = word.data.toList ∧ (∃ b, s.data.toList[word.size]? = some b ∧ blk b = true)) → afterV s.data.toList word.data.toList = .tuple #[.string (mkB (trimW (s.data.toList.drop word.size))), .bool true]) := by
    show _ → _
    intro h
    have := afterV_yes (l := s.data.toList) (word := word.data.toList) (by rw [size_data, size_data]; exact h)
    rwa [size_data] at this
  obtain ⟨n, hn⟩ : ∃ n, n = word.size := ⟨_, rfl⟩
  by_cases h0 : word.size < s.size
  · have g0 : ¬ (s.size : Int) ≤ (word.size : Int) := by omega
    have HX1 : Hid ((s.extract 0 word.size).toList = s.data.toList.take word.size) := by show _ = _; rw [Lib.toList_data, extract_take, data_mkB]
    have HX3 : Hid (word.toList = word.data.toList) := Lib.toList_data word
    by_cases h1 : s.data.toList.take word.size = word.data.toList
    · have g1 : ((s.extract 0 word.size).toList == word.toList) = true := by rw [HX1.out, HX3.out, h1]; simp
      have g2 : ((s.extract 0 word.size).toList != word.toList) = false := by rw [HX1.out, HX3.out, h1]; simp
      obtain ⟨b, hc1, hc2⟩ := at_bt s word.size h0
      have HC := Lib.hid (And.intro h0 (And.intro h1 hc1))
      have b0 := PlainAid.bt_nonneg s word.size
      have b1 := PlainAid.bt_le s word.size
      have hq : (word.size : Int) < (s.size : Int) := by omega
      cases hb : blk b with
      | true =>
        have HCA := Lib.hid (rblankY s word.size b hc2 hb)
        have HE := Lib.hid (HYES.out ⟨h0, h1, b, hc1, hb⟩)
        have HX2 : Hid ((s.extract word.size s.size).data.toList = s.data.toList.drop word.size) := Lib.extract_to_end s word.size
        have hxs : (s.extract word.size s.size).size ≤ 1000000 := by rw [← size_data, HX2.out, List.length_drop, size_data]; omega
        have HTR := Lib.hid (fun w => rtrim_any (s.extract word.size s.size) w (by omega))
        rw [HX2.out] at HTR
        clear hb hc1 hc2 h1 HNO HYES hn hxs
        go_enter Tryz.func57, Tryz.ntmps57
        go_wp2_with (first | (go_at_call 56; refine (HCA.out _).mono ?_; rintro e w' ⟨rfl, rfl⟩) | (go_at_call 25; refine (HTR.out _).mono ?_; rintro e w' ⟨rfl, rfl⟩))
        go_ret2
        exact ⟨by rw [HE.out] <;> rfl, rfl⟩
      | false =>
        have HCA := Lib.hid (rblankN s word.size b hc2 hb)
        have HE := Lib.hid (HNO.out (fun h => by obtain ⟨_, _, c, h3, h4⟩ := h; rw [hc1] at h3; cases h3; rw [hb] at h4; cases h4))
        clear hb hc1 hc2 h1 HNO HYES hn
        go_enter Tryz.func57, Tryz.ntmps57
        go_wp2_with (go_at_call 56; refine (HCA.out _).mono ?_; rintro e w' ⟨rfl, rfl⟩)
        go_ret2
        exact ⟨by rw [HE.out] <;> rfl, rfl⟩
    · have g1 : ((s.extract 0 word.size).toList == word.toList) = false := by rw [HX1.out, HX3.out]; exact beq_eq_false_iff_ne.2 h1
      have g2 : ((s.extract 0 word.size).toList != word.toList) = true := by rw [HX1.out, HX3.out]; exact bne_iff_ne.2 h1
      have HE := Lib.hid (HNO.out (fun h => h1 h.2.1))
      clear h1 HNO HYES hn
      go_enter Tryz.func57, Tryz.ntmps57
      go_wp2_with fail
      go_ret2
      exact ⟨by rw [HE.out] <;> rfl, rfl⟩
  · have g0 : (s.size : Int) ≤ (word.size : Int) := by omega
    have HE := Lib.hid (HNO.out (fun h => h0 h.1))
    clear h0 HNO HYES hn
    go_enter Tryz.func57, Tryz.ntmps57
    go_wp2_with fail
    go_ret2
    exact ⟨by rw [HE.out] <;> rfl, rfl⟩
end Go.Proofs.YtjbcbejedaeedaaGreatDoor
/-! The reference of chapter 8: what its reader holds; a range is read, and put in order. -/
namespace Go.Proofs.YtjbcbejedaeedaaGreatDoor
open Go.RowKit
open PlainAid (bt)

/-- what the reader's block is -/
def Rd8 (W : World) (pb : Nat) (ver : Bs) (rv ev : Value) (told : Bool) : Prop :=
  W.heap[pb]? = some (.cells #[.string (mkB ver), rv, ev, .bool told] 66 (0, 0))
theorem Rd8.cells {W : World} {pb : Nat} {ver : Bs} {rv ev : Value} {told : Bool} (h : Rd8 W pb ver rv ev told) :
    W.cell? ⟨pb, 0, none⟩ = some (.string (mkB ver)) ∧ W.cell? ⟨pb, 1, none⟩ = some rv ∧ W.cell? ⟨pb, 2, none⟩ = some ev ∧ W.cell? ⟨pb, 3, none⟩ = some (.bool told) ∧ (∀ o, W.frozen? ⟨pb, o, none⟩ = false) ∧ pb < W.heap.size := by
  unfold Rd8 at h
  refine ⟨?_, ?_, ?_, ?_, fun o => ?_, (Array.getElem?_eq_some_iff.1 h).1⟩ <;> simp [World.cell?, World.frozen?, h]
theorem Rd8.put0 {W : World} {pb : Nat} {ver : Bs} {rv ev : Value} {told : Bool} (h : Rd8 W pb ver rv ev told) (x : Bs) : Rd8 (W.setCell ⟨pb, 0, none⟩ (.string (mkB x))) pb x rv ev told := by
  unfold Rd8 at *
  unfold World.setCell
  simp [Array.getElem?_modify, h]
theorem Rd8.put1 {W : World} {pb : Nat} {ver : Bs} {rv ev : Value} {told : Bool} (h : Rd8 W pb ver rv ev told) (x : Value) : Rd8 (W.setCell ⟨pb, 1, none⟩ x) pb ver x ev told := by
  unfold Rd8 at *
  unfold World.setCell
  simp [Array.getElem?_modify, h]
theorem Rd8.put2 {W : World} {pb : Nat} {ver : Bs} {rv ev : Value} {told : Bool} (h : Rd8 W pb ver rv ev told) (x : Value) : Rd8 (W.setCell ⟨pb, 2, none⟩ x) pb ver rv x told := by
  unfold Rd8 at *
  unfold World.setCell
  simp [Array.getElem?_modify, h]
theorem Rd8.put3 {W : World} {pb : Nat} {ver : Bs} {rv ev : Value} {told : Bool} (h : Rd8 W pb ver rv ev told) (x : Bool) : Rd8 (W.setCell ⟨pb, 3, none⟩ (.bool x)) pb ver rv ev x := by
  unfold Rd8 at *
  unfold World.setCell
  simp [Array.getElem?_modify, h]
/-- the reader, what it has read, in blocks from B on -/
def RSt (B : Nat) (W : World) (pb : Nat) (st : TSt) : Prop :=
  ∃ rv ev vs, Rd8 W pb (st.1.getD []) rv ev st.1.isSome ∧ W.ownsRow B 61 4 rv st.2.1.length (st.2.1.flatMap rgCells) ∧ W.ownsRow B 45 2 ev st.2.2.length (vs.flatMap evCells) ∧
    EVs B W st.2.2 vs ∧ st.2.1.Pairwise (fun x y => x.1 ≤ y.1) ∧ st.2.1.length ≤ 5000000 ∧ st.2.2.length ≤ 4000 ∧ ∀ x ∈ st.2.2, x.1.length ≤ 8 ∧ x.2.length ≤ 16
theorem RSt.below {B : Nat} {W W' : World} {pb : Nat} {st : TSt} (h : RSt B W pb st) (hb : Below W.heap.size W W') : RSt B W' pb st := by
  obtain ⟨rv, ev, vs, h3, h4, h5, h6, h7⟩ := h
  exact ⟨rv, ev, vs, (hb.block pb h3.cells.2.2.2.2.2).trans h3, ownsRow_growT h4 hb, ownsRow_growT h5 hb, h6.kept (Kept.below hb), h7⟩
/-- how a step ends -/
def RStepEnd (B pb : Nat) (r : Except Int TSt) (w : World) (e : Ending) (w' : World) : Prop :=
  Only (fun k => k = pb ∨ B ≤ k) w w' ∧ ((∃ st', r = .ok st' ∧ e = .returned (.int .i64 0) ∧ RSt B w' pb st') ∨ ∃ z, r = .error z ∧ e = .returned (.int .i64 z))
theorem rstep_err {B pb : Nat} {r : Except Int TSt} {w w' : World} {z : Int} (hb : Below w.heap.size w w') (h : r = .error z) : RStepEnd B pb r w (.returned (.int .i64 z)) w' :=
  ⟨(Only.refl _ w).below hb, .inr ⟨z, h, rfl⟩⟩
/-! Plain: a range in its place; two dots. -/
theorem insR_place (x : Rng) : ∀ (P Q : List Rng), (P ++ Q).Pairwise (fun x y => x.1 ≤ y.1) → (∀ p ∈ P, p.1 ≤ x.1) → (∀ q ∈ Q, x.1 < q.1) → insR x (P ++ Q) = P ++ x :: Q
  | [], [], _, _, _ => rfl
  | [], q :: Q, _, _, h => by
    show insR x (q :: Q) = _
    rw [insR, if_pos (h q (List.mem_cons_self ..))]; rfl
  | p :: P, Q, h0, h1, h2 => by
    rw [List.cons_append] at h0 ⊢
    have := h1 p (List.mem_cons_self ..)
    rw [insR, if_neg (by omega), insR_place x P Q (List.pairwise_cons.1 h0).2 (fun y hy => h1 y (List.mem_cons_of_mem _ hy)) h2]; rfl
theorem insR_sorted {x : Rng} {P Q : List Rng} (h0 : (P ++ Q).Pairwise (fun x y => x.1 ≤ y.1)) (h1 : ∀ p ∈ P, p.1 ≤ x.1) (h2 : ∀ q ∈ Q, x.1 < q.1) : (P ++ x :: Q).Pairwise (fun x y => x.1 ≤ y.1) := by
  rw [List.pairwise_append] at h0 ⊢
  refine ⟨h0.1, List.pairwise_cons.2 ⟨fun q hq => by have := h2 q hq; omega, h0.2.1⟩, fun p hp q hq => ?_⟩
  rcases List.mem_cons.1 hq with rfl | hq
  · exact h1 p hp
  · exact h0.2.2 p hp q hq
theorem ahead_le {rs : List Rng} (h0 : rs.Pairwise (fun x y => x.1 ≤ y.1)) {k : Nat} {y : Rng} {n : Int} (hy : rs[k]? = some y) (hn : y.1 ≤ n) : ∀ p ∈ rs.take (k + 1), p.1 ≤ n := by
  intro p hp
  rw [take_snocR hy] at hp
  rcases List.mem_append.1 hp with hp | hp
  · have hk := (List.getElem?_eq_some_iff.1 hy).1
    have h1 : rs = rs.take k ++ rs.drop k := (List.take_append_drop k rs).symm
    rw [h1, List.pairwise_append] at h0
    have := h0.2.2 p hp y (by rw [List.drop_eq_getElem_cons hk, (List.getElem?_eq_some_iff.1 hy).2]; exact List.mem_cons_self ..)
    omega
  · simp at hp; subst hp; exact hn
theorem occ2 (l : Bs) (i : Nat) : Lib.occAt l [46, 46] i = true ↔ l[i]? = some 46 ∧ l[i + 1]? = some 46 := by
  unfold Lib.occAt
  have e0 : l[i]? = (l.drop i)[0]? := by rw [List.getElem?_drop]; rfl
  have e1 : l[i + 1]? = (l.drop i)[1]? := by rw [List.getElem?_drop]
  rw [e0, e1]
  cases l.drop i with
  | nil => simp [List.isPrefixOf]
  | cons a t => cases t with
    | nil => simp [List.isPrefixOf]
    | cons b t => simp [List.isPrefixOf]; exact ⟨fun h => ⟨h.1.symm, h.2.symm⟩, fun h => ⟨h.1.symm, h.2.symm⟩⟩
theorem dots_at {l : Bs} {i : Nat} (hn : Lib.NoOcc l [46, 46] i) (h0 : l[i]? = some 46) (h1 : l[i + 1]? = some 46) : Lib.cut l [46, 46] = (l.take i, l.drop (i + 2), true) := by
  have hi := Lib.index_hit hn (Nat.le_of_lt (List.getElem?_eq_some_iff.1 h0).1) ((occ2 l i).2 ⟨h0, h1⟩)
  unfold Lib.cut
  rw [hi, if_pos (by omega), show ((i : Int).toNat) = i from by omega]; rfl
theorem dots_none {l : Bs} {i : Nat} (hn : Lib.NoOcc l [46, 46] i) (h : l.length < i + 2) : (Lib.cut l [46, 46]).2.2 = false := by
  have hi := Lib.index_past (sub := [46, 46]) (by simp) hn h
  unfold Lib.cut
  rw [hi, if_neg (by omega)]
theorem rangeW_base {l : Bs} {whole : Bool} {a b : Bs} (h : Lib.cut l [59] = (a, b, true)) : rangeW whole l = match numX (trimW b) 4 4 with
    | none => .error 80
    | some bs => if (Lib.cut (trimW a) [46, 46]).2.2 = false then .error 80 else
      match numX (Lib.cut (trimW a) [46, 46]).1 4 6 with
      | none => .error 80
      | some x => match numX (Lib.cut (trimW a) [46, 46]).2.1 4 6 with
        | none => .error 80
        | some y => if x ≤ 1114111 ∧ y ≤ 1114111 then .ok (x, y, bs, whole) else .error 90 := by
  unfold rangeW
  rw [h, if_neg (by simp)]
  dsimp only
  cases numX (trimW b) 4 4 with
  | none =>
    dsimp only
    split
    · rfl
    · cases numX (Lib.cut (trimW a) [46, 46]).1 4 6 with
      | none => rfl
      | some x => cases numX (Lib.cut (trimW a) [46, 46]).2.1 4 6 <;> rfl
  | some bs => rfl
/-! Ranges are put behind one another: one into the midst. -/
theorem rg_one {Q : List Rng} : ∀ u ∈ Q.flatMap rgCells, u.oneCell' = true := by
  intro u hu
  obtain ⟨e, _, he⟩ := List.mem_flatMap.1 hu
  simp only [rgCells, List.mem_cons, List.not_mem_nil, or_false] at he
  rcases he with rfl | rfl | rfl | rfl <;> rfl
theorem rg_len (Q : List Rng) : (Q.flatMap rgCells).length = Q.length * 4 := by
  induction Q with
  | nil => rfl
  | cons x Q ih => rw [List.flatMap_cons, List.length_append, ih, List.length_cons]; simp [rgCells]; omega
theorem app_zero {P : Program} {w : World} (base : Nat) (t ty e : TypeId) (i : TypeInfo) (size : Nat) (ht : P.underlying t = some (.slice e)) (hi : P.info? e = some i)
    (v : Value) (n : Nat) (xs : List Value) (hown : w.ownsRow base e size v n xs) (p : Option Addr) (c : Nat) :
    (Builtin.append_ #[t, t] ty #[v, .slice p 0 c]).run P w = .ok v w := by
  have hl : ∀ a : Addr, (loadCellsFrom a 0 0 #[]).run P w = .ok #[] w := fun a => by unfold loadCellsFrom; rfl
  rcases hown.2 with ⟨rfl, rfl⟩ | ⟨g, cap, cur, rfl, _, _, hnc, _⟩
  · cases p <;> simp [Builtin.append_, run_underlying ht, sizeOf, typeInfo, hi, Builtin.lenOf, Builtin.firstCells, loadCells, hl, Result.andThen]
  · cases p <;> simp [Builtin.append_, run_underlying ht, sizeOf, typeInfo, hi, Builtin.lenOf, Builtin.firstCells, hnc, storeCells, loadCells, hl, Result.andThen]
set_option maxRecDepth 100000 in
/-- behind the new one -/
theorem run_ins1 {W1 : World} {B g c : Nat} {ty : TypeId} {x : Rng} {q : Option Addr} {Q : List Rng} (hlit : W1.ownsRow B 61 4 (.slice (some ⟨g, 0, none⟩) 1 1) 1 (rgCells x)) (hB : B ≤ W1.heap.size) (hQ : Q.length ≤ 5000000)
    (hsrc : Q ≠ [] → ∃ a, q = some a ∧ ∀ j u, (Q.flatMap rgCells)[j]? = some u → W1.cell? (a.add j) = some u) :
    ∃ g2 c2 W2, (Builtin.append_ #[23, 23] ty #[.slice (some ⟨g, 0, none⟩) 1 1, .slice q Q.length c]).run Tryz.prog W1 = .ok (.slice (some ⟨g2, 0, none⟩) (1 + Q.length) c2) W2 ∧
      W2.ownsRow B 61 4 (.slice (some ⟨g2, 0, none⟩) (1 + Q.length) c2) (1 + Q.length) ((x :: Q).flatMap rgCells) ∧ W1.grownBy W2 (some g) := by
  obtain ⟨i0, hi, hz0, hz1, hz2⟩ := info_parts Tryz.infoRg
  cases Q with
  | nil =>
    refine ⟨g, 1, W1, app_zero B _ _ _ i0 4 Tryz.underlying23 hi _ 1 _ hlit q c, ?_, ⟨rfl, rfl, rfl, Nat.le_refl _, fun _ _ _ => rfl⟩⟩
    simpa using hlit
  | cons y Q =>
    obtain ⟨a, rfl, hc⟩ := hsrc (by simp)
    obtain ⟨g2, c2, W2, h1, h2, h3, _, _⟩ := run_append_lies W1 23 ty B 61 i0 (.agg #[.int .i32 0, .int .i32 0, .int .i64 0, .bool false]) 4 24 Tryz.underlying23 hi hz0 hz1 hz2 rfl (by decide) (.slice (some ⟨g, 0, none⟩) 1 1) 1 (rgCells x) hlit
      a (y :: Q).length c ((y :: Q).flatMap rgCells) (rg_len _) hc rg_one (by simp) (by unfold maxLen; omega) (by omega) hB _ rfl
    refine ⟨g2, c2, W2, h1, ?_, h3⟩
    rw [List.flatMap_cons]; exact h2
set_option maxRecDepth 100000 in
/-- behind what stands ahead -/
theorem run_ins2 {W2 : World} {B g2 c2 k m : Nat} {ty : TypeId} {p : Option Addr} {P : List Rng} {ys : List Value} (hk : P.length = k) (hm : 0 < m) (hl : k + m ≤ 5000001) (hy : W2.ownsRow B 61 4 (.slice (some ⟨g2, 0, none⟩) m c2) m ys) (hB : B ≤ W2.heap.size)
    (hsrc : (p = none ∧ P = []) ∨ ∃ a, p = some a ∧ ∀ j u, (P.flatMap rgCells)[j]? = some u → W2.cell? (a.add j) = some u) :
    ∃ c3 W3, (Builtin.append_ #[23, 23] ty #[.slice p k k, .slice (some ⟨g2, 0, none⟩) m c2]).run Tryz.prog W2 = .ok (.slice (some ⟨W2.heap.size, 0, none⟩) (k + m) c3) W3 ∧
      W3.ownsRow B 61 4 (.slice (some ⟨W2.heap.size, 0, none⟩) (k + m) c3) (k + m) (P.flatMap rgCells ++ ys) ∧ Below W2.heap.size W2 W3 := by
  obtain ⟨i0, hi, hz0, hz1, hz2⟩ := info_parts Tryz.infoRg
  have hyl := hy.1
  have hyc := hy.cells (g := g2) rfl
  have hx1 := rg_len P
  have hz24 : (Value.agg #[.int .i32 0, .int .i32 0, .int .i64 0, .bool false]).cells.size = 4 := rfl
  have grown : ∀ (old : Nat) (A : Array Value), A.size = (k + m) * 4 → A.toList = P.flatMap rgCells ++ ys →
      (W2.drew.alloc (.cells (A ++ Builtin.zeroCells (Value.agg #[.int .i32 0, .int .i32 0, .int .i64 0, .bool false]).cells (grownCap W2 (k + m) old 61 - (k + m))) 61)).ownsRow B 61 4
        (.slice (some ⟨W2.heap.size, 0, none⟩) (k + m) (grownCap W2 (k + m) old 61)) (k + m) (P.flatMap rgCells ++ ys) := by
    intro old A hA hAl
    have hge := grownCap_ge W2 (k + m) old 61
    have hcm : grownCap W2 (k + m) old 61 ≤ maxLen := grownCap_le_maxLen W2 (k + m) old _ (by unfold maxLen; omega)
    refine ⟨by rw [← hAl, Array.length_toList, hA], .inr ⟨W2.heap.size, _, _, rfl, hB, World.alloc_heap_new W2.drew _, hge, hcm, ?_, ?_⟩⟩
    · rw [Array.size_append, size_zeroCells, hA, hz24, ← Nat.add_mul]; congr 1; omega
    · rw [Array.toList_append, hAl, List.take_append_of_le_length (by rw [← hAl, Array.length_toList, hA]; exact Nat.le_refl _), List.take_of_length_le (by rw [← hAl, Array.length_toList, hA]; exact Nat.le_refl _)]
  have hbl : ∀ o, Below W2.heap.size W2 (W2.drew.alloc o) := fun o => (Below.refl _ W2).drew.alloc (Nat.le_refl _) o
  rcases hsrc with ⟨rfl, rfl⟩ | ⟨a, rfl, hc⟩
  · have hk0 : k = 0 := hk.symm
    subst hk0
    have hr := run_append_nil (P := Tryz.prog) W2 23 ty 61 i0 (.agg #[.int .i32 0, .int .i32 0, .int .i64 0, .bool false]) Tryz.underlying23 hi hz0 ⟨g2, 0, none⟩ m c2 ys (by rw [hz1]; exact hyl) hyc hm (by omega) (by rw [hz2]; omega)
    have hg := grown 0 ys.toArray (by simp [hyl]) (by simp)
    rw [Nat.zero_add] at hg ⊢
    exact ⟨_, _, hr, hg, hbl _⟩
  · have hr := run_append_grow (P := Tryz.prog) W2 23 ty 61 i0 (.agg #[.int .i32 0, .int .i32 0, .int .i64 0, .bool false]) Tryz.underlying23 hi hz0 a k k (P.flatMap rgCells) (by rw [hz1, hx1, hk]) hc ⟨g2, 0, none⟩ m c2 ys (by rw [hz1]; exact hyl) hyc (by omega) (by omega) (by rw [hz2]; exact growslice_fits (by omega) (by omega))
    have hg := grown k ((P.flatMap rgCells).toArray ++ ys.toArray) (by simp only [Array.size_append, List.size_toArray, hx1, hk, hyl, ← Nat.add_mul]) (by simp)
    exact ⟨_, _, hr, hg, hbl _⟩
theorem sliced_zeroR (p : Option Addr) (k : Nat) : sliced p 0 k k 4 = .slice p k k := by
  unfold sliced
  rw [Nat.zero_mul, Nat.sub_zero]
  split
  · rfl
  · cases p with
    | none => rfl
    | some a => show Value.slice (some (a.add 0)) k k = _; unfold Addr.add; rw [if_pos rfl]
theorem slice_fullR (w : World) (p : Option Addr) (len cap k : Nat) (hk : k ≤ cap) : (Instr.sliceAt 23 (.slice p len cap) none (some (.int .i64 k)) (some (.int .i64 k))).run Tryz.prog w = .ok (.slice p k k) w := by
  have he : Tryz.prog.elem 23 = 61 := by kernel_rfl
  rw [run_sliceAt_slice w 23 _ _ _ _ (by rw [he]; exact Tryz.underlying23), run_slice_hm w 23 p len cap (by rw [he]; exact Tryz.underlying23) .i64 .i64 k k (by omega) (by omega) (by omega), he]
  have hz : (sizeOf 61).run Tryz.prog w = .ok 4 w := by kernel_rfl
  rw [hz, ← sliced_zeroR]
  simp [Result.andThen]
theorem slice_fromR (w : World) (p : Option Addr) (len cap i : Nat) (hi : i ≤ len) : (Instr.sliceAt 23 (.slice p len cap) (some (.int .i64 i)) none none).run Tryz.prog w = .ok (sliced p i len cap 4) w := by
  have he : Tryz.prog.elem 23 = 61 := by kernel_rfl
  rw [run_sliceAt_slice w 23 _ _ _ _ (by rw [he]; exact Tryz.underlying23), run_slice_l w 23 p len cap (by rw [he]; exact Tryz.underlying23) .i64 i (by omega) (by omega), he]
  have hz : (sizeOf 61).run Tryz.prog w = .ok 4 w := by kernel_rfl
  rw [hz]
  simp [Result.andThen]
end Go.Proofs.YtjbcbejedaeedaaGreatDoor
