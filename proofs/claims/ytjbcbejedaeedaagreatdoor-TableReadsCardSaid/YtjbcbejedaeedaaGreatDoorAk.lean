/- Package strings: Builder.Grow, WriteByte: walked. Package strings: ToUpper of plain bytes: walked. Package strings: Repeat of one zero, up to three times: walked. -/
import Derived.Test.YtjbcbejedaeedaaGreatDoorBe
import Derived.Shelf.Strings.Builder2
import Derived.Test.YtjbcbejedaeedaaGreatDoorAc
import Derived.Test.YtjbcbejedaeedaaGreatDoorAb
import Derived.Test.YtjbcbejedaeedaaGreatDoorGa
/-! Package strings: Builder.Grow, WriteByte: walked. -/
namespace Go.Proofs.YtjbcbejedaeedaaGreatDoor
open Go.RowKit Go.Shelf

def Tryz.lays241_ren : Ren where
  f := fun x => match x with
    | 241 => 135
    | 277 => 159
    | n => n
  t := fun x => match x with
    | 70 => 84
    | 3 => 3
    | 0 => 0
    | 72 => 87
    | 37 => 85
    | 5 => 5
    | n => n
  g := fun x => x
theorem Tryz.lays241 : Lays.n241 Tryz.prog Tryz.lays241_ren :=
{ mixed := Eq.refl true, f241 := Eq.trans Tryz.func135 (congrArg some (Eq.refl (Body.n241 Tryz.lays241_ren))),
  f277 := Eq.trans Tryz.func159 (congrArg some (Eq.refl (Body.n277 Tryz.lays241_ren))), t0 := Tryz.underlying0,
  a0 := Tryz.isAgg0, z0 := Tryz.sizeOf0, v0 := Tryz.zeroValue0, t3 := Tryz.underlying3, a3 := Tryz.isAgg3,
  z3 := Tryz.sizeOf3, v3 := Tryz.zeroValue3, t37 := Tryz.underlying85, a37 := Tryz.isAgg85, z37 := Tryz.sizeOf85,
  v37 := Tryz.zeroValue85, t70 := Tryz.underlying84, a70 := Tryz.isAgg84, z70 := Tryz.sizeOf84, v70 := Tryz.zeroValue84,
  t72 := Tryz.underlying87, a72 := Tryz.isAgg87, z72 := Tryz.sizeOf87, v72 := Tryz.zeroValue87 }
set_option maxRecDepth 100000 in
theorem Tryz.bldExtra241 : Builder.Extra Tryz.prog Tryz.lays241_ren :=
{ sizeBuilder := Tryz.bldSize, liesBuilder := Tryz.bldLies, t5 := Tryz.underlying5, a5 := Tryz.isAgg5, z5 := Tryz.sizeOf5, v5 := Tryz.zeroValue5, infoByte := Tryz.byteInfo, cellsByte := by kernel_rfl, sizeByte := by kernel_rfl, neB5 := by decide }
theorem bldgrow_any (B b n : Nat) (w : World) (hB : B ≤ b) (hbk : w.heap[b]? = some (.cells #[.pointer (some ⟨b, 0, none⟩), .slice none 0 0] 87 (0, 0))) (hBw : B ≤ w.heap.size) (hn : n ≤ 281474976710656) :
    Calls Tryz.prog 135 #[.pointer (some ⟨b, 0, none⟩), .int .i64 n] w fun e w' => e = .returned (.tuple #[]) ∧ (Lib.BuilderAt 87 5 B b (.pointer (some ⟨b, 0, none⟩)) [] w' ∧ Below B w w') :=
  Any.Builder_grow_fresh Tryz.lays241 Tryz.bldExtra241 B b n w hB hbk hBw hn
set_option maxHeartbeats 1000000 in
set_option maxRecDepth 100000 in
theorem copyCheck_new (b : Nat) (w : World) (h : w.heap[b]? = some (.cells #[.pointer none, .slice none 0 0] 87 (0, 0))) : Calls Tryz.prog 71 #[.pointer (some ⟨b, 0, none⟩)] w fun e w' => e = .returned (.tuple #[]) ∧
    w' = w.setCell ⟨b, 0, none⟩ (.pointer (some ⟨b, 0, none⟩)) := by
  obtain ⟨j, hj, hjs⟩ := Option.map_eq_some_iff.1 Tryz.bldSize
  have h0 : w.cell? ⟨b, 0, none⟩ = some (.pointer none) := by rw [Lib.cell_of_heap h]; rfl
  have hfz : w.frozen? ⟨b, 0, none⟩ = false := Lib.frozen_of_heap h 0
  have hsh : w.shape? b = some (87, 2) := by unfold World.shape?; rw [h]; rfl
  have hbl : b < w.heap.size := (Array.getElem?_eq_some_iff.1 h).1
  clear h
  go_enter Tryz.func71, Tryz.ntmps71
  go_wp2
  rw [Lib.run_to_unsafe w ⟨b, 0, none⟩ Tryz.underlying84 Tryz.underlying158 hj (by rw [hjs]; decide) hsh (Nat.zero_lt_succ 1)]
  simp only [Result.andThen]
  rw [Oper.upon_value]
  go_wp2
  rw [run_callFunc_extern Tryz.func112 (by kernel_rfl) (by kernel_rfl) (by kernel_rfl) (e := Extern.AbiNoEscape.same) (by kernel_rfl), Lib.run_noEscape]
  simp only [Result.andThen]
  rw [Oper.upon_value]
  go_wp2
  rw [Lib.run_from_unsafe w ⟨b, 0, none⟩ Tryz.underlying158 Tryz.underlying84 hj hsh Tryz.bldLies]
  simp only [Result.andThen]
  rw [Oper.upon_value]
  go_wp2
  go_end0
  exact ⟨rfl, rfl⟩
set_option maxHeartbeats 1000000 in
set_option maxRecDepth 100000 in
theorem bldGrow_any (B b n : Nat) (w : World) (hB : B ≤ b) (hbk : w.heap[b]? = some (.cells #[.pointer none, .slice none 0 0] 87 (0, 0))) (hBw : B ≤ w.heap.size) (h1 : 1 ≤ n) (hn : n ≤ 281474976710656) :
    Calls Tryz.prog 100 #[.pointer (some ⟨b, 0, none⟩), .int .i64 n] w fun e w' => e = .returned (.tuple #[]) ∧ Bld B b [] w' ∧ Below B w w' := by
  have hc := copyCheck_new b w hbk
  have hb1 : (w.setCell ⟨b, 0, none⟩ (.pointer (some ⟨b, 0, none⟩))).heap[b]? = some (.cells #[.pointer (some ⟨b, 0, none⟩), .slice none 0 0] 87 (0, 0)) := by
    unfold World.setCell
    simp [Array.getElem?_modify, hbk]
  have HW : Hid (Below B w (w.setCell ⟨b, 0, none⟩ (.pointer (some ⟨b, 0, none⟩)))) := (Below.refl B w).setCell (p := ⟨b, 0, none⟩) hB _
  have hbl : b < w.heap.size := (Array.getElem?_eq_some_iff.1 hbk).1
  have hz : (w.setCell ⟨b, 0, none⟩ (.pointer (some ⟨b, 0, none⟩))).heap.size = w.heap.size := by simp
  generalize w.setCell ⟨b, 0, none⟩ (.pointer (some ⟨b, 0, none⟩)) = w1 at *
  have c1 : w1.cell? ⟨b, 1, none⟩ = some (.slice none 0 0) := by rw [Lib.cell_of_heap hb1]; rfl
  have hbl1 : b < w1.heap.size := by omega
  have HG : Hid (∀ m, Calls Tryz.prog 135 #[.pointer (some ⟨b, 0, none⟩), .int .i64 n] (w1.drewN m) fun e w' => e = .returned (.tuple #[]) ∧ (Lib.BuilderAt 87 5 B b (.pointer (some ⟨b, 0, none⟩)) [] w' ∧ Below B (w1.drewN m) w')) :=
    fun m => bldgrow_any B b n (w1.drewN m) hB hb1 (by show B ≤ w1.heap.size; omega) hn
  have g0 : (0 : Int) < (n : Int) := by omega
  have g1 : ¬ (n : Int) < 0 := by omega
  clear hbk hb1 hz
  go_enter Tryz.func100, Tryz.ntmps100
  go_wp2_with fail
  refine hc.mono ?_
  rintro e w' ⟨rfl, rfl⟩
  go_wp2_with fail
  go_region
  go_wp2_with fail
  refine (HG.out 1).mono ?_
  rintro e w2 ⟨rfl, hbd, hb2⟩
  go_wp2_with fail
  go_end0
  exact ⟨rfl, .inr (Lib.BuilderAtF.of hbd), HW.out.trans ((show Below B w' (w'.drewN 1) from (Below.refl B w').drew).trans hb2)⟩
set_option maxHeartbeats 2000000 in
set_option maxRecDepth 100000 in
theorem bldWriteByte_any (B b : Nat) (l : List UInt8) (c : UInt8) (w : World) (h : Bld B b l w) (hlen : l.length + 1 ≤ 140737488355328) (hBw : B ≤ w.heap.size) :
    Calls Tryz.prog 101 #[.pointer (some ⟨b, 0, none⟩), .int .u8 (c.toNat : Int)] w fun e w' => e = .returned .nilIface ∧ Bld B b (l ++ [c]) w' ∧ Below B w w' := by
  obtain ⟨i0, hi, hz0, hz1, hz2⟩ := info_parts Tryz.byteInfo
  go_enter Tryz.func101, Tryz.ntmps101
  go_wp2_with fail
  refine (copyCheck_any B b l _ h).mono ?_
  rintro e w1 ⟨rfl, ⟨hB, v, hbk, hown, hne⟩, hb1, hk1, hz⟩
  have c0 : w1.cell? ⟨b, 0, none⟩ = some (.pointer (some ⟨b, 0, none⟩)) := by rw [Lib.cell_of_heap hbk]; rfl
  have c1 : w1.cell? ⟨b, 1, none⟩ = some v := by rw [Lib.cell_of_heap hbk]; rfl
  have hlt : b < w1.heap.size := (Array.getElem?_eq_some_iff.1 hbk).1
  have HZ := Lib.hid hz
  clear hz
  go_wp2_with (at_builtin; refine wpList_append_ownF _ rfl _ _ 85 rfl B 5 i0 (.int .u8 0) 1 1 Tryz.underlying85 hi hz0 hz1 hz2 rfl (by decide) _ _ _ rfl (hown.alloc _) ⟨w1.heap.size, 0, none⟩ 1 1 [.int .u8 (c.toNat : Int)] rfl rfl ?c1 ?c2 ?c3 ?c4 ?c5 ?_)
  case c1 =>
    intro j u hj
    match j, hj with
    | 0, hj => simp at hj; subst hj; simp [Addr.add, go_sem]
  case c2 => intro u hu; simp at hu; subst hu; rfl
  case c3 => rw [Lib.byteCells_length]; unfold maxLen; omega
  case c4 => rw [Lib.byteCells_length]; omega
  case c5 => have := HZ.out; simp; omega
  intro v' w2 hown' hgrow _
  have hb2 : w2.heap[b]? = some (.cells #[.pointer (some ⟨b, 0, none⟩), v] 87 (0, 0)) := by
    rw [hgrow.block b (by simp; omega) (fun e => hne e.symm), Lib.alloc_old w1 _ b hlt]
    exact hbk
  have d0 : w2.cell? ⟨b, 0, none⟩ = some (.pointer (some ⟨b, 0, none⟩)) := by rw [Lib.cell_of_heap hb2]; rfl
  have d1 : w2.cell? ⟨b, 1, none⟩ = some v := by rw [Lib.cell_of_heap hb2]; rfl
  have f1 : w2.frozen? ⟨b, 1, none⟩ = false := Lib.frozen_of_heap hb2 1
  obtain ⟨g, cap, rfl⟩ : ∃ g cap, v' = .slice (some ⟨g, 0, none⟩) ((Lib.byteCells l).length + 1) cap := by
    rcases hown'.2 with ⟨_, h0⟩ | ⟨g, cap, cur, fz, hv, _⟩
    · omega
    · exact ⟨g, cap, hv⟩
  go_wp2
  go_ret
  refine ⟨rfl, .inr ?_, ?_⟩
  · rw [Lib.byteCells_append]
    exact Lib.BuilderAtF.put (T := 87) (e := 5) hB hb2 (bs' := Lib.byteCells l ++ Lib.byteCells [c]) (by simpa [Lib.byteCells] using hown') (by decide)
  · exact ((hb1.alloc (by have := HZ.out; omega) _).grown hgrow (by have := HZ.out; simp; omega) (fun k hk => (hown.lt k hk).1)).setCell (p := ⟨b, 1, none⟩) hB _
end Go.Proofs.YtjbcbejedaeedaaGreatDoor
/-! Package strings: ToUpper of plain bytes: walked. -/
namespace Go.Proofs.YtjbcbejedaeedaaGreatDoor
open Go.RowKit
open PlainAid (bt)

def lowB (b : UInt8) : Bool := decide (97 ≤ b.toNat) && decide (b.toNat ≤ 122)
def upB (b : UInt8) : UInt8 := if lowB b then b - 32 else b
theorem map_up (l : Bs) (h : ∀ b ∈ l, lowB b = false) : l.map upB = l := by
  rw [List.map_congr_left (g := id)]
  · simp
  · intro b hb; unfold upB; rw [h b hb]; rfl
set_option maxHeartbeats 2000000 in
set_option maxRecDepth 100000 in
/-- nothing small: the text itself -/
theorem toUpper_no (s : ByteArray) (w : World) (hs : s.size ≤ 1000000) (ha : ∀ b ∈ s.data.toList, b.toNat < 128) (hl : ∀ b ∈ s.data.toList, lowB b = false) :
    Calls Tryz.prog 63 #[.string s] w fun e w' => e = .returned (.string s) ∧ w = w' := by
  have hbt := PlainAid.get_bt s
  have HA : Hid (∀ k, k < s.size → 0 ≤ bt s k ∧ bt s k < 128 ∧ (bt s k < 97 ∨ 122 < bt s k)) := by
    intro k hk
    obtain ⟨b, h1, h2⟩ := at_bt s k hk
    have hb := List.mem_of_getElem? h1
    have h3 := ha b hb
    have h4 := hl b hb
    unfold lowB at h4
    simp at h4
    rw [h2]
    refine ⟨by omega, by omega, ?_⟩
    by_cases hh : 97 ≤ b.toNat
    · right; have := h4 hh; omega
    · left; omega
  clear ha hl
  go_enter Tryz.func63, Tryz.ntmps63
  go_wp2_with fail
  go_loop [3, 4, 5] (fun av lv i => ∃ k : Nat, k ≤ s.size ∧ av = .bool true ∧ lv = .bool false ∧ i = .int .i64 (k : Nat)) (fun _ _ i => s.size - (intOf i).toNat)
  case atStart => exact ⟨0, Nat.zero_le _, rfl, rfl, rfl⟩
  case round =>
    obtain ⟨k, hk, rfl, rfl, rfl⟩ := hrel
    by_cases hlt : k < s.size
    · obtain ⟨b0, b1, b2⟩ := HA.out k hlt
      have q1 : (k : Int) < (s.size : Int) := by omega
      rcases b2 with b2 | b2
      · have b3 : ¬ 97 ≤ bt s k := by omega
        go_wp2_with fail
        go_round
        case rel => exact ⟨k + 1, by omega, rfl, rfl, by go_num⟩
        case measure => simp [intOf]; omega
      · have b3 : 97 ≤ bt s k := by omega
        have b4 : ¬ bt s k ≤ 122 := by omega
        go_wp2_with fail
        go_round
        case rel => exact ⟨k + 1, by omega, rfl, rfl, by go_num⟩
        case measure => simp [intOf]; omega
    · have q1 : ¬ (k : Int) < (s.size : Int) := by omega
      go_wp2_with fail
      go_ret
      exact ⟨rfl, rfl⟩
theorem any_snoc {l : Bs} {k : Nat} {b : UInt8} (h : l[k]? = some b) (p : UInt8 → Bool) : (l.take (k + 1)).any p = ((l.take k).any p || p b) := by
  rw [take_snocR h, List.any_append]; simp
/-- between two rounds of the second loop -/
def UpRel (s : ByteArray) (B b : Nat) (w : World) (p k : Nat) (W : World) : Prop :=
  p ≤ k ∧ k ≤ s.size ∧ (∀ j x, p ≤ j → j < k → s.data.toList[j]? = some x → lowB x = false) ∧ Bld B b ((s.data.toList.take p).map upB) W ∧ Below B w W
set_option maxHeartbeats 4000000 in
set_option maxRecDepth 100000 in
theorem toUpper_yes (s : ByteArray) (w : World) (hs : s.size ≤ 1000000) (ha : ∀ b ∈ s.data.toList, b.toNat < 128) (hl : s.data.toList.any lowB = true) :
    Calls Tryz.prog 63 #[.string s] w fun e w' => e = .returned (.string (mkB (s.data.toList.map upB))) ∧ Below w.heap.size w w' := by
  have hbt := PlainAid.get_bt s
  have HS := Lib.hid hs
  have hpos : 0 < s.size := by
    rcases Nat.eq_zero_or_pos s.size with h | h
    · have : s.data.toList = [] := List.eq_nil_of_length_eq_zero (by rw [size_data]; exact h)
      rw [this] at hl; cases hl
    · exact h
  have HA : Hid (∀ k, k < s.size → ∃ x, s.data.toList[k]? = some x ∧ 0 ≤ bt s k ∧ bt s k < 128 ∧ bt s k = (x.toNat : Int) ∧ ((lowB x = true ∧ 97 ≤ bt s k ∧ bt s k ≤ 122) ∨ (lowB x = false ∧ (bt s k < 97 ∨ 122 < bt s k)))) := by
    show ∀ k, _
    intro k hk
    obtain ⟨b, h1, h2⟩ := at_bt s k hk
    have hb := List.mem_of_getElem? h1
    have h3 := ha b hb
    refine ⟨b, h1, by omega, by omega, h2, ?_⟩
    rw [h2]
    unfold lowB
    by_cases hh : 97 ≤ b.toNat ∧ b.toNat ≤ 122
    · left; simp [hh]; omega
    · right; simp; omega
  have HL := Lib.hid hl
  clear ha hl
  go_enter Tryz.func63, Tryz.ntmps63
  go_wp2_with fail
  go_loop [3, 4, 5] (fun av lv i => ∃ (k : Nat) (h : Bool), k ≤ s.size ∧ av = .bool true ∧ lv = .bool h ∧ i = .int .i64 (k : Nat) ∧ h = (s.data.toList.take k).any lowB) (fun _ _ i => s.size - (intOf i).toNat)
  case atStart => exact ⟨0, false, Nat.zero_le _, rfl, rfl, rfl, rfl⟩
  case round =>
    obtain ⟨k, h, hk, rfl, rfl, rfl, hh⟩ := hrel
    have HH := Lib.hid hh
    clear hh
    by_cases hlt : k < s.size
    · obtain ⟨x, hx, b0, b1, he, hb⟩ := HA.out k hlt
      clear he
      have q1 : (k : Int) < (s.size : Int) := by omega
      have HX := Lib.hid (any_snoc hx lowB)
      rcases hb with ⟨hb, b2, b3⟩ | ⟨hb, b2 | b2⟩
      · have HN : Hid (true = (s.data.toList.take (k + 1)).any lowB) := by show _ = _; rw [HX.out, hb, Bool.or_true]
        clear hx hb
        cases h
        all_goals
          go_wp2_with fail
          go_round
          case rel => exact ⟨k + 1, true, by omega, rfl, rfl, by go_num, HN.out⟩
          case measure => simp [intOf]; omega
      · have HN : Hid (h = (s.data.toList.take (k + 1)).any lowB) := by show _ = _; rw [HX.out, hb, Bool.or_false]; exact HH.out
        have b3 : ¬ 97 ≤ bt s k := by omega
        clear hx hb
        cases h
        all_goals
          go_wp2_with fail
          go_round
          case rel => exact ⟨k + 1, _, by omega, rfl, rfl, by go_num, HN.out⟩
          case measure => simp [intOf]; omega
      · have HN : Hid (h = (s.data.toList.take (k + 1)).any lowB) := by show _ = _; rw [HX.out, hb, Bool.or_false]; exact HH.out
        have b3 : 97 ≤ bt s k := by omega
        have b4 : ¬ bt s k ≤ 122 := by omega
        clear hx hb
        cases h
        all_goals
          go_wp2_with fail
          go_round
          case rel => exact ⟨k + 1, _, by omega, rfl, rfl, by go_num, HN.out⟩
          case measure => simp [intOf]; omega
    · have q1 : ¬ (k : Int) < (s.size : Int) := by omega
      obtain rfl : h = true := by
        rw [HH.out, List.take_of_length_le (by rw [size_data]; omega)]; exact HL.out
      clear hlt
      go_wp2_with fail
      have hb0 : Below w.heap.size w (w.alloc (.cells #[.pointer none, .slice none 0 0] 87)) := (Below.refl _ w).alloc (Nat.le_refl _) _
      have hg := bldGrow_any w.heap.size w.heap.size s.size (w.alloc (.cells #[.pointer none, .slice none 0 0] 87)) (Nat.le_refl _) (World.alloc_heap_new w _) (by simp) hpos (by omega)
      refine hg.mono ?_
      rintro e w1 ⟨rfl, hbd, hb1⟩
      have HB1 := Lib.hid (hb0.trans hb1)
      have HBD := Lib.hid hbd
      clear hg hb0 hb1 hbd
      go_wp2_with fail
      go_loopw [8, 9] (fun pv iv wr => ∃ (p k : Nat), pv = .int .i64 (p : Nat) ∧ iv = .int .i64 (k : Nat) ∧ UpRel s w.heap.size w.heap.size w p k wr) (fun _ iv _ => s.size - (intOf iv).toNat)
      case atStart => exact ⟨0, 0, rfl, rfl, Nat.le_refl _, Nat.zero_le _, fun j x _ hj => absurd hj (Nat.not_lt_zero _), HBD.out, HB1.out⟩
      case round =>
        obtain ⟨p, k, rfl, rfl, hr⟩ := hrel
        have HR := Lib.hid hr
        obtain ⟨r1, r2, _, _, r5⟩ := hr
        have r6 := r5.size
        have HZ := Lib.hid r6
        clear r5 r6 hk q1 HH
        by_cases hlt : k < s.size
        · obtain ⟨x, hx, b0, b1, he, hb⟩ := HA.out k hlt
          have q1 : (k : Int) < (s.size : Int) := by omega
          rcases hb with ⟨hb, b2, b3⟩ | ⟨hb, b2 | b2⟩
          · have hu : bt s k - 32 = ((upB x).toNat : Int) := by
              rw [he]
              unfold upB
              rw [if_pos hb, UInt8.toNat_sub_of_le _ _ (by rw [UInt8.le_iff_toNat_le]; show 32 ≤ x.toNat; omega)]
              show _ = ((x.toNat - 32 : Nat) : Int)
              omega
            have hu0 := (upB x).toNat_lt
            have HX := Lib.hid hx
            have hfin : (s.data.toList.take (k + 1)).map upB = (s.data.toList.take p).map upB ++ (s.extract p k).data.toList ++ [upB x] := by
              rw [take_snocR hx, List.map_append, Lib.extract_eq]
              have h1 : s.data.toList.take k = s.data.toList.take p ++ (s.data.toList.drop p).take (k - p) := by
                rw [← List.take_add, Nat.add_sub_cancel' r1]
              rw [h1, List.map_append, map_up ((s.data.toList.drop p).take (k - p))]
              · simp
              · intro b hb'
                obtain ⟨i, hi⟩ := List.mem_iff_getElem?.1 hb'
                rw [List.getElem?_take] at hi
                split at hi
                · rw [List.getElem?_drop] at hi
                  exact HR.out.2.2.1 (p + i) b (by omega) (by omega) hi
                · cases hi
            have HFN := Lib.hid hfin
            have hlen : ((s.data.toList.take p).map upB).length ≤ 1000000 := by
              rw [List.length_map, List.length_take, size_data]; omega
            have HLN := Lib.hid hlen
            clear hfin hlen hx hb
            have HE := Lib.hid he
            clear he
            by_cases hpk : p < k
            · have g2 : (p : Int) < (k : Int) := by omega
              have sl0 : (0 : Int) ≤ (p : Int) ∧ (p : Int) ≤ (k : Int) ∧ (k : Int) ≤ (s.size : Int) := by omega
              have HWS := Lib.hid (bldWriteString_any w.heap.size w.heap.size _ (s.extract p k) wr HR.out.2.2.2.1 (by have := HLN.out; have : (s.extract p k).size ≤ s.size := by { rw [ByteArray.size_extract]; omega }; omega) HZ.out)
              go_wp2_with fail
              refine HWS.out.mono ?_
              rintro e w2 ⟨rfl, hbd2, hb2, _, hz2⟩
              have HB2 := Lib.hid (HR.out.2.2.2.2.trans hb2)
              have HWB := Lib.hid (bldWriteByte_any w.heap.size w.heap.size _ (upB x) w2 hbd2 (by have := HLN.out; have : (s.extract p k).size ≤ s.size := by { rw [ByteArray.size_extract]; omega }; rw [List.length_append, size_data]; omega) (Nat.le_trans HZ.out hz2))
              clear hbd2 hb2 hz2
              go_wp2_with fail
              refine HWB.out.mono ?_
              rintro e w3 ⟨rfl, hbd3, hb3⟩
              have HN : Hid (UpRel s w.heap.size w.heap.size w (k + 1) (k + 1) w3) := by
                refine ⟨Nat.le_refl _, by omega, fun j y h1 h2 h3 => by omega, ?_, HB2.out.trans hb3⟩
                rw [HFN.out]; exact hbd3
              clear hbd3 hb3
              go_wp2_with fail
              go_roundw
              case rel => exact ⟨k + 1, k + 1, by go_num, by go_num, HN.out⟩
              case measure => simp [intOf]; omega
            · obtain rfl : p = k := by omega
              have g2 : ¬ (p : Int) < (p : Int) := by omega
              have HWB := Lib.hid (bldWriteByte_any w.heap.size w.heap.size _ (upB x) wr HR.out.2.2.2.1 (by have := HLN.out; omega) HZ.out)
              go_wp2_with fail
              refine HWB.out.mono ?_
              rintro e w3 ⟨rfl, hbd3, hb3⟩
              have HN : Hid (UpRel s w.heap.size w.heap.size w (p + 1) (p + 1) w3) := by
                refine ⟨Nat.le_refl _, by omega, fun j y h1 h2 h3 => by omega, ?_, HR.out.2.2.2.2.trans hb3⟩
                rw [HFN.out]; simpa using hbd3
              clear hbd3 hb3
              go_wp2_with fail
              go_roundw
              case rel => exact ⟨p + 1, p + 1, by go_num, by go_num, HN.out⟩
              case measure => simp [intOf]; omega
          · have b3 : ¬ 97 ≤ bt s k := by omega
            have HN : Hid (UpRel s w.heap.size w.heap.size w p (k + 1) wr) := by
              refine ⟨by omega, by omega, fun j y h1 h2 h3 => ?_, HR.out.2.2.2.1, HR.out.2.2.2.2⟩
              rcases Nat.lt_succ_iff_lt_or_eq.1 h2 with h | rfl
              · exact HR.out.2.2.1 j y h1 h h3
              · rw [hx] at h3; cases h3; exact hb
            clear hx hb he
            go_wp2_with fail
            go_roundw
            case rel => exact ⟨p, k + 1, rfl, by go_num, HN.out⟩
            case measure => simp [intOf]; omega
          · have b3 : 97 ≤ bt s k := by omega
            have b4 : ¬ bt s k ≤ 122 := by omega
            have HN : Hid (UpRel s w.heap.size w.heap.size w p (k + 1) wr) := by
              refine ⟨by omega, by omega, fun j y h1 h2 h3 => ?_, HR.out.2.2.2.1, HR.out.2.2.2.2⟩
              rcases Nat.lt_succ_iff_lt_or_eq.1 h2 with h | rfl
              · exact HR.out.2.2.1 j y h1 h h3
              · rw [hx] at h3; cases h3; exact hb
            clear hx hb he
            go_wp2_with fail
            go_roundw
            case rel => exact ⟨p, k + 1, rfl, by go_num, HN.out⟩
            case measure => simp [intOf]; omega
        · have q1 : ¬ (k : Int) < (s.size : Int) := by omega
          obtain rfl : k = s.size := by omega
          have hfin : s.data.toList.map upB = (s.data.toList.take p).map upB ++ (s.extract p s.size).data.toList := by
            rw [Lib.extract_to_end]
            conv => lhs; rw [← List.take_append_drop p s.data.toList, List.map_append]
            rw [map_up (s.data.toList.drop p)]
            intro b hb'
            obtain ⟨i, hi⟩ := List.mem_iff_getElem?.1 hb'
            rw [List.getElem?_drop] at hi
            exact HR.out.2.2.1 (p + i) b (by omega) (by have := (List.getElem?_eq_some_iff.1 hi).1; rwa [size_data] at this) hi
          have HFN := Lib.hid hfin
          have hlen : ((s.data.toList.take p).map upB).length ≤ 1000000 := by
            rw [List.length_map, List.length_take, size_data]; omega
          have HLN := Lib.hid hlen
          clear hfin hlen hlt
          by_cases hpk : p < s.size
          · have g2 : (p : Int) < (s.size : Int) := by omega
            have sl0 : (0 : Int) ≤ (p : Int) ∧ (p : Int) ≤ (s.size : Int) := by omega
            have HWS := Lib.hid (bldWriteString_any w.heap.size w.heap.size _ (s.extract p s.size) wr HR.out.2.2.2.1 (by have := HLN.out; have : (s.extract p s.size).size ≤ s.size := by { rw [ByteArray.size_extract]; omega }; omega) HZ.out)
            go_wp2_with fail
            refine HWS.out.mono ?_
            rintro e w2 ⟨rfl, hbd2, hb2, _, hz2⟩
            rw [← HFN.out] at hbd2
            obtain ⟨T, hT⟩ : ∃ T, T = s.data.toList.map upB := ⟨_, rfl⟩
            rw [← hT] at hbd2
            have HT := Lib.hid hT
            clear hT
            have HST := Lib.hid (bldString_any w.heap.size w.heap.size T w2 hbd2 (Nat.le_trans HZ.out hz2))
            have HB2 := Lib.hid (HR.out.2.2.2.2.trans hb2)
            clear hbd2 hb2 hz2
            go_wp2_with fail
            refine HST.out.mono ?_
            rintro e w3 ⟨rfl, hb3⟩
            go_wp2_with fail
            go_ret
            exact ⟨by rw [← HT.out] <;> rfl, HB2.out.trans hb3⟩
          · obtain rfl : p = s.size := by omega
            have g2 : ¬ (s.size : Int) < (s.size : Int) := by omega
            have hbd := HR.out.2.2.2.1
            rw [List.take_of_length_le (by rw [size_data]; exact Nat.le_refl _)] at hbd
            obtain ⟨T, hT⟩ : ∃ T, T = s.data.toList.map upB := ⟨_, rfl⟩
            rw [← hT] at hbd
            have HT := Lib.hid hT
            clear hT
            have HST := Lib.hid (bldString_any w.heap.size w.heap.size T wr hbd HZ.out)
            clear hbd
            go_wp2_with fail
            refine HST.out.mono ?_
            rintro e w3 ⟨rfl, hb3⟩
            go_wp2_with fail
            go_ret
            exact ⟨by rw [← HT.out] <;> rfl, HR.out.2.2.2.2.trans hb3⟩
theorem toUpper_any (s : ByteArray) (w : World) (hs : s.size ≤ 1000000) (ha : ∀ b ∈ s.data.toList, b.toNat < 128) :
    Calls Tryz.prog 63 #[.string s] w fun e w' => e = .returned (.string (mkB (s.data.toList.map upB))) ∧ Below w.heap.size w w' := by
  cases hl : s.data.toList.any lowB
  · refine (toUpper_no s w hs ha (fun b hb => ?_)).mono ?_
    · have := List.any_eq_false.1 hl b hb; simpa using this
    · rintro e w' ⟨rfl, rfl⟩
      refine ⟨?_, Below.refl _ _⟩
      rw [map_up _ (fun b hb => by have := List.any_eq_false.1 hl b hb; simpa using this), mkB_data]
  · exact toUpper_yes s w hs ha hl
end Go.Proofs.YtjbcbejedaeedaaGreatDoor
/-! Package strings: Repeat of one zero, up to three times: walked. -/
namespace Go.Proofs.YtjbcbejedaeedaaGreatDoor
open Go.RowKit
open PlainAid (bt)

theorem and_1 : bits .and .u64 1 4294967295 = 1 := by kernel_rfl
theorem and_2 : bits .and .u64 2 4294967295 = 2 := by kernel_rfl
theorem and_3 : bits .and .u64 3 4294967295 = 3 := by kernel_rfl
theorem and_0 : bits .and .u64 0 4294967295 = 0 := by kernel_rfl
set_option maxRecDepth 100000 in
theorem mul64_2 (w : World) : Calls Tryz.prog 145 #[.int .u64 1, .int .u64 2] w fun e w' => e = .returned (.tuple #[.int .u64 0, .int .u64 2]) ∧ w = w' := by
  have a1 := and_1; have a2 := and_2; have a0 := and_0
  go_enter Tryz.func145, Tryz.ntmps145
  go_wp2
  go_ret2
  exact ⟨rfl, rfl⟩
set_option maxRecDepth 100000 in
theorem mul64_3 (w : World) : Calls Tryz.prog 145 #[.int .u64 1, .int .u64 3] w fun e w' => e = .returned (.tuple #[.int .u64 0, .int .u64 3]) ∧ w = w' := by
  have a1 := and_1; have a3 := and_3; have a0 := and_0
  go_enter Tryz.func145, Tryz.ntmps145
  go_wp2
  go_ret2
  exact ⟨rfl, rfl⟩
theorem mul_2 (w : World) : Calls Tryz.prog 105 #[.int .u64 1, .int .u64 2] w fun e w' => e = .returned (.tuple #[.int .u64 0, .int .u64 2]) ∧ w = w' := by
  go_enter Tryz.func105, Tryz.ntmps105
  go_wp2_with (refine (mul64_2 _).mono ?_; rintro e w' ⟨rfl, rfl⟩)
  go_ret2
  exact ⟨rfl, rfl⟩
theorem mul_3 (w : World) : Calls Tryz.prog 105 #[.int .u64 1, .int .u64 3] w fun e w' => e = .returned (.tuple #[.int .u64 0, .int .u64 3]) ∧ w = w' := by
  go_enter Tryz.func105, Tryz.ntmps105
  go_wp2_with (refine (mul64_3 _).mono ?_; rintro e w' ⟨rfl, rfl⟩)
  go_ret2
  exact ⟨rfl, rfl⟩
theorem pre_no (l : List UInt8) (c : UInt8) (h : ((48 : UInt8) == c) = false) : Lib.hasPrefix (c :: l) [48] = false := by unfold Lib.hasPrefix; simp [List.isPrefixOf, h]
theorem pre_yes (l : List UInt8) : Lib.hasPrefix (48 :: l) [48] = true := by unfold Lib.hasPrefix; simp [List.isPrefixOf]
set_option maxHeartbeats 2000000 in
set_option maxRecDepth 100000 in
theorem repeat0_any (k : Nat) (hk : k ≤ 3) (w : World) :
    Calls Tryz.prog 65 #[.string ⟨#[48]⟩, .int .i64 (k : Int)] w fun e w' => e = .returned (.string (mkB (List.replicate k 48))) ∧ w = w' := by
  have hz : (((⟨#[48]⟩ : ByteArray)[0]'(by decide)).toNat : Int) = 48 := by decide
  have h : k = 0 ∨ k = 1 ∨ k = 2 ∨ k = 3 := by omega
  rcases h with rfl | rfl | rfl | rfl
  · clear hk
    go_enter Tryz.func65, Tryz.ntmps65
    go_wp2_with fail
    go_ret
    exact ⟨rfl, rfl⟩
  · clear hk
    go_enter Tryz.func65, Tryz.ntmps65
    go_wp2_with fail
    go_ret
    exact ⟨rfl, rfl⟩
  · clear hk
    go_enter Tryz.func65, Tryz.ntmps65
    go_wp2_with fail
    refine (mul_2 _).mono ?_
    rintro e w' ⟨rfl, rfl⟩
    iterate 2
      go_wp2_with fail
      refine (hasPrefix_any _ _ _).mono ?_
      rintro e w' ⟨rfl, rfl⟩
      simp only [pre_no _ _ (show (48 == (32 : UInt8)) = false from rfl), pre_no _ _ (show (48 == (45 : UInt8)) = false from rfl)]
    go_wp2_with fail
    refine (hasPrefix_any _ _ _).mono ?_
    rintro e w' ⟨rfl, rfl⟩
    simp only [pre_yes]
    go_wp2_with fail
    go_ret
    exact ⟨rfl, rfl⟩
  · clear hk
    go_enter Tryz.func65, Tryz.ntmps65
    go_wp2_with fail
    refine (mul_3 _).mono ?_
    rintro e w' ⟨rfl, rfl⟩
    iterate 2
      go_wp2_with fail
      refine (hasPrefix_any _ _ _).mono ?_
      rintro e w' ⟨rfl, rfl⟩
      simp only [pre_no _ _ (show (48 == (32 : UInt8)) = false from rfl), pre_no _ _ (show (48 == (45 : UInt8)) = false from rfl)]
    go_wp2_with fail
    refine (hasPrefix_any _ _ _).mono ?_
    rintro e w' ⟨rfl, rfl⟩
    simp only [pre_yes]
    go_wp2_with fail
    go_ret
    exact ⟨rfl, rfl⟩
end Go.Proofs.YtjbcbejedaeedaaGreatDoor
