/- Package strings: IndexAny, of any text, at two plain bytes. -/
import Derived.Test.YtjbcbejedaeedaaGreatDoorGa
import Derived.Shelf.Strings.IndexAnyAll
import Derived.Shelf.Small.Utf8
import Derived.Laws.RangeAny
import Derived.Laws.Runes
import Derived.Lib.DecodeN
import Derived.WalkMore
import Derived.Lib.OthersKept
import Derived.Lib.RuneCount
import Derived.Deep.RegionHeld
import Derived.Deep.LoopGhost
namespace Go.Proofs.YtjbcbejedaeedaaGreatDoor
open Go.RowKit Go.Shelf Go.Lib
open PlainAid (bt)

def Tryz.lays153_ren : Ren where
  f := fun x => match x with
    | 153 => 48
    | 152 => 84
    | 226 => 85
    | 227 => 78
    | 228 => 86
    | 137 => 121
    | 119 => 122
    | 224 => 123
    | 225 => 124
    | 217 => 149
    | 266 => 167
    | n => n
  t := fun x => match x with
    | 9 => 9
    | 3 => 3
    | 4 => 4
    | 5 => 5
    | 21 => 21
    | 117 => 131
    | 116 => 130
    | 0 => 0
    | 46 => 152
    | 124 => 134
    | n => n
  g := fun x => x
theorem Tryz.lays153 : Lays.n153 Tryz.prog Tryz.lays153_ren :=
{ mixed := Eq.refl true, f119 := Eq.trans Tryz.func122 (congrArg some (Eq.refl (Body.n119 Tryz.lays153_ren))),
  f137 := Eq.trans Tryz.func121 (congrArg some (Eq.refl (Body.n137 Tryz.lays153_ren))),
  f152 := Eq.trans Tryz.func84 (congrArg some (Eq.refl (Body.n152 Tryz.lays153_ren))),
  f153 := Eq.trans Tryz.func48 (congrArg some (Eq.refl (Body.n153 Tryz.lays153_ren))),
  f217 := Eq.trans Tryz.func149 (congrArg some (Eq.refl (Body.n217 Tryz.lays153_ren))),
  f224 := Eq.trans Tryz.func123 (congrArg some (Eq.refl (Body.n224 Tryz.lays153_ren))),
  f225 := Eq.trans Tryz.func124 (congrArg some (Eq.refl (Body.n225 Tryz.lays153_ren))),
  f226 := Eq.trans Tryz.func85 (congrArg some (Eq.refl (Body.n226 Tryz.lays153_ren))),
  f227 := Eq.trans Tryz.func78 (congrArg some (Eq.refl (Body.n227 Tryz.lays153_ren))),
  f228 := Eq.trans Tryz.func86 (congrArg some (Eq.refl (Body.n228 Tryz.lays153_ren))),
  f266 := Eq.trans Tryz.func167 (congrArg some (Eq.refl (Body.n266 Tryz.lays153_ren))), t0 := Tryz.underlying0,
  a0 := Tryz.isAgg0, z0 := Tryz.sizeOf0, v0 := Tryz.zeroValue0, t3 := Tryz.underlying3, a3 := Tryz.isAgg3,
  z3 := Tryz.sizeOf3, v3 := Tryz.zeroValue3, t4 := Tryz.underlying4, a4 := Tryz.isAgg4, z4 := Tryz.sizeOf4,
  v4 := Tryz.zeroValue4, t5 := Tryz.underlying5, a5 := Tryz.isAgg5, z5 := Tryz.sizeOf5, v5 := Tryz.zeroValue5,
  t9 := Tryz.underlying9, a9 := Tryz.isAgg9, z9 := Tryz.sizeOf9, v9 := Tryz.zeroValue9, t21 := Tryz.underlying21,
  a21 := Tryz.isAgg21, z21 := Tryz.sizeOf21, v21 := Tryz.zeroValue21, t46 := Tryz.underlying152, a46 := Tryz.isAgg152,
  z46 := Tryz.sizeOf152, v46 := Tryz.zeroValue152, t116 := Tryz.underlying130, a116 := Tryz.isAgg130,
  z116 := Tryz.sizeOf130, t117 := Tryz.underlying131, a117 := Tryz.isAgg131, z117 := Tryz.sizeOf131,
  v117 := Tryz.zeroValue131, t124 := Tryz.underlying134, a124 := Tryz.isAgg134, z124 := Tryz.sizeOf134,
  v124 := Tryz.zeroValue134 }

theorem Tryz.set153 : (Tryz.prog.info? 130).map (fun i => (i.zero, i.size)) = some (some (.agg (Array.replicate 256 (.bool false))), 256) := by kernel_rfl
theorem validRune_any (r : Int) (w : World) : Calls Tryz.prog 122 #[.int .i32 r] w fun e w' => e = .returned (.bool (Lib.validRune r)) ∧ w' = w :=
  Any.utf8_ValidRune (ρ := Tryz.lays153_ren) { Tryz.lays153 with } r w
theorem indexRune_ascii (s : ByteArray) (r : Int) (w : World) (h0 : 0 ≤ r) (h1 : r < 128) :
    Calls Tryz.prog 84 #[.string s, .int .i32 r] w fun e w' => e = .returned (.int .i64 (Lib.indexByte s.data.toList r.toNat.toUInt8)) ∧ w' = w :=
  Any.strings_IndexRune_ascii (ρ := Tryz.lays153_ren) { Tryz.lays153 with } s r w h0 h1
theorem shouldUse_any (n : Int) (w : World) : Calls Tryz.prog 85 #[.int .i64 n] w fun e w' => e = .returned (.bool (decide (8 < n))) ∧ w' = w :=
  Any.strings_shouldUseASCIISet (ρ := Tryz.lays153_ren) { Tryz.lays153 with } n w
theorem indexAny_long (s chars : ByteArray) (w : World) (h2 : 2 ≤ chars.size) (h8 : 8 < s.size) (hs : s.size < 4294967281) (hcs : chars.size < 4294967281) (hac : ∀ (j : Nat) b, chars.data.toList[j]? = some b → b.toNat < 128) :
    Calls Tryz.prog 48 #[.string s, .string chars] w fun e w' => e = .returned (.int .i64 (Lib.indexAny s.data.toList chars.data.toList)) ∧ Below w.heap.size w w' :=
  (Any.strings_IndexAny_long (ρ := Tryz.lays153_ren) Tryz.lays153 (zero_of_info Tryz.set153).1 (zero_of_info Tryz.set153).2 s chars w h2 h8 hs hcs hac).mono fun e w' ⟨h1, h2⟩ => ⟨h1, h2 ▸ ((Below.refl _ _).alloc (Nat.le_refl _) _).alloc (by simp) _⟩
/-- what stands behind a high byte within one form is high -/
theorem decodeN_tail (n b0 b1 b2 b3 : Nat) (h : 128 ≤ b0) : (1 < (decodeN n b0 b1 b2 b3).2 → 1 < n ∧ 128 ≤ b1) ∧ (2 < (decodeN n b0 b1 b2 b3).2 → 2 < n ∧ 128 ≤ b2) ∧ (3 < (decodeN n b0 b1 b2 b3).2 → 3 < n ∧ 128 ≤ b3) ∧
    (decodeN n b0 b1 b2 b3).2 ≤ 4 ∧ 1 ≤ (decodeN n b0 b1 b2 b3).2 := by
  unfold decodeN
  rw [if_neg (by omega)]
  repeat' split
  all_goals (refine ⟨?_, ?_, ?_, ?_, ?_⟩ <;> (try intro hk) <;> dsimp only at * <;> omega)
theorem decode_tail (s : ByteArray) (pos : Nat) (h : pos < s.size) (ha : 128 ≤ (s.get! pos).toNat) : ∀ k, 1 ≤ k → k < (Utf8.decode s pos).2 → pos + k < s.size ∧ 128 ≤ (s.get! (pos + k)).toNat := by
  have hd := decodeN_tail (s.size - pos) (s.get! pos).toNat (s.get! (pos + 1)).toNat (s.get! (pos + 2)).toNat (s.get! (pos + 3)).toNat ha
  rw [← decode_at] at hd
  intro k h1 h2
  have h3 : k = 1 ∨ k = 2 ∨ k = 3 := by omega
  rcases h3 with rfl | rfl | rfl
  · have := hd.1 h2; exact ⟨by omega, this.2⟩
  · have := hd.2.1 h2; exact ⟨by omega, this.2⟩
  · have := hd.2.2.1 h2; exact ⟨by omega, this.2⟩
theorem noAny_more {s chars : List UInt8} {i n : Nat} (h : NoAny s chars i) (hm : ∀ (j : Nat) b, i ≤ j → j < i + n → s[j]? = some b → chars.contains b = false) : NoAny s chars (i + n) := fun j b hj hb => by
  by_cases hi : j < i
  · exact h j b hi hb
  · exact hm j b (by omega) hj hb
theorem contains_high {chars : List UInt8} (hac : ∀ (j : Nat) b, chars[j]? = some b → b.toNat < 128) (b : UInt8) (hb : 128 ≤ b.toNat) : chars.contains b = false := by
  cases hc : chars.contains b with
  | false => rfl
  | true =>
    exfalso
    have hm := List.elem_iff.1 hc
    obtain ⟨j, hj⟩ := List.mem_iff_getElem?.1 hm
    have := hac j b hj
    omega
set_option maxHeartbeats 4000000 in
set_option maxRecDepth 100000 in
/-- a scalar beyond the plain ones isn't among two plain bytes -/
theorem indexRune_none (s : ByteArray) (r : Int) (w : World) (hsz : s.size = 2) (hac : ∀ (j : Nat) b, s.data.toList[j]? = some b → b.toNat < 128) (h0 : 128 ≤ r) (h1 : r ≤ 2147483647) :
    Calls Tryz.prog 84 #[.string s, .int .i32 r] w fun e w' => e = .returned (.int .i64 (-1)) ∧ Below w.heap.size w w' := by
  have HA := Lib.hid hac
  clear hac
  have hbt := PlainAid.get_bt s
  by_cases he : r = 65533
  · subst he
    go_enter Tryz.func84, Tryz.ntmps84
    go_wp2
    go_loopg [5, 6] s.size (fun g _ _ wx => ∃ i : Nat, i + g = s.size ∧ wx = w.iter s i)
    case atStart => exact ⟨0, by omega, rfl⟩
    case round =>
      obtain ⟨i, hig, rfl⟩ := hrel
      cases gk with
      | zero =>
        obtain rfl : i = 2 := by omega
        have hnx := fun ty => run_next_end (P := Tryz.prog) w s 2 ty (by omega)
        go_wp2
        go_ret
        exact ⟨rfl, (Below.refl _ _).alloc (Nat.le_refl _) _⟩
      | succ g =>
        have hi : i < s.size := by omega
        obtain ⟨x, hx⟩ : ∃ x : UInt8, s[i]'hi = x := ⟨_, rfl⟩
        have hxl : s.data.toList[i]? = some x := by rw [← hx]; exact Lib.data_getElem? s i hi
        have hx128 : x.toNat < 128 := HA.out i x hxl
        have hnx := fun ty => run_next_ascii (P := Tryz.prog) w s i ty hi (by rw [hx]; exact hx128)
        rw [hx] at hnx
        have hxz : ¬ (x.toNat : Int) = 65533 := by omega
        clear hxl hx
        go_wp2_with fail
        go_roundg g
        case measure => omega
        case rel => exact ⟨i + 1, by omega, rfl⟩
  · have hv0 := validRune_eq r
    cases hv : Lib.validRune r with
    | false =>
      have h0' : ¬ r < 128 := by omega
      clear hv0
      go_enter Tryz.func84, Tryz.ntmps84
      go_wp2_with (go_at_call 122; refine (validRune_any _ _).mono ?_; rintro e w' ⟨rfl, rfl⟩; rw [hv])
      go_ret
      exact ⟨rfl, Below.refl _ _⟩
    | true =>
      have hvv : Utf8.valid r = true := by rw [hv0]; exact hv
      obtain ⟨e2, e4, elast⟩ := encode_facts r hvv h0
      have HE := Lib.hid elast
      have h0' : ¬ r < 128 := by omega
      clear hv0 hvv elast
      obtain ⟨e, hee⟩ : ∃ e, Utf8.encode r = e := ⟨_, rfl⟩
      rw [hee] at e2 e4 HE
      have hbe := PlainAid.get_bt e
      have hb1 : bt s 1 < 128 := by
        have hh := HA.out 1 (s[1]'(by omega)) (Lib.data_getElem? s 1 (by omega))
        rw [← hbt 1 (by omega)]
        omega
      have ebig : e.size = 2 ∨ 3 ≤ e.size := by omega
      rcases ebig with e2' | e3
      · have hbe1 : 128 ≤ bt e 1 := by
          rw [← hbe 1 (by omega)]
          have := HE.out (by omega)
          have e1 : e.size - 1 = 1 := by omega
          simp only [e1] at this
          exact_mod_cast this
        have hne : ¬ bt s 1 = bt e 1 := by omega
        have hz0 : ¬ e.size = 0 := by omega
        have hix : Lib.indexByte (s.extract 2 s.size).data.toList (bt e 1).toNat.toUInt8 = -1 := by
          rw [Lib.extract_to_end, List.drop_eq_nil_of_le (by simp; omega)]
          rfl
        have HIX := Lib.hid hix
        have hl1 : (1 : Int) < (s.size : Int) := by omega
        have hl2 : (2 : Int) ≤ (s.size : Int) := by omega
        have hl3 : 1 < s.size := by omega
        have hl4 : 2 ≤ s.size := by omega
        have hl5 : (0 : Int) ≤ 2 ∧ (2 : Int) ≤ (s.size : Int) := by omega
        have hl6 : s.size ≤ 1000 := by omega
        clear hix e4 e2 hsz
        go_enter Tryz.func84, Tryz.ntmps84
        go_wp2_with (first | (go_at_call 122; refine (validRune_any _ _).mono ?_; rintro e w' ⟨rfl, rfl⟩; rw [hv]) | (go_at_call 121; refine (indexByte_any _ _ _).mono ?_; rintro e w' ⟨rfl, rfl⟩; rw [HIX.out]))
        go_step3
        go_wp2
        go_loopg [9] 0 (fun _ s9 wx => (∃ k : Nat, k = 1 ∧ s9 = .int .i64 k) ∧ wx = w')
        case atStart => exact ⟨⟨1, rfl, rfl⟩, rfl⟩
        case round =>
          obtain ⟨⟨k, hk, rfl⟩, rfl⟩ := hrel
          have hks : (k : Int) < (s.size : Int) := by omega
          have hks' : k < s.size := by omega
          have hne' : ¬ bt s k = bt e 1 := by rw [hk]; exact hne
          obtain ⟨a, ha⟩ : ∃ a : Nat, (k : Int) + 1 = (a : Int) := ⟨k + 1, by omega⟩
          have hix : Lib.indexByte (s.extract a s.size).data.toList (bt e 1).toNat.toUInt8 = -1 := by
            have := HIX.out
            rw [show (2 : Nat) = a by omega] at this
            exact this
          have sl1 : (a : Int) ≤ (s.size : Int) := by omega
          have sl2 : a ≤ s.size := by omega
          have sl3 : 0 ≤ (a : Int) ∧ (a : Int) ≤ (s.size : Int) := by omega
          clear hk hne
          go_wp2
          go_step3
          go_wp2
          go_quiet (fail)
          go_wp2
          go_quiet (exact (indexByte_any _ _ _).mono fun _ _ ⟨h1, h2⟩ => ⟨h1, _, h2.symm⟩)
          simp only [hix]
          clear hix
          go_wp2
          (try simp only [Exit.noGoto_ret, Exit.inBlock, Exit.then])
          go_ret
          exact ⟨rfl, below_drewN (Below.refl _ _) _⟩
      · clear e2
        go_enter Tryz.func84, Tryz.ntmps84
        go_wp2_with (go_at_call 122; refine (validRune_any _ _).mono ?_; rintro e w' ⟨rfl, rfl⟩; rw [hv])
        go_step3
        go_wp2
        have hez : ¬ (e.size : Int) - 1 < 2 := by omega
        go_loopg [9] 0 (fun _ s9 wx => s9 = .int .i64 (e.size - 1) ∧ wx = w')
        case atStart => exact ⟨rfl, rfl⟩
        case round =>
          obtain ⟨rfl, rfl⟩ := hrel
          go_wp2
          go_ret
          exact ⟨rfl, Below.refl _ _⟩
set_option maxHeartbeats 4000000 in
set_option maxRecDepth 100000 in
theorem indexAny_short (s chars : ByteArray) (w : World) (h2 : chars.size = 2) (h8 : s.size ≤ 8) (hac : ∀ (j : Nat) b, chars.data.toList[j]? = some b → b.toNat < 128) :
    Calls Tryz.prog 48 #[.string s, .string chars] w fun e w' => e = .returned (.int .i64 (Lib.indexAny s.data.toList chars.data.toList)) ∧ Below w.heap.size w w' := by
  have HA := Lib.hid hac
  have HN0 := fun r w' h0 h1 => indexRune_none chars r w' h2 hac h0 h1
  clear hac
  have hemp : chars.toList.isEmpty = false := by
    rw [Lib.toList_data]
    cases h : chars.data.toList with
    | nil => have := Lib.size_eq chars; rw [h, List.length_nil] at this; omega
    | cons _ _ => rfl
  have hn1 : ((chars.size : Int) == 1) = false := beq_eq_false_iff_ne.2 (by omega)
  have h8z : decide ((8 : Int) < (s.size : Int)) = false := decide_eq_false (by omega)
  go_enter Tryz.func48, Tryz.ntmps48
  go_wp2_with (go_at_call 85; refine (shouldUse_any _ _).mono ?_; rintro e w' ⟨rfl, rfl⟩; rw [h8z])
  go_loopg [9, 10] s.size (fun g _ _ wx => ∃ i : Nat, i ≤ s.size ∧ s.size - i ≤ g ∧ wx.heap[w'.heap.size]? = some (.stringIter s i) ∧ Below w'.heap.size w' wx ∧ Lib.NoAny s.data.toList chars.data.toList i)
  case atStart => exact ⟨0, by omega, by omega, World.iter_heap _ _ _, (Below.refl _ _).alloc (Nat.le_refl _) _, Lib.NoAny.zero _ _⟩
  case round =>
    obtain ⟨i, his, hig, hit, hb, hno⟩ := hrel
    have HN := Lib.hid hno
    have HB := Lib.hid hb
    have HIT := Lib.hid hit
    clear hno hb hit
    by_cases hi : i < s.size
    · have hnx := fun ty => run_next_any_at (P := Tryz.prog) wr w'.heap.size s i ty HIT.out hi
      have hw1 := decode_width_pos s i hi
      have HT := Lib.hid (decode_tail s i hi)
      have hdl := decode_le s i
      by_cases hlow : (s[i]'hi).toNat < 128
      · rw [decode_ascii s i hi hlow] at hnx
        clear HT hdl hw1
        obtain ⟨x, hx⟩ : ∃ x : UInt8, s[i]'hi = x := ⟨_, rfl⟩
        rw [hx] at hnx hlow
        have HX : Hid (s.data.toList[i]? = some x) := by rw [← hx]; exact Lib.data_getElem? s i hi
        clear hx
        have hcon := Lib.contains_iff_indexByte chars.data.toList x
        have hback : ((x.toNat : Int)).toNat.toUInt8 = x := by simp
        have hxz : (x.toNat : Int) < 128 := by omega
        have hx0 : 0 ≤ (x.toNat : Int) := by omega
        have HIA := Lib.hid (Lib.iterAt_heap wr w'.heap.size s i (i + 1) HIT.out)
        have HBA := Lib.hid (Lib.below_iterAt HB.out (k := w'.heap.size) (Nat.le_refl _) s (i + 1))
        cases hin : chars.data.toList.contains x
        · rw [hin] at hcon
          have hlt : ¬ ((0 : Int) ≤ Lib.indexByte chars.data.toList x) := of_decide_eq_false hcon.symm
          clear hcon
          go_wp2_with (go_at_call 84; refine (indexRune_ascii _ _ _ hx0 hxz).mono ?_; rintro e w5 ⟨rfl, rfl⟩; rw [hback])
          obtain ⟨gk', rfl⟩ : ∃ gk', gk = gk' + 1 := ⟨gk - 1, by omega⟩
          go_roundg gk'
          case measure => omega
          case rel => exact ⟨i + 1, by omega, by omega, HIA.out, HBA.out, HN.out.succ HX.out hin⟩
        · rw [hin] at hcon
          have hge : (0 : Int) ≤ Lib.indexByte chars.data.toList x := of_decide_eq_true hcon.symm
          clear hcon
          go_wp2_with (go_at_call 84; refine (indexRune_ascii _ _ _ hx0 hxz).mono ?_; rintro e w5 ⟨rfl, rfl⟩; rw [hback])
          go_ret
          exact ⟨by rw [Lib.indexAny_hit HN.out HX.out hin]; rfl, HBA.out⟩
      · have hhi : 128 ≤ (s[i]'hi).toNat := by omega
        have hdh := (decode_high s i hi hhi).1
        have hT := HT.out (by rw [show s.get! i = s[i]'hi from get_at s i hi]; exact hhi)
        have HT2 := Lib.hid hT
        clear HT hT
        have HIA := fun n => Lib.iterAt_heap wr w'.heap.size s i (i + n) HIT.out
        have HBA := fun n => Lib.below_iterAt HB.out (k := w'.heap.size) (Nat.le_refl _) s (i + n)
        have HIA' := Lib.hid HIA
        have HBA' := Lib.hid HBA
        clear HIA HBA
        have hno2 : Lib.NoAny s.data.toList chars.data.toList (i + (Utf8.decode s i).2) ∧ i + (Utf8.decode s i).2 ≤ s.size := by
          have hbyte : ∀ j, i ≤ j → j < i + (Utf8.decode s i).2 → j < s.size ∧ 128 ≤ (s.get! j).toNat := by
            intro j h1 h2
            by_cases hj : j = i
            · subst hj; exact ⟨hi, by rw [show s.get! j = s[j]'hi from get_at s j hi]; exact hhi⟩
            · have := HT2.out (j - i) (by omega) (by omega)
              rw [show i + (j - i) = j by omega] at this
              exact this
          constructor
          · refine noAny_more HN.out (fun j b h1 h2 hb => ?_)
            obtain ⟨h3, h4⟩ := hbyte j h1 h2
            refine contains_high HA.out b ?_
            have h5 := Lib.data_getElem? s j h3
            rw [h5] at hb
            rw [← Option.some.inj hb, ← show s.get! j = s[j]'h3 from get_at s j h3]
            exact h4
          · have := hbyte (i + (Utf8.decode s i).2 - 1) (by omega) (by omega)
            omega
        have HN2 := Lib.hid hno2
        clear hno2
        generalize (Utf8.decode s i).1 = c at *
        generalize (Utf8.decode s i).2 = n at *
        have hc0 : 128 ≤ (c : Int) := by omega
        have hc1 : (c : Int) ≤ 2147483647 := by omega
        go_wp2_with (go_at_call 84; refine (HN0 _ _ hc0 hc1).mono ?_; rintro e w5 ⟨rfl, hb5⟩)
        obtain ⟨gk', rfl⟩ : ∃ gk', gk = gk' + 1 := ⟨gk - 1, by omega⟩
        go_roundg gk'
        case measure => omega
        case rel =>
          have hz := (HBA'.out n).size
          have hia := HIA'.out n
          have hlt : w'.heap.size < (wr.iterAt w'.heap.size s (i + n)).heap.size := (Array.getElem?_eq_some_iff.1 hia).1
          exact ⟨i + n, HN2.out.2, by have := HN2.out.2; omega, (hb5.block _ hlt).trans hia, (HBA'.out n).trans (hb5.mono hz), HN2.out.1⟩
    · obtain rfl : i = s.size := by omega
      have hnx := fun ty => run_next_end_at (P := Tryz.prog) wr w'.heap.size s s.size ty HIT.out hi
      go_wp2
      go_ret
      exact ⟨by rw [Lib.indexAny_none (by rw [← Lib.size_eq]; exact HN.out)]; rfl, HB.out⟩
/-- the first byte that is among two plain ones -/
theorem indexAny_any (s chars : ByteArray) (w : World) (h2 : chars.size = 2) (hs : s.size < 4294967281) (hac : ∀ (j : Nat) b, chars.data.toList[j]? = some b → b.toNat < 128) :
    Calls Tryz.prog 48 #[.string s, .string chars] w fun e w' => e = .returned (.int .i64 (Lib.indexAny s.data.toList chars.data.toList)) ∧ Below w.heap.size w w' := by
  by_cases h8 : s.size ≤ 8
  · exact indexAny_short s chars w h2 h8 hac
  · exact indexAny_long s chars w (by omega) (by omega) hs (by omega) hac
end Go.Proofs.YtjbcbejedaeedaaGreatDoor
