/- Package strconv: FormatUint at base 16: walked. -/
import Derived.Test.YtjbcbejedaeedaaGreatDoorAb
import Derived.Test.YtjbcbejedaeedaaGreatDoorPi
import Derived.Laws.IdiomStrings
namespace Go.Proofs.YtjbcbejedaeedaaGreatDoor
open Go.RowKit
open PlainAid (bt)

/-- a hexadecimal digit, small -/
def lowD (k : Nat) : UInt8 := UInt8.ofNat (if k < 10 then 48 + k else 87 + k)
/-- a number's digits -/
def hexL (n : Nat) : Bs := if n < 16 then [lowD n] else hexL (n / 16) ++ [lowD (n % 16)]
set_option maxHeartbeats 1000000 in
set_option maxRecDepth 100000 in
theorem tz64_any (w : World) (hm : ML w) : Calls Tryz.prog 175 #[.int .u64 16] w fun e w' => e = .returned (.int .i64 4) ∧ w = w' := by
  obtain ⟨_, hd⟩ := hm
  have hx1 : IntKind.u64.wrap (-16) = 18446744073709551600 := by decide
  have hx2 : bits .and .u64 16 18446744073709551600 = 16 := by kernel_rfl
  go_enter Tryz.func175, Tryz.ntmps175
  go_wp2
  all_goals go_ret
  all_goals exact ⟨rfl, rfl⟩
theorem tz_any (w : World) (hm : ML w) : Calls Tryz.prog 166 #[.int .u64 16] w fun e w' => e = .returned (.int .i64 4) ∧ w = w' := by
  have h := tz64_any w hm
  clear hm
  go_enter Tryz.func166, Tryz.ntmps166
  go_wp2_with (refine h.mono ?_; rintro e w' ⟨rfl, rfl⟩)
  all_goals go_ret
  all_goals exact ⟨rfl, rfl⟩
theorem pow2_16 (w : World) : Calls Tryz.prog 165 #[.int .i64 16] w fun e w' => e = .returned (.bool true) ∧ w = w' := by
  go_enter Tryz.func165, Tryz.ntmps165
  go_wp2
  go_ret
  exact ⟨rfl, rfl⟩

theorem hexL_lt (n : Nat) (h : n < 16) : hexL n = [lowD n] := by rw [hexL, if_pos h]
theorem hexL_ge (n : Nat) (h : ¬ n < 16) : hexL n = hexL (n / 16) ++ [lowD (n % 16)] := by rw [hexL, if_neg h]
theorem low_get (k : Nat) (h : k < 36) : (((⟨#[48, 49, 50, 51, 52, 53, 54, 55, 56, 57, 97, 98, 99, 100, 101, 102, 103, 104, 105, 106, 107, 108, 109, 110, 111, 112, 113, 114, 115, 116, 117, 118, 119, 120, 121, 122]⟩ : ByteArray)[k]'h).toNat : Int) = ((lowD k).toNat : Int) := by
  have : ∀ k : Fin 36, (((⟨#[48, 49, 50, 51, 52, 53, 54, 55, 56, 57, 97, 98, 99, 100, 101, 102, 103, 104, 105, 106, 107, 108, 109, 110, 111, 112, 113, 114, 115, 116, 117, 118, 119, 120, 121, 122]⟩ : ByteArray)[k.val]'k.isLt).toNat : Int) = ((lowD k.val).toNat : Int) := by decide
  exact this ⟨k, h⟩
theorem u64_and15 (u : Nat) (h : u < 4294967296) : bits .and .u64 (u : Int) 15 = ((u % 16 : Nat) : Int) := by
  have := bits_mask .u64 64 (by decide) (fun n h0 h1 => by rw [IntKind.wrap_u64]; omega) 4 (by decide) (u : Int) (by omega) (by omega)
  rw [show (2 : Int) ^ 4 - 1 = 15 from rfl] at this
  rw [this]; omega
/-- the digits that lie in the array, at its end -/
def DgAt (W : World) (b : Nat) (t : Bs) : Prop := ∃ c : Array Value, W.heap[b]? = some (.cells c 198 (0, 0)) ∧ c.size = 65 ∧ ∀ (j : Nat) x, t[j]? = some x → c[65 - t.length + j]? = some (.int .u8 (x.toNat : Int))
theorem DgAt.put {W : World} {b : Nat} {t : Bs} (h : DgAt W b t) (x : UInt8) (ht : t.length < 65) : DgAt (W.setCell ⟨b, 64 - t.length, none⟩ (.int .u8 (x.toNat : Int))) b (x :: t) := by
  obtain ⟨c, h1, h2, h3⟩ := h
  refine ⟨c.setIfInBounds (64 - t.length) (.int .u8 (x.toNat : Int)), ?_, by simp [h2], fun j y hj => ?_⟩
  · unfold World.setCell
    simp [Array.getElem?_modify, h1]
  · rw [List.length_cons]
    cases j with
    | zero =>
      cases hj
      rw [show 65 - (t.length + 1) + 0 = 64 - t.length by omega]
      rw [Array.getElem?_setIfInBounds_self_of_lt (by omega)]
    | succ j =>
      have hj' : t[j]? = some y := by simpa using hj
      rw [show 65 - (t.length + 1) + (j + 1) = 65 - t.length + j by omega, Array.getElem?_setIfInBounds_ne (by omega)]
      exact h3 j y hj'
theorem DgAt.cells {W : World} {b : Nat} {t : Bs} (h : DgAt W b t) (i : Nat) (hi : i < 65) : (∃ v, W.cell? ⟨b, i, none⟩ = some v) ∧ W.frozen? ⟨b, i, none⟩ = false ∧ b < W.heap.size := by
  obtain ⟨c, h1, h2, h3⟩ := h
  exact ⟨⟨c[i]'(by omega), by simp [World.cell?, h1, Array.getElem?_eq_getElem (show i < c.size by omega)]⟩, by simp [World.frozen?, h1], (Array.getElem?_eq_some_iff.1 h1).1⟩
theorem DgAt.read {W : World} {b : Nat} {t : Bs} (h : DgAt W b t) (ht : t.length ≤ 65) : ∀ j (hj : j < t.length), W.cell? ((⟨b, 65 - t.length, none⟩ : Addr).add j) = some (.int .u8 (t[j].toNat : Int)) := by
  obtain ⟨c, h1, h2, h3⟩ := h
  intro j hj
  have e : ((⟨b, 65 - t.length, none⟩ : Addr).add j) = ⟨b, 65 - t.length + j, none⟩ := by
    unfold Addr.add; split
    · rename_i h; rw [h, Nat.add_zero]
    · rfl
  rw [e]
  simp [World.cell?, h1]
  exact h3 j _ (List.getElem?_eq_getElem hj)
theorem slice65 (b k : Nat) (hk : k < 65) (w : World) : (Instr.sliceAt 198 (.pointer (some ⟨b, 0, none⟩)) (some (.int .i64 (k : Int))) none none).run Tryz.prog w = .ok (.slice (some ⟨b, k, none⟩) (65 - k) (65 - k)) w := by
  have e1 : Tryz.prog.arrayLen 198 = 65 := by kernel_rfl
  have e2 : Tryz.prog.elem 198 = 5 := by kernel_rfl
  rw [run_sliceAt_array_l w 198 ⟨b, 0, none⟩ (by rw [e1, e2]; exact Tryz.underlying198) .i64 (k : Int) (by omega) (by rw [e1]; omega), e1, e2, Tryz.sizeOf5]
  simp only [Result.andThen, slicedAt, Int.toNat_natCast, Nat.mul_one]
  have e3 : ((⟨b, 0, none⟩ : Addr).add k) = ⟨b, k, none⟩ := by
    unfold Addr.add; split
    · rename_i h; rw [h]
    · simp
  rw [e3]
  split
  · rename_i h; omega
  · rfl
/-- between two rounds -/
def FbRel (n : Nat) (w : World) (ab : Nat) (u m : Nat) (t : Bs) (W : World) : Prop :=
  m + t.length = 65 ∧ 57 ≤ m ∧ u < 16 ^ (m - 57) ∧ hexL n = hexL u ++ t ∧ DgAt W ab t ∧ Below w.heap.size w W
set_option maxHeartbeats 4000000 in
set_option maxRecDepth 100000 in
theorem formatBits_any (n : Nat) (hn : n < 4294967296) (w : World) (hm : ML w) :
    Calls Tryz.prog 143 #[.slice none 0 0, .int .u64 (n : Int), .int .i64 16, .bool false, .bool false] w fun e w' => e = .returned (.tuple #[.slice none 0 0, .string (mkB (hexL n))]) ∧ Below w.heap.size w w' := by
  have HM := Lib.hid hm
  have hx := fun (k : Nat) (h : k < 36) => low_get k h
  clear hm
  go_enter Tryz.func143, Tryz.ntmps143
  go_wp2_with (first | (go_at_call 165; refine (pow2_16 _).mono ?_; rintro e w' ⟨rfl, rfl⟩) | (go_at_call 166; refine (tz_any _ (HM.out.below ((Below.refl _ w).alloc (Nat.le_refl _) _))).mono ?_; rintro e w' ⟨rfl, rfl⟩))
  have hd0 : DgAt (w.alloc (.cells Tryz.zeroCells198 198)) w.heap.size [] := ⟨_, World.alloc_heap_new w _, by kernel_rfl, fun j x hj => by simp at hj⟩
  have hb0 : Below w.heap.size w (w.alloc (.cells Tryz.zeroCells198 198)) := (Below.refl _ w).alloc (Nat.le_refl _) _
  generalize w.alloc (.cells Tryz.zeroCells198 198) = W0 at *
  have HD0 := Lib.hid hd0
  have HB0 := Lib.hid hb0
  have HN := Lib.hid hn
  clear hd0 hb0 hn
  go_loopw [1, 13] (fun uv iv wr => ∃ (u m : Nat) (t : Bs), uv = .int .u64 (u : Int) ∧ iv = .int .i64 (m : Int) ∧ FbRel n w w.heap.size u m t wr) (fun uv _ _ => (intOf uv).toNat)
  case atStart => exact ⟨n, 65, [], rfl, rfl, rfl, by decide, HN.out, by simp, HD0.out, HB0.out⟩
  case round =>
    obtain ⟨u, m, t, rfl, rfl, hr⟩ := hrel
    have HR := Lib.hid hr
    obtain ⟨r1, r2, r3, _, hdg, _⟩ := hr
    have hu32 : u < 4294967296 := by
      have h1 : (16 : Nat) ^ (m - 57) ≤ 16 ^ 8 := Nat.pow_le_pow_right (by decide) (by omega)
      omega
    have HU := Lib.hid hu32
    have HDG := Lib.hid hdg
    by_cases h16 : u < 16
    · have g1 : ¬ (u : Int) ≥ 16 := by omega
      have HL : Hid (hexL n = lowD u :: t) := by
        show _ = _
        rw [HR.out.2.2.2.1, hexL_lt u h16]; rfl
      obtain ⟨k, rfl⟩ : ∃ k, m = k + 1 := ⟨m - 1, by omega⟩
      have hk : k = 64 - t.length := by omega
      obtain ⟨⟨vv, c0⟩, c1, c2⟩ := hdg.cells k (by omega)
      have a1 : ((k + 1 : Nat) : Int) - 1 = (k : Int) := by omega
      have a2 : (0 : Int) ≤ (k : Int) ∧ (k : Int) < 65 := by omega
      have HP : Hid (DgAt (wr.setCell ⟨w.heap.size, k, none⟩ (.int .u8 ((lowD u).toNat : Int))) w.heap.size (lowD u :: t)) := by
        have := hdg.put (lowD u) (by omega)
        rwa [← hk] at this
      have HK := Lib.hid hk
      have hu36 : u < 36 := by omega
      obtain ⟨L, hL⟩ : ∃ L, L = (lowD u :: t).length := ⟨_, rfl⟩
      have hLk : 65 - k = L := by rw [hL, List.length_cons]; omega
      have hsl := fun w' => slice65 w.heap.size k (by omega) w'
      rw [hLk] at hsl
      have hcv : (convert 85 9 (.slice (some ⟨w.heap.size, k, none⟩) L L)).run Tryz.prog (wr.setCell ⟨w.heap.size, k, none⟩ (.int .u8 ((lowD u).toNat : Int))) = .ok (.string (mkB (hexL n))) (wr.setCell ⟨w.heap.size, k, none⟩ (.int .u8 ((lowD u).toNat : Int))) := by
        rw [HL.out, hL]
        refine run_convert_bytes_back _ _ _ _ ⟨w.heap.size, k, none⟩ _ (lowD u :: t) Tryz.underlying85 Tryz.underlying5 Tryz.underlying9 (fun j hj => ?_)
        have := HP.out.read (by rw [List.length_cons]; omega) j hj
        rwa [show 65 - (lowD u :: t).length = k by rw [List.length_cons]; omega] at this
      have HBF : Hid (Below w.heap.size w (wr.setCell ⟨w.heap.size, k, none⟩ (.int .u8 ((lowD u).toNat : Int)))) := HR.out.2.2.2.2.2.setCell (Nat.le_refl _) _
      clear hdg r1 r2 r3 hu32 hk h16 hL hLk
      go_wp2_with fail
      go_ret2
      exact ⟨rfl, HBF.out⟩
    · have g1 : (u : Int) ≥ 16 := by omega
      obtain ⟨d, hd⟩ : ∃ d, d = u % 16 := ⟨_, rfl⟩
      obtain ⟨q, hq⟩ : ∃ q, q = u / 16 := ⟨_, rfl⟩
      have hb := u64_and15 u hu32
      rw [← hd] at hb
      have e1 : (u : Int) / 16 = (q : Int) := by omega
      have HL : Hid (hexL n = hexL q ++ (lowD d :: t)) := by
        show _ = _
        rw [HR.out.2.2.2.1, hexL_ge u h16, ← hd, ← hq]; simp
      have hm57 : m ≠ 57 := fun h => by rw [h] at r3; simp at r3; omega
      have hm58 : m ≠ 58 := fun h => by rw [h] at r3; simp at r3; omega
      obtain ⟨k, rfl⟩ : ∃ k, m = k + 1 := ⟨m - 1, by omega⟩
      have hk : k = 64 - t.length := by omega
      obtain ⟨⟨vv, c0⟩, c1, c2⟩ := hdg.cells k (by omega)
      have a1 : ((k + 1 : Nat) : Int) - 1 = (k : Int) := by omega
      have a2 : (0 : Int) ≤ (k : Int) ∧ (k : Int) < 65 := by omega
      have hd36 : d < 36 := by omega
      have HQ : Hid (q < 16 ^ (k - 57) ∧ 57 ≤ k) := by
        refine ⟨?_, by omega⟩
        obtain ⟨j, rfl⟩ : ∃ j, k = j + 57 := ⟨k - 57, by omega⟩
        rw [show j + 57 + 1 - 57 = j + 1 by omega, Nat.pow_succ] at r3
        rw [show j + 57 - 57 = j by omega]
        omega
      have HP : Hid (DgAt (wr.setCell ⟨w.heap.size, k, none⟩ (.int .u8 ((lowD d).toNat : Int))) w.heap.size (lowD d :: t)) := by
        have := hdg.put (lowD d) (by omega)
        rwa [← hk] at this
      have HK : Hid (k + (lowD d :: t).length = 65) := by show _ = _; rw [List.length_cons]; omega
      have HQU : Hid (q < u) := by show _ < _; omega
      clear hdg r1 r2 r3 hu32 hk h16 hd hq hm57 hm58
      go_wp2_with fail
      go_roundw
      case rel => exact ⟨q, k, lowD d :: t, by go_num, by go_num, HK.out, HQ.out.2, HQ.out.1, HL.out, HP.out, HR.out.2.2.2.2.2.setCell (Nat.le_refl _) _⟩
      case measure => (have := HQU.out; simp [intOf]; omega)
theorem formatUintIn_any (n : Nat) (hn : n < 4294967296) (w : World) (hm : ML w) :
    Calls Tryz.prog 104 #[.int .u64 (n : Int), .int .i64 16] w fun e w' => e = .returned (.string (mkB (hexL n))) ∧ Below w.heap.size w w' := by
  have hc := formatBits_any n hn w hm
  clear hn hm
  go_enter Tryz.func104, Tryz.ntmps104
  go_wp2_with (refine hc.mono ?_; rintro e w' ⟨rfl, hb⟩)
  go_ret
  exact ⟨rfl, hb⟩
theorem formatUint_any (n : Nat) (hn : n < 4294967296) (w : World) (hm : ML w) :
    Calls Tryz.prog 64 #[.int .u64 (n : Int), .int .i64 16] w fun e w' => e = .returned (.string (mkB (hexL n))) ∧ Below w.heap.size w w' := by
  have hc := formatUintIn_any n hn w hm
  clear hn hm
  go_enter Tryz.func64, Tryz.ntmps64
  go_wp2_with (refine hc.mono ?_; rintro e w' ⟨rfl, hb⟩)
  go_ret
  exact ⟨rfl, hb⟩
end Go.Proofs.YtjbcbejedaeedaaGreatDoor
