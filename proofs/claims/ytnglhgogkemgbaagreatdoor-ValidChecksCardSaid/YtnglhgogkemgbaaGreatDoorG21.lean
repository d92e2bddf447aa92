/- Package codec: a number read back where it stands. Package codec: guarded where nothing is thrown; a reader's numbers. Package codec: Reader.Uint where a number stands. Package norms' reader; codec.New. codec.New; codec.ReadUint where a number stands. slices.Equal of bytes; Unframe of a frame. Unframe of a frame: its bytes. -/
import Derived.Test.YtnglhgogkemgbaaGreatDoorG20
import Derived.Test.YtnglhgogkemgbaaGreatDoorG13
import Derived.Laws.Bits64b
import Derived.Recover
import Derived.Lib.SliceRun
import Derived.Deep.RegionHeld
/-! Package codec: a number read back where it stands. -/
namespace Go.Proofs.YtnglhgogkemgbaaGreatDoor
open Go.RowKit

theorem must_ok (e : Value) (w : World) : Calls Tryz.prog 160 #[.bool true, e] w fun e w' => e = .returned (.tuple #[]) ∧ w = w' := by
  go_enter Tryz.func160, Tryz.ntmps160
  go_wp2
  go_end0
  exact ⟨rfl, rfl⟩
/-- the bytes of a number, by place -/
theorem vint_get (n : Nat) : ∀ i, i < (vint n).length → (vint n)[i]? = some (if i + 1 < (vint n).length then ((n / 128 ^ i % 128 + 128 : Nat) : Int) else ((n / 128 ^ i : Nat) : Int)) ∧ (i + 1 = (vint n).length → n / 128 ^ i < 128) ∧ (0 < i → 1 ≤ n / 128 ^ i) := by
  induction n using Nat.strongRecOn with
  | _ n ih =>
    intro i hi
    by_cases h : n < 128
    · rw [vint_lt h] at hi ⊢
      simp at hi
      subst hi
      simp; exact h
    · rw [vint_ge h] at hi ⊢
      simp only [List.length_cons] at hi ⊢
      match i with
      | 0 =>
        have := vint_pos (n / 128)
        refine ⟨?_, fun h => by omega, fun h => by omega⟩
        rw [if_pos (by omega)]; simp
      | j + 1 =>
        obtain ⟨h1, h2, h3⟩ := ih (n / 128) (by omega) j (by omega)
        have e : n / 128 ^ (j + 1) = n / 128 / 128 ^ j := by rw [Nat.pow_succ, Nat.mul_comm, Nat.div_div_eq_div_mul]
        rw [e]
        refine ⟨?_, fun h => h2 (by omega), fun _ => ?_⟩
        · simp only [List.getElem?_cons_succ, h1]
          by_cases hc : j + 1 < (vint (n / 128)).length
          · rw [if_pos hc, if_pos (by omega)]
          · rw [if_neg hc, if_neg (by omega)]
        · by_cases hj : 0 < j
          · exact h3 hj
          · obtain rfl : j = 0 := by omega
            simp; omega
theorem pow7 (i : Nat) : 128 ^ i = 2 ^ (7 * i) := by rw [show (128 : Nat) = 2 ^ 7 from rfl, ← Nat.pow_mul]
theorem acc_step (n i : Nat) : n % 128 ^ i + n / 128 ^ i % 128 * 128 ^ i = n % 128 ^ (i + 1) := by
  rw [Nat.pow_succ, Nat.mod_mul, Nat.mul_comm (n / 128 ^ i % 128)]
theorem or_acc (acc y i z : Nat) (hz : z < 256) (hy : z % 128 = y) (ha : acc < 128 ^ i) (hb : acc + y * 128 ^ i < 9223372036854775808) :
    bits .or .u64 (acc : Int) (IntKind.u64.wrap (IntKind.u64.wrap (bits .and .u8 (z : Int) 127) * 2 ^ (7 * i))) = ((acc + y * 128 ^ i : Nat) : Int) := by
  have h1 : bits .and .u8 (z : Int) 127 = (y : Int) := by
    have := bits_mask .u8 8 (by decide) wraps_u8 7 (by decide) (z : Int) (by omega) (by omega)
    rw [show ((2 : Int) ^ 7 - 1) = 127 from rfl] at this
    rw [this, ← hy]; rfl
  have hyl : y < 128 := by rw [← hy]; exact Nat.mod_lt _ (by decide)
  rw [h1, show IntKind.u64.wrap (y : Int) = (y : Int) by rw [IntKind.wrap_u64]; omega]
  have h2 : ((y : Int) * 2 ^ (7 * i)) = ((y * 128 ^ i : Nat) : Int) := by rw [pow7]; push_cast; rfl
  rw [h2, show IntKind.u64.wrap ((y * 128 ^ i : Nat) : Int) = ((y * 128 ^ i : Nat) : Int) by rw [IntKind.wrap_u64]; omega]
  rw [bits_or_u64_nat _ _ (by omega) (by omega)]
  rw [pow7] at ha ⊢
  have h3 := Nat.two_pow_add_eq_or_of_lt ha y
  rw [Nat.or_comm, Nat.mul_comm y, ← h3, Nat.add_comm]
set_option maxHeartbeats 4000000 in
set_option maxRecDepth 100000 in
theorem readUint_ok (R : Nat → Prop) (n : Nat) (rest : List Int) (v : Value) (w : World) (hn : n < 9223372036854775808) (hv : IntsIn R .u8 w v (vint n ++ rest)) (hl : (vint n ++ rest).length ≤ 140737488351232) :
    Calls Tryz.prog 125 #[v] w fun e w' => e = .returned (.tuple #[.int .u64 n, .int .i64 ((vint n).length : Nat)]) ∧ w = w' := by
  have hvl := vint_length n 9 (Nat.lt_of_lt_of_le hn (by decide)) (by decide)
  have hvp := vint_pos n
  have HV := Lib.hid hv
  obtain ⟨p, cp, rfl, hcp, _⟩ := hv
  obtain ⟨L, hL⟩ : ∃ L, L = (vint n ++ rest).length := ⟨_, rfl⟩
  have hLl : (vint n).length ≤ L := by rw [hL, List.length_append]; omega
  rw [← hL] at hl hcp HV ⊢
  have HLL := Lib.hid hL
  clear hL
  go_enter Tryz.func125, Tryz.ntmps125
  go_wp2_with fail
  go_loopw [4, 6] (fun av iv wr => ∃ i : Nat, iv = .int .i64 i ∧ i < (vint n).length ∧ av = .int .u64 ((n % 128 ^ i : Nat) : Int) ∧ w = wr) (fun _ iv _ => 10 - (intOf iv).toNat)
  case atStart => exact ⟨0, rfl, by omega, by simp [Nat.mod_one], rfl⟩
  case round =>
    obtain ⟨i, rfl, hi, rfl, rfl⟩ := hrel
    obtain ⟨g1, g2, g3⟩ := vint_get n i hi
    have d1 : decide ((i : Int) < 10) = true := decide_eq_true (by omega)
    have d2 : decide (i < 10) = true := decide_eq_true (by omega)
    have d3 : decide ((i : Int) < 9) = true := decide_eq_true (by omega)
    have d4 : decide (i < 9) = true := decide_eq_true (by omega)
    have d5 : decide ((i : Int) < (L : Int)) = true := decide_eq_true (by omega)
    have d6 : decide (i < L) = true := decide_eq_true (by omega)
    have hiL : i < L := by omega
    have hx : (vint n ++ rest).getD i 0 = (if i + 1 < (vint n).length then ((n / 128 ^ i % 128 + 128 : Nat) : Int) else ((n / 128 ^ i : Nat) : Int)) := by
      rw [List.getD_eq_getElem?_getD, List.getElem?_append_left hi, g1]; rfl
    obtain ⟨b, o, rfl, hbR, hbl, hcell⟩ := HV.out.at i (by rw [← HLL.out]; omega)
    rw [hx] at hcell
    clear hx g1
    obtain ⟨acc, hac⟩ : ∃ acc, acc = n % 128 ^ i := ⟨_, rfl⟩
    have hacc := acc_step n i
    have hal : acc < 128 ^ i := by rw [hac]; exact Nat.mod_lt _ (Nat.pow_pos (by decide))
    rw [← hac] at hacc ⊢
    by_cases hlast : i + 1 < (vint n).length
    · rw [if_pos hlast] at hcell
      obtain ⟨y, hy⟩ : ∃ y, y = n / 128 ^ i % 128 := ⟨_, rfl⟩
      rw [← hy] at hcell hacc
      have hy1 : y < 128 := by rw [hy]; exact Nat.mod_lt _ (by decide)
      have f1 : decide (((y + 128 : Nat) : Int) < 128) = false := decide_eq_false (by omega)
      have f2 : decide (y + 128 < 128) = false := decide_eq_false (by omega)
      have HL := Lib.hid hlast
      obtain ⟨z, hz⟩ : ∃ z : Int, z = ((y + 128 : Nat) : Int) := ⟨_, rfl⟩
      rw [← hz] at hcell f1
      have HACC := Lib.hid hacc
      have HAL := Lib.hid hal
      have HY := Lib.hid hy1
      have HZ := Lib.hid hz
      clear hlast g2 g3 hy hacc hal hac hy1 hz
      have HO : Hid (bits .or .u64 (acc : Int) (IntKind.u64.wrap (IntKind.u64.wrap (bits .and .u8 z 127) * 2 ^ (7 * i))) = ((n % 128 ^ (i + 1) : Nat) : Int)) := by
        have hle : n % 128 ^ (i + 1) ≤ n := Nat.mod_le _ _
        have := or_acc acc y i (y + 128) (by have := HY.out; omega) (by have := HY.out; omega) HAL.out (by rw [HACC.out]; omega)
        rw [HACC.out] at this
        show _ = _; rw [HZ.out]; exact this
      go_wp2_with (go_at_call 160; refine (must_ok _ _).mono ?_; rintro e w' ⟨rfl, rfl⟩)
      refine ⟨⟨i + 1, by go_num, HL.out, by rw [HO.out], trivial⟩, ?_⟩
      have := HL.out
      have h1 : ((i : Int) + 1).toNat = i + 1 := by omega
      show 10 - ((i : Int) + 1).toNat < 10 - (i : Int).toNat
      rw [h1, Int.toNat_natCast]; omega
    · rw [if_neg hlast] at hcell
      obtain ⟨y, hy⟩ : ∃ y, y = n / 128 ^ i := ⟨_, rfl⟩
      have hy1 : y < 128 := by rw [hy]; exact g2 (by omega)
      have hym : n / 128 ^ i % 128 = y := by rw [← hy]; exact Nat.mod_eq_of_lt hy1
      rw [hym] at hacc
      rw [← hy] at hcell g3
      have hfull : n % 128 ^ (i + 1) = n := by
        refine Nat.mod_eq_of_lt ?_
        rw [Nat.pow_succ]
        have := Nat.div_add_mod n (128 ^ i)
        have h5 := Nat.mod_lt n (show 0 < 128 ^ i from Nat.pow_pos (by decide))
        rw [← hy] at this
        have h6 : 128 ^ i * y ≤ 128 ^ i * 127 := Nat.mul_le_mul_left _ (by omega)
        omega
      rw [hfull] at hacc
      have HIL : Hid (i + 1 = (vint n).length) := by show _ = _; omega
      have f1 : decide ((y : Int) < 128) = true := decide_eq_true (by omega)
      have f2 : decide (y < 128) = true := decide_eq_true hy1
      have HO : Hid (bits .or .u64 (acc : Int) (IntKind.u64.wrap (IntKind.u64.wrap (bits .and .u8 (y : Int) 127) * 2 ^ (7 * i))) = (n : Int)) := by
        have := or_acc acc y i y (by omega) (Nat.mod_eq_of_lt hy1) hal (by omega)
        rw [hacc] at this
        exact this
      have HG3 := Lib.hid g3
      clear hlast g2 g3 hy hacc hal hac hym hfull
      by_cases h0 : i = 0
      · have e0 : ((i : Int) == 0) = true := by rw [h0]; rfl
        clear h0
        go_wp2_with (go_at_call 160; refine (must_ok _ _).mono ?_; rintro e w' ⟨rfl, rfl⟩)
        refine bodyPost_ret (v := .tuple #[.int .u64 n, .int .i64 ((vint n).length : Nat)]) ?_ rfl ⟨rfl, rfl⟩
        rw [← HIL.out]
        simp [results, Tryz.results125, go_sem, HO.out]
      · have e0 : ((i : Int) == 0) = false := beq_eq_false_iff_ne.2 (by omega)
        have e1 : ((y : Int) != 0) = true := by
          have := HG3.out (by omega)
          simp; omega
        clear h0
        go_wp2_with (go_at_call 160; refine (must_ok _ _).mono ?_; rintro e w' ⟨rfl, rfl⟩)
        refine bodyPost_ret (v := .tuple #[.int .u64 n, .int .i64 ((vint n).length : Nat)]) ?_ rfl ⟨rfl, rfl⟩
        rw [← HIL.out]
        simp [results, Tryz.results125, go_sem, HO.out]
end Go.Proofs.YtnglhgogkemgbaaGreatDoor
/-! Package codec: guarded where nothing is thrown; a reader's numbers. -/
namespace Go.Proofs.YtnglhgogkemgbaaGreatDoor
open Go.RowKit

theorem addr_plus (b o i : Nat) : (⟨b, o, none⟩ : Addr).add i = ⟨b, o + i, none⟩ := by
  unfold Addr.add; split
  · rename_i h; rw [h]; rfl
  · simp
theorem IntsIn.dropped {R : Nat → Prop} {k : IntKind} {w : World} {p : Option Addr} {len cap : Nat} {xs : List Int} (h : IntsIn R k w (.slice p len cap) xs) (i : Nat) (hi : i ≤ xs.length) : IntsIn R k w (sliced p i len cap 1) (xs.drop i) := by
  obtain ⟨p', cap', h1, h0, h2⟩ := h
  cases h1
  unfold sliced
  refine ⟨_, _, by rw [List.length_drop], ⟨by rw [List.length_drop]; omega, by omega⟩, fun j x hx => ?_⟩
  rw [List.getElem?_drop] at hx
  have hl := (List.getElem?_eq_some_iff.1 hx).1
  obtain ⟨b, o, e1, e2, e3, e4⟩ := h2 (i + j) x hx
  refine ⟨b, o + i, ?_, e2, e3, by rw [Nat.add_assoc]; exact e4⟩
  rw [if_neg (by omega), e1, Nat.mul_one]
  show some ((⟨b, o, none⟩ : Addr).add i) = _
  rw [addr_plus]
theorem slice_from8 (w : World) (p : Option Addr) (len cap i : Nat) (hi : i ≤ len) : (Instr.sliceAt 51 (.slice p len cap) (some (.int .i64 i)) none none).run Tryz.prog w = .ok (sliced p i len cap 1) w := by
  have he : Tryz.prog.elem 51 = 5 := by kernel_rfl
  rw [run_sliceAt_slice w 51 _ _ _ _ (by rw [he]; exact Tryz.underlying51), run_slice_l w 51 p len cap (by rw [he]; exact Tryz.underlying51) .i64 i (by omega) (by omega), he]
  have hz : (sizeOf 5).run Tryz.prog w = .ok 1 w := by kernel_rfl
  rw [hz]
  simp [Result.andThen]
set_option maxHeartbeats 1000000 in
set_option maxRecDepth 100000 in
theorem gcatch_idle (B : Nat) (w : World) :
    CallsD Tryz.prog 177 #[.pointer (some ⟨B, 0, none⟩)] .returning w fun e u' w' => e = .returned (.tuple #[]) ∧ u' = .returning ∧ w' = w := by
  refine callsD_of_wpS Tryz.func177 rfl fun c₀ cs hu => ?_
  apply wpS_seq
  apply wpS_region
  simp [wpOpsS, go_sem, recoverD, hu, Tryz.ntmps177, Exit.thenS]
  refine wpS_of_wp ?_
  simp only [List.size_toArray, List.length_cons, List.length_nil, Nat.reduceAdd, Nat.reduceSub, Array.replicate_succ, Array.replicate_zero, List.push_toArray, List.append_toArray, List.nil_append, List.cons_append]
  go_wp2
  refine ⟨rfl, .returning, ?_, .tuple #[], results_none rfl _ _ _, rfl, rfl, rfl⟩
  cases c₀
  simp_all
set_option maxHeartbeats 1000000 in
set_option maxRecDepth 100000 in
/-- what is called is g with what it has captured; nothing is thrown -/
theorem guarded_ok (g : Nat) (lb : Array Value) (R : World → Prop) (w : World) (eg : ∀ args w, (callFunc g args).run Tryz.prog w = .ok (.enter g args) w)
    (hf : Calls Tryz.prog g lb (w.alloc (.cells #[.int .i64 0] 35)) fun e w' => e = .returned (.tuple #[]) ∧ R w')
    (hR : ∀ w', R w' → w'.cell? ⟨w.heap.size, 0, none⟩ = some (.int .i64 0) ∧ w'.frozen? ⟨w.heap.size, 0, none⟩ = false) :
    Calls Tryz.prog 158 #[.func (.func g) #[] lb] w fun e w' => e = .returned (.int .i64 0) ∧ ∃ w1, R w1 ∧ w' = w1.setCell ⟨w.heap.size, 0, none⟩ (.int .i64 0) := by
  have hmf : ∀ (fn : Fn) (first cap : Array Value) (w : World), (Instr.makeFunc fn first cap).run Tryz.prog w = .ok (.func fn first cap) w := fun _ _ _ _ => rfl
  go_enter_defers Tryz.func158, Tryz.ntmps158
  go_wp2_with fail
  refine hf.mono ?_
  rintro e1 w1 ⟨rfl, hr⟩
  obtain ⟨c0, f0⟩ := hR _ hr
  have HR := Lib.hid hr
  clear hr hf hR
  go_wp2
  refine leaves_cons (f := 177) (args := #[.pointer (some ⟨w.heap.size, 0, none⟩)]) (by simp) (by simp [go_sem]) ?_
  refine (gcatch_idle w.heap.size _).mono ?_
  rintro e u' w'' ⟨rfl, rfl, rfl⟩
  refine ⟨.int .i64 0, by simp [results, Tryz.results158, go_sem, c0], rfl, w1, HR.out, rfl⟩
/-- a reader in memory: its bytes, the place -/
def RdAt (W : World) (rb : Nat) (bs : List Int) (k : Nat) : Prop :=
  ∃ q cap, W.heap[rb]? = some (.cells #[.int .i64 1, .slice q bs.length cap, .int .i64 k, .int .i64 0] 167 (0, 0)) ∧ IntsIn (fun b => b < rb) .u8 W (.slice q bs.length cap) bs
set_option maxHeartbeats 4000000 in
set_option maxRecDepth 100000 in
theorem on1_ok (bf br bv bn rb : Nat) (bs rest : List Int) (k n : Nat) (x0 x1 : Value) (w : World) (hbf : Boxed w bf 209 (.func (.func 125) #[] #[])) (hbr : Boxed w br 103 (.pointer (some ⟨rb, 0, none⟩))) (hbv : Boxed w bv 84 x0) (hbn : Boxed w bn 3 x1)
    (hr : RdAt w rb bs k) (hd : bs.drop k = vint n ++ rest) (hk : k ≤ bs.length) (hn : n < 9223372036854775808) (hl : bs.length ≤ 1000000000) :
    Calls Tryz.prog 163 #[.pointer (some ⟨bf, 0, none⟩), .pointer (some ⟨br, 0, none⟩), .pointer (some ⟨bv, 0, none⟩), .pointer (some ⟨bn, 0, none⟩)] w fun e w' => e = .returned (.tuple #[]) ∧
      Only (fun j => j = bv ∨ j = bn) w w' ∧ Boxed w' bv 84 (.int .u64 n) ∧ Boxed w' bn 3 (.int .i64 ((vint n).length : Nat)) := by
  obtain ⟨q, cap, hrb, hbs⟩ := hr
  have HD := Lib.hid hd
  have HBS := Lib.hid hbs
  obtain ⟨p2, n2', c2', hs2⟩ : ∃ p2 n2' c2', sliced q k bs.length cap 1 = .slice p2 n2' c2' := ⟨_, _, _, rfl⟩
  have hsl : ∀ w, (Instr.sliceAt 51 (.slice q bs.length cap) (some (.int .i64 k)) none none).run Tryz.prog w = .ok (.slice p2 n2' c2') w := fun w => by rw [← hs2]; exact slice_from8 w q bs.length cap k hk
  have HBV := Lib.hid hbv
  have HBN := Lib.hid hbn
  have c1 := hbf.cell
  have c2 := hbr.cell
  have c3 : w.cell? ⟨rb, 1, none⟩ = some (.slice q bs.length cap) := by simp [World.cell?, hrb]
  have c4 : w.cell? ⟨rb, 2, none⟩ = some (.int .i64 k) := by simp [World.cell?, hrb]
  have c5 := hbv.cell
  have c6 := hbn.cell
  have z5 := hbv.frozen
  have z6 := hbn.frozen
  have ty : ∀ {a b : Nat} {ta tb : TypeId} {va vb : Value}, Boxed w a ta va → Boxed w b tb vb → ta ≠ tb → a ≠ b := by
    intro a b ta tb va vb h1 h2 hne e
    subst e
    have := (show w.heap[a]? = _ from h1).symm.trans h2
    injection this with h1; injection h1 with h1 h2; exact hne h2
  have n1 : bf ≠ bv := ty hbf hbv (by decide)
  have n2 : br ≠ bv := ty hbr hbv (by decide)
  have n3 : bn ≠ bv := ty hbn hbv (by decide)
  have n4 : bf ≠ bn := ty hbf hbn (by decide)
  have n5 : br ≠ bn := ty hbr hbn (by decide)
  have n6 : rb ≠ bv := by
    rintro rfl
    have := hrb.symm.trans hbv
    injection this with h1; injection h1 with h1 h2; exact absurd h2 (by decide)
  have n7 : rb ≠ bn := by
    rintro rfl
    have := hrb.symm.trans hbn
    injection this with h1; injection h1 with h1 h2; exact absurd h2 (by decide)
  have HRU : Hid (∀ V : World, (∀ b : Nat, V.heap[b]? = w.heap[b]?) → V.heap.size = w.heap.size → Calls Tryz.prog 125 #[.slice p2 n2' c2'] V fun e w' => e = .returned (.tuple #[.int .u64 n, .int .i64 ((vint n).length : Nat)]) ∧ V = w') := by
    intro V h1 h2
    refine readUint_ok (fun b => b < rb) n rest _ V hn ?_ ?_
    · rw [← HD.out, ← hs2]
      exact (HBS.out.kept ⟨by omega, fun b _ _ => h1 b⟩).dropped k hk
    · rw [← HD.out, List.length_drop]; omega
  have HKEEP : Hid (∀ (V : World) (b : Nat) (v : Value), (b = bv ∨ b = bn) → (V.cell? ⟨bf, 0, none⟩ = some (.func (.func 125) #[] #[]) ∧ V.cell? ⟨br, 0, none⟩ = some (.pointer (some ⟨rb, 0, none⟩)) ∧ V.cell? ⟨rb, 1, none⟩ = some (.slice q bs.length cap) ∧ V.cell? ⟨rb, 2, none⟩ = some (.int .i64 k)) → ((V.setCell ⟨b, 0, none⟩ v).cell? ⟨bf, 0, none⟩ = some (.func (.func 125) #[] #[]) ∧ (V.setCell ⟨b, 0, none⟩ v).cell? ⟨br, 0, none⟩ = some (.pointer (some ⟨rb, 0, none⟩)) ∧ (V.setCell ⟨b, 0, none⟩ v).cell? ⟨rb, 1, none⟩ = some (.slice q bs.length cap) ∧ (V.setCell ⟨b, 0, none⟩ v).cell? ⟨rb, 2, none⟩ = some (.int .i64 k))) := by
    intro V b v hb ⟨h1, h2, h3, h4⟩
    have e : ∀ (x o : Nat), x ≠ b → (V.setCell ⟨b, 0, none⟩ v).cell? ⟨x, o, none⟩ = V.cell? ⟨x, o, none⟩ := fun x o hx =>
      World.cell?_of_block (w := V) (a := ⟨x, o, none⟩) (Below.heap_setCell _ _ _ _ hx)
    refine ⟨(e _ _ ?_).trans h1, (e _ _ ?_).trans h2, (e _ _ ?_).trans h3, (e _ _ ?_).trans h4⟩ <;> rcases hb with rfl | rfl <;> assumption
  clear hbf hbr hbv hbn hbs hrb hd ty hs2
  go_enter Tryz.func163, Tryz.ntmps163
  go_wp2_with fail
  go_region_held (fun V : World => V.cell? ⟨bf, 0, none⟩ = some (.func (.func 125) #[] #[]) ∧ V.cell? ⟨br, 0, none⟩ = some (.pointer (some ⟨rb, 0, none⟩)) ∧ V.cell? ⟨rb, 1, none⟩ = some (.slice q bs.length cap) ∧ V.cell? ⟨rb, 2, none⟩ = some (.int .i64 k)) (first | assumption | exact ⟨c1, c2, c3, c4⟩ | exact HKEEP.out _ _ _ (.inl rfl) (by assumption) | exact HKEEP.out _ _ _ (.inr rfl) (by assumption))
    ((refine (HRU.out w.drew (fun _ => rfl) rfl).mono ?_; rintro e w1 ⟨rfl, rfl⟩))
  all_goals
    go_wp2
    go_end0
    refine ⟨rfl, (((Only.refl _ w).setCell (p := ⟨bv, 0, none⟩) (.inl rfl) _).setCell (p := ⟨bn, 0, none⟩) (.inr rfl) _).drew, ?_, ?_⟩
    · exact (Below.heap_setCell _ _ _ _ (fun e => n3 e.symm)).trans (HBV.out.set _)
    · have : Boxed (w.setCell ⟨bv, 0, none⟩ (.int .u64 n)) bn 3 x1 := (Below.heap_setCell _ _ _ _ n3).trans HBN.out
      exact this.set _
/-- what stands behind a reading -/
theorem RdAt.on {W W' : World} {rb k m : Nat} {bs : List Int} (h : RdAt W rb bs k) (hz : W.heap.size ≤ W'.heap.size) (hb : ∀ b, b ≠ rb → b < W.heap.size → W'.heap[b]? = W.heap[b]?)
    (hr : ∀ q cap, W.heap[rb]? = some (.cells #[.int .i64 1, .slice q bs.length cap, .int .i64 k, .int .i64 0] 167 (0, 0)) → W'.heap[rb]? = some (.cells #[.int .i64 1, .slice q bs.length cap, .int .i64 m, .int .i64 0] 167 (0, 0))) : RdAt W' rb bs m := by
  obtain ⟨q, cap, h1, h2⟩ := h
  exact ⟨q, cap, hr q cap h1, h2.kept ⟨hz, fun b h1 hl => hb b (by omega) hl⟩⟩
theorem RdAt.below {W W' : World} {rb k : Nat} {bs : List Int} (h : RdAt W rb bs k) (hb : Below W.heap.size W W') : RdAt W' rb bs k := by
  obtain ⟨q, cap, h1, h2⟩ := h
  exact ⟨q, cap, (hb.block _ (Array.getElem?_eq_some_iff.1 h1).1).trans h1, h2.kept (Kept.below hb)⟩
theorem RdAt.only {W W' : World} {S : Nat → Prop} {rb k : Nat} {bs : List Int} (h : RdAt W rb bs k) (ho : Only S W W') (hS : ∀ b, S b → W.heap.size ≤ b) : RdAt W' rb bs k := by
  obtain ⟨q, cap, h1, h2⟩ := h
  have hl := (Array.getElem?_eq_some_iff.1 h1).1
  exact ⟨q, cap, (ho.block _ hl (fun e => by have := hS rb e; omega)).trans h1, h2.kept ⟨ho.size, fun b _ hb => ho.block b hb (fun e => by have := hS b e; omega)⟩⟩
theorem rdIs_any (rb : Nat) (bs : List Int) (k : Nat) (w : World) (h : RdAt w rb bs k) : Calls Tryz.prog 129 #[.pointer (some ⟨rb, 0, none⟩)] w fun e w' => e = .returned (.bool true) ∧ w = w' := by
  obtain ⟨q, cap, h1, _⟩ := h
  have c0 : w.cell? ⟨rb, 0, none⟩ = some (.int .i64 1) := by simp [World.cell?, h1]
  clear h1
  go_enter Tryz.func129, Tryz.ntmps129
  go_wp2
  go_ret
  exact ⟨rfl, rfl⟩
theorem rdErr_any (rb : Nat) (bs : List Int) (k : Nat) (w : World) (h : RdAt w rb bs k) : Calls Tryz.prog 90 #[.pointer (some ⟨rb, 0, none⟩)] w fun e w' => e = .returned (.int .i64 0) ∧ w = w' := by
  have hi := rdIs_any rb bs k w h
  obtain ⟨q, cap, h1, _⟩ := h
  have c3 : w.cell? ⟨rb, 3, none⟩ = some (.int .i64 0) := by simp [World.cell?, h1]
  clear h1
  go_enter Tryz.func90, Tryz.ntmps90
  go_wp2_with fail
  refine hi.mono ?_
  rintro e w1 ⟨rfl, rfl⟩
  clear hi
  go_wp2
  go_ret
  exact ⟨rfl, rfl⟩
end Go.Proofs.YtnglhgogkemgbaaGreatDoor
/-! Package codec: Reader.Uint where a number stands. -/
namespace Go.Proofs.YtnglhgogkemgbaaGreatDoor
open Go.RowKit

set_option maxHeartbeats 4000000 in
set_option maxRecDepth 100000 in
theorem on_ok (rb : Nat) (bs rest : List Int) (k n : Nat) (w : World) (hr : RdAt w rb bs k) (hd : bs.drop k = vint n ++ rest) (hk : k ≤ bs.length) (hn : n < 9223372036854775808) (hl : bs.length ≤ 1000000000) :
    Calls Tryz.prog 128 #[.pointer (some ⟨rb, 0, none⟩), .func (.func 125) #[] #[]] w fun e w' => e = .returned (.int .u64 n) ∧ RdAt w' rb bs (k + (vint n).length) ∧ Only (fun j => j = rb) w w' := by
  have hmf : ∀ (fn : Fn) (first cap : Array Value) (w : World), (Instr.makeFunc fn first cap).run Tryz.prog w = .ok (.func fn first cap) w := fun _ _ _ _ => rfl
  have HR := Lib.hid hr
  have HD := Lib.hid hd
  obtain ⟨q, cap, h1, hin⟩ := hr
  have HQ := Lib.hid h1
  have HIN := Lib.hid hin
  have hrl := (Array.getElem?_eq_some_iff.1 h1).1
  have c3 : w.cell? ⟨rb, 3, none⟩ = some (.int .i64 0) := by simp [World.cell?, h1]
  have hne : ¬ rb = w.heap.size := by omega
  have hal3 : Below w.heap.size w (((w.alloc (.cells #[.pointer (some ⟨rb, 0, none⟩)] 103)).alloc (.cells #[.func (.func 125) #[] #[]] 209)).alloc (.cells #[.int .u64 0] 84)) := (((Below.refl _ w).alloc (Nat.le_refl _) _).alloc (by simp) _).alloc (by simp; omega) _
  have hi := rdIs_any rb bs k _ (HR.out.below hal3)
  clear hd h1 hin
  go_enter Tryz.func128, Tryz.ntmps128
  go_wp2_with fail
  generalize hW3 : (((w.alloc (.cells #[.pointer (some ⟨rb, 0, none⟩)] 103)).alloc (.cells #[.func (.func 125) #[] #[]] 209)).alloc (.cells #[.int .u64 0] 84)) = W3 at *
  have hz3 : W3.heap.size = w.heap.size + 3 := by rw [← hW3]; simp
  have b0 : Boxed W3 w.heap.size 103 (.pointer (some ⟨rb, 0, none⟩)) := by
    show W3.heap[_]? = _; rw [← hW3, Below.heap_alloc _ _ _ (by simp; omega), Below.heap_alloc _ _ _ (by simp)]; exact World.alloc_heap_new _ _
  have b1 : Boxed W3 (w.heap.size + 1) 209 (.func (.func 125) #[] #[]) := by
    show W3.heap[_]? = _; rw [← hW3, Below.heap_alloc _ _ _ (by simp)]
    have := World.alloc_heap_new (w.alloc (.cells #[.pointer (some ⟨rb, 0, none⟩)] 103)) (.cells #[.func (.func 125) #[] #[]] 209)
    rwa [World.size_alloc] at this
  have b2 : Boxed W3 (w.heap.size + 1 + 1) 84 (.int .u64 0) := by
    show W3.heap[_]? = _; rw [← hW3]
    have := World.alloc_heap_new ((w.alloc (.cells #[.pointer (some ⟨rb, 0, none⟩)] 103)).alloc (.cells #[.func (.func 125) #[] #[]] 209)) (.cells #[.int .u64 0] 84)
    rwa [World.size_alloc, World.size_alloc] at this
  have r3 : W3.cell? ⟨rb, 3, none⟩ = some (.int .i64 0) := (hal3.cell (p := ⟨rb, 3, none⟩) hrl).trans c3
  have b0c := b0.cell
  have HAL := Lib.hid hal3
  have HR3 := Lib.hid (HR.out.below hal3)
  clear hW3 hal3 c3
  refine hi.mono ?_
  rintro e w1 ⟨rfl, rfl⟩
  clear hi
  go_wp2_with fail
  have b3 : Boxed (W3.alloc (.cells #[.int .i64 0] 3)) (w.heap.size + 3) 3 (.int .i64 0) := by
    have := Boxed.new W3 3 (.int .i64 0); rwa [hz3] at this
  have b0' := b0.alloc (.cells #[.int .i64 0] 3)
  have b1' := b1.alloc (.cells #[.int .i64 0] 3)
  have b2' := b2.alloc (.cells #[.int .i64 0] 3)
  have HAL4 : Hid (Below w.heap.size w (W3.alloc (.cells #[.int .i64 0] 3))) := HAL.out.alloc (by omega) _
  have HR4 := Lib.hid (HR3.out.below ((Below.refl _ W3).alloc (Nat.le_refl _) (.cells #[.int .i64 0] 3)))
  have hz4 : (W3.alloc (.cells #[.int .i64 0] 3)).heap.size = w.heap.size + 4 := by simp [hz3]
  have r4 : (W3.alloc (.cells #[.int .i64 0] 3)).cell? ⟨rb, 3, none⟩ = some (.int .i64 0) := (HAL4.out.cell (p := ⟨rb, 3, none⟩) hrl).trans (by obtain ⟨q', c', h', _⟩ := HR.out; simp [World.cell?, h'])
  generalize W3.alloc (.cells #[.int .i64 0] 3) = W4 at *
  clear b0 b1 b2 r3 b0c hz3 HAL HR3
  have HG : Hid (Calls Tryz.prog 158 #[.func (.func 163) #[] #[.pointer (some ⟨w.heap.size + 1, 0, none⟩), .pointer (some ⟨w.heap.size, 0, none⟩), .pointer (some ⟨w.heap.size + 1 + 1, 0, none⟩), .pointer (some ⟨w.heap.size + 3, 0, none⟩)]] W4.drew fun e w' => e = .returned (.int .i64 0) ∧
      Only (fun j => j = w.heap.size + 1 + 1 ∨ j = w.heap.size + 3) W4 w' ∧ Boxed w' (w.heap.size + 1 + 1) 84 (.int .u64 n) ∧ Boxed w' (w.heap.size + 3) 3 (.int .i64 ((vint n).length : Nat))) := by
    have hd5 : Below W4.heap.size W4 (W4.drew.alloc (.cells #[.int .i64 0] 35)) := ((Below.refl _ W4).drew).alloc (Nat.le_refl _) _
    have hon := on1_ok (w.heap.size + 1) w.heap.size (w.heap.size + 1 + 1) (w.heap.size + 3) rb bs rest k n _ _ _ ((hd5.block _ b1'.lt).trans b1') ((hd5.block _ b0'.lt).trans b0') ((hd5.block _ b2'.lt).trans b2') ((hd5.block _ b3.lt).trans b3) (HR4.out.below hd5) HD.out hk hn hl
    refine (guarded_ok 163 _ _ W4.drew (enters_of Tryz.func163 (by kernel_rfl) rfl) hon ?_).mono ?_
    · rintro w' ⟨ho, _, _⟩
      have hb := ho.block W4.heap.size (by simp) (by omega)
      have hnew : (W4.drew.alloc (.cells #[.int .i64 0] 35)).heap[W4.heap.size]? = some (.cells #[.int .i64 0] 35 (0, 0)) := World.alloc_heap_new _ _
      rw [hnew] at hb
      constructor
      · show w'.cell? ⟨W4.heap.size, 0, none⟩ = _; simp [World.cell?, hb]
      · show w'.frozen? ⟨W4.heap.size, 0, none⟩ = _; simp [World.frozen?, hb]
    · rintro e w' ⟨rfl, w1, ⟨ho, hv, hn1⟩, rfl⟩
      have hs : ∀ j : Nat, j ≠ W4.heap.size → (w1.setCell ⟨W4.drew.heap.size, 0, none⟩ (.int .i64 0)).heap[j]? = w1.heap[j]? := fun j hj => Below.heap_setCell _ _ _ _ hj
      refine ⟨rfl, ⟨ho.os, ho.tape, ho.output, ?_, fun j hj hn => ?_⟩, ?_, ?_⟩
      · have := ho.size; simp [World.setCell] at this ⊢; omega
      · rw [hs j (by omega), ho.block j (by simp; omega) hn]; exact hd5.block j hj
      · exact (hs _ (by omega)).trans hv
      · exact (hs _ (by omega)).trans hn1
  clear b1' b2' b3
  have b0c := b0'.cell
  have HB0 := Lib.hid b0'
  clear b0'
  go_region_held (fun V : World => V.cell? ⟨w.heap.size, 0, none⟩ = some (.pointer (some ⟨rb, 0, none⟩))) (first | assumption | exact b0c | exact (World.cell?_of_block (a := ⟨w.heap.size, 0, none⟩) (Below.heap_setCell _ ⟨rb, 3, none⟩ _ _ (fun e => hne e.symm))).trans (by assumption)) ((refine HG.out.mono ?_; rintro e w6 ⟨rfl, ho6, hv6, hn6⟩; have HO6 := Lib.hid ho6; have HV6 := Lib.hid hv6; have HN6 := Lib.hid hn6; have hS6 : w6.cell? ⟨w.heap.size, 0, none⟩ = some (.pointer (some ⟨rb, 0, none⟩)) := (show Boxed w6 _ _ _ from (ho6.block _ HB0.out.lt (by omega)).trans HB0.out).cell; have hR6 : w6.cell? ⟨rb, 3, none⟩ = some (.int .i64 0) := (World.cell?_of_block (w := W4) (a := ⟨rb, 3, none⟩) (ho6.block rb (by omega) (by omega))).trans r4; have hF6 : w6.frozen? ⟨rb, 3, none⟩ = false := (by obtain ⟨q', c', h', _⟩ := HR4.out; have := (ho6.block rb (by omega) (by omega)).trans h'; simp [World.frozen?, this]); clear ho6 hv6 hn6))
  rename_i hheld
  clear hheld hR6 hF6 hS6 b0c r4
  have hb4 := (HAL4.out.block rb hrl).trans HQ.out
  have hb6 : w6.heap[rb]? = some (.cells #[.int .i64 1, .slice q bs.length cap, .int .i64 k, .int .i64 0] 167 (0, 0)) := (HO6.out.block rb (by omega) (by omega)).trans hb4
  have hb7 : (w6.setCell ⟨rb, 3, none⟩ (.int .i64 0)).heap[rb]? = some (.cells #[.int .i64 1, .slice q bs.length cap, .int .i64 k, .int .i64 0] 167 (0, 0)) := by
    unfold World.setCell; simp [Array.getElem?_modify, hb6]
  have hs7 : ∀ j : Nat, j ≠ rb → (w6.setCell ⟨rb, 3, none⟩ (.int .i64 0)).heap[j]? = w6.heap[j]? := fun j hj => Below.heap_setCell _ _ _ _ hj
  have hz7 : (w6.setCell ⟨rb, 3, none⟩ (.int .i64 0)).heap.size = w6.heap.size := by simp [World.setCell]
  have HO7 : Hid (Only (fun j => j = w.heap.size + 1 + 1 ∨ j = w.heap.size + 3 ∨ j = rb) W4 (w6.setCell ⟨rb, 3, none⟩ (.int .i64 0))) :=
    ⟨HO6.out.os, HO6.out.tape, HO6.out.output, by rw [hz7]; exact HO6.out.size, fun j hj hn => (hs7 j (by omega)).trans (HO6.out.block j hj (by omega))⟩
  have t0 : (w6.setCell ⟨rb, 3, none⟩ (.int .i64 0)).cell? ⟨w.heap.size, 0, none⟩ = some (.pointer (some ⟨rb, 0, none⟩)) := (show Boxed _ _ _ _ from ((hs7 _ (by omega)).trans (HO6.out.block _ HB0.out.lt (by omega))).trans HB0.out).cell
  have t2 : (w6.setCell ⟨rb, 3, none⟩ (.int .i64 0)).cell? ⟨rb, 2, none⟩ = some (.int .i64 k) := by simp [World.cell?, hb7]
  have t3 : (w6.setCell ⟨rb, 3, none⟩ (.int .i64 0)).cell? ⟨rb, 3, none⟩ = some (.int .i64 0) := by simp [World.cell?, hb7]
  have z2 : (w6.setCell ⟨rb, 3, none⟩ (.int .i64 0)).frozen? ⟨rb, 2, none⟩ = false := by simp [World.frozen?, hb7]
  have t4 : (w6.setCell ⟨rb, 3, none⟩ (.int .i64 0)).cell? ⟨w.heap.size + 3, 0, none⟩ = some (.int .i64 ((vint n).length : Nat)) := (show Boxed _ _ _ _ from (hs7 _ (by omega)).trans HN6.out).cell
  have t5 : (w6.setCell ⟨rb, 3, none⟩ (.int .i64 0)).cell? ⟨w.heap.size + 1 + 1, 0, none⟩ = some (.int .u64 n) := (show Boxed _ _ _ _ from (hs7 _ (by omega)).trans HV6.out).cell
  have hvl := vint_length n 10 (Nat.lt_of_lt_of_le hn (by decide)) (by decide)
  have HB7 := Lib.hid hb7
  clear hb6 hb7 hs7 HG HB0
  generalize w6.setCell ⟨rb, 3, none⟩ (.int .i64 0) = W7 at *
  have HZ := Lib.hid hz7
  clear hz7
  generalize hm : (vint n).length = m at *
  have HM := Lib.hid hm
  clear hm
  have hw1 : wrap64 ((k : Int) + (m : Int)) = (k : Int) + (m : Int) := IntWalk.wrap64_in _ (by omega)
  have hw2 : IntKind.i64.wrap ((k : Int) + (m : Int)) = (k : Int) + (m : Int) := IntWalk.i64_in _ (by omega)
  go_wp2_with fail
  refine wp_tail 8 (by kernel_rfl) (by kernel_rfl) ?_
  simp only [List.take_succ_cons, List.take_zero, List.drop_succ_cons, List.drop_zero]
  (repeat still_step)
  refine wpStill_nil ?_
  go_wp2_with fail
  have hs8 : ∀ j : Nat, j ≠ rb → ((W7.setCell ⟨rb, 2, none⟩ (.int .i64 ((k : Int) + (m : Int)))).drew).heap[j]? = W7.heap[j]? := fun j hj => Below.heap_setCell _ _ _ _ hj
  have hz8 : ((W7.setCell ⟨rb, 2, none⟩ (.int .i64 ((k : Int) + (m : Int)))).drew).heap.size = W7.heap.size := by simp [World.setCell]
  have hO8 : Only (fun j => j = rb) w ((W7.setCell ⟨rb, 2, none⟩ (.int .i64 ((k : Int) + (m : Int)))).drew) :=
    ⟨HO7.out.os.trans HAL4.out.os, HO7.out.tape.trans HAL4.out.tape, HO7.out.output.trans HAL4.out.output, by have := HO7.out.size; have := HAL4.out.size; omega, fun j hj hn => (hs8 j hn).trans ((HO7.out.block j (by have := HAL4.out.size; omega) (by omega)).trans (HAL4.out.block j hj))⟩
  go_ret
  refine ⟨rfl, ?_, hO8⟩
  rw [HM.out]
  refine ⟨q, cap, ?_, HIN.out.kept (Kept.only hO8 (fun b hb => Nat.ne_of_lt hb))⟩
  show (W7.setCell ⟨rb, 2, none⟩ (.int .i64 ((k : Int) + (m : Int)))).heap[rb]? = _
  unfold World.setCell; simp [Array.getElem?_modify, HB7.out]
end Go.Proofs.YtnglhgogkemgbaaGreatDoor
/-! Package norms' reader; codec.New. -/
namespace Go.Proofs.YtnglhgogkemgbaaGreatDoor
open Go.RowKit

set_option maxRecDepth 100000 in
theorem rdUint_ok (rb : Nat) (bs rest : List Int) (k n : Nat) (w : World) (hr : RdAt w rb bs k) (hd : bs.drop k = vint n ++ rest) (hk : k ≤ bs.length) (hn : n < 9223372036854775808) (hl : bs.length ≤ 1000000000) :
    Calls Tryz.prog 89 #[.pointer (some ⟨rb, 0, none⟩)] w fun e w' => e = .returned (.int .u64 n) ∧ RdAt w' rb bs (k + (vint n).length) ∧ Only (fun j => j = rb) w w' := by
  have h := on_ok rb bs rest k n w hr hd hk hn hl
  clear hr hd
  go_enter Tryz.func89, Tryz.ntmps89
  go_wp2_with fail
  refine h.mono ?_
  rintro e w1 ⟨rfl, h1, h2⟩
  clear h
  go_wp2
  go_ret
  exact ⟨rfl, h1, h2⟩
/-- package norms' reader in memory -/
def NrAt (W : World) (nb rb : Nat) : Prop := W.heap[nb]? = some (.cells #[.pointer (some ⟨rb, 0, none⟩), .bool false] 106 (0, 0))
theorem NrAt.apart {W : World} {nb rb k : Nat} {bs : List Int} (h : NrAt W nb rb) (hr : RdAt W rb bs k) : nb ≠ rb := by
  obtain ⟨q, cap, h1, _⟩ := hr
  rintro rfl
  have := h1.symm.trans h
  injection this with h1; injection h1 with h1 h2; exact absurd h2 (by decide)
theorem NrAt.only {W W' : World} {nb rb k : Nat} {bs : List Int} (h : NrAt W nb rb) (hr : RdAt W rb bs k) (ho : Only (fun j => j = rb) W W') : NrAt W' nb rb :=
  (ho.block _ (Array.getElem?_eq_some_iff.1 h).1 (h.apart hr)).trans h
set_option maxRecDepth 100000 in
theorem number_ok (nb rb : Nat) (bs rest : List Int) (k n : Nat) (w : World) (hb : NrAt w nb rb) (hr : RdAt w rb bs k) (hd : bs.drop k = vint n ++ rest) (hk : k ≤ bs.length) (hn : n ≤ 2147483648) (hl : bs.length ≤ 1000000000) :
    Calls Tryz.prog 45 #[.pointer (some ⟨nb, 0, none⟩)] w fun e w' => e = .returned (.int .i64 n) ∧ RdAt w' rb bs (k + (vint n).length) ∧ Only (fun j => j = rb) w w' := by
  have h := rdUint_ok rb bs rest k n w hr hd hk (by omega) hl
  have c0 : w.cell? ⟨nb, 0, none⟩ = some (.pointer (some ⟨rb, 0, none⟩)) := by simp [World.cell?, show w.heap[nb]? = _ from hb]
  have d1 : decide ((2147483648 : Int) < (n : Int)) = false := decide_eq_false (by omega)
  have d2 : decide (2147483648 < n) = false := decide_eq_false (by omega)
  have hw : wrap64 (n : Int) = (n : Int) := IntWalk.wrap64_in _ (by omega)
  clear hr hd hb
  go_enter Tryz.func45, Tryz.ntmps45
  go_wp2_with fail
  refine h.mono ?_
  rintro e w1 ⟨rfl, h1, h2⟩
  clear h
  go_wp2
  go_ret
  exact ⟨rfl, h1, h2⟩
set_option maxRecDepth 100000 in
theorem wrong_ok (nb rb : Nat) (bs : List Int) (k : Nat) (w : World) (hb : NrAt w nb rb) (hr : RdAt w rb bs k) :
    Calls Tryz.prog 46 #[.pointer (some ⟨nb, 0, none⟩)] w fun e w' => e = .returned (.bool false) ∧ w = w' := by
  have h := rdErr_any rb bs k w hr
  have c0 : w.cell? ⟨nb, 0, none⟩ = some (.pointer (some ⟨rb, 0, none⟩)) := by simp [World.cell?, show w.heap[nb]? = _ from hb]
  have c1 : w.cell? ⟨nb, 1, none⟩ = some (.bool false) := by simp [World.cell?, show w.heap[nb]? = _ from hb]
  clear hr hb
  go_enter Tryz.func46, Tryz.ntmps46
  go_wp2_with fail
  refine h.mono ?_
  rintro e w1 ⟨rfl, rfl⟩
  clear h
  go_wp2
  go_ret
  exact ⟨rfl, rfl⟩
set_option maxRecDepth 100000 in
theorem rdDone_ok (rb : Nat) (bs : List Int) (w : World) (hr : RdAt w rb bs bs.length) :
    Calls Tryz.prog 47 #[.pointer (some ⟨rb, 0, none⟩)] w fun e w' => e = .returned (.int .i64 0) ∧ Below w.heap.size w w' := by
  have h := rdErr_any rb bs _ w hr
  obtain ⟨q, cap, h1, _⟩ := hr
  have c1 : w.cell? ⟨rb, 1, none⟩ = some (.slice q bs.length cap) := by simp [World.cell?, h1]
  have c2 : w.cell? ⟨rb, 2, none⟩ = some (.int .i64 bs.length) := by simp [World.cell?, h1]
  have d1 : decide ((bs.length : Int) < (bs.length : Int)) = false := decide_eq_false (by omega)
  have hrl := (Array.getElem?_eq_some_iff.1 h1).1
  clear h1
  go_enter Tryz.func47, Tryz.ntmps47
  go_wp2_with fail
  refine h.mono ?_
  rintro e w1 ⟨rfl, rfl⟩
  clear h
  go_wp2_with fail
  refine wp_region_over (by kernel_rfl) (by kernel_rfl) ?_; (repeat (go_big_quiet_step ((fail)))); refine wpQuiet_nil ?_; intro w1 hb1
  go_wp2
  go_ret
  exact ⟨rfl, hb1⟩
set_option maxHeartbeats 1000000 in
set_option maxRecDepth 100000 in
theorem bclone_ok (R : Nat → Prop) (xs : List Int) (v : Value) (w : World) (hv : IntsIn R .u8 w v xs) (hne : 0 < xs.length) (hl : xs.length ≤ 1000000000) :
    Calls Tryz.prog 88 #[v] w fun e w' => NewBytes w.heap.size xs e w' ∧ Below w.heap.size w w' := by
  obtain ⟨i0, hi, hz0, hz1, hz2⟩ := info_parts Tryz.infoU8
  have HV : Hid (IntsIn (fun b => R b ∧ b < w.heap.size) .u8 w v xs) := hv.mono (fun b h1 h2 => ⟨h1, h2⟩)
  obtain ⟨b, o, cp, rfl, _, _, _⟩ := hv.place hne
  have he : ∀ w, (binOp .eql 51 (.slice (some ⟨b, o, none⟩) xs.length cp) (.slice none 0 0)).run Tryz.prog w = .ok (.bool false) w := fun w => Lib.run_eql_slice_nil w _ _ (some ⟨b, o, none⟩) _ cp 0 0 Tryz.underlying51
  have hal : Below w.heap.size w (w.alloc (.cells #[] 5)) := (Below.refl _ w).alloc (Nat.le_refl _) _
  have HR : Hid ((w.alloc (.cells #[] 5)).ownsRow w.heap.size 5 1 (.slice (some ⟨w.heap.size, 0, none⟩) 0 0) 0 []) := World.ownsRow_lit w #[] 0 (Nat.le_refl _) (by decide) rfl
  obtain ⟨_, _, _, e, _, _, hc⟩ := (HV.out.kept (Kept.below hal)).place hne
  cases e
  have HC := Lib.hid hc
  have hz : w.heap.size ≤ (w.alloc (.cells #[] 5)).heap.size := by simp
  have HAL := Lib.hid hal
  clear hv hc hal
  go_enter Tryz.func88, Tryz.ntmps88
  go_wp2_with (at_builtin; refine app_stop ⟨_, _, rfl⟩ ?_)
  refine Lib.hid ?_
  refine wpList_append_own _ rfl _ _ 51 rfl (w.heap.size) 5 i0 (.int .u8 0) 1 1 Tryz.underlying51 hi hz0 hz1 hz2 rfl (by decide) (.slice (some ⟨w.heap.size, 0, none⟩) 0 0) 0 [] rfl HR.out ⟨b, o, none⟩ xs.length cp (xs.map (Value.int .u8)) rfl (by simp) (news_of HC.out) (by simp [Value.oneCell']) (by unfold maxLen; omega) (by omega) hz ?_
  intro v5 w5 hr5 hg5 _
  have hr5' : w5.ownsRow w.heap.size 5 1 v5 xs.length (xs.map (Value.int .u8)) := by simpa using hr5
  have HR5 := Lib.hid hr5'
  have HB5 : Hid (Below w.heap.size w w5) := HAL.out.grown hg5 HAL.out.size (fun j hj => by
    have : some w.heap.size = some j := hj
    simp at this; omega)
  clear hr5 hr5' hg5 hz
  go_wp2
  refine bodyPost_ret (v := v5) (by simp [results, Tryz.results88, go_sem]) rfl ⟨⟨v5, rfl, HR5.out⟩, HB5.out⟩
set_option maxHeartbeats 1000000 in
set_option maxRecDepth 100000 in
theorem sclone_ok (R : Nat → Prop) (xs : List Int) (v : Value) (w : World) (hv : IntsIn R .u8 w v xs) (hne : 0 < xs.length) (hl : xs.length ≤ 1000000000) :
    Calls Tryz.prog 87 #[v] w fun e w' => NewBytes w.heap.size xs e w' ∧ Below w.heap.size w w' := by
  obtain ⟨i0, hi, hz0, hz1, hz2⟩ := info_parts Tryz.infoU8
  have HV : Hid (IntsIn (fun b => R b ∧ b < w.heap.size) .u8 w v xs) := hv.mono (fun b h1 h2 => ⟨h1, h2⟩)
  obtain ⟨b, o, cp, rfl, _, _, _⟩ := hv.place hne
  have he : ∀ w, (binOp .eql 51 (.slice (some ⟨b, o, none⟩) xs.length cp) (.slice none 0 0)).run Tryz.prog w = .ok (.bool false) w := fun w => Lib.run_eql_slice_nil w _ _ (some ⟨b, o, none⟩) _ cp 0 0 Tryz.underlying51
  have hal : Below w.heap.size w (w.alloc (.cells #[] 5)) := (Below.refl _ w).alloc (Nat.le_refl _) _
  have HR : Hid ((w.alloc (.cells #[] 5)).ownsRow w.heap.size 5 1 (.slice (some ⟨w.heap.size, 0, none⟩) 0 0) 0 []) := World.ownsRow_lit w #[] 0 (Nat.le_refl _) (by decide) rfl
  obtain ⟨_, _, _, e, _, _, hc⟩ := (HV.out.kept (Kept.below hal)).place hne
  cases e
  have HC := Lib.hid hc
  have hz : w.heap.size ≤ (w.alloc (.cells #[] 5)).heap.size := by simp
  have HAL := Lib.hid hal
  clear hv hc hal
  go_enter Tryz.func87, Tryz.ntmps87
  go_wp2_with (at_builtin; refine app_stop ⟨_, _, rfl⟩ ?_)
  refine Lib.hid ?_
  refine wpList_append_own _ rfl _ _ 51 rfl (w.heap.size) 5 i0 (.int .u8 0) 1 1 Tryz.underlying51 hi hz0 hz1 hz2 rfl (by decide) (.slice (some ⟨w.heap.size, 0, none⟩) 0 0) 0 [] rfl HR.out ⟨b, o, none⟩ xs.length cp (xs.map (Value.int .u8)) rfl (by simp) (news_of HC.out) (by simp [Value.oneCell']) (by unfold maxLen; omega) (by omega) hz ?_
  intro v5 w5 hr5 hg5 _
  have hr5' : w5.ownsRow w.heap.size 5 1 v5 xs.length (xs.map (Value.int .u8)) := by simpa using hr5
  have HR5 := Lib.hid hr5'
  have HB5 : Hid (Below w.heap.size w w5) := HAL.out.grown hg5 HAL.out.size (fun j hj => by
    have : some w.heap.size = some j := hj
    simp at this; omega)
  clear hr5 hr5' hg5 hz
  go_wp2
  refine bodyPost_ret (v := v5) (by simp [results, Tryz.results87, go_sem]) rfl ⟨⟨v5, rfl, HR5.out⟩, HB5.out⟩
end Go.Proofs.YtnglhgogkemgbaaGreatDoor
/-! codec.New; codec.ReadUint where a number stands. -/
namespace Go.Proofs.YtnglhgogkemgbaaGreatDoor
open Go.RowKit

set_option maxHeartbeats 1000000 in
set_option maxRecDepth 100000 in
theorem cNew_ok (R : Nat → Prop) (bs : List Int) (v : Value) (w : World) (hv : IntsIn R .u8 w v bs) (hne : 0 < bs.length) (hl : bs.length ≤ 1000000000) :
    Calls Tryz.prog 44 #[v] w fun e w' => ∃ rb, e = .returned (.pointer (some ⟨rb, 0, none⟩)) ∧ RdAt w' rb bs 0 ∧ w.heap.size ≤ rb ∧ Below w.heap.size w w' := by
  have hc := bclone_ok R bs v w hv hne hl
  obtain ⟨p, cp, rfl, _⟩ := hv
  go_enter Tryz.func44, Tryz.ntmps44
  go_wp2_with fail
  refine hc.mono ?_
  rintro e w1 ⟨⟨v1, rfl, hr1⟩, hb1⟩
  have HI := Lib.hid (ints_of_own hr1)
  obtain ⟨g, o, c1, rfl, _, _, _⟩ := (ints_of_own hr1).place hne
  have HB1 := Lib.hid hb1
  clear hc hr1 hb1
  go_wp2_with fail
  go_ret
  refine ⟨w1.heap.size, rfl, ?_, HB1.out.size, HB1.out.alloc HB1.out.size _⟩
  refine ⟨_, _, World.alloc_heap_new _ _, ?_⟩
  exact (HI.out.mono (S := fun b => b < w1.heap.size) (fun b _ hl => hl)).kept (Kept.below ((Below.refl _ w1).alloc (Nat.le_refl _) _))
set_option maxHeartbeats 1000000 in
set_option maxRecDepth 100000 in
theorem readUint1_ok (R : Nat → Prop) (n : Nat) (rest : List Int) (v : Value) (B : Nat) (w : World) (hn : n < 9223372036854775808) (hv : IntsIn R .u8 w v (vint n ++ rest)) (hl : (vint n ++ rest).length ≤ 140737488351232) (hb : Boxed w B 51 v) :
    Calls Tryz.prog 124 #[.pointer (some ⟨B, 0, none⟩)] w fun e w' => e = .returned (.tuple #[.int .u64 n, .int .i64 ((vint n).length : Nat)]) ∧ w = w' := by
  have h := readUint_ok R n rest v w hn hv hl
  have c := hb.cell
  obtain ⟨p, cp, rfl, _⟩ := hv
  clear hb hl
  generalize (vint n ++ rest).length = L at *
  go_enter Tryz.func124, Tryz.ntmps124
  go_wp2_with fail
  refine h.mono ?_
  rintro e w1 ⟨rfl, rfl⟩
  clear h
  go_wp2
  go_ret2
  exact ⟨rfl, rfl⟩
set_option maxHeartbeats 2000000 in
set_option maxRecDepth 100000 in
theorem read1_ok (R : Nat → Prop) (n : Nat) (rest : List Int) (v : Value) (B bf bv bn : Nat) (x0 x1 : Value) (w : World) (hn : n < 9223372036854775808) (hv : IntsIn R .u8 w v (vint n ++ rest)) (hl : (vint n ++ rest).length ≤ 140737488351232) (hb : Boxed w B 51 v)
    (hbf : Boxed w bf 210 (.func (.func 124) #[] #[.pointer (some ⟨B, 0, none⟩)])) (hbv : Boxed w bv 84 x0) (hbn : Boxed w bn 3 x1) :
    Calls Tryz.prog 159 #[.pointer (some ⟨bf, 0, none⟩), .pointer (some ⟨bv, 0, none⟩), .pointer (some ⟨bn, 0, none⟩)] w fun e w' => e = .returned (.tuple #[]) ∧
      Only (fun j => j = bv ∨ j = bn) w w' ∧ Boxed w' bv 84 (.int .u64 n) ∧ Boxed w' bn 3 (.int .i64 ((vint n).length : Nat)) := by
  have h := readUint1_ok R n rest v B w hn hv hl hb
  have c1 := hbf.cell
  have c5 := hbv.cell
  have c6 := hbn.cell
  have z5 := hbv.frozen
  have z6 := hbn.frozen
  have n3 : bn ≠ bv := by
    rintro rfl
    have := (show w.heap[bn]? = _ from hbn).symm.trans hbv
    injection this with h1; injection h1 with h1 h2; exact absurd h2 (by decide)
  have HBV := Lib.hid hbv
  have HBN := Lib.hid hbn
  have y6 : (w.setCell ⟨bv, 0, none⟩ (.int .u64 n)).cell? ⟨bn, 0, none⟩ = some x1 := (World.cell?_of_block (w := w) (a := ⟨bn, 0, none⟩) (Below.heap_setCell _ _ _ _ n3)).trans c6
  clear hv hl hb hbf hbv hbn
  generalize (vint n).length = m at *
  go_enter Tryz.func159, Tryz.ntmps159
  go_wp2_with fail
  refine h.mono ?_
  rintro e w1 ⟨rfl, rfl⟩
  clear h
  go_wp2
  go_end0
  refine ⟨rfl, ((Only.refl _ w).setCell (p := ⟨bv, 0, none⟩) (.inl rfl) _).setCell (p := ⟨bn, 0, none⟩) (.inr rfl) _, ?_, ?_⟩
  · exact (Below.heap_setCell _ _ _ _ (fun e => n3 e.symm)).trans (HBV.out.set _)
  · have : Boxed (w.setCell ⟨bv, 0, none⟩ (.int .u64 n)) bn 3 x1 := (Below.heap_setCell _ _ _ _ n3).trans HBN.out
    exact this.set _
set_option maxHeartbeats 4000000 in
set_option maxRecDepth 100000 in
theorem read_ok (R : Nat → Prop) (n : Nat) (rest : List Int) (v : Value) (B : Nat) (w : World) (hn : n < 9223372036854775808) (hv : IntsIn R .u8 w v (vint n ++ rest)) (hl : (vint n ++ rest).length ≤ 140737488351232) (hb : Boxed w B 51 v) :
    Calls Tryz.prog 123 #[.func (.func 124) #[] #[.pointer (some ⟨B, 0, none⟩)]] w fun e w' => e = .returned (.tuple #[.int .u64 n, .int .i64 ((vint n).length : Nat), .int .i64 0]) ∧ Below w.heap.size w w' := by
  have hmf : ∀ (fn : Fn) (first cap : Array Value) (w : World), (Instr.makeFunc fn first cap).run Tryz.prog w = .ok (.func fn first cap) w := fun _ _ _ _ => rfl
  have HV := Lib.hid hv
  have HL := Lib.hid hl
  have HB := Lib.hid hb
  clear hv hl hb
  go_enter Tryz.func123, Tryz.ntmps123
  go_wp2_with fail
  generalize hW3 : (((w.alloc (.cells #[.func (.func 124) #[] #[.pointer (some ⟨B, 0, none⟩)]] 210)).alloc (.cells #[.int .u64 0] 84)).alloc (.cells #[.int .i64 0] 3)) = W3 at *
  have hz3 : W3.heap.size = w.heap.size + 3 := by rw [← hW3]; simp
  have hb3 : Below w.heap.size w W3 := by rw [← hW3]; exact (((Below.refl _ w).alloc (Nat.le_refl _) _).alloc (by simp) _).alloc (by simp; omega) _
  have b0 : Boxed W3 w.heap.size 210 (.func (.func 124) #[] #[.pointer (some ⟨B, 0, none⟩)]) := by
    show W3.heap[_]? = _; rw [← hW3, Below.heap_alloc _ _ _ (by simp; omega), Below.heap_alloc _ _ _ (by simp)]; exact World.alloc_heap_new _ _
  have b1 : Boxed W3 (w.heap.size + 1) 84 (.int .u64 0) := by
    show W3.heap[_]? = _; rw [← hW3, Below.heap_alloc _ _ _ (by simp)]
    have := World.alloc_heap_new (w.alloc (.cells #[.func (.func 124) #[] #[.pointer (some ⟨B, 0, none⟩)]] 210)) (.cells #[.int .u64 0] 84)
    rwa [World.size_alloc] at this
  have b2 : Boxed W3 (w.heap.size + 1 + 1) 3 (.int .i64 0) := by
    show W3.heap[_]? = _; rw [← hW3]
    have := World.alloc_heap_new ((w.alloc (.cells #[.func (.func 124) #[] #[.pointer (some ⟨B, 0, none⟩)]] 210)).alloc (.cells #[.int .u64 0] 84)) (.cells #[.int .i64 0] 3)
    rwa [World.size_alloc, World.size_alloc] at this
  clear hW3
  have hd5 : Below W3.heap.size W3 (W3.alloc (.cells #[.int .i64 0] 35)) := (Below.refl _ W3).alloc (Nat.le_refl _) _
  have hb5 : Below w.heap.size w (W3.alloc (.cells #[.int .i64 0] 35)) := hb3.trans (hd5.mono (by omega))
  have hon := read1_ok R n rest v B w.heap.size (w.heap.size + 1) (w.heap.size + 1 + 1) _ _ _ hn (HV.out.kept (Kept.below hb5)) HL.out ((hb5.block _ HB.out.lt).trans HB.out) ((hd5.block _ b0.lt).trans b0) ((hd5.block _ b1.lt).trans b1) ((hd5.block _ b2.lt).trans b2)
  refine (guarded_ok 159 _ _ W3 (enters_of Tryz.func159 (by kernel_rfl) rfl) hon ?_).mono ?_
  · rintro w' ⟨ho, _, _⟩
    have hb := ho.block W3.heap.size (by simp) (by omega)
    have hnew : (W3.alloc (.cells #[.int .i64 0] 35)).heap[W3.heap.size]? = some (.cells #[.int .i64 0] 35 (0, 0)) := World.alloc_heap_new _ _
    rw [hnew] at hb
    constructor
    · simp [World.cell?, hb]
    · simp [World.frozen?, hb]
  rintro e w' ⟨rfl, w1, ⟨ho, hv1, hn1⟩, rfl⟩
  have hs : ∀ j : Nat, j ≠ W3.heap.size → (w1.setCell ⟨W3.heap.size, 0, none⟩ (.int .i64 0)).heap[j]? = w1.heap[j]? := fun j hj => Below.heap_setCell _ _ _ _ hj
  have hz1 : (w1.setCell ⟨W3.heap.size, 0, none⟩ (.int .i64 0)).heap.size = w1.heap.size := by simp [World.setCell]
  have HBE : Hid (Below w.heap.size w (w1.setCell ⟨W3.heap.size, 0, none⟩ (.int .i64 0))) := by
    refine ⟨ho.os.trans hb3.os, ho.tape.trans hb3.tape, ho.output.trans hb3.output, ?_, fun j hj => ?_⟩
    · have := ho.size; simp at this; omega
    · rw [hs j (by omega), ho.block j (by simp; omega) (by omega)]; exact hb5.block j hj
  have v1 : Boxed (w1.setCell ⟨W3.heap.size, 0, none⟩ (.int .i64 0)) (w.heap.size + 1) 84 (.int .u64 n) := (hs _ (by omega)).trans hv1
  have v2 : Boxed (w1.setCell ⟨W3.heap.size, 0, none⟩ (.int .i64 0)) (w.heap.size + 1 + 1) 3 (.int .i64 ((vint n).length : Nat)) := (hs _ (by omega)).trans hn1
  have k1 := v1.cell
  have k2 := v2.cell
  have l1 := v1.lt
  have l2 := v2.lt
  clear b0 b1 b2 hd5 hb5 hb3 hon ho hv1 hn1 hs hz1 v1 v2
  generalize w1.setCell ⟨W3.heap.size, 0, none⟩ (.int .i64 0) = W7 at *
  generalize hm : (vint n).length = m at *
  have HM := Lib.hid hm
  clear hm
  go_wp2_with fail
  refine wp_region_over (by kernel_rfl) (by kernel_rfl) ?_; (repeat (go_big_quiet_step ((fail)))); refine wpQuiet_nil ?_; intro w1 hb1
  go_wp2
  go_ret3
  exact ⟨by first | rfl | (rw [HM.out]; rfl), HBE.out.trans (hb1.mono HBE.out.size)⟩
set_option maxHeartbeats 2000000 in
set_option maxRecDepth 100000 in
theorem ReadUint_ok (R : Nat → Prop) (n : Nat) (rest : List Int) (v : Value) (w : World) (hn : n < 9223372036854775808) (hv : IntsIn R .u8 w v (vint n ++ rest)) (hl : (vint n ++ rest).length ≤ 140737488351232) :
    Calls Tryz.prog 82 #[v] w fun e w' => e = .returned (.tuple #[.int .u64 n, .int .i64 ((vint n).length : Nat), .int .i64 0]) ∧ Below w.heap.size w w' := by
  have hmf : ∀ (fn : Fn) (first cap : Array Value) (w : World), (Instr.makeFunc fn first cap).run Tryz.prog w = .ok (.func fn first cap) w := fun _ _ _ _ => rfl
  have hal : Below w.heap.size w (w.alloc (.cells #[v] 51)) := (Below.refl _ w).alloc (Nat.le_refl _) _
  have h := read_ok R n rest v w.heap.size _ hn (hv.kept (Kept.below hal)) hl (Boxed.new _ _ _)
  obtain ⟨p, cp, rfl, _⟩ := hv
  have HAL := Lib.hid hal
  clear hl hal
  generalize (vint n ++ rest).length = L at *
  generalize (vint n).length = m at *
  go_enter Tryz.func82, Tryz.ntmps82
  go_wp2_with fail
  refine h.mono ?_
  rintro e w1 ⟨rfl, hb1⟩
  clear h
  go_wp2
  go_ret3
  exact ⟨rfl, HAL.out.trans (hb1.mono HAL.out.size)⟩
end Go.Proofs.YtnglhgogkemgbaaGreatDoor
/-! slices.Equal of bytes; Unframe of a frame. -/
namespace Go.Proofs.YtnglhgogkemgbaaGreatDoor
open Go.RowKit

theorem takeI_eq_step {xs ys : List Int} {k : Nat} {x y : Int} (hx : xs[k]? = some x) (hy : ys[k]? = some y) (h : xs.take k = ys.take k) : (xs.take (k + 1) = ys.take (k + 1) ↔ x = y) := by
  have e1 : xs.take (k + 1) = xs.take k ++ [x] := by rw [List.take_add_one, hx]; rfl
  have e2 : ys.take (k + 1) = ys.take k ++ [y] := by rw [List.take_add_one, hy]; rfl
  rw [e1, e2, h]
  constructor
  · intro e; have := List.append_cancel_left e; simpa using this
  · intro e; rw [e]
set_option maxHeartbeats 2000000 in
set_option maxRecDepth 100000 in
theorem equal8_any (R Q : Nat → Prop) (xs ys : List Int) (v u : Value) (w : World) (hv : IntsIn R .u8 w v xs) (hu : IntsIn Q .u8 w u ys) (hx : xs.length ≤ maxLen) (hy : ys.length ≤ maxLen) :
    Calls Tryz.prog 83 #[v, u] w fun e w' => e = .returned (.bool (decide (xs = ys))) ∧ Below w.heap.size w w' := by
  have HV := Lib.hid hv
  have HU := Lib.hid hu
  obtain ⟨p, cp, rfl, _⟩ := hv
  obtain ⟨q, cq, rfl, _⟩ := hu
  unfold maxLen at hx hy
  by_cases hlen : xs.length = ys.length
  · have hne : ((xs.length : Int) != (ys.length : Int)) = false := by rw [hlen]; simp
    have hne' : (xs.length != ys.length) = false := by rw [hlen]; simp
    have HLN := Lib.hid hlen
    clear hlen
    go_enter Tryz.func83, Tryz.ntmps83
    go_wp2
    go_loopw [13] (fun i wr => ∃ k : Nat, i = .int .i64 k ∧ (k ≤ xs.length ∧ xs.take k = ys.take k) ∧ Below w.heap.size w wr) (fun i _ => xs.length - (intOf i).toNat)
    case atStart => exact ⟨0, rfl, ⟨Nat.zero_le _, by simp⟩, Below.refl _ _⟩
    case round =>
      obtain ⟨k, rfl, hr, hbr⟩ := hrel
      have HR := Lib.hid hr
      have HB := Lib.hid hbr
      by_cases hlt : k < xs.length
      · have hlt' : decide (k < xs.length) = true := decide_eq_true hlt
        have hlty : k < ys.length := (by have := HLN.out; omega)
        have hxk : xs[k]? = some (xs.getD k 0) := by simp [hlt]
        have hyk : ys[k]? = some (ys.getD k 0) := by simp [hlty]
        obtain ⟨b, o, rfl, _, hb, c0⟩ := (HV.out.kept (Kept.below hbr)).at k hlt
        obtain ⟨b2, o2, rfl, _, hb2, d0⟩ := (HU.out.kept (Kept.below hbr)).at k hlty
        generalize xs.getD k 0 = x at *
        generalize ys.getD k 0 = y at *
        have HT := Lib.hid (takeI_eq_step hxk hyk hr.2)
        have HL := Lib.hid hlt
        clear hr hbr hxk hyk
        by_cases hxy : x = y
        · have hxy' : (x != y) = false := by simp [hxy]
          have HN := Lib.hid (HT.out.2 hxy)
          clear hxy
          go_wp2_with fail
          refine wp_region_over (by kernel_rfl) (by kernel_rfl) ?_; (repeat (go_big_quiet_step ((fail)))); refine wpQuiet_nil ?_; intro w1 hb1
          go_wp2_with fail
          go_roundw
          case rel => exact ⟨k + 1, by go_num, ⟨HL.out, HN.out⟩, HB.out.trans (hb1.mono HB.out.size)⟩
          case measure => (have hq := HL.out; simp [intOf]; omega)
        · have hxy' : (x != y) = true := by simpa using hxy
          have HN : Hid (decide (xs = ys) = false) := by
            show _ = _
            rw [decide_eq_false_iff_not]; intro e; exact hxy (HT.out.1 (by rw [e]))
          clear hxy
          go_wp2_with fail
          refine wp_region_over (by kernel_rfl) (by kernel_rfl) ?_; (repeat (go_big_quiet_step ((fail)))); refine wpQuiet_nil ?_; intro w1 hb1
          go_wp2_with fail
          go_ret
          exact ⟨by rw [HN.out]; rfl, HB.out.trans (hb1.mono HB.out.size)⟩
      · have hlt' : decide (k < xs.length) = false := decide_eq_false hlt
        have HN : Hid (decide (xs = ys) = true) := by
          show _ = _
          rw [decide_eq_true_eq]
          have := hr.2
          rwa [List.take_of_length_le (by omega), List.take_of_length_le (by have := HLN.out; omega)] at this
        clear hlt hr hbr
        go_wp2
        go_ret
        exact ⟨by rw [HN.out]; rfl, HB.out⟩
  · have hne : ((xs.length : Int) != (ys.length : Int)) = true := by simpa using (show ¬ (xs.length : Int) = (ys.length : Int) by omega)
    have hne' : (xs.length != ys.length) = true := by simpa using hlen
    have HN : Hid (decide (xs = ys) = false) := by
      show _ = _
      rw [decide_eq_false_iff_not]; intro e; exact hlen (by rw [e])
    clear hlen
    go_enter Tryz.func83, Tryz.ntmps83
    go_wp2
    go_ret
    exact ⟨by rw [HN.out]; rfl, Below.refl _ _⟩
theorem IntsIn.mid {R : Nat → Prop} {k : IntKind} {w : World} {p : Option Addr} {len cap : Nat} {xs : List Int} (h : IntsIn R k w (.slice p len cap) xs) (i j : Nat) (hij : i ≤ j) (hi : j ≤ xs.length) : IntsIn R k w (sliced p i j cap 1) ((xs.drop i).take (j - i)) := by
  obtain ⟨p', cap', h1, h0, h2⟩ := h
  cases h1
  unfold sliced
  have hl : ((xs.drop i).take (j - i)).length = j - i := by rw [List.length_take, List.length_drop]; omega
  refine ⟨_, _, by rw [hl], ⟨by rw [hl]; omega, by omega⟩, fun m x hx => ?_⟩
  have hm := (List.getElem?_eq_some_iff.1 hx).1
  rw [hl] at hm
  rw [List.getElem?_take, if_pos hm, List.getElem?_drop] at hx
  obtain ⟨b, o, e1, e2, e3, e4⟩ := h2 (i + m) x hx
  refine ⟨b, o + i, ?_, e2, e3, by rw [Nat.add_assoc]; exact e4⟩
  rw [if_neg (by omega), e1, Nat.mul_one]
  show some ((⟨b, o, none⟩ : Addr).add i) = _
  rw [addr_plus]
theorem slice_mid8 (w : World) (p : Option Addr) (len cap i j : Nat) (hij : i ≤ j) (hj : j ≤ cap) : (Instr.sliceAt 51 (.slice p len cap) (some (.int .i64 i)) (some (.int .i64 j)) none).run Tryz.prog w = .ok (sliced p i j cap 1) w := by
  have he : Tryz.prog.elem 51 = 5 := by kernel_rfl
  rw [run_sliceAt_slice w 51 _ _ _ _ (by rw [he]; exact Tryz.underlying51), run_slice_lh w 51 p len cap (by rw [he]; exact Tryz.underlying51) .i64 .i64 i j (by omega) (by omega) (by omega), he]
  have hz : (sizeOf 5).run Tryz.prog w = .ok 1 w := by kernel_rfl
  rw [hz]
  simp [Result.andThen]
theorem slice_to8 (w : World) (p : Option Addr) (len cap j : Nat) (hj : j ≤ cap) : (Instr.sliceAt 51 (.slice p len cap) none (some (.int .i64 j)) none).run Tryz.prog w = .ok (sliced p 0 j cap 1) w := by
  have he : Tryz.prog.elem 51 = 5 := by kernel_rfl
  rw [run_sliceAt_slice w 51 _ _ _ _ (by rw [he]; exact Tryz.underlying51), run_slice_h w 51 p len cap (by rw [he]; exact Tryz.underlying51) .i64 j (by omega) (by omega), he]
  have hz : (sizeOf 5).run Tryz.prog w = .ok 1 w := by kernel_rfl
  rw [hz]
  simp [Result.andThen]
end Go.Proofs.YtnglhgogkemgbaaGreatDoor
/-! Unframe of a frame: its bytes. -/
namespace Go.Proofs.YtnglhgogkemgbaaGreatDoor
open Go.RowKit

theorem ownsRow_base {b1 b2 : Nat} {e : TypeId} {size n : Nat} {v : Value} {xs : List Value} {w : World} (h : w.ownsRow b2 e size v n xs) (hb : b1 ≤ b2) : w.ownsRow b1 e size v n xs := by
  refine ⟨h.1, ?_⟩
  rcases h.2 with h' | ⟨g, cap, cur, rfl, hg, hgb, hr⟩
  · exact .inl h'
  · exact .inr ⟨g, cap, cur, rfl, Nat.le_trans hb hg, hgb, hr⟩
theorem frame_len (xs : List Int) : (frameOf xs).length = (vint xs.length).length + 4 + xs.length := by unfold frameOf; rw [List.length_append, List.length_append, four_len]
theorem frame_body (xs : List Int) : ((frameOf xs).drop ((vint xs.length).length + 4)).take xs.length = xs := by
  unfold frameOf
  rw [List.drop_append_of_le_length (by rw [List.length_append, four_len]; exact Nat.le_refl _), List.drop_of_length_le (by rw [List.length_append, four_len]; exact Nat.le_refl _), List.nil_append, List.take_of_length_le (Nat.le_refl _)]
theorem frame_four (xs : List Int) : ((frameOf xs).drop (vint xs.length).length).take 4 = four (crcMask (crcSum xs)) := by
  unfold frameOf
  rw [List.append_assoc, List.drop_left, List.take_append_of_le_length (by rw [four_len]; exact Nat.le_refl _), List.take_of_length_le (by rw [four_len]; exact Nat.le_refl _)]
set_option maxHeartbeats 4000000 in
set_option maxRecDepth 100000 in
theorem unframe_ok (R : Nat → Prop) (tb : Nat) (xs : List Int) (v : Value) (w : World) (ht : TblAt w tb 0 0 0 (crcL 0)) (hv : IntsIn R .u8 w v (frameOf xs)) (hR : ∀ b, R b → b ≠ tb) (hby : ∀ x ∈ xs, 0 ≤ x ∧ x < 256) (hne : 0 < xs.length) (hl : xs.length ≤ 16777216) :
    Calls Tryz.prog 43 #[.pointer (some ⟨tb, 0, none⟩), v] w fun e w' => ∃ u, e = .returned (.tuple #[u, .int .i64 ((frameOf xs).length : Nat), .int .i64 0]) ∧ w'.ownsRow w.heap.size 5 1 u xs.length (xs.map (Value.int .u8)) ∧ Only (fun k => k = tb) w w' := by
  have HV : Hid (IntsIn (fun b => R b ∧ b < w.heap.size) .u8 w v (frameOf xs)) := hv.mono (fun b h1 h2 => ⟨h1, h2⟩)
  have hru := ReadUint_ok R xs.length (four (crcMask (crcSum xs)) ++ xs) v w (by omega) (by rw [← List.append_assoc]; exact hv) (by have := frame_len xs; unfold frameOf at this; have h2 := vint_length xs.length 10 (Nat.lt_of_le_of_lt hl (by decide)) (by decide); rw [← List.append_assoc]; omega)
  obtain ⟨p, cp, rfl, ⟨hcp, _⟩, _⟩ := hv
  have HT := Lib.hid ht
  have HBY := Lib.hid hby
  have c0 : w.cell? ⟨tb, 0, none⟩ = some (.int .i64 1) := (ht.cell 0).trans rfl
  have hlt := ht.lt
  have hfl := frame_len xs
  have hvl := vint_length xs.length 10 (Nat.lt_of_le_of_lt hl (by decide)) (by decide)
  have HFB := Lib.hid (frame_body xs)
  have HFF := Lib.hid (frame_four xs)
  generalize hm : (vint xs.length).length = m at *
  have HMM := Lib.hid hm
  generalize hL : (frameOf xs).length = L at *
  have HLL := Lib.hid hL
  generalize hn : xs.length = n at *
  have HNN := Lib.hid hn
  generalize h4 : m + 4 = m4 at *
  clear hm hL hn ht hby
  have d1 : decide ((16777216 : Int) < (n : Int)) = false := decide_eq_false (by omega)
  have d2 : decide (16777216 < n) = false := decide_eq_false (by omega)
  have d3 : decide ((L : Int) - (m : Int) < 4 + (n : Int)) = false := decide_eq_false (by omega)
  have q1 : m4 ≤ L := by omega
  have q2 : L ≤ cp := hcp
  have q3 : m ≤ m4 := by omega
  have q4 : m4 ≤ cp := by omega
  have q5 : L - m4 = n := by omega
  have q6 : m4 - m = 4 := by omega
  have q7 : n ≤ maxLen := by unfold maxLen; omega
  have q9 : n ≤ 1000000000 := by omega
  have q8 : n ≤ 140737488351232 := by omega
  obtain ⟨w6, w1, w2, w3, w4, w5⟩ : IntKind.i64.wrap ((m : Int) + 4) = (m4 : Int) ∧ wrap64 (n : Int) = (n : Int) ∧ wrap64 ((L : Int) - (m : Int)) = (L : Int) - (m : Int) ∧ wrap64 (4 + (n : Int)) = 4 + (n : Int) ∧ wrap64 ((m : Int) + 4) = (m4 : Int) ∧ wrap64 ((m4 : Int) + (n : Int)) = (L : Int) :=
    ⟨by rw [IntWalk.i64_in _ (by omega)]; omega, IntWalk.wrap64_in _ (by omega), IntWalk.wrap64_in _ (by omega), IntWalk.wrap64_in _ (by omega), by rw [IntWalk.wrap64_in _ (by omega)]; omega, by rw [IntWalk.wrap64_in _ (by omega)]; omega⟩
  obtain ⟨p2, n2, c2, hs2⟩ : ∃ p2 n2 c2, sliced p m4 L cp 1 = .slice p2 n2 c2 := ⟨_, _, _, rfl⟩
  have hsl2 : ∀ w, (Instr.sliceAt 51 (.slice p L cp) (some (.int .i64 m4)) (some (.int .i64 L)) none).run Tryz.prog w = .ok (.slice p2 n2 c2) w := fun w => by rw [← hs2]; exact slice_mid8 w p L cp m4 L q1 q2
  obtain ⟨p3, n3, c3, hs3⟩ : ∃ p3 n3 c3, sliced p m m4 cp 1 = .slice p3 n3 c3 := ⟨_, _, _, rfl⟩
  have hsl3 : ∀ w, (Instr.sliceAt 51 (.slice p L cp) (some (.int .i64 m)) (some (.int .i64 m4)) none).run Tryz.prog w = .ok (.slice p3 n3 c3) w := fun w => by rw [← hs3]; exact slice_mid8 w p L cp m m4 q3 q4
  have HX2 : Hid (IntsIn (fun b => R b ∧ b < w.heap.size) .u8 w (.slice p2 n2 c2) xs) := by
    have := HV.out.mid m4 L q1 (by rw [HLL.out]; exact Nat.le_refl _)
    rw [q5, HFB.out, hs2] at this
    exact this
  have HX3 : Hid (IntsIn (fun b => R b ∧ b < w.heap.size) .u8 w (.slice p3 n3 c3) (four (crcMask (crcSum xs)))) := by
    have := HV.out.mid m m4 q3 (by rw [HLL.out]; exact q1)
    rw [q6, HFF.out, hs3] at this
    exact this
  have HEQ : Hid (∀ (W : World) (v4 : Value), IntsIn (fun b => w.heap.size ≤ b) .u8 W v4 (four (crcMask (crcSum xs))) → IntsIn (fun b => R b ∧ b < w.heap.size) .u8 W (.slice p3 n3 c3) (four (crcMask (crcSum xs))) → Calls Tryz.prog 83 #[v4, .slice p3 n3 c3] W fun e w' => e = .returned (.bool true) ∧ Below W.heap.size W w') := by
    intro W v4 h1 h2
    refine (equal8_any _ _ _ _ _ _ _ h1 h2 (by rw [four_len]; decide) (by rw [four_len]; decide)).mono ?_
    rintro e w' ⟨rfl, hb⟩
    exact ⟨by simp, hb⟩
  have HM : Hid (crcMask (crcSum xs) < 4294967296) := Nat.mod_lt _ (by decide)
  have HF : Hid (∀ W : World, w.heap.size ≤ W.heap.size → Calls Tryz.prog 84 #[.int .u32 ((crcMask (crcSum xs) : Nat) : Int)] W fun e w' => ∃ v4, e = .returned v4 ∧ IntsIn (fun b => w.heap.size ≤ b) .u8 w' v4 (four (crcMask (crcSum xs))) ∧ Below W.heap.size W w') := by
    intro W hW
    refine (four_any _ HM.out _).mono ?_
    rintro e w' ⟨⟨v, rfl, hr⟩, hb⟩
    exact ⟨v, rfl, (ints_of_own hr).mono (fun b hb _ => Nat.le_trans hW hb), hb⟩
  have HS := Lib.hid (crcSum_lt xs HBY.out)
  have HMA : Hid (∀ W : World, Calls Tryz.prog 85 #[.int .u32 ((crcSum xs : Nat) : Int)] W fun e w' => e = .returned (.int .u32 ((crcMask (crcSum xs) : Nat) : Int)) ∧ W = w') := fun W => mask_any _ HS.out _
  have HSU : Hid (∀ W : World, TblAt W tb 0 0 0 (crcL 0) → IntsIn (fun b => R b ∧ b < w.heap.size) .u8 W (.slice p2 n2 c2) xs → Calls Tryz.prog 86 #[.pointer (some ⟨tb, 0, none⟩), .slice p2 n2 c2] W fun e w' => e = .returned (.int .u32 ((crcSum xs : Nat) : Int)) ∧ Only (fun k => k = tb) W w') :=
    fun W h1 h2 => sum_any _ tb xs _ _ h1 h2 (fun b hb => hR b hb.1) HBY.out (by rw [HNN.out]; exact q8)
  generalize four (crcMask (crcSum xs)) = fo at *
  generalize crcMask (crcSum xs) = mk at *
  generalize crcSum xs = sm at *
  have HQ9 := Lib.hid q9
  have HW6 := Lib.hid w6
  clear w6 hs2 hs3 HV hfl h4 q1 q2 q3 q4 q5 q6 q7 q8 q9 hvl
  go_enter Tryz.func43, Tryz.ntmps43
  go_wp2_with fail
  refine hru.mono ?_
  rintro e w1' ⟨rfl, hb1⟩
  have HT1 : Hid (TblAt w1'.drew tb 0 0 0 (crcL 0)) := (hb1.block _ hlt).trans HT.out
  have HX21 := Lib.hid (HX2.out.kept (Kept.below hb1.drew))
  have HX31 := Lib.hid (HX3.out.kept (Kept.below hb1.drew))
  have HO1 : Hid (Only (fun k => k = tb) w w1'.drew) := (Only.refl _ w).below hb1.drew
  clear hru hb1 c0
  go_wp2_with fail
  have w6 := HW6.out
  go_region_held (fun _ : World => True) (trivial) (first
    | (go_at_call 86; refine (HSU.out _ HT1.out HX21.out).mono ?_; rintro e w2' ⟨rfl, ho2⟩; have HO2 := Lib.hid ho2; clear ho2)
    | (go_at_call 85; refine (HMA.out _).mono ?_; rintro e w3' ⟨rfl, rfl⟩)
    | (go_at_call 84; refine (HF.out _ (HO1.out.trans HO2.out).size).mono ?_; rintro e w4' ⟨v4, rfl, hr4, hb4⟩; have HR4 := Lib.hid hr4; have HB4 := Lib.hid hb4; clear hr4 hb4)
    | (go_at_call 83; refine (HEQ.out _ _ HR4.out ((HX31.out.kept (Kept.only HO2.out (fun b hb => hR b hb.1))).kept (Kept.below HB4.out))).mono ?_; rintro e w5' ⟨rfl, hb5⟩; have HB5 := Lib.hid hb5; clear hb5))
  clear w6
  have HO5 := Lib.hid ((((HO1.out.trans HO2.out).below HB4.out)).below HB5.out)
  have HX25 := Lib.hid (((HX21.out.kept (Kept.only HO2.out (fun b hb => hR b hb.1))).kept (Kept.below HB4.out)).kept (Kept.below HB5.out))
  have hz5 : w.heap.size ≤ w5'.heap.size := HO5.out.size
  clear HT1 HX21 HX31 HR4
  go_wp2_with fail
  refine (sclone_ok _ xs _ _ HX25.out (by rw [HNN.out]; exact hne) (by rw [HNN.out]; exact HQ9.out)).mono ?_
  rintro e w6' ⟨⟨v6, rfl, hr6⟩, hb6⟩
  have HR6 := Lib.hid hr6
  have HO6 := Lib.hid (HO5.out.below hb6)
  clear hr6 hb6
  go_wp2_with fail
  go_ret3
  refine ⟨v6, by show Ending.returned (.tuple #[v6, .int .i64 (wrap64 ((m4 : Int) + (n : Int))), .int .i64 0]) = _; rw [w5], ?_, HO6.out⟩
  rw [← HNN.out]
  exact ownsRow_base HR6.out hz5
end Go.Proofs.YtnglhgogkemgbaaGreatDoor
