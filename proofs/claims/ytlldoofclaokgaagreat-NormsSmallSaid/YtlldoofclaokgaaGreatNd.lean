/- The table of sums: made once; walked. -/
import Derived.Test.YtlldoofclaokgaaGreatNc
namespace Go.Proofs.YtlldoofclaokgaaGreat
open Go.RowKit

/-- the cells of a table's block: what lies ahead of the numbers; the numbers -/
def tblCells (done : Int) (mu : Int) (made : Int) (l : List Int) : List Value := [.int .i64 1, .int .u32 done, .int .i32 mu, .int .u32 0, .int .i32 made] ++ l.map (Value.int .u32)
def TblAt (W : World) (tb : Nat) (done mu made : Int) (l : List Int) : Prop := W.heap[tb]? = some (.cells (tblCells done mu made l).toArray 177 (0, 0))

set_option maxHeartbeats 2000000 in
set_option maxRecDepth 100000 in
theorem crcNew_any (w : World) :
    Calls Tryz.prog 69 #[] w fun e w' => e = .returned (.pointer (some ⟨w.heap.size, 0, none⟩)) ∧ TblAt w' w.heap.size 0 0 0 (List.replicate 256 0) ∧ Below w.heap.size w w' ∧ w.heap.size < w'.heap.size := by
  go_enter Tryz.func69, Tryz.ntmps69
  go_wp2_with fail
  have hz : Tryz.zeroCells177.setIfInBounds 0 (.int .i64 1) = (tblCells 0 0 0 (List.replicate 256 0)).toArray := by kernel_rfl
  rw [hz]
  go_ret
  exact ⟨rfl, World.alloc_heap_new _ _, (Below.refl _ w).alloc (Nat.le_refl _) _, by simp⟩
/-- a number of the table is stored -/
theorem TblAt.set {W : World} {tb : Nat} {d m a : Int} {l : List Int} (h : TblAt W tb d m a l) (i : Nat) (x : Int) : TblAt (W.setCell ⟨tb, 5 + i, none⟩ (.int .u32 x)) tb d m a (l.set i x) := by
  unfold TblAt at *
  unfold World.setCell
  simp only [Array.getElem?_modify, h, if_true, Option.map_some]
  have e : tblCells d m a (l.set i x) = (tblCells d m a l).set (5 + i) (.int .u32 x) := by
    simp [tblCells, List.map_set, Nat.add_comm 5 i]
  rw [e]
  simp
theorem TblAt.cell {W : World} {tb : Nat} {d m a : Int} {l : List Int} (h : TblAt W tb d m a l) (j : Nat) : W.cell? ⟨tb, j, none⟩ = (tblCells d m a l)[j]? := by simp [World.cell?, show W.heap[tb]? = _ from h]
theorem TblAt.frozen {W : World} {tb : Nat} {d m a : Int} {l : List Int} (h : TblAt W tb d m a l) (j : Nat) : W.frozen? ⟨tb, j, none⟩ = false := by simp [World.frozen?, show W.heap[tb]? = _ from h]
theorem TblAt.lt {W : World} {tb : Nat} {d m a : Int} {l : List Int} (h : TblAt W tb d m a l) : tb < W.heap.size := (Array.getElem?_eq_some_iff.1 h).1
theorem TblAt.at {W : World} {tb : Nat} {d m a : Int} {l : List Int} (h : TblAt W tb d m a l) (i : Nat) (x : Int) (hx : l[i]? = some x) : W.cell? ⟨tb, 5 + i, none⟩ = some (.int .u32 x) := by
  rw [h.cell]; simp [tblCells, Nat.add_comm 5 i, hx]
/-- so far made -/
def crcL (i : Nat) : List Int := (List.range i).map (fun j => ((crcT j : Nat) : Int)) ++ List.replicate (256 - i) 0
theorem crcL_set {i : Nat} (hi : i < 256) : (crcL i).set i ((crcT i : Nat) : Int) = crcL (i + 1) := by
  unfold crcL
  rw [List.set_append, if_neg (by simp)]
  simp only [List.length_map, List.length_range, Nat.sub_self, List.range_succ, List.map_append, List.append_assoc]
  obtain ⟨k, hk⟩ : ∃ k, 256 - i = k + 1 := ⟨255 - i, by omega⟩
  rw [hk, show 256 - (i + 1) = k by omega]
  rfl
theorem crcL_len (i : Nat) (hi : i ≤ 256) : (crcL i).length = 256 := by simp [crcL]; omega
theorem crcT_lt {i : Nat} (h : i < 4294967296) : crcT i < 2 ^ 32 := crcHalves_lt (by omega) 8

set_option maxRecDepth 100000 in
theorem add32_any (a : Addr) (w : World) (hc : w.cell? a = some (.int .i32 0)) (hz : w.frozen? a = false) :
    Calls Tryz.prog 172 #[.pointer (some a), .int .i32 1] w fun e w' => e = .returned (.int .i32 1) ∧ w.setCell a (.int .i32 1) = w' := by
  have hadd := run_call_add (P := Tryz.prog) Tryz.func158 (by kernel_rfl) (by kernel_rfl) (by kernel_rfl) .i32 (by kernel_rfl) (y := 1) (s := 1) hc hz (by simp [go_sem]; rfl)
  go_enter Tryz.func172, Tryz.ntmps172
  go_wp2
  go_ret
  exact ⟨rfl, rfl⟩
set_option maxHeartbeats 4000000 in
set_option maxRecDepth 100000 in
theorem reckon_any (tb : Nat) (w : World) (h : TblAt w tb 0 1 0 (crcL 0)) :
    Calls Tryz.prog 162 #[.pointer (some ⟨tb, 0, none⟩)] w fun e w' => e = .returned (.tuple #[]) ∧ TblAt w' tb 0 1 1 (crcL 256) ∧ Only (fun k => k = tb) w w' := by
  have H := Lib.hid h
  clear h
  go_enter Tryz.func162, Tryz.ntmps162
  go_wp2_with fail
  go_loopw [5] (fun iv wr => ∃ i : Nat, iv = .int .i64 i ∧ i ≤ 256 ∧ TblAt wr tb 0 1 0 (crcL i) ∧ Only (fun k => k = tb) w wr) (fun iv _ => 256 - (intOf iv).toNat)
  case atStart => exact ⟨0, rfl, by omega, H.out, Only.refl _ _⟩
  case round =>
    obtain ⟨i, rfl, hi, ht, ho⟩ := hrel
    have HT := Lib.hid ht
    have HO := Lib.hid ho
    by_cases hlt : i < 256
    · have d1 : decide ((i : Int) < 256) = true := decide_eq_true (by omega)
      have d2 : decide (i < 256) = true := decide_eq_true hlt
      have hwr : (i : Int) % 4294967296 = (i : Int) := by omega
      clear ht ho
      go_wp2_with fail
      go_loopw [3, 10] (fun xv kv wr2 => ∃ k : Nat, kv = .int .i64 k ∧ k ≤ 8 ∧ xv = .int .u32 ((crcHalves k i : Nat) : Int) ∧ wr = wr2) (fun _ kv _ => 8 - (intOf kv).toNat)
      case atStart => exact ⟨0, rfl, by omega, rfl, rfl⟩
      case round =>
        obtain ⟨k, rfl, hk, rfl, rfl⟩ := hrel
        obtain ⟨c, hc⟩ : ∃ c, c = crcHalves k i := ⟨_, rfl⟩
        have hcl : c < 4294967296 := by rw [hc]; exact crcHalves_lt (by omega) k
        have HC : Hid (crcHalves (k + 1) i = crcHalf c) := by show _ = _; rw [hc]; rfl
        rw [← hc]
        by_cases hk8 : k < 8
        · have e1 : decide ((k : Int) < 8) = true := decide_eq_true (by omega)
          have e2 : decide (k < 8) = true := decide_eq_true hk8
          have HK := Lib.hid hk8
          have ha := and1_u32 c hcl
          have HCL := Lib.hid hcl
          clear hc hcl hk8
          by_cases hodd : c % 2 = 1
          · rw [hodd] at ha
            obtain ⟨z, hz⟩ : ∃ z, z = crcHalf c := ⟨_, rfl⟩
            have hx : bits .xor .u32 ((c : Int) / 2) 2197175160 = (z : Int) := by
              rw [hz, show ((c : Int) / 2) = ((c / 2 : Nat) : Int) by omega, show (2197175160 : Int) = ((2197175160 : Nat) : Int) from rfl, xor_u32 _ _ (by have := HCL.out; omega) (by decide)]
              unfold crcHalf; rw [if_pos hodd]
            have HZ := Lib.hid hz
            clear hodd hz
            go_wp2_with fail
            go_roundw
            case rel => exact ⟨k + 1, by go_num, by have := HK.out; omega, by rw [HC.out, HZ.out], by trivial⟩
            case measure => (have hq := HK.out; simp [intOf]; omega)
          · have h0 : c % 2 = 0 := by omega
            rw [h0] at ha
            have HZ : Hid (((c / 2 : Nat) : Int) = ((crcHalf c : Nat) : Int)) := by show _ = _; unfold crcHalf; rw [if_neg hodd]
            clear hodd h0
            go_wp2_with fail
            go_roundw
            case rel => exact ⟨k + 1, by go_num, by have := HK.out; omega, by rw [HC.out, ← HZ.out]; rfl, by trivial⟩
            case measure => (have hq := HK.out; simp [intOf]; omega)
        · have e1 : decide ((k : Int) < 8) = false := decide_eq_false (by omega)
          have e2 : decide (k < 8) = false := decide_eq_false hk8
          obtain rfl : k = 8 := by omega
          have ht := HT.out
          have hlen := crcL_len i hi
          have ho := HO.out
          obtain ⟨old, hcell⟩ : ∃ old, wr.cell? ⟨tb, 5 + i, none⟩ = some old := ⟨_, ht.at i _ (List.getElem?_eq_getElem (by omega))⟩
          have hfro := ht.frozen (5 + i)
          have HS : Hid (TblAt (wr.setCell ⟨tb, 5 + i, none⟩ (.int .u32 (c : Int))) tb 0 1 0 (crcL (i + 1))) := by
            have := ht.set i (c : Int)
            rw [hc] at this ⊢
            rwa [show crcHalves 8 i = crcT i from rfl, crcL_set hlt] at this
          have HI := Lib.hid hlt
          have hli : (i : Int) < 256 := by omega
          clear ht hlen ho hc hcl HC hk8 hlt
          go_wp2_with fail
          go_roundw
          case rel => exact ⟨i + 1, by go_num, by have := HI.out; omega, HS.out, HO.out.setCell (p := ⟨tb, 5 + i, none⟩) rfl _⟩
          case measure => (have hq := HI.out; simp [intOf]; omega)
    · have d1 : decide ((i : Int) < 256) = false := decide_eq_false (by omega)
      have d2 : decide (i < 256) = false := decide_eq_false hlt
      obtain rfl : i = 256 := by omega
      have hcell := (ht.cell 4).trans (show (tblCells 0 1 0 (crcL 256))[4]? = some (.int .i32 0) from rfl)
      have hfro := ht.frozen 4
      have HS : Hid (TblAt (wr.setCell ⟨tb, 4, none⟩ (.int .i32 1)) tb 0 1 1 (crcL 256)) := by
        show _ = _
        unfold World.setCell
        simp only [Array.getElem?_modify, show wr.heap[tb]? = _ from ht, if_true, Option.map_some]
        rfl
      clear ht ho hlt
      go_wp2_with fail
      refine (add32_any ⟨tb, 4, none⟩ wr hcell hfro).mono ?_
      rintro e w' ⟨rfl, rfl⟩
      go_wp2
      go_end0
      exact ⟨rfl, HS.out, HO.out.setCell (p := ⟨tb, 4, none⟩) rfl _⟩
end Go.Proofs.YtlldoofclaokgaaGreat
