/- Decode of the reference; the order of lists. -/
import Derived.Test.YtafocgnhmdhemaaUn
import Derived.Test.YtafocgnhmdhemaaInts
namespace Go.Proofs.Ytafocgnhmdhemaa
open Go.RowKit
open PlainAid (bt)

theorem Runes.ints {n : Nat} {w : World} {v : Value} {xs : List Int} (h : Runes n w v xs) : IntsAt n .i32 w v xs := by
  rcases h with ⟨rfl, rfl⟩ | ⟨b, cap, h1, h2, rfl, h4⟩
  · exact .nil _ _ _
  · exact ⟨_, _, rfl, fun i x hx => ⟨b, 0, rfl, h1, h2, by rw [Nat.zero_add]; exact h4 i x hx⟩⟩

theorem ownsRow_grow {B : Nat} {e : TypeId} {k : Nat} {v : Value} {n : Nat} {xs : List Value} {w w' : World} (h : w.ownsRow B e k v n xs) (hb : Below w.heap.size w w') : w'.ownsRow B e k v n xs := by
  refine h.kept (Grows.grownBy hb) ?_
  rcases h.2 with ⟨rfl, _⟩ | ⟨g, cap, cur, rfl, _, hgb, _⟩
  · exact .inl rfl
  · exact .inr (fun e => by simp [Value.ownBlock] at e)
/-- between two rounds of the reference's Decode -/
def RdRel (s : ByteArray) (w : World) (a : Nat) (rs : List Int) (v : Value) (W : World) : Prop :=
  (DC s 0 = rs ++ DC s a ∧ rs.length ≤ a ∧ BD s a = BD s 0 ∧ a ≤ s.size) ∧ W.ownsRow w.heap.size 21 1 v rs.length (rs.map (Value.int .i32)) ∧ Below w.heap.size w W
theorem rdRel_step {s : ByteArray} {w W w1 : World} {a : Nat} {rs : List Int} {v v' : Value} {tmp : Obj} (h : RdRel s w a rs v W) (h1 : a < s.size) (h2 : fmN s a ≠ 0)
    (hown' : w1.ownsRow w.heap.size 21 1 v' (rs.length + 1) (rs.map (Value.int .i32) ++ [.int .i32 (fmR s a)])) (hgrow : (W.alloc tmp).grownBy w1 v.ownBlock) :
    RdRel s w (a + fmN s a) (rs ++ [fmR s a]) v' w1 := by
  obtain ⟨⟨g1, g2, g3, g4⟩, g5, g6⟩ := h
  refine ⟨⟨?_, ?_, ?_, fmN_size s a h2⟩, by simpa using hown', (g6.alloc g6.size tmp).grown hgrow (by have := g6.size; simp; omega) (fun j hj => (g5.lt j hj).1)⟩
  · rw [g1, DC_eq s a, if_neg (by omega), if_neg h2]; simp
  · simp; omega
  · rw [← g3, BD_eq s a, if_neg (by omega), if_neg h2]

set_option maxHeartbeats 2000000 in
set_option maxRecDepth 100000 in
theorem rDecode_any (s : ByteArray) (w : World) (hs : s.size ≤ 35184372088000) :
    Calls Try.prog 23 #[.string s] w (DecPost s w) := by
  have hs2 : s.size ≤ 140737488351232 := by omega
  have HS := Lib.hid hs
  have HS2 := Lib.hid hs2
  obtain ⟨i0, hi, hz0, hz1, hz2⟩ := info_parts Try.info21
  go_enter Try.func23, Try.ntmps23
  go_wp2
  go_loopw [5, 6] (fun v p wr => ∃ (a : Nat) (rs : List Int), p = .int .i64 a ∧ RdRel s w a rs v wr) (fun _ p _ => s.size - (intOf p).toNat)
  case atStart => exact ⟨0, [], rfl, ⟨rfl, Nat.le_refl _, rfl, Nat.zero_le _⟩, World.ownsRow_nil _ _ _ _, Below.refl _ _⟩
  case round =>
    obtain ⟨a, rs, rfl, hr⟩ := hrel
    have HR := Lib.hid hr
    by_cases hlt : a < s.size
    · have hlt' : decide (a < s.size) = true := decide_eq_true hlt
      have HA : Hid (a ≤ s.size) := Nat.le_of_lt hlt
      have HLT := Lib.hid hlt
      by_cases hz : fmN s a = 0
      · have hz' : ((fmN s a : Int) == 0) = true := by rw [hz]; rfl
        have HB : Hid (BD s 0 = some a) := by show _ = _; rw [← hr.1.2.2.1, BD_eq, if_neg (by omega), if_pos hz]
        clear hz hr hlt
        go_wp2_with fail
        refine (at_any _ _ _ HS2.out HA.out).mono ?_
        rintro e w1 ⟨rfl, hb1⟩
        go_wp2_with fail
        go_ret3
        refine ⟨_, by rw [(bd_some HB.out).1, (bd_some HB.out).2]; rfl, .inl ⟨rfl, ?_⟩, HR.out.2.2.trans (hb1.mono HR.out.2.2.size)⟩
        unfold dcV; rw [HB.out]
      · have hz' : ((fmN s a : Int) == 0) = false := beq_eq_false_iff_ne.2 (by omega)
        have HZ := Lib.hid hz
        have hle := fmN_size s a hz
        clear hz hr hlt
        go_wp2_with fail
        refine (at_any _ _ _ HS2.out HA.out).mono ?_
        rintro e w1 ⟨rfl, hb1⟩
        have HR1 : Hid (RdRel s w a rs u5 w1) := ⟨HR.out.1, ownsRow_grow HR.out.2.1 hb1, HR.out.2.2.trans (hb1.mono HR.out.2.2.size)⟩
        have hs1 : Hid (rs.length ≤ 35184372088000) := (show rs.length ≤ 35184372088000 by have := HR.out.1.2.1; have := HA.out; have := HS.out; omega)
        have hws : Hid (w.heap.size ≤ w1.heap.size) := HR1.out.2.2.size
        clear hb1
        go_wp2_with (at_builtin; refine wpList_append_own _ rfl _ _ 38 rfl w.heap.size 21 i0 (.int .i32 0) 1 4 Try.underlying38 hi hz0 hz1 hz2 rfl (by decide) _ _ _ rfl (HR1.out.2.1.alloc _) ⟨w1.heap.size, 0, none⟩ 1 1 [.int .i32 (fmR s a)] rfl rfl (cell_one_new _ _ _) (by simp [Value.oneCell']) (by unfold maxLen; have := hs1.out; omega) (by have := hs1.out; omega) (by simp; exact Nat.le_succ_of_le hws.out) ?_; intro v' w2 hown' hgrow _)
        have HR2 := Lib.hid (rdRel_step HR1.out HLT.out HZ.out hown' hgrow)
        clear hown' hgrow
        go_wp2
        go_roundw
        case rel => exact ⟨a + fmN s a, rs ++ [fmR s a], by go_num, HR2.out⟩
        case measure => (have hp := HZ.out; have hq := HLT.out; simp [intOf]; omega)
    · have hlt' : decide (a < s.size) = false := decide_eq_false hlt
      have HE : Hid (rs = dcV s ∧ BD s 0 = none) := by
        have hb : BD s 0 = none := by rw [← hr.1.2.2.1, BD_eq, if_pos (by omega)]
        refine ⟨?_, hb⟩
        unfold dcV
        rw [hb]
        have := hr.1.1
        rw [DC_eq s a, if_pos (by omega), List.append_nil] at this
        exact this.symm
      have HU := Lib.hid (runes_of_row HR.out.2.1)
      have hvf : ∃ a n c, u5 = .slice a n c := by
        rcases HU.out with ⟨e, _⟩ | ⟨b, cap, _, _, e, _⟩
        · exact ⟨_, _, _, e⟩
        · exact ⟨_, _, _, e⟩
      obtain ⟨va, vn, vc, rfl⟩ := hvf
      clear hlt hr
      go_wp2_with fail
      go_ret3
      exact ⟨_, by rw [(bd_none HE.out.2).1, (bd_none HE.out.2).2]; rfl, by rw [← HE.out.1]; exact HU.out, HR.out.2.2⟩
end Go.Proofs.Ytafocgnhmdhemaa
