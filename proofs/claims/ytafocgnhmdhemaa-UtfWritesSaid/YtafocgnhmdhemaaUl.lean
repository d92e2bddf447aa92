/- Check of package utf and of the reference. -/
import Derived.Test.YtafocgnhmdhemaaUk
import Derived.Test.YtafocgnhmdhemaaUd
namespace Go.Proofs.Ytafocgnhmdhemaa
open Go.RowKit
open PlainAid (bt)

/-- the first place where no form stands, and the error's number -/
def bdA (s : ByteArray) : Int := match BD s 0 with | none => 0 | some a => (a : Int)
def bdE (s : ByteArray) : Int := match BD s 0 with | none => 0 | some _ => 40
theorem bd_none {s : ByteArray} (h : BD s 0 = none) : bdA s = 0 ∧ bdE s = 0 := by unfold bdA bdE; rw [h]; exact ⟨rfl, rfl⟩
theorem bd_some {s : ByteArray} {a : Nat} (h : BD s 0 = some a) : bdA s = a ∧ bdE s = 40 := by unfold bdA bdE; rw [h]; exact ⟨rfl, rfl⟩
def RefRel (s : ByteArray) (w : World) (a : Nat) (wr : World) : Prop := BD s a = BD s 0 ∧ Below w.heap.size w wr
theorem Only.toBelow {S : Nat → Prop} {n : Nat} {a b c : World} (h : Below n a b) (hn : n ≤ a.heap.size) (k : Only S b c) (hS : ∀ i, S i → n ≤ i) : Below n a c :=
  h.trans ⟨k.os, k.tape, k.output, k.size, fun i hi => k.block i (by have := h.size; omega) (fun hs => by have := hS i hs; omega)⟩

set_option maxHeartbeats 1000000 in
set_option maxRecDepth 100000 in
theorem uCheck_any (s : ByteArray) (w : World) (hs : s.size ≤ 140737488351232) :
    Calls Try.prog 9 #[.string s] w fun e w' => e = .returned (.tuple #[.int .i64 (bdA s), .int .i64 (bdE s)]) ∧ Below w.heap.size w w' := by
  have hmf : ∀ (fn : Fn) (first cap : Array Value) (w : World), (Instr.makeFunc fn first cap).run Try.prog w = .ok (.func fn first cap) w := fun _ _ _ _ => rfl
  have HS := Lib.hid hs
  clear hs
  go_enter Try.func9, Try.ntmps9
  go_wp2_with fail
  refine (guarded_any 29 #[.pointer (some ⟨w.heap.size, 0, none⟩)] (ChkEnd s (((w.alloc (.cells #[.string s] 9)).alloc (.cells #[.int .i64 0] 3)).alloc (.cells #[.int .i64 0] 23))) (w.alloc (.cells #[.string s] 9))
    (enters_of Try.func29 (by kernel_rfl) rfl) (check1_any s w.heap.size _ HS.out (by simp [go_sem])) ?_).mono ?_
  · intro e w' ⟨hb, hend⟩
    simp only [World.size_alloc] at hb ⊢
    refine ⟨?_, ?_, ?_, ?_, ?_, ?_⟩
    · rcases hend with ⟨_, rfl⟩ | ⟨a, _, rfl⟩
      · exact .inl rfl
      · exact .inr ⟨a, rfl⟩
    · have := hb.size; simp at this; omega
    · rw [hb.cell (p := ⟨w.heap.size + 1, 0, none⟩) (by simp)]; simp [go_sem]
    · rw [hb.cell (p := ⟨w.heap.size + 1 + 1, 0, none⟩) (by simp)]; simp [go_sem]
    · rw [hb.frozen (p := ⟨w.heap.size + 1, 0, none⟩) (by simp)]; simp [go_sem]
    · rw [hb.frozen (p := ⟨w.heap.size + 1 + 1, 0, none⟩) (by simp)]; simp [go_sem]
  rintro e w2 ⟨e1, w1, ⟨hb1, hend⟩, ho, hq⟩
  have hb : Below w.heap.size w w2 := by
    refine Only.toBelow (a := w) (b := w1) ?_ (Nat.le_refl _) ho (fun i hi => by simp at hi; omega)
    exact (((((Below.refl _ w).alloc (Nat.le_refl _) _).alloc (by simp) _).alloc (by simp; omega) _)).trans (hb1.mono (by simp; omega))
  have HB := Lib.hid hb
  have hv : e = .returned (.tuple #[.int .i64 (bdA s), .int .i64 (bdE s)]) := by
    rcases hq with ⟨h1, h2⟩ | ⟨a, h1, h2⟩
    · rcases hend with ⟨h3, _⟩ | ⟨b, _, h4⟩
      · rw [h2, (bd_none h3).1, (bd_none h3).2]
      · rw [h1] at h4; cases h4
    · rcases hend with ⟨_, h4⟩ | ⟨b, h3, h4⟩
      · rw [h1] at h4; cases h4
      · rw [h1] at h4
        have hab : a = b := by
          simp only [Ending.panicked.injEq, chainU, List.cons.injEq, PanicEntry.mk.injEq, Value.iface.injEq, Value.agg.injEq, Array.mk.injEq, Value.int.injEq] at h4
          have := h4.1.1.2.1.2; omega
        rw [h2, (bd_some h3).1, (bd_some h3).2, hab]
  clear hb hb1 hend ho hq
  subst hv
  go_wp2_with fail
  go_ret2
  exact ⟨rfl, HB.out⟩

set_option maxHeartbeats 1000000 in
set_option maxRecDepth 100000 in
theorem rCheck_any (s : ByteArray) (w : World) (hs : s.size ≤ 140737488351232) :
    Calls Try.prog 22 #[.string s] w fun e w' => e = .returned (.tuple #[.int .i64 (bdA s), .int .i64 (bdE s)]) ∧ Below w.heap.size w w' := by
  have HS := Lib.hid hs
  go_enter Try.func22, Try.ntmps22
  go_wp2
  go_loopw [4] (fun p wr => ∃ a : Nat, p = .int .i64 a ∧ RefRel s w a wr) (fun p _ => s.size - (intOf p).toNat)
  case atStart => exact ⟨0, rfl, rfl, Below.refl _ _⟩
  case round =>
    obtain ⟨a, rfl, hr⟩ := hrel
    have HR := Lib.hid hr
    clear hr
    by_cases hlt : a < s.size
    · have HA : Hid (a ≤ s.size) := Nat.le_of_lt hlt
      go_wp2_with fail
      refine (at_any s a _ HS.out HA.out).mono ?_
      rintro e w1 ⟨rfl, hb1⟩
      by_cases hz : fmN s a = 0
      · have hz' : ((fmN s a : Int) == 0) = true := by rw [hz]; rfl
        have HV : Hid (bdA s = a ∧ bdE s = 40) := bd_some (by rw [← HR.out.1, BD_eq s a, if_neg (by omega), if_pos hz])
        clear hz
        go_wp2_with fail
        go_ret2
        exact ⟨by rw [HV.out.1, HV.out.2]; rfl, HR.out.2.trans (hb1.mono HR.out.2.size)⟩
      · have hz' : ((fmN s a : Int) == 0) = false := beq_eq_false_iff_ne.2 (by omega)
        have hle := fmN_size s a hz
        have HZ := Lib.hid hz
        clear hz
        go_wp2_with fail
        go_roundw
        case rel => exact ⟨a + fmN s a, by go_num, by rw [← HR.out.1, BD_eq s a, if_neg (by omega), if_neg HZ.out], HR.out.2.trans (hb1.mono HR.out.2.size)⟩
        case measure => (have hp := HZ.out; simp [intOf]; omega)
    · have HV : Hid (bdA s = 0 ∧ bdE s = 0) := bd_none (by rw [← HR.out.1, BD_eq s a, if_pos (by omega)])
      have hge : s.size ≤ a := by omega
      clear hlt
      go_wp2_with fail
      go_ret2
      exact ⟨by rw [HV.out.1, HV.out.2]; rfl, HR.out.2⟩
end Go.Proofs.Ytafocgnhmdhemaa
