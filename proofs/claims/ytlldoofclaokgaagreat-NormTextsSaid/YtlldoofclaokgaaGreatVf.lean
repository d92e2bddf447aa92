/- The first place where no form stands; Check's own function. Check of package utf and of the reference. Decode of the reference; the order of lists. Encode of package utf and of the reference: walked. The reference's order of lists, walked. Compare of package utf and of the reference, and the law UtfOrder, walked. -/
import Derived.Test.YtlldoofclaokgaaGreatVe
import Derived.Shelf.Abstract
import Derived.Deep.RegionHeld
import Derived.Lib.Strings
namespace Go.Proofs.YtlldoofclaokgaaGreat
open Go.RowKit
open PlainAid (bt)
attribute [local go_sem] Oper.semAt_some
/-- how Check's function ends -/
def ChkEnd (s : ByteArray) (w : World) (e : Ending) (w' : World) : Prop :=
  Below w.heap.size w w' ∧ ((BD s 0 = none ∧ e = .returned (.tuple #[])) ∨ (∃ a, BD s 0 = some a ∧ e = .panicked (chainU a)))

set_option maxHeartbeats 2000000 in
set_option maxRecDepth 100000 in
theorem check1_any (s : ByteArray) (b : Nat) (w : World) (hs : s.size ≤ 140737488351232) (hc : w.cell? ⟨b, 0, none⟩ = some (.string s)) :
    Calls Tryz.prog 125 #[.pointer (some ⟨b, 0, none⟩)] w (ChkEnd s w) := by
  refine callsIn_wide (n := 0) |>.1 ?_
  refine callsIn_of_wp_marks Tryz.func125 rfl trivial ?_ rfl
  simp only [Tryz.ntmps125, List.size_toArray, List.length_cons, List.length_nil, Nat.reduceAdd, Nat.reduceSub, Array.replicate_succ, Array.replicate_zero, List.push_toArray, List.append_toArray, List.nil_append, List.cons_append]
  gi_wp2_with fail
  refine ⟨trivial, rfl, (callsIn_wide.2 (all_any _ _)).mono ?_⟩
  rintro e w1 ⟨rfl, rfl⟩
  gi_wp2_with fail
  refine wp_range (gf := 122) (lb := #[.pointer (some ⟨w.heap.size, 0, none⟩)]) rfl (enters_of Tryz.func122 (by kernel_rfl) rfl) (all1_iter s hs w.heap.size) (fun _ => rfl)
    (fun a W => BD s a = BD s 0 ∧ W.cell? ⟨w.heap.size, 0, none⟩ = some (.string s) ∧ Below w.heap.size w W) (fun _ _ => False) ?hI (fun _ _ _ _ h _ _ => h) (fun a A h => h.2.1) ?h0
    (fun a => { tmps := #[.pointer (some ⟨b, 0, none⟩), .string s, .func (.func 122) #[] #[.pointer (some ⟨w.heap.size, 0, none⟩)], .int .i64 a, .int .i32 (fmR s a)], defers := [] }) ?assign ?body ?done ?stop ?bad
  case hI =>
    intro a A A' row h hg hr
    refine ⟨h.1, cell_kept h.2.1 hg (fun r e => (hr r e).2), h.2.2.trans ⟨hg.os, hg.tape, hg.output, hg.size, fun k hk => ?_⟩⟩
    refine hg.block k (Nat.lt_of_lt_of_le hk h.2.2.size) (fun e => ?_)
    have := (hr k e.symm).1
    simp at this; omega
  case h0 => exact ⟨rfl, by simp [go_sem], by (repeat' (first | (with_reducible exact Below.refl _ _) | (with_reducible assumption) | (with_reducible refine Below.alloc ?_ ?_ _) | (with_reducible refine Below.drew ?_) | (with_reducible refine below_drewN ?_ _) | (with_reducible refine Below.setCell ?_ ?_ _) | (with_reducible refine Below.trans ?_ (Below.mono (by assumption) ?_)) | go_size))⟩
  case assign =>
    intro l a W K hK
    gi_wp2
    simpa [encU] using hK
  case body =>
    rintro l a W ⟨h1, h2⟩ ⟨hb, hcl, hbl⟩
    gi_wp2
    refine ⟨KeepsOthers.refl _, ?_, hcl, hbl⟩
    rw [← hb, BD_eq s a, if_neg (by omega), if_neg h2]
  case done =>
    rintro D a W hD hl ⟨hb, hcl, hbl⟩ hK
    gi_wp2
    refine ⟨by simp, .inl ⟨_, _, rfl, run_takeDeferred hK, ?_⟩⟩
    refine ⟨_, results_none rfl _ _ _, hbl.trans (belowK_b (w := w) (Nat.le_refl _) W D _ _ (by simp at hD; omega) hK rfl rfl), .inl ⟨?_, rfl⟩⟩
    rw [← hb, BD_eq s a, if_pos hl]
  case stop =>
    intro D c W hD h _
    exact h.elim
  case bad =>
    rintro D chain a W hD ⟨⟨h1, h2⟩, rfl⟩ ⟨hb, hcl, hbl⟩ hK
    gi_wp2
    refine ⟨by simp, .inl ⟨_, _, rfl, run_takeDeferred hK, ?_⟩⟩
    refine ⟨hbl.trans (belowK_b (w := w) (Nat.le_refl _) W D _ _ (by simp at hD; omega) hK rfl rfl), .inr ⟨a, ?_, rfl⟩⟩
    rw [← hb, BD_eq s a, if_neg (by omega), if_pos h2]
end Go.Proofs.YtlldoofclaokgaaGreat
namespace Go.Proofs.YtlldoofclaokgaaGreat
open Go.RowKit
open PlainAid (bt)
set_option maxHeartbeats 1000000 in
set_option maxRecDepth 100000 in
theorem uCheck_any (s : ByteArray) (w : World) (hs : s.size ≤ 140737488351232) :
    Calls Tryz.prog 100 #[.string s] w fun e w' => e = .returned (.tuple #[.int .i64 (bdA s), .int .i64 (bdE s)]) ∧ Below w.heap.size w w' := by
  have hmf : ∀ (fn : Fn) (first cap : Array Value) (w : World), (Instr.makeFunc fn first cap).run Tryz.prog w = .ok (.func fn first cap) w := fun _ _ _ _ => rfl
  have HS := Lib.hid hs
  clear hs
  go_enter Tryz.func100, Tryz.ntmps100
  go_wp2_with fail
  refine (guarded_any 125 #[.pointer (some ⟨w.heap.size, 0, none⟩)] (ChkEnd s (((w.alloc (.cells #[.string s] 9)).alloc (.cells #[.int .i64 0] 3)).alloc (.cells #[.int .i64 0] 62))) (w.alloc (.cells #[.string s] 9))
    (enters_of Tryz.func125 (by kernel_rfl) rfl) (check1_any s w.heap.size _ HS.out (by simp [go_sem])) ?_).mono ?_
  · intro e w' ⟨hb, hend⟩
    simp only [World.size_alloc] at hb ⊢
    refine ⟨?_, ?_, ?_, ?_, ?_, ?_⟩
    · rcases hend with ⟨_, rfl⟩ | ⟨a, _, rfl⟩
      · exact .inl rfl
      · exact .inr ⟨a, rfl⟩
    · have := hb.size; simp at this; omega
    · rw [hb.cell (p := ⟨w.heap.size + 1, 0, none⟩) (by simp)]; simp [go_sem]
    · rw [hb.cell (p := ⟨w.heap.size + 1 + 1, 0, none⟩) (by simp)]; simp [go_sem]
    · rw [hb.frozen (p := ⟨w.heap.size + 1, 0, none⟩) (by simp)]; simp [go_sem]
    · rw [hb.frozen (p := ⟨w.heap.size + 1 + 1, 0, none⟩) (by simp)]; simp [go_sem]
  rintro e w2 ⟨e1, w1, ⟨hb1, hend⟩, ho, hq⟩
  have hb : Below w.heap.size w w2 := by
    refine Only.toBelow (a := w) (b := w1) ?_ (Nat.le_refl _) ho (fun i hi => by simp at hi; omega)
    exact (((((Below.refl _ w).alloc (Nat.le_refl _) _).alloc (by simp) _).alloc (by simp; omega) _)).trans (hb1.mono (by simp; omega))
  have HB := Lib.hid hb
  have hv : e = .returned (.tuple #[.int .i64 (bdA s), .int .i64 (bdE s)]) := by
    rcases hq with ⟨h1, h2⟩ | ⟨a, h1, h2⟩
    · rcases hend with ⟨h3, _⟩ | ⟨b, _, h4⟩
      · rw [h2, (bd_none h3).1, (bd_none h3).2]
      · rw [h1] at h4; cases h4
    · rcases hend with ⟨_, h4⟩ | ⟨b, h3, h4⟩
      · rw [h1] at h4; cases h4
      · rw [h1] at h4
        have hab : a = b := by
          simp only [Ending.panicked.injEq, chainU, List.cons.injEq, PanicEntry.mk.injEq, Value.iface.injEq, Value.agg.injEq, Array.mk.injEq, Value.int.injEq] at h4
          have := h4.1.1.2.1.2; omega
        rw [h2, (bd_some h3).1, (bd_some h3).2, hab]
  clear hb hb1 hend ho hq
  subst hv
  go_wp2_with fail
  go_ret2
  exact ⟨rfl, HB.out⟩

end Go.Proofs.YtlldoofclaokgaaGreat
namespace Go.Proofs.YtlldoofclaokgaaGreat
open Go.RowKit
open PlainAid (bt)

theorem Runes.ints {n : Nat} {w : World} {v : Value} {xs : List Int} (h : Runes n w v xs) : IntsAt n .i32 w v xs := by
  obtain ⟨p, cap, e, _, hc⟩ := h
  exact ⟨p, cap, e, fun i x hx => hc i x hx⟩

theorem ownsRow_grow {B : Nat} {e : TypeId} {k : Nat} {v : Value} {n : Nat} {xs : List Value} {w w' : World} (h : w.ownsRow B e k v n xs) (hb : Below w.heap.size w w') : w'.ownsRow B e k v n xs := by
  refine h.kept (Grows.grownBy hb) ?_
  rcases h.2 with ⟨rfl, _⟩ | ⟨g, cap, cur, rfl, _, hgb, _⟩
  · exact .inl rfl
  · exact .inr (fun e => by simp [Value.ownBlock] at e)
/-- between two rounds of the reference's Decode -/
def RdRel (s : ByteArray) (w : World) (a : Nat) (rs : List Int) (v : Value) (W : World) : Prop :=
  (DC s 0 = rs ++ DC s a ∧ rs.length ≤ a ∧ BD s a = BD s 0 ∧ a ≤ s.size) ∧ W.ownsRow w.heap.size 21 1 v rs.length (rs.map (Value.int .i32)) ∧ Below w.heap.size w W
theorem rdRel_step {s : ByteArray} {w W w1 : World} {a : Nat} {rs : List Int} {v v' : Value} {tmp : Obj} (h : RdRel s w a rs v W) (h1 : a < s.size) (h2 : fmN s a ≠ 0)
    (hown' : w1.ownsRow w.heap.size 21 1 v' (rs.length + 1) (rs.map (Value.int .i32) ++ [.int .i32 (fmR s a)])) (hgrow : (W.alloc tmp).grownBy w1 v.ownBlock) :
    RdRel s w (a + fmN s a) (rs ++ [fmR s a]) v' w1 := by
  obtain ⟨⟨g1, g2, g3, g4⟩, g5, g6⟩ := h
  refine ⟨⟨?_, ?_, ?_, fmN_size s a h2⟩, by simpa using hown', (g6.alloc g6.size tmp).grown hgrow (by have := g6.size; simp; omega) (fun j hj => (g5.lt j hj).1)⟩
  · rw [g1, DC_eq s a, if_neg (by omega), if_neg h2]; simp
  · simp; omega
  · rw [← g3, BD_eq s a, if_neg (by omega), if_neg h2]

set_option maxHeartbeats 2000000 in
set_option maxRecDepth 100000 in
theorem rDecode_any (s : ByteArray) (w : World) (hs : s.size ≤ 35184372088000) :
    Calls Tryz.prog 65 #[.string s] w (DecPost s w) := by
  have hs2 : s.size ≤ 140737488351232 := by omega
  have HS := Lib.hid hs
  have HS2 := Lib.hid hs2
  obtain ⟨i0, hi, hz0, hz1, hz2⟩ := info_parts Tryz.info21
  go_enter Tryz.func65, Tryz.ntmps65
  go_wp2
  go_loopw [5, 6] (fun v p wr => ∃ (a : Nat) (rs : List Int), p = .int .i64 a ∧ RdRel s w a rs v wr) (fun _ p _ => s.size - (intOf p).toNat)
  case atStart => exact ⟨0, [], rfl, ⟨rfl, Nat.le_refl _, rfl, Nat.zero_le _⟩, World.ownsRow_nil _ _ _ _, Below.refl _ _⟩
  case round =>
    obtain ⟨a, rs, rfl, hr⟩ := hrel
    have HR := Lib.hid hr
    by_cases hlt : a < s.size
    · have hlt' : decide (a < s.size) = true := decide_eq_true hlt
      have HA : Hid (a ≤ s.size) := Nat.le_of_lt hlt
      have HLT := Lib.hid hlt
      by_cases hz : fmN s a = 0
      · have hz' : ((fmN s a : Int) == 0) = true := by rw [hz]; rfl
        have HB : Hid (BD s 0 = some a) := by show _ = _; rw [← hr.1.2.2.1, BD_eq, if_neg (by omega), if_pos hz]
        clear hz hr hlt
        go_wp2_with fail
        refine (at_any _ _ _ HS2.out HA.out).mono ?_
        rintro e w1 ⟨rfl, hb1⟩
        go_wp2_with fail
        go_ret3
        refine ⟨_, by rw [(bd_some HB.out).1, (bd_some HB.out).2]; rfl, ?_, HR.out.2.2.trans (hb1.mono HR.out.2.2.size)⟩
        have e0 : dcV s = [] := by unfold dcV; rw [HB.out]
        rw [e0]; exact IntsIn.nil _ _ _
      · have hz' : ((fmN s a : Int) == 0) = false := beq_eq_false_iff_ne.2 (by omega)
        have HZ := Lib.hid hz
        have hle := fmN_size s a hz
        clear hz hr hlt
        go_wp2_with fail
        refine (at_any _ _ _ HS2.out HA.out).mono ?_
        rintro e w1 ⟨rfl, hb1⟩
        have HR1 : Hid (RdRel s w a rs u5 w1) := ⟨HR.out.1, ownsRow_grow HR.out.2.1 hb1, HR.out.2.2.trans (hb1.mono HR.out.2.2.size)⟩
        have hs1 : Hid (rs.length ≤ 35184372088000) := (show rs.length ≤ 35184372088000 by have := HR.out.1.2.1; have := HA.out; have := HS.out; omega)
        have hws : Hid (w.heap.size ≤ w1.heap.size) := HR1.out.2.2.size
        clear hb1
        go_wp2_with (at_builtin; refine wpList_append_own _ rfl _ _ 48 rfl w.heap.size 21 i0 (.int .i32 0) 1 4 Tryz.underlying48 hi hz0 hz1 hz2 rfl (by decide) _ _ _ rfl (HR1.out.2.1.alloc _) ⟨w1.heap.size, 0, none⟩ 1 1 [.int .i32 (fmR s a)] rfl rfl (cell_one_new _ _ _) (by simp [Value.oneCell']) (by unfold maxLen; have := hs1.out; omega) (by have := hs1.out; omega) (by simp; exact Nat.le_succ_of_le hws.out) ?_; intro v' w2 hown' hgrow _)
        have HR2 := Lib.hid (rdRel_step HR1.out HLT.out HZ.out hown' hgrow)
        clear hown' hgrow
        go_wp2
        go_roundw
        case rel => exact ⟨a + fmN s a, rs ++ [fmR s a], by go_num, HR2.out⟩
        case measure => (have hp := HZ.out; have hq := HLT.out; simp [intOf]; omega)
    · have hlt' : decide (a < s.size) = false := decide_eq_false hlt
      have HE : Hid (rs = dcV s ∧ BD s 0 = none) := by
        have hb : BD s 0 = none := by rw [← hr.1.2.2.1, BD_eq, if_pos (by omega)]
        refine ⟨?_, hb⟩
        unfold dcV
        rw [hb]
        have := hr.1.1
        rw [DC_eq s a, if_pos (by omega), List.append_nil] at this
        exact this.symm
      have HU := Lib.hid (runes_of_row HR.out.2.1)
      have hvf : ∃ a n c, u5 = .slice a n c := by
        obtain ⟨p, cap, e, _⟩ := HU.out
        exact ⟨_, _, _, e⟩
      obtain ⟨va, vn, vc, rfl⟩ := hvf
      clear hlt hr
      go_wp2_with fail
      go_ret3
      exact ⟨_, by rw [(bd_none HE.out.2).1, (bd_none HE.out.2).2]; rfl, by rw [← HE.out.1]; exact HU.out, HR.out.2.2⟩
end Go.Proofs.YtlldoofclaokgaaGreat
namespace Go.Proofs.YtlldoofclaokgaaGreat
open Go.RowKit
open PlainAid (bt)
set_option maxHeartbeats 2000000 in
set_option maxRecDepth 100000 in
theorem rEncode_any (xs : List Int) (u : Value) (w : World) (hu : IntsAt 0 .i32 w u xs) (hx : xs.length ≤ 8796093022000) :
    Calls Tryz.prog 66 #[u] w (EncPost xs w) := by
  obtain ⟨p, cp, rfl, hu2⟩ := hu
  have HU : Hid (IntsAt 0 .i32 w (.slice p xs.length cp) xs) := ⟨_, _, rfl, hu2⟩
  have HX := Lib.hid hx
  obtain ⟨i0, hi, hz0, hz1, hz2⟩ := info_parts Tryz.info5
  clear hu2
  go_enter Tryz.func66, Tryz.ntmps66
  go_wp2
  go_loopw [5, 6] (fun v i wr => ∃ k : Nat, i = .int .i64 k ∧ EnRel xs w k v wr) (fun _ i _ => xs.length - (intOf i).toNat)
  case atStart => exact ⟨0, rfl, ⟨Nat.zero_le _, by simp⟩, World.ownsRow_nil _ _ _ _, Below.refl _ _⟩
  case round =>
    obtain ⟨k, rfl, hr⟩ := hrel
    have HR := Lib.hid hr
    clear hr
    by_cases hlt : k < xs.length
    · have hlt' : decide (k < xs.length) = true := decide_eq_true hlt
      obtain ⟨b, o, rfl, _, hb, hc⟩ := (HU.out.below HR.out.2.2).at k hlt
      have HL := Lib.hid hlt
      have HF := Lib.hid (fun h => fb_here (xs := xs) (k := k) hlt HR.out.1.2 h)
      have HG : Hid (((xs.take k).flatMap enc).length ≤ 35184372088000) := by
        show _ ≤ _; have := enc_flat_len (xs.take k); have := HX.out; have : (xs.take k).length ≤ xs.length := List.length_take_le' _ _; omega
      obtain ⟨x, hxe⟩ : ∃ x, x = xs.getD k 0 := ⟨_, rfl⟩
      rw [← hxe] at hc HF
      have HXE := Lib.hid hxe
      clear hxe
      cases hsc : sc x
      · have HB := Lib.hid (ec_some (HF.out hsc))
        clear HF
        go_wp2_with fail
        refine (r4scalar_any _ _).mono ?_
        rw [hsc]
        rintro e w1 ⟨rfl, rfl⟩
        clear hsc
        go_wp2_with fail
        go_ret3
        exact ⟨by rw [HB.out.1, HB.out.2.1, HB.out.2.2]; rfl, HR.out.2.2⟩
      · have HC := Lib.hid hsc
        clear HF
        go_wp2_with fail
        refine (r4scalar_any _ _).mono ?_
        rw [hsc]
        rintro e w1 ⟨rfl, rfl⟩
        clear hsc
        go_wp2_with fail
        refine (rform_any _ _ HC.out).mono ?_
        rintro e w1 ⟨rfl, hw1⟩
        have OW : Hid (w1.ownsRow w.heap.size 5 1 u5 ((xs.take k).flatMap enc).length (((xs.take k).flatMap enc).map (Value.int .u8))) := by rw [← hw1]; exact HR.out.2.1.alloc _
        have NW : Hid (∀ (j : Nat) u, ((enc x).map (Value.int .u8))[j]? = some u → w1.cell? ((⟨wr.heap.size, 0, none⟩ : Addr).add j) = some u) := by rw [← hw1]; exact ucells_new _ _ _
        have BW : Hid (Below w.heap.size wr w1) := by rw [← hw1]; exact (Below.refl _ _).alloc HR.out.2.2.size _
        have hlx := enc_pos x
        have HLX := Lib.hid hlx
        clear hw1 hlx
        go_wp2_with (at_builtin; refine wpList_append_own _ rfl _ _ 27 rfl w.heap.size 5 i0 (.int .u8 0) 1 1 Tryz.underlying27 hi hz0 hz1 hz2 rfl (by decide) _ _ _ rfl OW.out ⟨wr.heap.size, 0, none⟩ (lg x) (lg x) ((enc x).map (Value.int .u8)) rfl (by simp [enc_len]) NW.out (by simp [Value.oneCell']) (by unfold maxLen; have := HG.out; have := HLX.out; omega) (by have := HG.out; have := HLX.out; omega) (Nat.le_trans HR.out.2.2.size BW.out.size) ?_; intro v' w2 hown' hgrow _)
        have HN := Lib.hid (enRel_step (v' := v') HR.out HL.out (by rw [← HXE.out]; exact HC.out) (by rw [← HXE.out]; simpa [enc_len] using hown') (BW.out.grown hgrow (Nat.le_trans HR.out.2.2.size BW.out.size) (fun j hj => (OW.out.lt j hj).1)))
        clear hown' hgrow
        go_wp2_with fail
        go_roundw
        case rel => exact ⟨k + 1, by go_num, HN.out⟩
        case measure => (have hq := HL.out; simp [intOf]; omega)
    · have hlt' : decide (k < xs.length) = false := decide_eq_false hlt
      have hk : k = xs.length := by have := HR.out.1.1; omega
      have HT : Hid (xs.take k = xs) := by show _ = _; rw [hk, List.take_length]
      have HB := Lib.hid (ec_none (fb_nowhere (xs := xs) (by have := HR.out.1.2; rw [HT.out] at this; exact this)))
      have hcv := urow_string (P := Tryz.prog) Tryz.underlying27 Tryz.underlying5 Tryz.underlying9 HR.out.2.1
      rw [HT.out] at hcv
      clear hlt hk
      go_wp2_with fail
      go_ret3
      exact ⟨by rw [HB.out.1, HB.out.2.1, HB.out.2.2]; rfl, HR.out.2.2⟩
end Go.Proofs.YtlldoofclaokgaaGreat
namespace Go.Proofs.YtlldoofclaokgaaGreat
open Go.RowKit
open PlainAid (bt)

def OrdRel (xs ys : List Int) (w : World) (k : Nat) (W : World) : Prop := ord (xs.drop k) (ys.drop k) = ord xs ys ∧ k ≤ xs.length ∧ k ≤ ys.length ∧ Below w.heap.size w W

set_option maxHeartbeats 2000000 in
set_option maxRecDepth 100000 in
theorem r4order_any (xs ys : List Int) (v u : Value) (w : World) (hv : IntsAt 0 .i32 w v xs) (hu : IntsAt 0 .i32 w u ys) (hx : xs.length ≤ maxLen) (hy : ys.length ≤ maxLen) :
    Calls Tryz.prog 102 #[v, u] w fun e w' => e = .returned (.int .i64 (ord xs ys)) ∧ Below w.heap.size w w' := by
  obtain ⟨p, cp, rfl, hv2⟩ := hv
  obtain ⟨q, cq, rfl, hu2⟩ := hu
  have HV : Hid (IntsAt 0 .i32 w (.slice p xs.length cp) xs) := ⟨_, _, rfl, hv2⟩
  have HU : Hid (IntsAt 0 .i32 w (.slice q ys.length cq) ys) := ⟨_, _, rfl, hu2⟩
  clear hv2 hu2
  unfold maxLen at hx hy
  go_enter Tryz.func102, Tryz.ntmps102
  go_wp2
  go_loopw [5] (fun i wr => ∃ k : Nat, i = .int .i64 k ∧ OrdRel xs ys w k wr) (fun i _ => xs.length - (intOf i).toNat)
  case atStart => exact ⟨0, rfl, rfl, Nat.zero_le _, Nat.zero_le _, Below.refl _ _⟩
  case round =>
    obtain ⟨k, rfl, hr⟩ := hrel
    by_cases hlt : k < xs.length ∧ k < ys.length
    · obtain ⟨h1, h2⟩ := hlt
      obtain ⟨b, o, rfl, _, hb, hc⟩ := (HV.out.below (by exact (hr.2.2.2 : Below w.heap.size w wr))).at k h1
      obtain ⟨b2, o2, rfl, _, hb2, hc2⟩ := (HU.out.below (by exact (hr.2.2.2 : Below w.heap.size w wr))).at k h2
      have HD := Lib.hid (ord_drop xs ys k h1 h2)
      have HR := Lib.hid hr
      have HL : Hid (k < xs.length ∧ k < ys.length) := ⟨h1, h2⟩
      generalize xs.getD k 0 = x at hc HD
      generalize ys.getD k 0 = y at hc2 HD
      have h1' : decide (k < xs.length) = true := decide_eq_true h1
      have h2' : decide (k < ys.length) = true := decide_eq_true h2
      clear hr
      by_cases hxy : x < y
      · have hxy' : decide (x < y) = true := decide_eq_true hxy
        have HX : Hid (ord xs ys = -1) := by show _ = _; rw [← HR.out.1, HD.out, if_pos hxy]
        clear hxy
        go_wp2
        go_quiet (fail)
        go_wp2
        go_ret
        exact ⟨by rw [HX.out]; rfl, HR.out.2.2.2.trans (by first | exact below_drewN (below_drewN (Below.refl _ _) _) _ | exact below_drewN (Below.refl _ _) _)⟩
      · have hxy' : decide (x < y) = false := decide_eq_false hxy
        by_cases hyx : y < x
        · have hyx' : decide (y < x) = true := decide_eq_true hyx
          have HX : Hid (ord xs ys = 1) := by show _ = _; rw [← HR.out.1, HD.out, if_neg hxy, if_pos hyx]
          clear hxy hyx
          go_wp2
          go_quiet (fail)
          go_wp2
          go_quiet (fail)
          go_wp2
          go_ret
          exact ⟨by rw [HX.out]; rfl, HR.out.2.2.2.trans (by first | exact below_drewN (below_drewN (Below.refl _ _) _) _ | exact below_drewN (Below.refl _ _) _)⟩
        · have hyx' : decide (y < x) = false := decide_eq_false hyx
          have HX : Hid (ord (xs.drop (k + 1)) (ys.drop (k + 1)) = ord xs ys) := by show _ = _; rw [← HR.out.1, HD.out, if_neg hxy, if_neg hyx]
          clear hxy hyx
          go_wp2
          go_quiet (fail)
          go_wp2
          go_quiet (fail)
          go_wp2
          go_roundw
          case rel => exact ⟨k + 1, by go_num, HX.out, HL.out.1, HL.out.2, HR.out.2.2.2.trans (by first | exact below_drewN (below_drewN (Below.refl _ _) _) _ | exact below_drewN (Below.refl _ _) _)⟩
          case measure => (have hp := HL.out; simp [intOf]; omega)
    · have HX := Lib.hid (ord_end xs ys k hlt hr.2.1 hr.2.2.1)
      have HR := Lib.hid hr
      by_cases h1 : k < xs.length
      · have h1' : decide (k < xs.length) = true := decide_eq_true h1
        have h2' : decide (k < ys.length) = false := decide_eq_false (by omega)
        have h3 : decide (xs.length < ys.length) = false := decide_eq_false (by omega)
        have h4 : decide (ys.length < xs.length) = true := decide_eq_true (by have := hr.2.2.1; omega)
        have HX2 : Hid (ord xs ys = 1) := by show _ = _; rw [← hr.1, HX.out, if_neg (by omega), if_pos (by have := hr.2.2.1; omega)]
        clear hr hlt h1
        go_wp2
        go_ret
        exact ⟨by rw [HX2.out]; rfl, HR.out.2.2.2⟩
      · have h1' : decide (k < xs.length) = false := decide_eq_false h1
        by_cases h5 : xs.length < ys.length
        · have h3 : decide (xs.length < ys.length) = true := decide_eq_true h5
          have HX2 : Hid (ord xs ys = -1) := by show _ = _; rw [← hr.1, HX.out, if_pos h5]
          clear hr hlt h1 h5
          go_wp2
          go_ret
          exact ⟨by rw [HX2.out]; rfl, HR.out.2.2.2⟩
        · have h3 : decide (xs.length < ys.length) = false := decide_eq_false h5
          have h4 : decide (ys.length < xs.length) = false := decide_eq_false (by have := hr.2.2.1; have := hr.2.1; omega)
          have HX2 : Hid (ord xs ys = 0) := by show _ = _; rw [← hr.1, HX.out, if_neg h5, if_neg (by have := hr.2.2.1; have := hr.2.1; omega)]
          clear hr hlt h1 h5
          go_wp2
          go_ret
          exact ⟨by rw [HX2.out]; rfl, HR.out.2.2.2⟩

end Go.Proofs.YtlldoofclaokgaaGreat
namespace Go.Proofs.YtlldoofclaokgaaGreat
open Go.RowKit
open PlainAid (bt)

def cmpE (a b : ByteArray) : Int := match BD a 0 with | some _ => 40 | none => bdE b
def cmpV (a b : ByteArray) : Int := match BD a 0 with | some _ => 0 | none => (match BD b 0 with | some _ => 0 | none => Lib.compareBytes a.data.toList b.data.toList)
theorem cmp_some {a b : ByteArray} {x : Nat} (h : BD a 0 = some x) : cmpV a b = 0 ∧ cmpE a b = 40 := by unfold cmpV cmpE; rw [h]; exact ⟨rfl, rfl⟩
theorem cmp_none {a b : ByteArray} {x : Nat} (h : BD a 0 = none) (k : BD b 0 = some x) : cmpV a b = 0 ∧ cmpE a b = 40 := by unfold cmpV cmpE; rw [h]; simp [k, (bd_some k).2]
theorem cmp_both {a b : ByteArray} (h : BD a 0 = none) (k : BD b 0 = none) : cmpV a b = Lib.compareBytes a.data.toList b.data.toList ∧ cmpE a b = 0 := by unfold cmpV cmpE; rw [h]; simp [k, (bd_none k).2]
theorem less_cb (a b : List UInt8) : Op.bytesLess a b = decide (Lib.compareBytes a b < 0) := by
  induction a generalizing b with
  | nil => cases b <;> rfl
  | cons x xs ih =>
    cases b with
    | nil => rfl
    | cons y ys =>
      simp only [Op.bytesLess, Lib.compareBytes]
      by_cases h : x < y
      · simp [h]
      · by_cases h' : y < x
        · have hne : (x == y) = false := by rw [beq_eq_false_iff_ne]; intro e; subst e; exact h h'
          simp [h, h', hne]
        · have he : x = y := by
            rw [UInt8.lt_iff_toNat_lt] at h h'
            exact UInt8.toNat_inj.1 (by omega)
          simp [h, h', he, ih]
theorem eq_cb (a b : List UInt8) : (a == b) = decide (Lib.compareBytes a b = 0) := by
  induction a generalizing b with
  | nil => cases b <;> rfl
  | cons x xs ih =>
    cases b with
    | nil => rfl
    | cons y ys =>
      simp only [Lib.compareBytes]
      have hc : ((x :: xs) == (y :: ys)) = ((x == y) && (xs == ys)) := rfl
      rw [hc, ih]
      by_cases h : x < y
      · have hne : (x == y) = false := by rw [beq_eq_false_iff_ne]; intro e; subst e; rw [UInt8.lt_iff_toNat_lt] at h; omega
        simp [h, hne]
      · by_cases h' : y < x
        · have hne : (x == y) = false := by rw [beq_eq_false_iff_ne]; intro e; subst e; exact h h'
          simp [h, h', hne]
        · have he : x = y := by
            rw [UInt8.lt_iff_toNat_lt] at h h'
            exact UInt8.toNat_inj.1 (by omega)
          simp [h, h', he]

set_option maxHeartbeats 1000000 in
set_option maxRecDepth 100000 in
theorem scompare_any (a b : ByteArray) (w : World) :
    Calls Tryz.prog 101 #[.string a, .string b] w fun e w' => e = .returned (.int .i64 (Lib.compareBytes a.data.toList b.data.toList)) ∧ w = w' := by
  go_enter Tryz.func101, Tryz.ntmps101
  go_wp2_with fail
  have h : Calls Tryz.prog 126 #[.string a, .string b] w fun e w' => e = .returned (.int .i64 (Lib.compareBytes a.data.toList b.data.toList)) ∧ w = w' := by
    go_enter Tryz.func126, Tryz.ntmps126
    go_wp2
    rw [run_callFunc_extern Tryz.func145 (by kernel_rfl) (by kernel_rfl) (by kernel_rfl) (e := Extern.BytealgCompare.compare) (by kernel_rfl), Lib.run_compareString]
    simp only [Result.andThen]
    rw [Oper.upon_value]
    go_wp2
    go_ret
    exact ⟨rfl, rfl⟩
  refine h.mono ?_
  rintro e w' ⟨rfl, rfl⟩
  go_wp2
  go_ret
  exact ⟨rfl, rfl⟩

set_option maxHeartbeats 2000000 in
set_option maxRecDepth 100000 in
theorem uCompare_any (a b : ByteArray) (w : World) (ha : a.size ≤ 140737488351232) (hb : b.size ≤ 140737488351232) :
    Calls Tryz.prog 67 #[.string a, .string b] w fun e w' => e = .returned (.tuple #[.int .i64 (cmpV a b), .int .i64 (cmpE a b)]) ∧ Below w.heap.size w w' := by
  have HA := Lib.hid ha
  have HB := Lib.hid hb
  cases hA : BD a 0 with
  | some x =>
    have HV : Hid (cmpV a b = 0 ∧ cmpE a b = 40) := cmp_some hA
    have HE := Lib.hid (bd_some hA)
    clear hA ha hb
    go_enter Tryz.func67, Tryz.ntmps67
    go_wp2
    go_loopw [14] (fun i wr => i = .int .i64 0 ∧ wr = w.alloc (.cells #[.string a, .string b] 9)) (fun i _ => 2 - (intOf i).toNat)
    case atStart => exact ⟨rfl, rfl⟩
    case round =>
      obtain ⟨rfl, rfl⟩ := hrel
      go_wp2_with fail
      refine (uCheck_any _ _ HA.out).mono ?_
      rintro e w1 ⟨rfl, hb1⟩
      rw [HE.out.1, HE.out.2]
      go_wp2_with fail
      go_ret2
      exact ⟨by rw [HV.out.1, HV.out.2]; rfl, ((Below.refl _ _).alloc (Nat.le_refl _) _).trans (hb1.mono (by simp))⟩
  | none =>
    cases hB : BD b 0 with
    | some x =>
      have HV : Hid (cmpV a b = 0 ∧ cmpE a b = 40) := cmp_none hA hB
      have HE := Lib.hid (bd_none hA)
      have HF := Lib.hid (bd_some hB)
      clear hA hB ha hb
      go_enter Tryz.func67, Tryz.ntmps67
      go_wp2
      go_loopw [14] (fun i wr => ∃ k : Nat, k ≤ 1 ∧ i = .int .i64 k ∧ Below (w.heap.size + 1) (w.alloc (.cells #[.string a, .string b] 9)) wr) (fun i _ => 2 - (intOf i).toNat)
      case atStart => exact ⟨0, by omega, rfl, Below.refl _ _⟩
      case round =>
        obtain ⟨k, hk, rfl, hbr⟩ := hrel
        have c0 : wr.cell? ⟨w.heap.size, 0, none⟩ = some (.string a) := by rw [hbr.cell (p := ⟨w.heap.size, 0, none⟩) (by simp)]; simp [go_sem]
        have c1 : wr.cell? ⟨w.heap.size, 1, none⟩ = some (.string b) := by rw [hbr.cell (p := ⟨w.heap.size, 1, none⟩) (by simp)]; simp [go_sem]
        have HL := Lib.hid hbr
        clear hbr
        by_cases h0 : k = 0
        · subst h0
          go_wp2_with fail
          refine (uCheck_any _ _ HA.out).mono ?_
          rintro e w1 ⟨rfl, hb1⟩
          rw [HE.out.1, HE.out.2]
          go_wp2_with fail
          go_roundw
          case rel => exact ⟨1, by omega, rfl, HL.out.trans (hb1.mono (by have := HL.out.size; simpa using this))⟩
          case measure => simp [intOf]
        · obtain rfl : k = 1 := by omega
          clear h0
          go_wp2_with fail
          refine (uCheck_any _ _ HB.out).mono ?_
          rintro e w1 ⟨rfl, hb1⟩
          rw [HF.out.1, HF.out.2]
          go_wp2_with fail
          go_ret2
          exact ⟨by rw [HV.out.1, HV.out.2]; rfl, ((Below.refl _ _).alloc (Nat.le_refl _) _).trans ((HL.out.trans (hb1.mono (by have := HL.out.size; simpa using this))).mono (by omega))⟩
    | none =>
      have HV : Hid (cmpV a b = Lib.compareBytes a.data.toList b.data.toList ∧ cmpE a b = 0) := cmp_both hA hB
      have HE := Lib.hid (bd_none hA)
      have HF := Lib.hid (bd_none hB)
      clear hA hB ha hb
      go_enter Tryz.func67, Tryz.ntmps67
      go_wp2
      go_loopw [14] (fun i wr => ∃ k : Nat, k ≤ 2 ∧ i = .int .i64 k ∧ Below (w.heap.size + 1) (w.alloc (.cells #[.string a, .string b] 9)) wr) (fun i _ => 2 - (intOf i).toNat)
      case atStart => exact ⟨0, by omega, rfl, Below.refl _ _⟩
      case round =>
        obtain ⟨k, hk, rfl, hbr⟩ := hrel
        have c0 : wr.cell? ⟨w.heap.size, 0, none⟩ = some (.string a) := by rw [hbr.cell (p := ⟨w.heap.size, 0, none⟩) (by simp)]; simp [go_sem]
        have c1 : wr.cell? ⟨w.heap.size, 1, none⟩ = some (.string b) := by rw [hbr.cell (p := ⟨w.heap.size, 1, none⟩) (by simp)]; simp [go_sem]
        have HL := Lib.hid hbr
        clear hbr
        by_cases h0 : k = 0
        · subst h0
          go_wp2_with fail
          refine (uCheck_any _ _ HA.out).mono ?_
          rintro e w1 ⟨rfl, hb1⟩
          rw [HE.out.1, HE.out.2]
          go_wp2_with fail
          go_roundw
          case rel => exact ⟨1, by omega, rfl, HL.out.trans (hb1.mono (by have := HL.out.size; simpa using this))⟩
          case measure => simp [intOf]
        · by_cases h1 : k = 1
          · subst h1
            clear h0
            go_wp2_with fail
            refine (uCheck_any _ _ HB.out).mono ?_
            rintro e w1 ⟨rfl, hb1⟩
            rw [HF.out.1, HF.out.2]
            go_wp2_with fail
            go_roundw
            case rel => exact ⟨2, by omega, rfl, HL.out.trans (hb1.mono (by have := HL.out.size; simpa using this))⟩
            case measure => simp [intOf]
          · obtain rfl : k = 2 := by omega
            clear h0 h1
            go_wp2_with fail
            refine (scompare_any _ _ _).mono ?_
            rintro e w1 ⟨rfl, rfl⟩
            go_wp2_with fail
            go_ret2
            exact ⟨by rw [HV.out.1, HV.out.2]; rfl, ((Below.refl _ _).alloc (Nat.le_refl _) _).trans (HL.out.mono (by omega))⟩

set_option maxHeartbeats 2000000 in
set_option maxRecDepth 100000 in
theorem rCompare_any (a b : ByteArray) (w : World) (ha : a.size ≤ 35184372088000) (hb : b.size ≤ 35184372088000) :
    Calls Tryz.prog 68 #[.string a, .string b] w fun e w' => e = .returned (.tuple #[.int .i64 (cmpV a b), .int .i64 (cmpE a b)]) ∧ Below w.heap.size w w' := by
  have HA := Lib.hid ha
  have HB := Lib.hid hb
  have len : ∀ s : ByteArray, s.size ≤ 35184372088000 → (dcV s).length ≤ maxLen := by
    intro s h
    have : ∀ n p, (dc s n p).length ≤ n := by
      intro n
      induction n with
      | zero => intro p; simp [dc]
      | succ n ih =>
        intro p; unfold dc
        split
        · simp
        · split
          · simp
          · have := ih (p + fmN s p); simp; omega
    unfold dcV maxLen
    split
    · have := this (s.size + 1) 0; unfold DC; omega
    · simp
  have HNA := Lib.hid (len a ha)
  have HNB := Lib.hid (len b hb)
  clear len
  cases hA : BD a 0 with
  | some x =>
    have HV : Hid (cmpV a b = 0 ∧ cmpE a b = 40) := cmp_some hA
    have HE := Lib.hid (bd_some hA)
    clear hA ha hb
    go_enter Tryz.func68, Tryz.ntmps68
    go_wp2_with fail
    refine (rDecode_any _ _ HA.out).mono ?_
    rintro e w1 ⟨v, rfl, hv, hb1⟩
    rw [HE.out.1, HE.out.2]
    clear hv
    go_wp2_with fail
    go_ret2
    exact ⟨by rw [HV.out.1, HV.out.2]; rfl, hb1⟩
  | none =>
    cases hB : BD b 0 with
    | some x =>
      have HV : Hid (cmpV a b = 0 ∧ cmpE a b = 40) := cmp_none hA hB
      have HE := Lib.hid (bd_none hA)
      have HF := Lib.hid (bd_some hB)
      clear hA hB ha hb
      go_enter Tryz.func68, Tryz.ntmps68
      go_wp2_with fail
      refine (rDecode_any _ _ HA.out).mono ?_
      rintro e w1 ⟨v, rfl, hv, hb1⟩
      rw [HE.out.1, HE.out.2]
      clear hv
      go_wp2_with fail
      refine (rDecode_any _ _ HB.out).mono ?_
      rintro e w2 ⟨u, rfl, hu, hb2⟩
      rw [HF.out.1, HF.out.2]
      clear hu
      go_wp2_with fail
      go_ret2
      exact ⟨by rw [HV.out.1, HV.out.2]; rfl, hb1.trans (hb2.mono hb1.size)⟩
    | none =>
      have HV : Hid (cmpV a b = Lib.compareBytes a.data.toList b.data.toList ∧ cmpE a b = 0) := cmp_both hA hB
      have HO := Lib.hid (ord_whole a b hA hB)
      have HE := Lib.hid (bd_none hA)
      have HF := Lib.hid (bd_none hB)
      clear hA hB ha hb
      go_enter Tryz.func68, Tryz.ntmps68
      go_wp2_with fail
      refine (rDecode_any _ _ HA.out).mono ?_
      rintro e w1 ⟨v, rfl, hv, hb1⟩
      rw [HE.out.1, HE.out.2]
      have HV1 := Lib.hid hv
      have HB1 := Lib.hid hb1
      clear hv hb1
      go_wp2_with fail
      refine (rDecode_any _ _ HB.out).mono ?_
      rintro e w2 ⟨u, rfl, hu, hb2⟩
      rw [HF.out.1, HF.out.2]
      have HU1 := Lib.hid hu
      have HB2 := Lib.hid hb2
      clear hu hb2
      go_wp2_with fail
      refine (r4order_any _ _ _ _ _ ((HV1.out.ints.below HB2.out).mono (Nat.zero_le _)) (HU1.out.ints.mono (Nat.zero_le _)) HNA.out HNB.out).mono ?_
      rintro e w3 ⟨rfl, hb3⟩
      go_wp2_with fail
      go_ret2
      exact ⟨by rw [HV.out.1, HV.out.2, HO.out]; rfl, (HB1.out.trans (HB2.out.mono HB1.out.size)).trans (hb3.mono (by have := HB1.out.size; have := HB2.out.size; omega))⟩

end Go.Proofs.YtlldoofclaokgaaGreat
