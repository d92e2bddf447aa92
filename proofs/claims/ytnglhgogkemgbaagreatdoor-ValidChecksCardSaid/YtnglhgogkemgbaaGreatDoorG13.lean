/- The sum of bytes: Extend. Frames of bytes: Sum, Mask, four, Frame. Frames of bytes: the program's Frame. Frames of bytes: the reference's. Frames of bytes: the reference's Frame. -/
import Derived.Test.YtnglhgogkemgbaaGreatDoorG12
import Derived.Laws.OwnMore
/-! The sum of bytes: Extend. -/
namespace Go.Proofs.YtnglhgogkemgbaaGreatDoor
open Go.RowKit
attribute [local go_sem] Oper.semAt_some

set_option maxHeartbeats 2000000 in
set_option maxRecDepth 100000 in
theorem extend_any (R : Nat → Prop) (tb : Nat) (xs : List Int) (v : Value) (w : World) (ht : TblAt w tb 0 0 0 (crcL 0)) (hv : IntsIn R .u8 w v xs) (hR : ∀ b, R b → b ≠ tb) (hby : ∀ x ∈ xs, 0 ≤ x ∧ x < 256) (hl : xs.length ≤ 140737488351232) :
    Calls Tryz.prog 127 #[.pointer (some ⟨tb, 0, none⟩), .int .u32 0, v] w fun e w' => e = .returned (.int .u32 ((crcSum xs : Nat) : Int)) ∧ Only (fun k => k = tb) w w' := by
  have HV := Lib.hid hv
  obtain ⟨p, cp, rfl, _⟩ := hv
  have HT := Lib.hid ht
  have HBY := Lib.hid hby
  have c0 : w.cell? ⟨tb, 0, none⟩ = some (.int .i64 1) := (ht.cell 0).trans rfl
  have hlt := ht.lt
  have hne : ¬ tb = w.heap.size := by omega
  clear ht hby
  refine callsIn_wide (n := 0) |>.1 ?_
  refine callsIn_of_wp_marks Tryz.func127 rfl trivial ?_ rfl
  simp only [Tryz.ntmps127, List.size_toArray, List.length_cons, List.length_nil, Nat.reduceAdd, Nat.reduceSub, Array.replicate_succ, Array.replicate_zero, List.push_toArray, List.append_toArray, List.nil_append, List.cons_append]
  have hal : Only (fun k => k = tb) w (w.alloc (.cells #[.pointer (some ⟨tb, 0, none⟩)] 99)) := (Only.refl _ w).alloc _
  by_cases h0 : xs.length = 0
  · have d0 : ((xs.length : Int) == 0) = true := by rw [h0]; rfl
    have HX : Hid (xs = []) := List.eq_nil_of_length_eq_zero h0
    have HO := Lib.hid hal
    clear h0 hal
    gi_wp2
    refine ⟨.int .u32 0, by simp [results, Tryz.results127, go_sem], ?_, HO.out⟩
    rw [HX.out]; rfl
  · have d0 : ((xs.length : Int) == 0) = false := beq_eq_false_iff_ne.2 (by omega)
    have HO := Lib.hid hal
    clear h0 hal
    gi_wp2_with fail
    refine ⟨trivial, rfl, (callsIn_wide.2 (ready_any tb _ ?_)).mono ?_⟩
    · show _ = _; rw [Below.heap_alloc _ _ _ hlt]; exact HT.out
    rintro e w1 ⟨rfl, ht1, ho1⟩
    have hbs : Boxed w1 w.heap.size 99 (.pointer (some ⟨tb, 0, none⟩)) := (ho1.block _ (by simp) (fun e => hne e.symm)).trans (Boxed.new w _ _)
    have hz1 := ho1.size
    simp only [World.size_alloc] at hz1
    have HV1 : Hid (IntsIn (fun b => R b ∧ b < w.heap.size) .u8 w1 (.slice p xs.length cp) xs) := (HV.out.mono (fun b h1 h2 => (⟨h1, h2⟩ : R b ∧ b < w.heap.size))).kept (Kept.only (HO.out.trans ho1) (fun b hb => hR b hb.1))
    have HO1 : Hid (Only (fun k => k = tb) w w1) := HO.out.trans ho1
    clear ho1 HO HV HT
    gi_wp2_with fail
    refine ⟨trivial, rfl, (callsIn_wide.2 (values_any _ _ _ _)).mono ?_⟩
    rintro e w2 ⟨rfl, hw2⟩
    gi_wp2_with fail
    rw [show bits .xor .u32 IntKind.u32.max 0 = 4294967295 from rfl] at hw2 ⊢
    have b0 : Boxed w2 w.heap.size 99 (.pointer (some ⟨tb, 0, none⟩)) := by rw [← hw2]; exact (hbs.alloc _).alloc _
    have b1 : Boxed w2 w1.heap.size 110 (.int .u32 ((crcFold (xs.take 0) 4294967295 : Nat) : Int)) := by rw [← hw2]; exact (Boxed.new _ _ _).alloc _
    have b2 : Boxed w2 (w1.heap.size + 1) 51 (.slice p xs.length cp) := by
      rw [← hw2]; have := Boxed.new (w1.alloc (.cells #[.int .u32 4294967295] 110)) 51 (.slice p xs.length cp); rwa [World.size_alloc] at this
    have hg2 : Below w1.heap.size w1 w2 := by rw [← hw2]; exact (((Below.refl _ w1).alloc (Nat.le_refl _) _).alloc (by simp) _)
    have ht2 : TblAt w2 tb 1 0 1 (crcL 256) := (hg2.block _ ht1.lt).trans ht1
    have HT2 := Lib.hid ht2
    have HV2 : Hid (IntsIn (fun b => R b ∧ b < w.heap.size) .u8 w2 (.slice p xs.length cp) xs) := HV1.out.kept (Kept.below hg2)
    have HO2 : Hid (Only (fun k => k = tb) w w2) := HO1.out.below hg2
    clear hw2 hg2 ht2 HV1 HO1 hbs ht1
    generalize w1.heap.size = nb at *
    refine wp_range2 0 (gf := 179) (lb := #[.pointer (some ⟨nb + 1, 0, none⟩)]) rfl (enters_of Tryz.func179 (by kernel_rfl) rfl) (values1_iter (fun b => R b ∧ b < w.heap.size) xs p cp (nb + 1) hl) (fun _ => rfl)
      (fun i V => Only (fun k => k = nb) w2 V ∧ Boxed V nb 110 (.int .u32 ((crcFold (xs.take i) 4294967295 : Nat) : Int))) (fun _ => False) (fun _ => False) (fun _ => .and (.only (Nat.le_refl _)) .boxed) (.const _) (.const _) (fun a A h => ?pre) ⟨Only.refl _ _, b1⟩
      (fun i => [(8, .int .u8 (xs.getD i 0))]) ?assign ?body ?after ?exit ?ret ?bad
    case assign =>
      intro l a W
      simp [roundFrame]
      gi_wp2
      exact ⟨trivial, trivial⟩
    case pre => exact ⟨(World.cell?_of_block (w := w2) (a := ⟨nb + 1, 0, none⟩) (h.1.block _ b2.lt (show ¬ nb + 1 = nb by omega))).trans b2.cell, HV2.out.kept (Kept.only h.1 (fun b hb => by have := hb.2; omega))⟩
    case exit => intro a' W' h; exact h
    case ret => intro D W _ h _; exact h.elim
    case bad => intro D c s W _ h _ _; exact h.elim
    case body =>
      rintro l i V hlt' ⟨ho, hb⟩
      have HO := Lib.hid ho
      have e0 : Boxed V w.heap.size 99 (.pointer (some ⟨tb, 0, none⟩)) := (ho.block _ b0.lt (show ¬ w.heap.size = nb by omega)).trans b0
      have et : TblAt V tb 1 0 1 (crcL 256) := (ho.block _ HT2.out.lt (show ¬ tb = nb by omega)).trans HT2.out
      have hmem : xs.getD i 0 ∈ xs := by rw [List.getD_eq_getElem?_getD, List.getElem?_eq_getElem hlt']; exact List.getElem_mem hlt'
      have hx := HBY.out _ hmem
      obtain ⟨y, hy⟩ : ∃ y : Nat, xs.getD i 0 = (y : Int) := ⟨(xs.getD i 0).toNat, by omega⟩
      have hy8 : y < 256 := by omega
      obtain ⟨c, hc⟩ : ∃ c, c = crcFold (xs.take i) 4294967295 := ⟨_, rfl⟩
      have hcl : c < 4294967296 := by rw [hc]; exact crcFold_lt _ (fun x hx => HBY.out x (List.mem_of_mem_take hx)) _ (by decide)
      have hstep : crcFold (xs.take (i + 1)) 4294967295 = crcTurn c y := by
        have e : xs.take (i + 1) = xs.take i ++ [xs.getD i 0] := by
          rw [List.take_add_one, List.getD_eq_getElem?_getD, List.getElem?_eq_getElem hlt']; rfl
        rw [e, crcFold_snoc, hy, ← hc]; rfl
      have HSTEP := Lib.hid hstep
      obtain ⟨k, hk⟩ : ∃ k, k = (c % 256) ^^^ y := ⟨_, rfl⟩
      have hk8 : k < 256 := by rw [hk]; exact Nat.xor_lt_two_pow (n := 8) (by omega) (by omega)
      have hx1 : bits .xor .u8 ((c : Int) % 256) (y : Int) = (k : Int) := by rw [hk, ← xor_u8 _ _ (by omega) hy8]; rfl
      have hx0 : bits .xor .u8 (IntKind.u8.wrap (c : Int)) (y : Int) = (k : Int) := by rw [IntKind.wrap_u8]; exact hx1
      have hT : (crcL 256)[k]? = some ((crcT k : Nat) : Int) := by simp [crcL, hk8]
      have tcell := et.at k _ hT
      obtain ⟨z, hz⟩ : ∃ z, z = crcTurn c y := ⟨_, rfl⟩
      have hx2 : bits .xor .u32 ((crcT k : Nat) : Int) ((c : Int) / 256) = (z : Int) := by
        rw [show ((c : Int) / 256) = ((c / 256 : Nat) : Int) by omega, xor_u32 _ _ (crcT_lt (by omega)) (by omega), hz, crcTurn_table, ← hk]
      rw [← hz] at HSTEP
      rw [← hc] at hb
      have hbc := hb.cell
      have hbf := hb.frozen
      have e0c := e0.cell
      have hki : (k : Int) < 256 := by omega
      have HB := Lib.hid hb
      rw [hy]
      generalize crcT k = T at *
      clear ho e0 et hmem hx hy hc hstep hk hT hz hb hlt' b0 b1 b2 HT2 HBY hy8
      simp [roundFrame]
      gi_wp2
      refine wpIn_region_tail 12 (by kernel_rfl) (by kernel_rfl) (by kernel_rfl) (by rintro ⟨_, _, h⟩; exact h) ?_; simp only [List.take_succ_cons, List.take_zero, List.drop_succ_cons, List.drop_zero]; (repeat still_step); refine wpStill_nil ?_
      go_wp2
      refine ⟨(KeepsOthers.setCell _ _ _).trans (KeepsOthers.drew _), (HO.out.setCell (p := ⟨nb, 0, none⟩) rfl _).drew, ?_⟩
      rw [HSTEP.out]
      exact HB.out.set _
    case after =>
      rintro D V hD (⟨i, hl', ho, hb⟩ | h) hK
      · have hta : xs.take i = xs := List.take_of_length_le hl'
        rw [hta] at hb
        obtain ⟨c, hc⟩ : ∃ c, c = crcFold xs 4294967295 := ⟨_, rfl⟩
        have hcl : c < 4294967296 := by rw [hc]; exact crcFold_lt _ HBY.out _ (by decide)
        have hx : bits .xor .u32 IntKind.u32.max (c : Int) = ((crcSum xs : Nat) : Int) := by
          rw [show (IntKind.u32.max : Int) = ((4294967295 : Nat) : Int) from rfl, xor_u32 _ _ (by decide) hcl, Nat.xor_comm, hc]; rfl
        have HX := Lib.hid hx
        rw [← hc] at hb
        have hbc := hb.cell
        have HOV : Hid (Only (fun k => k = tb) w V) := by
          refine ⟨ho.os.trans HO2.out.os, ho.tape.trans HO2.out.tape, ho.output.trans HO2.out.output, Nat.le_trans HO2.out.size ho.size, fun k hk hn => ?_⟩
          exact (ho.block k (Nat.lt_of_lt_of_le hk HO2.out.size) (show ¬ k = nb by omega)).trans (HO2.out.block k hk hn)
        have hDl : D < V.heap.size ∧ w.heap.size ≤ D := ⟨(Array.getElem?_eq_some_iff.1 hK).1, by have := HO2.out.size; omega⟩
        clear ho hb hc hl' hta b0 b1 b2
        simp only [marked]
        gi_wp2_with fail
        refine leave_mark (v := .int .u32 ((crcSum xs : Nat) : Int)) hK ?_ ⟨rfl, ?_⟩
        · simp [results, Tryz.results127, go_sem]
        · refine ⟨HOV.out.os, HOV.out.tape, HOV.out.output, by simpa using HOV.out.size, fun k hk hn => ?_⟩
          exact (World.putObj_heap_other (by omega)).trans (HOV.out.block k hk hn)
      · exact h.elim
end Go.Proofs.YtnglhgogkemgbaaGreatDoor
/-! Frames of bytes: Sum, Mask, four, Frame. -/
namespace Go.Proofs.YtnglhgogkemgbaaGreatDoor
open Go.RowKit

set_option maxRecDepth 100000 in
theorem sum_any (R : Nat → Prop) (tb : Nat) (xs : List Int) (v : Value) (w : World) (ht : TblAt w tb 0 0 0 (crcL 0)) (hv : IntsIn R .u8 w v xs) (hR : ∀ b, R b → b ≠ tb) (hby : ∀ x ∈ xs, 0 ≤ x ∧ x < 256) (hl : xs.length ≤ 140737488351232) :
    Calls Tryz.prog 86 #[.pointer (some ⟨tb, 0, none⟩), v] w fun e w' => e = .returned (.int .u32 ((crcSum xs : Nat) : Int)) ∧ Only (fun k => k = tb) w w' := by
  have he := extend_any R tb xs v w ht hv hR hby hl
  obtain ⟨p, cp, rfl, _⟩ := hv
  clear ht hby
  go_enter Tryz.func86, Tryz.ntmps86
  go_wp2_with fail
  refine he.mono ?_
  rintro e w1 ⟨rfl, ho⟩
  clear he
  go_wp2
  go_ret
  exact ⟨rfl, ho⟩
theorem rot_or (s : Nat) (hs : s < 4294967296) : bits .or .u32 ((s : Int) * 131072 % 4294967296) ((s : Int) / 32768) = (((s / 32768 + s * 131072) % 4294967296 : Nat) : Int) := by
  rw [bits_join .u32 32 (by decide) (fun n h0 h1 => by rw [IntKind.wrap_u32]; omega) 17 _ _ (by omega) (by omega) (by omega) (by omega) (by omega) (by omega)]
  omega
set_option maxRecDepth 100000 in
theorem rot_any (s : Nat) (hs : s < 4294967296) (w : World) :
    Calls Tryz.prog 126 #[.int .u32 s, .int .i64 (-15)] w fun e w' => e = .returned (.int .u32 (((s / 32768 + s * 131072) % 4294967296 : Nat) : Int)) ∧ w = w' := by
  have h1 : bits .and .u64 (IntKind.u64.wrap (-15)) 31 = 17 := by decide
  have h2 := rot_or s hs
  generalize ((s / 32768 + s * 131072) % 4294967296 : Nat) = z at *
  go_enter Tryz.func126, Tryz.ntmps126
  go_wp2
  go_ret
  exact ⟨rfl, rfl⟩
set_option maxRecDepth 100000 in
theorem mask_any (s : Nat) (hs : s < 4294967296) (w : World) :
    Calls Tryz.prog 85 #[.int .u32 s] w fun e w' => e = .returned (.int .u32 ((crcMask s : Nat) : Int)) ∧ w = w' := by
  have hr := rot_any s hs w
  have h2 : ((((s / 32768 + s * 131072) % 4294967296 : Nat) : Int) + 2726488792) % 4294967296 = ((crcMask s : Nat) : Int) := by unfold crcMask; omega
  generalize ((s / 32768 + s * 131072) % 4294967296 : Nat) = z at *
  generalize crcMask s = y at *
  go_enter Tryz.func85, Tryz.ntmps85
  go_wp2_with fail
  refine hr.mono ?_
  rintro e w1 ⟨rfl, rfl⟩
  clear hr
  go_wp2
  rw [h2]
  go_ret
  exact ⟨rfl, rfl⟩
set_option maxRecDepth 100000 in
theorem rmask_any (s : Nat) (hs : s < 4294967296) (w : World) :
    Calls Tryz.prog 80 #[.int .u32 s] w fun e w' => e = .returned (.int .u32 ((crcMask s : Nat) : Int)) ∧ w = w' := by
  have h2 : ((s : Int) / 32768 + (s : Int) * 131072 % 4294967296 + 2726488792) % 4294967296 = ((crcMask s : Nat) : Int) := by unfold crcMask; omega
  generalize crcMask s = y at *
  go_enter Tryz.func80, Tryz.ntmps80
  go_wp2
  rw [h2]
  go_ret
  exact ⟨rfl, rfl⟩
set_option maxRecDepth 100000 in
theorem four_any (m : Nat) (hm : m < 4294967296) (w : World) :
    Calls Tryz.prog 84 #[.int .u32 m] w fun e w' => NewBytes w.heap.size (four m) e w' ∧ Below w.heap.size w w' := by
  have h3 : ((m : Int) / 16777216) = ((m / 16777216 % 256 : Nat) : Int) := by omega
  have h2 : ((m : Int) / 65536 % 256) = ((m / 65536 % 256 : Nat) : Int) := by omega
  have h1 : ((m : Int) / 256 % 256) = ((m / 256 % 256 : Nat) : Int) := by omega
  have h0 : ((m : Int) % 256) = ((m % 256 : Nat) : Int) := by omega
  have HF : Hid (four m = [((m % 256 : Nat) : Int), ((m / 256 % 256 : Nat) : Int), ((m / 65536 % 256 : Nat) : Int), ((m / 16777216 % 256 : Nat) : Int)]) := rfl
  generalize ((m / 16777216 % 256 : Nat) : Int) = x3 at *
  generalize ((m / 65536 % 256 : Nat) : Int) = x2 at *
  generalize ((m / 256 % 256 : Nat) : Int) = x1 at *
  generalize ((m % 256 : Nat) : Int) = x0 at *
  go_enter Tryz.func84, Tryz.ntmps84
  go_wp2
  go_ret
  refine ⟨⟨_, rfl, ?_⟩, (Below.refl _ w).alloc (Nat.le_refl _) _⟩
  rw [HF.out]
  exact World.ownsRow_lit w #[.int .u8 x0, .int .u8 x1, .int .u8 x2, .int .u8 x3] 4 (Nat.le_refl _) (by decide) rfl
/-- the bytes of a row of our own, as a slice that is read -/
theorem ints_of_own {B : Nat} {w : World} {v : Value} {xs : List Int} (h : w.ownsRow B 5 1 v xs.length (xs.map (Value.int .u8))) : IntsIn (fun b => B ≤ b) .u8 w v xs := by
  rcases h.2 with ⟨rfl, h0⟩ | ⟨g, cap, cur, rfl, hg, hgb, h1, h2, h3, h4⟩
  · obtain rfl := List.eq_nil_of_length_eq_zero h0; exact .nil _ _ _
  · refine ⟨_, _, rfl, ⟨h1, h2⟩, fun i x hx => ⟨g, 0, rfl, hg, (Array.getElem?_eq_some_iff.1 hgb).1, ?_⟩⟩
    have hi : i < xs.length := (List.getElem?_eq_some_iff.1 hx).1
    have e : (cur.toList.take (xs.length * 1))[i]? = some (.int .u8 x) := by rw [h4]; simp [hx]
    rw [List.getElem?_take, if_pos (by omega)] at e
    simp [World.cell?, hgb]; simpa using e
/-- where a slice that is not empty lies -/
theorem IntsIn.place {R : Nat → Prop} {k : IntKind} {w : World} {v : Value} {xs : List Int} (h : IntsIn R k w v xs) (hne : 0 < xs.length) :
    ∃ b o cap, v = .slice (some ⟨b, o, none⟩) xs.length cap ∧ R b ∧ b < w.heap.size ∧ ∀ (i : Nat) (x : Int), xs[i]? = some x → w.cell? ⟨b, o + i, none⟩ = some (.int k x) := by
  obtain ⟨p, cap, rfl, _, h2⟩ := h
  obtain ⟨b, o, rfl, hb, hlt, _⟩ := h2 0 _ (List.getElem?_eq_getElem hne)
  refine ⟨b, o, cap, rfl, hb, hlt, fun i x hx => ?_⟩
  obtain ⟨b', o', e, _, _, h4⟩ := h2 i x hx
  cases e; exact h4
end Go.Proofs.YtnglhgogkemgbaaGreatDoor
/-! Frames of bytes: the program's Frame. -/
namespace Go.Proofs.YtnglhgogkemgbaaGreatDoor
open Go.RowKit

theorem news_of {k : IntKind} {w : World} {b o : Nat} {xs : List Int} (h : ∀ (i : Nat) (x : Int), xs[i]? = some x → w.cell? ⟨b, o + i, none⟩ = some (.int k x)) :
    ∀ (j : Nat) u, (xs.map (Value.int k))[j]? = some u → w.cell? ((⟨b, o, none⟩ : Addr).add j) = some u := by
  intro j u hj
  have : ((⟨b, o, none⟩ : Addr).add j) = ⟨b, o + j, none⟩ := by
    unfold Addr.add; split
    · rename_i h; rw [h]; rfl
    · simp
  rw [this]
  rw [List.getElem?_map] at hj
  cases hx : xs[j]? with
  | none => rw [hx] at hj; cases hj
  | some x => rw [hx] at hj; cases hj; exact h j x hx
/-- a row of our own abides what turns elsewhere -/
theorem ownsRow_only {S : Nat → Prop} {base : Nat} {e : TypeId} {size n : Nat} {v : Value} {xs : List Value} {w w' : World} (h : w.ownsRow base e size v n xs) (ho : Only S w w') (hS : ∀ b, base ≤ b → ¬ S b) : w'.ownsRow base e size v n xs := by
  refine ⟨h.1, ?_⟩
  rcases h.2 with h' | ⟨g, cap, cur, rfl, hg, hgb, hr⟩
  · exact .inl h'
  · exact .inr ⟨g, cap, cur, rfl, hg, (ho.block g (Array.getElem?_eq_some_iff.1 hgb).1 (hS g hg)).trans hgb, hr⟩
theorem ownsRow_below {base : Nat} {e : TypeId} {size n : Nat} {v : Value} {xs : List Value} {w w' : World} (h : w.ownsRow base e size v n xs) (ho : Below w.heap.size w w') : w'.ownsRow base e size v n xs := by
  refine ⟨h.1, ?_⟩
  rcases h.2 with h' | ⟨g, cap, cur, rfl, hg, hgb, hr⟩
  · exact .inl h'
  · exact .inr ⟨g, cap, cur, rfl, hg, (ho.block g (Array.getElem?_eq_some_iff.1 hgb).1).trans hgb, hr⟩

theorem only_below2 {S : Nat → Prop} {n : Nat} {a b c : World} (h : Below n a b) (k : Only S b c) (hS : ∀ i, S i → n ≤ i) (hn : n ≤ a.heap.size := by omega) : Below n a c :=
  ⟨k.os.trans h.os, k.tape.trans h.tape, k.output.trans h.output, Nat.le_trans h.size k.size, fun i hi => (k.block i (by have := h.size; omega) (fun e => by have := hS i e; omega)).trans (h.block i hi)⟩
theorem app_stop {P : Program} {ops : Array Oper} {Q : Exit → Act → World → Prop} {o : Oper} {rest : List Oper} {a : Act} {w : World} (_ : ∃ args ats, o.op = .call { callee := .builtin .append, args := args, argTypes := ats })
    (h : Hid (wpList P ops Q (o :: rest) a w)) : wpList P ops Q (o :: rest) a w := h.out
theorem four_len (m : Nat) : (four m).length = 4 := rfl
end Go.Proofs.YtnglhgogkemgbaaGreatDoor
/-! Frames of bytes: the reference's. -/
namespace Go.Proofs.YtnglhgogkemgbaaGreatDoor
open Go.RowKit

set_option maxHeartbeats 1000000 in
set_option maxRecDepth 100000 in
theorem rturn_any (c x : Nat) (hc : c < 4294967296) (hx : x < 256) (w : World) :
    Calls Tryz.prog 157 #[.int .u32 c, .int .u8 x] w fun e w' => e = .returned (.int .u32 ((crcTurn c x : Nat) : Int)) ∧ w = w' := by
  have h1 := xor_u32 c x hc (by omega)
  obtain ⟨d, hd⟩ : ∃ d, d = c ^^^ x := ⟨_, rfl⟩
  have HD : Hid (d < 4294967296) := (show d < 2 ^ 32 by rw [hd]; exact Nat.xor_lt_two_pow (by omega) (by omega))
  have HE : Hid (crcTurn c x = crcHalves 8 d) := by show _ = _; rw [hd]; rfl
  rw [← hd] at h1
  clear hd
  go_enter Tryz.func157, Tryz.ntmps157
  go_wp2
  go_loopw [0, 5] (fun xv kv wr2 => ∃ k : Nat, kv = .int .i64 k ∧ k ≤ 8 ∧ xv = .int .u32 ((crcHalves k d : Nat) : Int) ∧ w = wr2) (fun _ kv _ => 8 - (intOf kv).toNat)
  case atStart => exact ⟨0, rfl, by omega, rfl, rfl⟩
  case round =>
    obtain ⟨k, rfl, hk, rfl, rfl⟩ := hrel
    obtain ⟨c, hc⟩ : ∃ c, c = crcHalves k d := ⟨_, rfl⟩
    have hcl : c < 4294967296 := by rw [hc]; exact crcHalves_lt HD.out k
    have HC : Hid (crcHalves (k + 1) d = crcHalf c) := by show _ = _; rw [hc]; rfl
    rw [← hc]
    by_cases hk8 : k < 8
    · have e1 : decide ((k : Int) < 8) = true := decide_eq_true (by omega)
      have e2 : decide (k < 8) = true := decide_eq_true hk8
      have HK := Lib.hid hk8
      have HCL := Lib.hid hcl
      clear hc hcl hk8
      by_cases hodd : c % 2 = 1
      · have ha : (c : Int) % 2 = 1 := by omega
        obtain ⟨z, hz⟩ : ∃ z, z = crcHalf c := ⟨_, rfl⟩
        have hx : bits .xor .u32 ((c : Int) / 2) 2197175160 = (z : Int) := by
          rw [hz, show ((c : Int) / 2) = ((c / 2 : Nat) : Int) by omega, show (2197175160 : Int) = ((2197175160 : Nat) : Int) from rfl, xor_u32 _ _ (by have := HCL.out; omega) (by decide)]
          unfold crcHalf; rw [if_pos hodd]
        have HZ := Lib.hid hz
        clear hodd hz
        go_wp2
        go_roundw
        case rel => exact ⟨k + 1, by go_num, by have := HK.out; omega, by rw [HC.out, HZ.out], by trivial⟩
        case measure => (have hq := HK.out; simp [intOf]; omega)
      · have ha : (c : Int) % 2 = 0 := by omega
        have HZ : Hid (((c / 2 : Nat) : Int) = ((crcHalf c : Nat) : Int)) := by show _ = _; unfold crcHalf; rw [if_neg hodd]
        clear hodd
        go_wp2
        go_roundw
        case rel => exact ⟨k + 1, by go_num, by have := HK.out; omega, by rw [HC.out, ← HZ.out]; rfl, by trivial⟩
        case measure => (have hq := HK.out; simp [intOf]; omega)
    · have e1 : decide ((k : Int) < 8) = false := decide_eq_false (by omega)
      have e2 : decide (k < 8) = false := decide_eq_false hk8
      obtain rfl : k = 8 := by omega
      rw [← hc] at HE
      clear hc hcl hk8 HC
      go_wp2
      go_ret
      exact ⟨by rw [HE.out]; rfl, rfl⟩
set_option maxHeartbeats 1000000 in
set_option maxRecDepth 100000 in
theorem rextend_any (R : Nat → Prop) (xs : List Int) (v : Value) (w : World) (hv : IntsIn R .u8 w v xs) (hby : ∀ x ∈ xs, 0 ≤ x ∧ x < 256) (hl : xs.length ≤ 140737488351232) :
    Calls Tryz.prog 122 #[.int .u32 0, v] w fun e w' => e = .returned (.int .u32 ((crcSum xs : Nat) : Int)) ∧ w = w' := by
  have HV := Lib.hid hv
  obtain ⟨p, cp, rfl, _⟩ := hv
  have HBY := Lib.hid hby
  have h0 : bits .xor .u32 IntKind.u32.max 0 = 4294967295 := rfl
  clear hby
  go_enter Tryz.func122, Tryz.ntmps122
  go_wp2
  go_loopw [5, 12] (fun xv iv wr => ∃ i : Nat, iv = .int .i64 i ∧ i ≤ xs.length ∧ xv = .int .u32 ((crcFold (xs.take i) 4294967295 : Nat) : Int) ∧ w = wr) (fun _ iv _ => xs.length - (intOf iv).toNat)
  case atStart => exact ⟨0, rfl, by omega, rfl, rfl⟩
  case round =>
    obtain ⟨i, rfl, hi, rfl, rfl⟩ := hrel
    obtain ⟨c, hc⟩ : ∃ c, c = crcFold (xs.take i) 4294967295 := ⟨_, rfl⟩
    have hcl : c < 4294967296 := by rw [hc]; exact crcFold_lt _ (fun x hx => HBY.out x (List.mem_of_mem_take hx)) _ (by decide)
    rw [← hc]
    by_cases hlt : i < xs.length
    · have d1 : decide ((i : Int) < (xs.length : Int)) = true := decide_eq_true (by omega)
      have d2 : decide (i < xs.length) = true := decide_eq_true hlt
      obtain ⟨b, o, rfl, _, _, hcell⟩ := HV.out.at i hlt
      have hx := HBY.out (xs.getD i 0) (by rw [List.getD_eq_getElem?_getD, List.getElem?_eq_getElem hlt]; exact List.getElem_mem hlt)
      obtain ⟨y, hy⟩ : ∃ y : Nat, xs.getD i 0 = (y : Int) := ⟨(xs.getD i 0).toNat, by omega⟩
      have HS : Hid (crcFold (xs.take (i + 1)) 4294967295 = crcTurn c y) := by
        show _ = _
        have e : xs.take (i + 1) = xs.take i ++ [xs.getD i 0] := by
          rw [List.take_add_one, List.getD_eq_getElem?_getD, List.getElem?_eq_getElem hlt]; rfl
        rw [e, crcFold_snoc, hy, ← hc]; rfl
      have ht := rturn_any c y hcl (by omega) w
      have HL := Lib.hid hlt
      rw [hy] at hcell
      clear hlt hc hx hy
      go_wp2_with fail
      refine ht.mono ?_
      rintro e w' ⟨rfl, rfl⟩
      clear ht
      go_wp2_with fail
      go_roundw
      case rel => exact ⟨i + 1, by go_num, by have := HL.out; omega, by rw [HS.out], by trivial⟩
      case measure => (have hq := HL.out; simp [intOf]; omega)
    · have d1 : decide ((i : Int) < (xs.length : Int)) = false := decide_eq_false (by omega)
      have d2 : decide (i < xs.length) = false := decide_eq_false hlt
      rw [List.take_of_length_le (by omega)] at hc
      have hx : bits .xor .u32 IntKind.u32.max (c : Int) = ((crcSum xs : Nat) : Int) := by
        rw [show (IntKind.u32.max : Int) = ((4294967295 : Nat) : Int) from rfl, xor_u32 _ _ (by decide) hcl, Nat.xor_comm, hc]; rfl
      clear hlt hc
      go_wp2
      go_ret
      exact ⟨rfl, rfl⟩
set_option maxRecDepth 100000 in
theorem rsum_any (R : Nat → Prop) (xs : List Int) (v : Value) (w : World) (hv : IntsIn R .u8 w v xs) (hby : ∀ x ∈ xs, 0 ≤ x ∧ x < 256) (hl : xs.length ≤ 140737488351232) :
    Calls Tryz.prog 81 #[v] w fun e w' => e = .returned (.int .u32 ((crcSum xs : Nat) : Int)) ∧ w = w' := by
  have he := rextend_any R xs v w hv hby hl
  obtain ⟨p, cp, rfl, _⟩ := hv
  clear hby
  go_enter Tryz.func81, Tryz.ntmps81
  go_wp2_with fail
  refine he.mono ?_
  rintro e w1 ⟨rfl, rfl⟩
  clear he
  go_wp2
  go_ret
  exact ⟨rfl, rfl⟩
end Go.Proofs.YtnglhgogkemgbaaGreatDoor
/-! Frames of bytes: the reference's Frame. -/
namespace Go.Proofs.YtnglhgogkemgbaaGreatDoor
open Go.RowKit

set_option maxHeartbeats 2000000 in
set_option maxRecDepth 100000 in
theorem rframe_any (R : Nat → Prop) (xs : List Int) (v : Value) (w : World) (hv : IntsIn R .u8 w v xs) (hby : ∀ x ∈ xs, 0 ≤ x ∧ x < 256) (hne : 0 < xs.length) (hl : xs.length ≤ 16777216) :
    Calls Tryz.prog 41 #[v] w fun e w' => ∃ u, e = .returned (.tuple #[u, .int .i64 0]) ∧ w'.ownsRow w.heap.size 5 1 u (frameOf xs).length ((frameOf xs).map (Value.int .u8)) ∧ Below w.heap.size w w' := by
  obtain ⟨i0, hi, hz0, hz1, hz2⟩ := info_parts Tryz.infoU8
  have HV : Hid (IntsIn (fun b => R b ∧ b < w.heap.size) .u8 w v xs) := hv.mono (fun b h1 h2 => ⟨h1, h2⟩)
  obtain ⟨b, o, cp, rfl, _, _, _⟩ := hv.place hne
  have HBY := Lib.hid hby
  have d1 : decide ((16777216 : Int) < (xs.length : Int)) = false := decide_eq_false (by omega)
  have d2 : decide (16777216 < xs.length) = false := decide_eq_false (by omega)
  have hsum := rsum_any _ xs _ w HV.out hby (by omega)
  have HS := Lib.hid (crcSum_lt xs hby)
  have hmask := rmask_any _ HS.out w
  have HM : Hid (crcMask (crcSum xs) < 4294967296) := Nat.mod_lt _ (by decide)
  obtain ⟨m, hm⟩ : ∃ m, m = crcMask (crcSum xs) := ⟨_, rfl⟩
  rw [← hm] at HM hmask
  have hml := HM.out
  have h3 : ((m : Int) / 16777216) = ((m / 16777216 % 256 : Nat) : Int) := by omega
  have h2 : ((m : Int) / 65536 % 256) = ((m / 65536 % 256 : Nat) : Int) := by omega
  have h1 : ((m : Int) / 256 % 256) = ((m / 256 % 256 : Nat) : Int) := by omega
  have h0 : ((m : Int) % 256) = ((m % 256 : Nat) : Int) := by omega
  have HF : Hid (four m = [((m % 256 : Nat) : Int), ((m / 256 % 256 : Nat) : Int), ((m / 65536 % 256 : Nat) : Int), ((m / 16777216 % 256 : Nat) : Int)]) := rfl
  generalize ((m / 16777216 % 256 : Nat) : Int) = x3 at *
  generalize ((m / 65536 % 256 : Nat) : Int) = x2 at *
  generalize ((m / 256 % 256 : Nat) : Int) = x1 at *
  generalize ((m % 256 : Nat) : Int) = x0 at *
  have HFM : Hid (frameOf xs = vint xs.length ++ [x0, x1, x2, x3] ++ xs) := by
    show _ = _; unfold frameOf; rw [← hm, HF.out]
  have hvl := vint_length xs.length 10 (Nat.lt_of_le_of_lt hl (by decide)) (by decide)
  clear hv hby hm
  go_enter Tryz.func41, Tryz.ntmps41
  go_wp2_with fail
  refine hsum.mono ?_
  rintro e w1 ⟨rfl, rfl⟩
  clear hsum
  go_wp2_with fail
  refine hmask.mono ?_
  rintro e w1 ⟨rfl, rfl⟩
  clear hmask
  go_wp2_with fail
  refine (ruint_any xs.length (by omega) _).mono ?_
  rintro e w1 ⟨⟨v1, rfl, hr1⟩, hb1⟩
  have HR1 := Lib.hid hr1
  have HB1 := Lib.hid hb1
  have HV1 := Lib.hid (HV.out.kept (Kept.below hb1))
  have hal : Below w1.heap.size w1 (w1.alloc (.cells #[.int .u8 x0, .int .u8 x1, .int .u8 x2, .int .u8 x3] 5)) := (Below.refl _ w1).alloc (Nat.le_refl _) _
  have HR2 := Lib.hid (ownsRow_below HR1.out hal)
  have HV2 := Lib.hid (HV1.out.kept (Kept.below hal))
  have HB2 : Hid (Below w.heap.size w (w1.alloc (.cells #[.int .u8 x0, .int .u8 x1, .int .u8 x2, .int .u8 x3] 5))) := HB1.out.trans (hal.mono HB1.out.size)
  have HC2 : Hid (∀ (i : Nat) (x : Int), [x0, x1, x2, x3][i]? = some x → (w1.alloc (.cells #[.int .u8 x0, .int .u8 x1, .int .u8 x2, .int .u8 x3] 5)).cell? ⟨w1.heap.size, 0 + i, none⟩ = some (.int .u8 x)) := by
    intro i x hx
    rw [Nat.zero_add]
    unfold World.cell?; rw [World.alloc_heap_new]
    match i with
    | 0 => simpa using hx
    | 1 => simpa using hx
    | 2 => simpa using hx
    | 3 => simpa using hx
    | i + 4 => simp at hx
  clear hr1 hb1 HR1 HV1 HB1 HV hal
  generalize hvi : vint xs.length = vi at *
  clear hvi
  go_wp2_with (at_builtin; refine app_stop ⟨_, _, rfl⟩ ?_)
  refine Lib.hid ?_; refine wpList_append_own _ rfl _ _ 51 rfl (w.heap.size) 5 i0 (.int .u8 0) 1 1 Tryz.underlying51 hi hz0 hz1 hz2 rfl (by decide) _ _ _ rfl (HR2.out) (⟨w1.heap.size, 0, none⟩) _ _ (([x0, x1, x2, x3]).map (Value.int .u8)) rfl (by simp; try omega) (news_of (HC2.out)) (by simp [Value.oneCell']) (by unfold maxLen; omega) (by omega) (HB2.out.size) ?_
  intro v5 w5 hr5 hg5 _
  generalize w1.alloc (.cells #[.int .u8 x0, .int .u8 x1, .int .u8 x2, .int .u8 x3] 5) = w2 at *
  have hg5' : w2.grownBy w5 v1.ownBlock := hg5
  have hr5' : w5.ownsRow w.heap.size 5 1 v5 (vi ++ [x0, x1, x2, x3]).length ((vi ++ [x0, x1, x2, x3]).map (Value.int .u8)) := by rw [List.length_append, List.map_append]; exact hr5
  have HR5 := Lib.hid hr5'
  have HB5 : Hid (Below w.heap.size w w5) := HB2.out.grown hg5' HB2.out.size (fun j hj => (HR2.out.lt j hj).1)
  have HV5 := Lib.hid (HV2.out.kept (Kept.grown hg5' (fun b hb e => by have := (HR2.out.lt b e.symm).1; omega)))
  obtain ⟨_, _, _, hve, _, _, hcx⟩ := HV5.out.place hne
  cases hve
  have HCX := Lib.hid hcx
  have hvf : (vi ++ [x0, x1, x2, x3]).length ≤ 14 := by rw [List.length_append]; simp; omega
  clear hr5 hg5 hg5' hr5' HR2 HB2 HV2 hcx HC2
  go_wp2_with (at_builtin; refine app_stop ⟨_, _, rfl⟩ ?_)
  refine Lib.hid ?_; refine wpList_append_own _ rfl _ _ 51 rfl (w.heap.size) 5 i0 (.int .u8 0) 1 1 Tryz.underlying51 hi hz0 hz1 hz2 rfl (by decide) _ _ _ rfl (HR5.out) (⟨b, o, none⟩) _ _ ((xs).map (Value.int .u8)) rfl (by simp; try omega) (news_of (HCX.out)) (by simp [Value.oneCell']) (by unfold maxLen; omega) (by omega) (HB5.out.size) ?_
  intro v6 w6 hr6 hg6 _
  have hg6' : w5.grownBy w6 v5.ownBlock := hg6
  have hr6' : w6.ownsRow w.heap.size 5 1 v6 (frameOf xs).length ((frameOf xs).map (Value.int .u8)) := by
    rw [HFM.out, List.length_append, List.map_append]; exact hr6
  have HR6 := Lib.hid hr6'
  have HB6 : Hid (Below w.heap.size w w6) := HB5.out.grown hg6' HB5.out.size (fun j hj => (HR5.out.lt j hj).1)
  clear hr6 hg6 hg6' hr6' HR5 HB5 HV5
  go_wp2
  go_ret2
  exact ⟨_, rfl, HR6.out, HB6.out⟩
end Go.Proofs.YtnglhgogkemgbaaGreatDoor
