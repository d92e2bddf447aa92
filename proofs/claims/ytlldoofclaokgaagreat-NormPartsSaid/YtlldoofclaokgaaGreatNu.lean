/- Package norms: Build's put. -/
import Derived.Test.YtlldoofclaokgaaGreatNt
import Derived.Deep.RegionLaw
import Derived.Deep.AppendLies
namespace Go.Proofs.YtlldoofclaokgaaGreat
open Go.RowKit

def vints (ns : List Int) : List Int := ns.flatMap fun n => vint n.toNat
theorem vints_len (ns : List Int) (h : ∀ n ∈ ns, 0 ≤ n ∧ n ≤ 2147483648) : (vints ns).length ≤ 10 * ns.length := by
  induction ns with
  | nil => simp [vints]
  | cons n ns ih =>
    have h1 := vint_length n.toNat 10 (Nat.lt_of_le_of_lt (show n.toNat ≤ 2147483648 by have := h n (List.mem_cons_self ..); omega) (by decide)) (by decide)
    have h2 := ih (fun m hm => h m (List.mem_cons_of_mem _ hm))
    unfold vints at *
    simp only [List.flatMap_cons, List.length_append, List.length_cons]; omega
theorem vints_step {ns : List Int} {k : Nat} {n : Int} (h : ns[k]? = some n) : vints (ns.take (k + 1)) = vints (ns.take k) ++ vint n.toNat := by
  unfold vints
  rw [List.take_add_one, h]; simp
/-- a row of bytes of our own, or a literal's that is full -/
def RowAt (B : Nat) (W : World) (v : Value) (xs : List Int) : Prop :=
  W.ownsRow B 5 1 v xs.length (xs.map (Value.int .u8)) ∨ ∃ g fr, v = .slice (some ⟨g, 0, none⟩) xs.length xs.length ∧ B ≤ g ∧ W.heap[g]? = some (.cells (xs.map (Value.int .u8)).toArray 5 fr)
theorem RowAt.block {B : Nat} {W : World} {v : Value} {xs : List Int} (h : RowAt B W v xs) : v.ownBlock = none ∨ ∃ g cs fr, v.ownBlock = some g ∧ B ≤ g ∧ W.heap[g]? = some (.cells cs 5 fr) := by
  rcases h with h | ⟨g, fr, rfl, hg, hb⟩
  · rcases h.2 with ⟨rfl, _⟩ | ⟨g, cap, cur, rfl, hg, hb, _⟩
    · exact .inl rfl
    · exact .inr ⟨g, cur, _, rfl, hg, hb⟩
  · exact .inr ⟨g, _, fr, rfl, hg, hb⟩
theorem RowAt.below {B : Nat} {W W' : World} {v : Value} {xs : List Int} (h : RowAt B W v xs) (hb : Below W.heap.size W W') : RowAt B W' v xs := by
  rcases h with h | ⟨g, fr, rfl, hg, hbk⟩
  · exact .inl (ownsRow_below h hb)
  · exact .inr ⟨g, fr, rfl, hg, (hb.block _ (Array.getElem?_eq_some_iff.1 hbk).1).trans hbk⟩
theorem RowAt.lt {B : Nat} {W : World} {v : Value} {xs : List Int} (h : RowAt B W v xs) (j : Nat) (hj : v.ownBlock = some j) : B ≤ j := by
  rcases h.block with h | ⟨g, _, _, h, hg, _⟩
  · rw [h] at hj; cases hj
  · rw [h] at hj; cases hj; exact hg
/-- a block of another type is not the row -/
theorem RowAt.apart {B k : Nat} {W : World} {v : Value} {xs : List Int} {c : Array Value} {t : TypeId} {fr : Nat × Nat} (h : RowAt B W v xs) (hk : W.heap[k]? = some (.cells c t fr)) (ht : t ≠ 5) : some k ≠ v.ownBlock := by
  rcases h.block with h | ⟨g, _, _, h, _, hb⟩
  · rw [h]; simp
  · rw [h]; intro e
    obtain rfl : k = g := by simpa using e
    rw [hk] at hb
    injection hb with h1; injection h1 with h1 h2; exact ht h2
/-- append to such a row, as a step of a region that draws -/
theorem step_append_row {ops : Array Oper} {o : Oper} {a : Act} {w : World} {K : Act → World → Prop} {Q : Exit → Act → World → Prop} {E : Prop} (hgd : o.guard = none) (s x : Operand)
    (ho : o.op = .call { callee := .builtin .append, args := #[s, x], argTypes := #[27, 27] }) (B : Nat) (v : Value) (ys zs : List Int) (hs : a.eval s = v) (hrow : RowAt B w v ys)
    (g5 o5 c5 : Nat) (hx : a.eval x = .slice (some ⟨g5, o5, none⟩) zs.length c5) (hnews : ∀ (i : Nat) (x : Int), zs[i]? = some x → w.cell? ⟨g5, o5 + i, none⟩ = some (.int .u8 x)) (hm : 0 < zs.length) (hlen : ys.length + zs.length ≤ 100000000) (hB : B ≤ w.heap.size)
    (h : ∀ g cap w', w'.ownsRow B 5 1 (.slice (some ⟨g, 0, none⟩) (ys.length + zs.length) cap) (ys.length + zs.length) (ys.map (Value.int .u8) ++ zs.map (Value.int .u8)) → w.grownBy w' v.ownBlock → K (a.put o.dst (.slice (some ⟨g, 0, none⟩) (ys.length + zs.length) cap)) w') :
    if Region.wanted o (yielded ops a.tmps) = true then Oper.wp Tryz.prog o a w K Q else E := by
  obtain ⟨i0, hi, hz0, hz1, hz2⟩ := info_parts Tryz.infoU8
  rcases hrow with hrow | ⟨g, fr, rfl, hg, hb⟩
  · exact step_append_lies w hgd s x 27 ho B 5 i0 (.int .u8 0) 1 1 Tryz.underlying27 hi hz0 hz1 hz2 rfl (by decide) v ys.length (ys.map (Value.int .u8)) hs hrow ⟨g5, o5, none⟩ zs.length c5 (zs.map (Value.int .u8)) hx (by simp) (news_of hnews) (by simp [Value.oneCell']) hm (by unfold maxLen; omega) (by omega) hB _ rfl
      (fun g cap w' h1 h2 _ _ => h g cap w' h1 h2)
  · have hw : Region.wanted o (yielded ops a.tmps) = true := by simp [Region.wanted, hgd]
    rw [if_pos hw]
    have holds : ∀ (j : Nat) u, (ys.map (Value.int .u8))[j]? = some u → w.cell? ((⟨g, 0, none⟩ : Addr).add j) = some u := news_of (k := .u8) (o := 0) (fun i x hx => by
      rw [Nat.zero_add]; simp [World.cell?, hb, hx])
    have hr := run_append_grow (P := Tryz.prog) w 27 o.type 5 i0 (.int .u8 0) Tryz.underlying27 hi hz0 ⟨g, 0, none⟩ ys.length ys.length (ys.map (Value.int .u8)) (by rw [hz1]; simp) holds
      ⟨g5, o5, none⟩ zs.length c5 (zs.map (Value.int .u8)) (by rw [hz1]; simp) (news_of hnews) (by omega) (by omega) (growslice_fits (by omega) (by rw [hz2]; omega))
    have hge := grownCap_ge w (ys.length + zs.length) ys.length 5
    have hcm := grownCap_le_maxLen w (ys.length + zs.length) ys.length 5 (by unfold maxLen; omega)
    unfold Oper.wp execOp
    simp only [ho, resolve, invoke, builtin, Sem.run_bind, Sem.run_pure, Result.andThen_ok, List.map_toArray, List.map_cons, List.map_nil, hs, hx, hr]
    refine h _ _ _ ⟨by simp, .inr ⟨w.heap.size, _, _, rfl, hB, World.alloc_heap_new w.drew _, hge, hcm, ?_, ?_⟩⟩ ⟨rfl, rfl, rfl, by simp, fun k hk _ => Below.heap_alloc w.drew _ k hk⟩
    · simp only [Array.size_append, List.size_toArray, size_zeroCells, List.length_map]
      show _ + _ + (_ - _) * 1 = _ * 1
      omega
    · simp only [Array.toList_append, List.append_assoc]
      rw [← List.append_assoc]
      exact List.take_left' (by simp)
/-- Build's state of writing: the box, the row -/
def PutAt (B bx : Nat) (xs : List Int) (W : World) : Prop :=
  ∃ v, Boxed W bx 27 v ∧ RowAt B W v xs

set_option maxHeartbeats 4000000 in
set_option maxRecDepth 100000 in
theorem put_any (B bx g : Nat) (ns xs : List Int) (w : World) (hg : w.heap[g]? = some (.cells (ns.map (Value.int .i64)).toArray 3 (0, 0))) (hn : ∀ n ∈ ns, 0 ≤ n ∧ n ≤ 2147483648) (hnl : ns.length ≤ 1000) (hp : PutAt B bx xs w) (hB : B ≤ bx) (hx : xs.length ≤ 10000000) :
    Calls Tryz.prog 83 #[.slice (some ⟨g, 0, none⟩) ns.length ns.length, .pointer (some ⟨bx, 0, none⟩)] w fun e w' => e = .returned (.tuple #[]) ∧ PutAt B bx (xs ++ vints ns) w' ∧ Below B w w' := by
  have HN := Lib.hid hn
  have HP := Lib.hid hp
  have HG := Lib.hid hg
  clear hn hp hg
  go_enter Tryz.func83, Tryz.ntmps83
  go_wp2_with fail
  go_loopw [7] (fun iv wr => ∃ k : Nat, iv = .int .i64 k ∧ k ≤ ns.length ∧ PutAt B bx (xs ++ vints (ns.take k)) wr ∧ Below B w wr ∧ wr.heap[g]? = some (.cells (ns.map (Value.int .i64)).toArray 3 (0, 0))) (fun iv _ => ns.length - (intOf iv).toNat)
  case atStart => exact ⟨0, rfl, by omega, by simpa [vints] using HP.out, Below.refl _ _, HG.out⟩
  case round =>
    obtain ⟨k, rfl, hk, ⟨v, hbv, hrow⟩, hb, hgk⟩ := hrel
    have HB := Lib.hid hb
    have HGK := Lib.hid hgk
    by_cases hlt : k < ns.length
    · have d1 : decide ((k : Int) < (ns.length : Int)) = true := decide_eq_true (by omega)
      have d2 : decide (k < ns.length) = true := decide_eq_true hlt
      have hx : ns[k]? = some ns[k] := List.getElem?_eq_getElem hlt
      generalize ns[k] = n at hx
      have hcell : wr.cell? ⟨g, k, none⟩ = some (.int .i64 n) := by simp [World.cell?, hgk, hx]
      have hnb := HN.out n (List.mem_of_getElem? hx)
      have HVS := Lib.hid (vints_step hx)
      have hvl := vints_len (ns.take k) (fun m hm => HN.out m (List.mem_of_mem_take hm))
      have htl : (ns.take k).length ≤ 1000 := by rw [List.length_take]; omega
      obtain ⟨m, rfl⟩ := Int.eq_ofNat_of_zero_le hnb.1
      simp only [Int.toNat_natCast] at HVS
      have hm64 : m < 18446744073709551616 := by omega
      have hvi := vint_length m 10 (Nat.lt_of_le_of_lt (show m ≤ 2147483648 by omega) (by decide)) (by decide)
      have hvp := vint_pos m
      have HL := Lib.hid hlt
      have hbc := hbv.cell
      have HBV := Lib.hid hbv
      have HROW := Lib.hid hrow
      have hyl : (xs ++ vints (ns.take k)).length ≤ 10010000 := by rw [List.length_append]; omega
      have HYS : Hid (xs ++ vints (ns.take (k + 1)) = (xs ++ vints (ns.take k)) ++ vint m) := by show _ = _; rw [HVS.out, List.append_assoc]
      generalize xs ++ vints (ns.take k) = ys at *
      have HBL : Hid (B ≤ wr.heap.size) := by have := hbv.lt; show _ ≤ _; omega
      clear hx hlt hb hgk hbv hrow hnb hvl HVS htl
      have HUI : Hid (∀ V : World, Calls Tryz.prog 84 #[.int .u64 (IntKind.u64.wrap (m : Int))] V fun e w' => NewBytes V.heap.size (vint m) e w' ∧ Below V.heap.size V w') := by
        intro V
        rw [show IntKind.u64.wrap (m : Int) = (m : Int) by rw [IntKind.wrap_u64]; omega]
        exact uint_any m hm64 V
      go_wp2_with fail
      go_region_law (first
        | (rw [if_pos (by rfl)]; go_simp; refine (HUI.out _).mono ?_; rintro e w5 ⟨⟨v5, rfl, hr5⟩, hb5⟩; have B5 : Hid (Below wr.heap.size wr w5) := (Below.refl _ wr).drew.trans hb5; obtain ⟨g5, o5, c5, rfl, _, _, hc5⟩ := (ints_of_own hr5).place (by omega); have HC5 := Lib.hid hc5; have X5 : Boxed w5 bx 27 v := (B5.out.block _ HBV.out.lt).trans HBV.out; have x5c := X5.cell; have RW5 := Lib.hid (HROW.out.below B5.out); have HX5 := Lib.hid X5; clear hr5 hb5 hc5 X5)
        | (refine step_append_row (by rfl) (.tmp 11) (.tmp 14) (by rfl) B v ys (vint m) (by rfl) RW5.out g5 o5 c5 (by rfl) HC5.out (by omega) (by omega) (Nat.le_trans HBL.out B5.out.size) ?_; intro g6 cap6 w6 hown6 hgrow6; have X6 : Boxed w6 bx 27 v := HX5.out.kept hgrow6 (RW5.out.apart HX5.out (by decide)); have x6c := X6.cell; have x6f := X6.frozen; have HX6 := Lib.hid X6; clear X6))
      all_goals
        have HPE : Hid (PutAt B bx (ys ++ vint m) (w6.setCell ⟨bx, 0, none⟩ (.slice (some ⟨g6, 0, none⟩) (ys.length + (vint m).length) cap6))) := by
          refine ⟨_, HX6.out.set _, ?_⟩
          refine .inl ?_
          rw [List.length_append, List.map_append]
          exact hown6.kept (grownBy_setCell' w6 bx _) (.inr (fun e => HX6.out.not_row (by decide) hown6 e.symm))
        have HBE : Hid (Below B w (w6.setCell ⟨bx, 0, none⟩ (.slice (some ⟨g6, 0, none⟩) (ys.length + (vint m).length) cap6))) :=
          ((HB.out.trans (B5.out.mono HBL.out)).grown hgrow6 (Nat.le_trans HBL.out B5.out.size) (fun j hj => RW5.out.lt j hj)).setCell hB _
        have hgb : g ≠ bx := by
          rintro rfl
          have h1 := HGK.out
          rw [show wr.heap[g]? = _ from HBV.out] at h1
          injection h1 with h1; injection h1 with h1 h2; exact absurd h2 (by decide)
        have HGE : Hid ((w6.setCell ⟨bx, 0, none⟩ (.slice (some ⟨g6, 0, none⟩) (ys.length + (vint m).length) cap6)).heap[g]? = some (.cells (ns.map (Value.int .i64)).toArray 3 (0, 0))) := by
          have hg5 : w5.heap[g]? = some (.cells (ns.map (Value.int .i64)).toArray 3 (0, 0)) := (B5.out.block _ (Array.getElem?_eq_some_iff.1 HGK.out).1).trans HGK.out
          have hne : some g ≠ v.ownBlock := RW5.out.apart hg5 (by decide)
          show _ = _
          rw [Below.heap_setCell _ _ _ _ hgb, hgrow6.block g (Array.getElem?_eq_some_iff.1 hg5).1 hne]
          exact hg5
        clear hown6 hgrow6 hgb x6c x6f HX6
        go_wp2_with fail
        go_roundw
        case rel => exact ⟨k + 1, by go_num, by have := HL.out; omega, by rw [HYS.out]; exact HPE.out, HBE.out, HGE.out⟩
        case measure => (have hq := HL.out; simp [intOf]; omega)
    · have d1 : decide ((k : Int) < (ns.length : Int)) = false := decide_eq_false (by omega)
      have d2 : decide (k < ns.length) = false := decide_eq_false hlt
      have HT : Hid (ns.take k = ns) := List.take_of_length_le (by omega)
      have HPE : Hid (PutAt B bx (xs ++ vints (ns.take k)) wr) := ⟨v, hbv, hrow⟩
      clear hlt hb hgk hbv hrow
      go_wp2_with fail
      go_end0
      exact ⟨rfl, by have := HPE.out; rwa [HT.out] at this, HB.out⟩
end Go.Proofs.YtlldoofclaokgaaGreat
