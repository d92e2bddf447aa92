/- norm.Stream: New, is, Held, End. norm.Stream: Push. norm.Stream: Push, walked. -/
import Derived.Test.YtlldoofclaokgaaGreatOb
/-! norm.Stream: New, is, Held, End. -/
namespace Go.Proofs.YtlldoofclaokgaaGreat
open Go.RowKit

/-- a stream that nobody made -/
def NotStm (w : World) (v : Value) : Prop := v = .pointer none ∨ ∃ z, v = .pointer (some ⟨z, 0, none⟩) ∧ w.cell? ⟨z, 0, none⟩ = some (.int .i64 0)
/-- a stream in memory -/
def StmAt (W : World) (sb : Nat) (rv hv : Value) : Prop := W.heap[sb]? = some (.cells #[.int .i64 1, rv, hv] 74 (0, 0))
theorem StmAt.lt {W : World} {sb : Nat} {rv hv : Value} (h : StmAt W sb rv hv) : sb < W.heap.size := (Array.getElem?_eq_some_iff.1 h).1
theorem StmAt.cells {W : World} {sb : Nat} {rv hv : Value} (h : StmAt W sb rv hv) : W.cell? ⟨sb, 0, none⟩ = some (.int .i64 1) ∧ W.cell? ⟨sb, 1, none⟩ = some rv ∧ W.cell? ⟨sb, 2, none⟩ = some hv ∧ W.frozen? ⟨sb, 2, none⟩ = false := by
  unfold StmAt at h
  refine ⟨?_, ?_, ?_, ?_⟩ <;> simp [World.cell?, World.frozen?, h]
theorem StmAt.block {W W' : World} {sb : Nat} {rv hv : Value} (h : StmAt W sb rv hv) (hb : W'.heap[sb]? = W.heap[sb]?) : StmAt W' sb rv hv := by unfold StmAt; rw [hb]; exact h
theorem StmAt.put {W : World} {sb : Nat} {rv hv : Value} (h : StmAt W sb rv hv) (v : Value) : StmAt (W.setCell ⟨sb, 2, none⟩ v) sb rv v := by
  unfold StmAt at *
  unfold World.setCell
  simp [Array.getElem?_modify, h]
set_option maxHeartbeats 1000000 in
set_option maxRecDepth 100000 in
theorem stmIs_nil (w : World) : Calls Tryz.prog 55 #[.pointer none] w fun e w' => e = .returned (.bool false) ∧ w = w' := by
  go_enter Tryz.func55, Tryz.ntmps55
  go_wp2
  go_ret
  exact ⟨rfl, rfl⟩
set_option maxHeartbeats 1000000 in
set_option maxRecDepth 100000 in
theorem stmIs_zero (w : World) (z : Nat) (h : w.cell? ⟨z, 0, none⟩ = some (.int .i64 0)) : Calls Tryz.prog 55 #[.pointer (some ⟨z, 0, none⟩)] w fun e w' => e = .returned (.bool false) ∧ w = w' := by
  go_enter Tryz.func55, Tryz.ntmps55
  go_wp2
  go_ret
  exact ⟨rfl, rfl⟩
theorem stmIs_not (v : Value) (w : World) (h : NotStm w v) : Calls Tryz.prog 55 #[v] w fun e w' => e = .returned (.bool false) ∧ w = w' := by
  rcases h with rfl | ⟨z, rfl, hz⟩
  · exact stmIs_nil w
  · exact stmIs_zero w z hz
set_option maxHeartbeats 1000000 in
set_option maxRecDepth 100000 in
theorem stmIs_any (sb : Nat) (w : World) (h : w.cell? ⟨sb, 0, none⟩ = some (.int .i64 1)) : Calls Tryz.prog 55 #[.pointer (some ⟨sb, 0, none⟩)] w fun e w' => e = .returned (.bool true) ∧ w = w' := by
  go_enter Tryz.func55, Tryz.ntmps55
  go_wp2
  go_ret
  exact ⟨rfl, rfl⟩
set_option maxHeartbeats 1000000 in
set_option maxRecDepth 100000 in
theorem push_not (v : Value) (r : Int) (w : World) (h : NotStm w v) : Calls Tryz.prog 22 #[v, .int .i32 r] w fun e w' => e = .returned (.tuple #[.slice none 0 0, .int .i64 60]) ∧ w = w' := by
  have HI := Lib.hid (stmIs_not v w h)
  clear h
  go_enter Tryz.func22, Tryz.ntmps22
  go_wp2_with fail
  refine HI.out.mono ?_
  rintro e w1 ⟨rfl, rfl⟩
  go_wp2_with fail
  go_ret2
  exact ⟨rfl, rfl⟩
set_option maxHeartbeats 1000000 in
set_option maxRecDepth 100000 in
theorem end_not (v : Value) (w : World) (h : NotStm w v) : Calls Tryz.prog 27 #[v] w fun e w' => e = .returned (.slice none 0 0) ∧ w = w' := by
  have HI := Lib.hid (stmIs_not v w h)
  clear h
  go_enter Tryz.func27, Tryz.ntmps27
  go_wp2_with fail
  refine HI.out.mono ?_
  rintro e w1 ⟨rfl, rfl⟩
  go_wp2_with fail
  go_ret
  exact ⟨rfl, rfl⟩
set_option maxHeartbeats 1000000 in
set_option maxRecDepth 100000 in
theorem held_not (v : Value) (w : World) (h : NotStm w v) : Calls Tryz.prog 24 #[v] w fun e w' => e = .returned (.int .i64 0) ∧ w = w' := by
  have HI := Lib.hid (stmIs_not v w h)
  clear h
  go_enter Tryz.func24, Tryz.ntmps24
  go_wp2_with fail
  refine HI.out.mono ?_
  rintro e w1 ⟨rfl, rfl⟩
  go_wp2_with fail
  go_ret
  exact ⟨rfl, rfl⟩
set_option maxHeartbeats 1000000 in
set_option maxRecDepth 100000 in
theorem held_any (sb : Nat) (rv : Value) (p : Option Addr) (n c : Nat) (w : World) (h : StmAt w sb rv (.slice p n c)) : Calls Tryz.prog 24 #[.pointer (some ⟨sb, 0, none⟩)] w fun e w' => e = .returned (.int .i64 n) ∧ w = w' := by
  obtain ⟨c0, c1, c2, _⟩ := h.cells
  have HI := Lib.hid (stmIs_any sb w c0)
  clear h c0
  go_enter Tryz.func24, Tryz.ntmps24
  go_wp2_with fail
  refine HI.out.mono ?_
  rintro e w1 ⟨rfl, rfl⟩
  go_wp2_with fail
  go_ret
  exact ⟨rfl, rfl⟩
set_option maxHeartbeats 1000000 in
set_option maxRecDepth 100000 in
theorem snew_any (rp : Option Addr) (w : World) : Calls Tryz.prog 21 #[.pointer rp] w fun e w' => e = .returned (.pointer (some ⟨w.heap.size, 0, none⟩)) ∧ StmAt w' w.heap.size (.pointer rp) (.slice none 0 0) ∧ Below w.heap.size w w' := by
  go_enter Tryz.func21, Tryz.ntmps21
  go_wp2
  go_ret
  exact ⟨rfl, World.alloc_heap_new _ _, (Below.refl _ _).alloc (Nat.le_refl _) _⟩
theorem keepS {w V w5 : World} {sb : Nat} {a b : Value} (h : V.cell? ⟨sb, 1, none⟩ = some a ∧ V.cell? ⟨sb, 2, none⟩ = some b ∧ Below w.heap.size w V) (ht : sb < w.heap.size) (hb : Below V.heap.size V w5) :
    w5.cell? ⟨sb, 1, none⟩ = some a ∧ w5.cell? ⟨sb, 2, none⟩ = some b ∧ Below w.heap.size w w5 := by
  have hs := h.2.2.size
  exact ⟨(hb.cell (p := ⟨sb, 1, none⟩) (by show sb < _; omega)).trans h.1, (hb.cell (p := ⟨sb, 2, none⟩) (by show sb < _; omega)).trans h.2.1, h.2.2.trans (hb.mono hs)⟩
set_option maxHeartbeats 4000000 in
set_option maxRecDepth 1000000 in
theorem end_any (f : Int → Int) (dc : Int → List Int) (rp : Option Addr) (S : Nat → Prop) (J : (Nat → Prop) → World → Prop) (Z : Nat → Prop) (sb B : Nat) (hv : Value) (H : List Int) (w : World) (hN : Norm f dc (.pointer rp) S J) (hs : StmAt w sb (.pointer rp) hv)
    (hrow : w.ownsRow B 21 1 hv H.length (H.map (Value.int .i32))) (hnil : H = [] → hv = .slice none 0 0) (hl : H.length ≤ 1000000) (hj : J Z w) (hZ : ∀ b, Z b → b ≠ sb) (hns : hv.ownBlock ≠ some sb) :
    Calls Tryz.prog 27 #[.pointer (some ⟨sb, 0, none⟩)] w fun e w' => (∃ v', e = .returned v' ∧ IntsIn (fun b => w.heap.size ≤ b) .i32 w' v' (ordL f H) ∧ (H = [] → v' = .slice none 0 0)) ∧ StmAt w' sb (.pointer rp) (.slice none 0 0) ∧ J Z w' ∧ Only (fun b => b = sb) w w' := by
  obtain ⟨c0, c1, c2, c3⟩ := hs.cells
  have hlt := hs.lt
  have HI := Lib.hid (stmIs_any sb w c0)
  have HS := Lib.hid hs
  have HN := Lib.hid hN
  have HJ := Lib.hid hj
  have HZ := Lib.hid hZ
  have key : ∃ p n c, hv = .slice p n c ∧ ∀ W, Below w.heap.size w W → Calls Tryz.prog 30 #[.pointer rp, hv] W fun e w' => (∃ v', e = .returned v' ∧ IntsIn (fun b => w.heap.size ≤ b) .i32 w' v' (ordL f H) ∧ (H = [] → v' = .slice none 0 0)) ∧ J Z w' ∧ Below W.heap.size W w' := by
    by_cases h0 : H = []
    · have hv0 := hnil h0
      subst h0 hv0
      refine ⟨none, 0, 0, rfl, fun W hW => ?_⟩
      refine (order_nil (.pointer rp) W).mono ?_
      rintro e w' ⟨rfl, hb⟩
      exact ⟨⟨_, rfl, .nil _ _ _, fun _ => rfl⟩, hN.kept _ _ _ hj (Kept.below (hW.trans (hb.mono hW.size))), hb⟩
    · have hpos : 0 < H.length := List.length_pos_iff.2 h0
      have hii := ints_of_own32 hrow
      obtain ⟨p, cap, e, hh⟩ := hii
      refine ⟨p, _, cap, e, fun W hW => ?_⟩
      have hii2 := (show IntsIn _ .i32 w hv H from ⟨p, cap, e, hh⟩).kept (Kept.below hW)
      refine (order_any f (.pointer rp) W.heap.size (J (fun b => Z b ∧ b < W.heap.size)) _ H hv W (hN.num _ W.heap.size (fun b hb => hb.2)) (Nat.le_refl _) hii2 hpos hl (hN.bound _ _ (hN.kept _ _ _ hj (Kept.below hW)))).mono ?_
      rintro e w' ⟨⟨v', h1, h2⟩, h3, h4⟩
      exact ⟨⟨v', h1, h2.mono (fun b hb _ => Nat.le_trans hW.size hb), fun e => absurd e h0⟩, hN.mono _ _ _ h3 (fun b hb => hb.1), h4⟩
  obtain ⟨p, n, c, rfl, hor⟩ := key
  have HOR := Lib.hid hor
  clear hs hN hj hZ hrow hnil hor c0 c3
  go_enter Tryz.func27, Tryz.ntmps27
  go_wp2_with fail
  refine HI.out.mono ?_
  rintro e w1 ⟨rfl, rfl⟩
  go_wp2_with fail
  go_region_held (fun V : World => V.cell? ⟨sb, 1, none⟩ = some (.pointer rp) ∧ V.cell? ⟨sb, 2, none⟩ = some (.slice p n c) ∧ Below w.heap.size w V) (first | exact ⟨c1, c2, (Below.refl _ _).drew⟩ | exact keepS (by assumption) hlt (by assumption)) ((refine (HOR.out _ (by first | exact (Below.refl _ _).drew | assumption)).mono ?_; rintro e w5 ⟨⟨v5, rfl, hi5, hn5⟩, hj5, hb5⟩; have HNI5 := Lib.hid hn5; have HI5 := Lib.hid hi5; have HJ5 := Lib.hid hj5; have HB5 := Lib.hid hb5))
  rename_i hheld
  have hst5 : StmAt w5 sb (.pointer rp) (.slice p n c) := HS.out.block (hheld.2.2.block sb hlt)
  obtain ⟨_, _, d2, z2⟩ := hst5.cells
  have HST5 := Lib.hid hst5
  have HBL := Lib.hid hheld.2.2
  clear hst5 hheld hi5 hj5 hb5 c1 c2 hn5
  go_wp2
  go_ret
  exact ⟨⟨_, rfl, HI5.out.kept (kept_setCell (fun b hb => by omega)), HNI5.out⟩, HST5.out.put _, HN.out.kept _ _ _ HJ5.out (kept_setCell HZ.out), ((Only.refl (fun b => b = sb) w).below HBL.out).setCell (p := ⟨sb, 2, none⟩) rfl _⟩
end Go.Proofs.YtlldoofclaokgaaGreat
/-! norm.Stream: Push. -/
namespace Go.Proofs.YtlldoofclaokgaaGreat
open Go.RowKit

def pushStep (f : Int → Int) (s : List Int × List Int) (x : Int) : List Int × List Int := if f x = 0 then (s.1 ++ ordL f s.2, [] ++ [x]) else (s.1, s.2 ++ [x])
/-- what a push tells, and what is held then -/
def pushL (f : Int → Int) (H D : List Int) : List Int × List Int := D.foldl (pushStep f) ([], H)
theorem pushL_step {f : Int → Int} {H D : List Int} {k : Nat} {x : Int} (hx : D[k]? = some x) : pushL f H (D.take (k + 1)) = pushStep f (pushL f H (D.take k)) x := by
  unfold pushL; rw [take_snoc hx, List.foldl_append]; rfl
theorem pushStep_len (f : Int → Int) (s : List Int × List Int) (x : Int) : (pushStep f s x).1.length + (pushStep f s x).2.length = s.1.length + s.2.length + 1 := by
  unfold pushStep
  split
  · simp [ordL_len]; try omega
  · simp; try omega
theorem pushL_len (f : Int → Int) (H D : List Int) : (pushL f H D).1.length + (pushL f H D).2.length = H.length + D.length := by
  unfold pushL
  have : ∀ (D : List Int) (s : List Int × List Int), (D.foldl (pushStep f) s).1.length + (D.foldl (pushStep f) s).2.length = s.1.length + s.2.length + D.length := by
    intro D
    induction D with
    | nil => intro s; simp
    | cons x xs ih => intro s; rw [List.foldl_cons, ih, pushStep_len]; simp; omega
  have := this D ([], H)
  simpa using this
/-- append of a slice of ours, or of nothing, to a row of our own -/
theorem run_append_nothing {P : Program} (w : World) (t ty e : TypeId) (i : TypeInfo) (ht : P.underlying t = some (.slice e)) (hi : P.info? e = some i) (p : Option Addr) (n cap : Nat) (hn : n ≤ cap) :
    (Builtin.append_ #[t, t] ty #[.slice p n cap, .slice none 0 0]).run P w = .ok (.slice p n cap) w := by
  cases p <;> simp [Builtin.append_, run_underlying ht, sizeOf, typeInfo, hi, Builtin.lenOf, Builtin.firstCells, loadCells, loadCellsFrom, storeCells, hn]
theorem wpList_append_ints {ops : Array Oper} {rest : List Oper} {o : Oper} {a : Act} {Q : Exit → Act → World → Prop} (w : World) (hgd : o.guard = none) (s x : Operand)
    (ho : o.op = .call { callee := .builtin .append, args := #[s, x], argTypes := #[48, 48] }) (base : Nat) (v : Value) (ys : List Int) (hs : a.eval s = v) (hown : w.ownsRow base 21 1 v ys.length (ys.map (Value.int .i32)))
    (xv : Value) (xs : List Int) (R : Nat → Prop) (hx : a.eval x = xv) (hin : IntsIn R .i32 w xv xs) (hnil : xs = [] → xv = .slice none 0 0) (hlen : ys.length + xs.length ≤ 100000000) (hbase : base ≤ w.heap.size)
    (h : ∀ v' w', w'.ownsRow base 21 1 v' (ys ++ xs).length ((ys ++ xs).map (Value.int .i32)) → w.grownBy w' v.ownBlock → (∀ j, v'.ownBlock = some j → v.ownBlock = some j ∨ w.heap.size ≤ j) → wpList Tryz.prog ops Q rest (a.put o.dst v') w') :
    wpList Tryz.prog ops Q (o :: rest) a w := by
  obtain ⟨i0, hi, hz0, hz1, hz2⟩ := info_parts Tryz.infoI32
  by_cases h0 : xs = []
  · have hv := hnil h0
    subst h0 hv
    refine wpList_plain hgd fun K hK => ?_
    have hvs : ∃ p n cap, v = .slice p n cap ∧ n ≤ cap := by
      rcases hown.2 with ⟨rfl, _⟩ | ⟨g, cap, cur, rfl, _, _, h1, _⟩
      · exact ⟨none, 0, 0, rfl, Nat.le_refl _⟩
      · exact ⟨_, _, _, rfl, h1⟩
    obtain ⟨p, n, cap, rfl, hnc⟩ := hvs
    have hr := run_append_nothing (P := Tryz.prog) w 48 o.type 21 i0 Tryz.underlying48 hi p n cap hnc
    unfold Oper.wp execOp
    simp only [ho, resolve, invoke, builtin, Sem.run_bind, Sem.run_pure, Result.andThen_ok, List.map_toArray, List.map_cons, List.map_nil, hs, hx, hr]
    exact hK _ _ (h _ _ (by rw [List.append_nil]; exact hown) ⟨rfl, rfl, rfl, Nat.le_refl _, fun _ _ _ => rfl⟩ (fun j hj => .inl hj))
  · obtain ⟨g5, o5, c5, rfl, _, _, hc5⟩ := hin.place (List.length_pos_iff.2 h0)
    refine wpList_append_own_at w hgd s x 48 ho base 21 i0 (.int .i32 0) 1 4 Tryz.underlying48 hi hz0 hz1 hz2 rfl (by decide) v ys.length (ys.map (Value.int .i32)) hs hown ⟨g5, o5, none⟩ xs.length c5 (xs.map (Value.int .i32)) hx (by simp) (news_of hc5) (by simp [Value.oneCell']) (by unfold maxLen; omega) (by omega) hbase ?_
    intro v' w' h1 h2 _ h4
    refine h v' w' (by rw [List.length_append, List.map_append]; exact h1) h2 (fun j hj => ?_)
    rcases h4 with e | e
    · exact .inl (e ▸ hj)
    · rw [e] at hj; cases hj; exact .inr (Nat.le_refl _)
theorem Only.weaken {S S' : Nat → Prop} {a b : World} (h : Only S a b) (hs : ∀ k, S k → S' k) : Only S' a b := ⟨h.os, h.tape, h.output, h.size, fun k hk hn => h.block k hk (fun e => hn (hs k e))⟩
def Zk (R : Nat → Prop) (sb : Nat) (hv0 ov hvc : Value) : Nat → Prop := fun b => R b ∧ b ≠ sb ∧ hv0.ownBlock ≠ some b ∧ ov.ownBlock ≠ some b ∧ hvc.ownBlock ≠ some b
/-- between two rounds of Push -/
structure PushAt (J : (Nat → Prop) → World → Prop) (S R : Nat → Prop) (rv : Value) (sb B : Nat) (hv0 : Value) (w0 : World) (dv : Value) (D O : List Int) (ov : Value) (H : List Int) (hvc : Value) (W : World) : Prop where
  orow : W.ownsRow w0.heap.size 21 1 ov O.length (O.map (Value.int .i32))
  hrow : W.ownsRow B 21 1 hvc H.length (H.map (Value.int .i32))
  hnil : H = [] → hvc = .slice none 0 0
  stm : StmAt W sb rv hvc
  osb : ov.ownBlock ≠ some sb
  hsb : hvc.ownBlock ≠ some sb
  sep : ∀ j, ov.ownBlock = some j → hvc.ownBlock ≠ some j
  data : J (Zk R sb hv0 ov hvc) W
  dec : IntsIn (fun b => Zk R sb hv0 ov hvc b ∧ ¬ S b) .i32 W dv D
  only : Only (fun b => S b ∨ b = sb ∨ hv0.ownBlock = some b) w0 W
  hown : ∀ j, hvc.ownBlock = some j → hv0.ownBlock = some j ∨ w0.heap.size ≤ j
section
variable {f : Int → Int} {dc : Int → List Int} {J : (Nat → Prop) → World → Prop} {S R : Nat → Prop} {rv : Value} {sb B : Nat} {hv0 : Value} {w0 : World} {dv : Value} {D O : List Int} {ov : Value} {H : List Int} {hvc : Value} {W : World}
theorem PushAt.below (hN : Norm f dc rv S J) (h : PushAt J S R rv sb B hv0 w0 dv D O ov H hvc W) {W1 : World} (hb : Below W.heap.size W W1) : PushAt J S R rv sb B hv0 w0 dv D O ov H hvc W1 where
  orow := ownsRow_block h.orow (fun j _ hl => hb.block j hl)
  hrow := ownsRow_block h.hrow (fun j _ hl => hb.block j hl)
  hnil := h.hnil
  stm := h.stm.block (hb.block _ h.stm.lt)
  osb := h.osb
  hsb := h.hsb
  sep := h.sep
  data := hN.kept _ _ _ h.data (Kept.below hb)
  dec := h.dec.kept (Kept.below hb)
  only := h.only.below hb
  hown := h.hown
theorem PushAt.ended (hN : Norm f dc rv S J) (h : PushAt J S R rv sb B hv0 w0 dv D O ov H hvc W) {W1 : World} (hst : StmAt W1 sb rv (.slice none 0 0)) (hj : J (Zk R sb hv0 ov hvc) W1) (ho : Only (fun b => b = sb) W W1) : PushAt J S R rv sb B hv0 w0 dv D O ov [] (.slice none 0 0) W1 where
  orow := ownsRow_block h.orow (fun j hj hl => ho.block j hl (fun e => h.osb (e ▸ hj)))
  hrow := ⟨rfl, .inl ⟨rfl, rfl⟩⟩
  hnil := fun _ => rfl
  stm := hst
  osb := h.osb
  hsb := fun e => by cases e
  sep := fun j _ e => by cases e
  data := hN.mono _ _ _ hj (fun b hb => ⟨hb.1, hb.2.1, hb.2.2.1, hb.2.2.2.1, fun e => by cases e⟩)
  dec := (h.dec.kept (Kept.only ho (fun b hb => hb.1.2.1))).mono (fun b hb _ => ⟨⟨hb.1.1, hb.1.2.1, hb.1.2.2.1, hb.1.2.2.2.1, fun e => by cases e⟩, hb.2⟩)
  only := h.only.trans (ho.weaken (fun k hk => .inr (.inl hk)))
  hown := fun j e => by cases e
theorem PushAt.outgrown (hN : Norm f dc rv S J) (h : PushAt J S R rv sb B hv0 w0 dv D O ov H hvc W) {O2 : List Int} {ov2 : Value} {W2 : World} (hrow : W2.ownsRow w0.heap.size 21 1 ov2 O2.length (O2.map (Value.int .i32))) (hg : W.grownBy W2 ov.ownBlock)
    (hown : ∀ j, ov2.ownBlock = some j → ov.ownBlock = some j ∨ W.heap.size ≤ j) : PushAt J S R rv sb B hv0 w0 dv D O2 ov2 H hvc W2 where
  orow := hrow
  hrow := ownsRow_block h.hrow (fun j hj hl => hg.block j hl (fun e => h.sep j e.symm hj))
  hnil := h.hnil
  stm := h.stm.block (hg.block _ h.stm.lt (fun e => h.osb e.symm))
  osb := fun e => by
    rcases hown _ e with h' | h'
    · exact h.osb h'
    · have := h.stm.lt; omega
  hsb := h.hsb
  sep := fun j hj e => by
    rcases hown _ hj with h' | h'
    · exact h.sep j h' e
    · have := (ownsRow_own h.hrow e).2; omega
  data := by
    have h1 := hN.kept _ _ _ (hN.bound _ _ h.data) (Kept.grown (R := fun b => Zk R sb hv0 ov hvc b ∧ b < W.heap.size) hg (fun b hb e => hb.1.2.2.2.1 e.symm))
    refine hN.mono _ _ _ h1 (fun b hb => ⟨hb.1.1, hb.1.2.1, hb.1.2.2.1, fun e => ?_, hb.1.2.2.2.2⟩)
    rcases hown b e with h' | h'
    · exact hb.1.2.2.2.1 h'
    · have := hb.2; omega
  dec := by
    have h1 := (h.dec.mono (S := fun b => (Zk R sb hv0 ov hvc b ∧ ¬ S b) ∧ b < W.heap.size) (fun b hb hl => ⟨hb, hl⟩)).kept (Kept.grown hg (fun b hb e => hb.1.1.2.2.2.1 e.symm))
    refine h1.mono (fun b hb _ => ⟨⟨hb.1.1.1, hb.1.1.2.1, hb.1.1.2.2.1, fun e => ?_, hb.1.1.2.2.2.2⟩, hb.1.2⟩)
    rcases hown b e with h' | h'
    · exact hb.1.1.2.2.2.1 h'
    · have := hb.2; omega
  only := h.only.grown hg (fun j hj => (ownsRow_own h.orow hj).1)
  hown := h.hown
theorem PushAt.heldgrown (hN : Norm f dc rv S J) (h : PushAt J S R rv sb B hv0 w0 dv D O ov H hvc W) {H2 : List Int} {hv2 : Value} {W2 : World} (hrow : W2.ownsRow B 21 1 hv2 H2.length (H2.map (Value.int .i32))) (hg : W.grownBy W2 hvc.ownBlock)
    (hown : ∀ j, hv2.ownBlock = some j → hvc.ownBlock = some j ∨ W.heap.size ≤ j) (hne : H2 ≠ []) : PushAt J S R rv sb B hv0 w0 dv D O ov H2 hv2 (W2.setCell ⟨sb, 2, none⟩ hv2) := by
  have hsb2 : hv2.ownBlock ≠ some sb := fun e => by
    rcases hown _ e with h' | h'
    · exact h.hsb h'
    · have := h.stm.lt; omega
  have hset : ∀ j, j ≠ sb → (W2.setCell ⟨sb, 2, none⟩ hv2).heap[j]? = W2.heap[j]? := fun j hj => Below.heap_setCell _ _ _ _ hj
  refine ⟨?_, ?_, fun e => absurd e hne, ?_, h.osb, hsb2, ?_, ?_, ?_, ?_, ?_⟩
  · refine ownsRow_block (W := W2) (ownsRow_block h.orow (fun j hj hl => hg.block j hl (fun e => h.sep j hj e.symm))) (fun j hj hl => hset j (fun e => h.osb (e ▸ hj)))
  · exact ownsRow_block hrow (fun j hj hl => hset j (fun e => hsb2 (e ▸ hj)))
  · exact (h.stm.block (hg.block _ h.stm.lt (fun e => h.hsb e.symm))).put _
  · intro j hj e
    rcases hown _ e with h' | h'
    · exact h.sep j hj h'
    · have := (ownsRow_own h.orow hj).2; omega
  · have h1 := hN.kept _ _ _ (hN.bound _ _ h.data) (Kept.grown (R := fun b => Zk R sb hv0 ov hvc b ∧ b < W.heap.size) hg (fun b hb e => hb.1.2.2.2.2 e.symm))
    have h2 := hN.kept _ _ (W2.setCell ⟨sb, 2, none⟩ hv2) h1 (kept_setCell (fun b hb => hb.1.2.1))
    refine hN.mono _ _ _ h2 (fun b hb => ⟨hb.1.1, hb.1.2.1, hb.1.2.2.1, hb.1.2.2.2.1, fun e => ?_⟩)
    rcases hown b e with h' | h'
    · exact hb.1.2.2.2.2 h'
    · have := hb.2; omega
  · have h1 := (h.dec.mono (S := fun b => (Zk R sb hv0 ov hvc b ∧ ¬ S b) ∧ b < W.heap.size) (fun b hb hl => ⟨hb, hl⟩)).kept (Kept.grown hg (fun b hb e => hb.1.1.2.2.2.2 e.symm))
    have h2 := h1.kept (w' := W2.setCell ⟨sb, 2, none⟩ hv2) (kept_setCell (fun b hb => hb.1.1.2.1))
    refine h2.mono (fun b hb _ => ⟨⟨hb.1.1.1, hb.1.1.2.1, hb.1.1.2.2.1, hb.1.1.2.2.2.1, fun e => ?_⟩, hb.1.2⟩)
    rcases hown b e with h' | h'
    · exact hb.1.1.2.2.2.2 h'
    · have := hb.2; omega
  · refine ⟨hg.os.trans h.only.os, hg.tape.trans h.only.tape, hg.output.trans h.only.output, ?_, fun k hk hn => ?_⟩
    · have := h.only.size; have := hg.size; simp [World.setCell]; omega
    · have hks : k ≠ sb := fun e => hn (.inr (.inl e))
      rw [hset k hks, hg.block k (Nat.lt_of_lt_of_le hk h.only.size) (fun e => ?_), h.only.block k hk hn]
      rcases h.hown k e.symm with h' | h'
      · exact hn (.inr (.inr h'))
      · omega
  · intro j hj
    rcases hown _ hj with h' | h'
    · exact h.hown j h'
    · have := h.only.size; exact .inr (by omega)
end
/-- a stream in memory, with what it holds and what it asks -/
structure StmOk (J : (Nat → Prop) → World → Prop) (R : Nat → Prop) (rv : Value) (sb B : Nat) (H : List Int) (hv : Value) (W : World) : Prop where
  row : W.ownsRow B 21 1 hv H.length (H.map (Value.int .i32))
  nil : H = [] → hv = .slice none 0 0
  stm : StmAt W sb rv hv
  hsb : hv.ownBlock ≠ some sb
  data : J (fun b => R b ∧ b ≠ sb ∧ hv.ownBlock ≠ some b) W
/-- what Push tells -/
def PushTold (f : Int → Int) (J : (Nat → Prop) → World → Prop) (S R : Nat → Prop) (rv : Value) (sb B : Nat) (H D : List Int) (hv : Value) (w : World) (e : Ending) (w' : World) : Prop :=
  ∃ ov hv', e = .returned (.tuple #[ov, .int .i64 0]) ∧ IntsIn (fun b => w.heap.size ≤ b ∧ hv'.ownBlock ≠ some b) .i32 w' ov (pushL f H D).1 ∧ StmOk J R rv sb B (pushL f H D).2 hv' w' ∧
    Only (fun b => S b ∨ b = sb ∨ hv.ownBlock = some b) w w' ∧ ∀ j, hv'.ownBlock = some j → hv.ownBlock = some j ∨ w.heap.size ≤ j
end Go.Proofs.YtlldoofclaokgaaGreat
/-! norm.Stream: Push, walked. -/
namespace Go.Proofs.YtlldoofclaokgaaGreat
open Go.RowKit

set_option maxHeartbeats 1000000 in
set_option maxRecDepth 100000 in
theorem push_bad (sb : Nat) (rv hv : Value) (r : Int) (w : World) (hs : StmAt w sb rv hv) (hr : sc r = false) : Calls Tryz.prog 22 #[.pointer (some ⟨sb, 0, none⟩), .int .i32 r] w fun e w' => e = .returned (.tuple #[.slice none 0 0, .int .i64 41]) ∧ w = w' := by
  have HI := Lib.hid (stmIs_any sb w hs.cells.1)
  have HCA : Hid (Calls Tryz.prog 56 #[.int .i32 r] w fun e w' => e = .returned (.bool false) ∧ w = w') := by have := scalar_any r w; rwa [hr] at this
  clear hs hr
  go_enter Tryz.func22, Tryz.ntmps22
  go_wp2_with fail
  refine HI.out.mono ?_
  rintro e w1 ⟨rfl, rfl⟩
  go_wp2_with fail
  refine HCA.out.mono ?_
  rintro e w1 ⟨rfl, rfl⟩
  go_wp2_with fail
  go_ret2
  exact ⟨rfl, rfl⟩
set_option maxHeartbeats 8000000 in
set_option maxRecDepth 1000000 in
theorem push_any (f : Int → Int) (dc : Int → List Int) (rp : Option Addr) (S : Nat → Prop) (J : (Nat → Prop) → World → Prop) (R : Nat → Prop) (sb B : Nat) (hv : Value) (H : List Int) (r : Int) (w : World) (hN : Norm f dc (.pointer rp) S J) (hR : ∀ b, w.heap.size ≤ b → R b) (hB : B ≤ w.heap.size)
    (hs : StmOk J R (.pointer rp) sb B H hv w) (hr : sc r = true) (hl : H.length ≤ 500000) :
    Calls Tryz.prog 22 #[.pointer (some ⟨sb, 0, none⟩), .int .i32 r] w (PushTold f J S R (.pointer rp) sb B H (dc r) hv w) := by
  obtain ⟨i0, hi, hz0, hz1, hz2⟩ := info_parts Tryz.infoI32
  have hmf : ∀ (fn : Fn) (first cap : Array Value) (w : World), (Instr.makeFunc fn first cap).run Tryz.prog w = .ok (.func fn first cap) w := fun _ _ _ _ => rfl
  obtain ⟨c0, c1, c2, _⟩ := hs.stm.cells
  have HI := Lib.hid (stmIs_any sb w c0)
  have HCA : Hid (Calls Tryz.prog 56 #[.int .i32 r] w fun e w' => e = .returned (.bool true) ∧ w = w') := by have := scalar_any r w; rwa [hr] at this
  have HS := Lib.hid hs
  have HN := Lib.hid hN
  have HR := Lib.hid hR
  have HBS := Lib.hid hB
  have hrb := sc_bd' hr
  have hlt := hs.stm.lt
  have hdec := hN.dec (fun b => R b ∧ b ≠ sb ∧ hv.ownBlock ≠ some b) r w (fun b hb => ⟨hR b hb, by omega, fun e => by have := (ownsRow_own hs.row e).2; omega⟩) hs.data ⟨by omega, by omega⟩
  have HDL := Lib.hid (hN.dlen r)
  clear hs hN hR hB hr hrb c0
  go_enter Tryz.func22, Tryz.ntmps22
  go_wp2_with fail
  refine HI.out.mono ?_
  rintro e w1 ⟨rfl, rfl⟩
  go_wp2_with fail
  refine HCA.out.mono ?_
  rintro e w1 ⟨rfl, rfl⟩
  go_wp2_with fail
  with_reducible refine hdec.mono ?_
  rintro e w1 ⟨⟨dv, rfl, hr1⟩, hj1, ho1⟩
  have HAT0 : Hid (PushAt J S R (.pointer rp) sb B hv w dv (dc r) [] (.slice none 0 0) H hv w1) := by
    have hS := fun k (hk : S k) => HN.out.own _ _ _ HS.out.data hk
    refine ⟨⟨rfl, .inl ⟨rfl, rfl⟩⟩, ownsRow_block HS.out.row (fun j hj hl => ho1.block j hl (fun hs => (hS j hs).1.2.2 hj)), HS.out.nil, HS.out.stm.block (ho1.block _ HS.out.stm.lt (fun hs => (hS _ hs).1.2.1 rfl)), fun e => (by cases e), HS.out.hsb, fun j e => (by cases e), ?_, ?_, ?_, fun j hj => .inl hj⟩
    · exact HN.out.mono _ _ _ hj1 (fun b hb => ⟨hb.1, hb.2.1, hb.2.2, fun e => (by cases e), hb.2.2⟩)
    · refine (ints_of_own32 hr1).mono (fun b hb _ => ⟨⟨HR.out b hb.1, ?_, ?_, fun e => (by cases e), ?_⟩, ?_⟩)
      · intro e; have := HS.out.stm.lt; have := hb.1; omega
      · intro e; have := (ownsRow_own HS.out.row e).2; have := hb.1; omega
      · intro e; have := (ownsRow_own HS.out.row e).2; have := hb.1; omega
      · intro e; have := (hS b e).2; have := hb.1; omega
    · exact ho1.weaken (fun k hk => .inl hk)
  obtain ⟨p, cap, rfl, hcap, _⟩ := ints_of_own32 hr1
  obtain ⟨n, hn⟩ : ∃ n, n = (dc r).length := ⟨_, rfl⟩
  have hn7 := HDL.out
  rw [← hn] at hcap hn7 HAT0 ⊢
  have HNL := Lib.hid hn
  clear hr1 hj1 ho1 hdec c1 c2 hn
  go_wp2_with fail
  go_loopw [6, 9, 27] (fun ov _ iv W => ∃ (k : Nat) (hvc : Value), iv = .int .i64 k ∧ k ≤ n ∧ PushAt J S R (.pointer rp) sb B hv w (.slice p n cap) (dc r) (pushL f H ((dc r).take k)).1 ov (pushL f H ((dc r).take k)).2 hvc W) (fun _ _ iv _ => n - (intOf iv).toNat)
  case atStart => exact ⟨0, hv, rfl, Nat.zero_le _, HAT0.out⟩
  case round =>
    obtain ⟨k, hvc, rfl, hkn, hat⟩ := hrel
    have HAT := Lib.hid hat
    by_cases hlt2 : k < n
    · have g1 : (k : Int) < (n : Int) := by omega
      obtain ⟨x, hx⟩ : ∃ x, (dc r)[k]? = some x := ⟨(dc r)[k]'(by rw [← HNL.out]; exact hlt2), List.getElem?_eq_getElem _⟩
      obtain ⟨p', cap', he, _, hc⟩ := hat.dec
      injection he with he1 he2 he3
      obtain ⟨b, o, hp, hqb, hbl, c0⟩ := hc k x hx
      subst he1 hp
      have HX := Lib.hid (pushL_step (f := f) (H := H) hx)
      have hpl := pushL_len f H ((dc r).take k)
      rw [List.length_take] at hpl
      obtain ⟨O, hO⟩ : ∃ O, O = (pushL f H ((dc r).take k)).1 := ⟨_, rfl⟩
      obtain ⟨G, hG⟩ : ∃ G, G = (pushL f H ((dc r).take k)).2 := ⟨_, rfl⟩
      rw [← hO, ← hG] at hpl HAT hat
      have HOG : Hid (pushL f H ((dc r).take (k + 1)) = pushStep f (O, G) x) := by show _ = _; rw [HX.out, hO, hG]
      have hol : O.length + G.length ≤ 600000 := by omega
      obtain ⟨c0', c1, c2, c3⟩ := hat.stm.cells
      obtain ⟨q, hq⟩ : ∃ q, q = f x := ⟨_, rfl⟩
      have hca := HN.out.cls _ x _ hat.data
      rw [← hq] at hca
      have HQ := Lib.hid hq
      have hltw := hat.stm.lt
      clear hat hc hx he2 he3 HX hO hG hpl hq c0' c2 c3
      by_cases hq0 : q = 0
      · subst hq0
        go_wp2_with fail
        with_reducible refine hca.mono ?_
        rintro e w2 ⟨rfl, hb2⟩
        have HAT2 := Lib.hid (HAT.out.below HN.out hb2)
        clear hca hb2 HAT c0 c1
        have hen := end_any f dc rp S J _ sb B hvc G _ HN.out HAT2.out.stm HAT2.out.hrow HAT2.out.hnil (by omega) HAT2.out.data (fun b hb => hb.2.1) HAT2.out.hsb
        go_wp2_with fail
        with_reducible refine hen.mono ?_
        rintro e w3 ⟨⟨v3, rfl, hi3, hn3⟩, hst3, hj3, ho3⟩
        have HAT3 := Lib.hid (HAT2.out.ended HN.out hst3 hj3 ho3)
        have HI3 := Lib.hid hi3
        have HNI3 : Hid (ordL f G = [] → v3 = .slice none 0 0) := fun h => hn3 (List.eq_nil_of_length_eq_zero (by rw [← ordL_len f G, h]; rfl))
        have hol3 : O.length + (ordL f G).length ≤ 100000000 := by rw [ordL_len]; omega
        have hsz3 := HAT3.out.only.size
        clear hen hi3 hn3 hst3 hj3 ho3 HAT2
        go_wp2_with (at_builtin; refine app_stop ⟨_, _, rfl⟩ ?_)
        refine Lib.hid ?_
        refine wpList_append_ints _ rfl _ _ rfl w.heap.size _ O rfl HAT3.out.orow v3 (ordL f G) _ rfl HI3.out HNI3.out hol3 hsz3 ?_
        intro v6 w6 hrow6 hg6 how6
        have HAT6 := Lib.hid (HAT3.out.outgrown HN.out hrow6 hg6 how6)
        clear hrow6 hg6 how6 HAT3 HI3 HNI3
        obtain ⟨d0, d1, d2, d3⟩ := HAT6.out.stm.cells
        have hltx := HAT6.out.stm.lt
        have HATA := Lib.hid (HAT6.out.below HN.out ((Below.refl _ w6).alloc (Nat.le_refl _) (.cells #[.int .i32 x] 21)))
        have hsza := HATA.out.only.size
        have hba : B ≤ (w6.alloc (.cells #[.int .i32 x] 21)).heap.size := by have := HBS.out; omega
        clear d0 d1 d3
        go_wp2_with (at_builtin; refine app_stop ⟨_, _, rfl⟩ ?_)
        refine Lib.hid ?_
        refine wpList_append_own_at _ rfl _ _ 48 rfl B 21 i0 (.int .i32 0) 1 4 Tryz.underlying48 hi hz0 hz1 hz2 rfl (by decide) _ ([] : List Int).length (([] : List Int).map (Value.int .i32)) rfl HATA.out.hrow ⟨w6.heap.size, 0, none⟩ 1 1 [.int .i32 x] rfl rfl (cell_one_new _ _ _) (by simp [Value.oneCell']) (by unfold maxLen; (try simp only [List.length_nil]); omega) (by (try simp only [List.length_nil]); omega) hba ?_
        intro v7 w7 hrow7 hg7 _ how7
        obtain ⟨g7, n7, cap7, rfl⟩ : ∃ g7 n7 cap7, v7 = .slice (some ⟨g7, 0, none⟩) n7 cap7 := by
          rcases hrow7.2 with ⟨_, h⟩ | ⟨g7, cap7, _, h, _⟩
          · omega
          · exact ⟨g7, _, cap7, h⟩
        have HAT8 := Lib.hid (HATA.out.heldgrown HN.out (H2 := ([] : List Int) ++ [x]) (by rw [List.length_append, List.map_append]; exact hrow7) hg7 (fun j hj => by
          rcases how7 with e | e
          · exact .inl (e ▸ hj)
          · rw [e] at hj; cases hj; exact .inr (Nat.le_refl _)) (by simp))
        have hst7 : StmAt w7 sb (.pointer rp) (.slice none 0 0) := HATA.out.stm.block (hg7.block _ HATA.out.stm.lt (fun e => HATA.out.hsb e.symm))
        obtain ⟨_, _, e2, z2⟩ := hst7.cells
        clear hrow7 hg7 how7 hst7 HATA d2 hsza hba
        go_wp2_with fail
        go_roundw
        case rel => exact ⟨k + 1, _, by go_num, by omega, by rw [HOG.out]; unfold pushStep; rw [if_pos HQ.out.symm]; exact HAT8.out⟩
        case measure => (show n - ((k : Int) + 1).toNat < n - (k : Int).toNat; omega)
      · have g2 : ¬ (q = 0) := hq0
        go_wp2_with fail
        with_reducible refine hca.mono ?_
        rintro e w2 ⟨rfl, hb2⟩
        have HAT2 := Lib.hid (HAT.out.below HN.out hb2)
        clear hca hb2 HAT c0 c1
        obtain ⟨d0, d1, d2, d3⟩ := HAT2.out.stm.cells
        have hltx := HAT2.out.stm.lt
        have HATA := Lib.hid (HAT2.out.below HN.out ((Below.refl _ w2).alloc (Nat.le_refl _) (.cells #[.int .i32 x] 21)))
        have hsza := HATA.out.only.size
        have hba : B ≤ (w2.alloc (.cells #[.int .i32 x] 21)).heap.size := by have := HBS.out; omega
        clear d0 d1 d3
        go_wp2_with (at_builtin; refine app_stop ⟨_, _, rfl⟩ ?_)
        refine Lib.hid ?_
        refine wpList_append_own_at _ rfl _ _ 48 rfl B 21 i0 (.int .i32 0) 1 4 Tryz.underlying48 hi hz0 hz1 hz2 rfl (by decide) _ G.length (G.map (Value.int .i32)) rfl HATA.out.hrow ⟨w2.heap.size, 0, none⟩ 1 1 [.int .i32 x] rfl rfl (cell_one_new _ _ _) (by simp [Value.oneCell']) (by unfold maxLen; (try simp only [List.length_nil]); omega) (by (try simp only [List.length_nil]); omega) hba ?_
        intro v7 w7 hrow7 hg7 _ how7
        obtain ⟨g7, n7, cap7, rfl⟩ : ∃ g7 n7 cap7, v7 = .slice (some ⟨g7, 0, none⟩) n7 cap7 := by
          rcases hrow7.2 with ⟨_, h⟩ | ⟨g7, cap7, _, h, _⟩
          · omega
          · exact ⟨g7, _, cap7, h⟩
        have HAT8 := Lib.hid (HATA.out.heldgrown HN.out (H2 := G ++ [x]) (by rw [List.length_append, List.map_append]; exact hrow7) hg7 (fun j hj => by
          rcases how7 with e | e
          · exact .inl (e ▸ hj)
          · rw [e] at hj; cases hj; exact .inr (Nat.le_refl _)) (by simp))
        have hst7 : StmAt w7 sb (.pointer rp) hvc := HATA.out.stm.block (hg7.block _ HATA.out.stm.lt (fun e => HATA.out.hsb e.symm))
        obtain ⟨_, _, e2, z2⟩ := hst7.cells
        clear hrow7 hg7 how7 hst7 HATA d2 hsza hba
        go_wp2_with fail
        go_roundw
        case rel => exact ⟨k + 1, _, by go_num, by omega, by rw [HOG.out]; unfold pushStep; rw [if_neg (fun e => hq0 (HQ.out.trans e))]; exact HAT8.out⟩
        case measure => (show n - ((k : Int) + 1).toNat < n - (k : Int).toNat; omega)
    · have g1 : ¬ ((k : Int) < (n : Int)) := by omega
      obtain rfl : k = n := by omega
      have htk : (dc r).take k = dc r := List.take_of_length_le (by rw [← HNL.out]; exact Nat.le_refl _)
      rw [htk] at HAT
      clear hat
      go_wp2_with fail
      go_ret2
      refine ⟨_, hvc, rfl, ?_, ⟨HAT.out.hrow, HAT.out.hnil, HAT.out.stm, HAT.out.hsb, ?_⟩, HAT.out.only, HAT.out.hown⟩
      · exact (ints_of_own32 HAT.out.orow).mono (fun b hb _ => ⟨hb.1, HAT.out.sep b hb.2⟩)
      · exact HN.out.mono _ _ _ HAT.out.data (fun b hb => ⟨hb.1, hb.2.1, hb.2.2.2.2⟩)
end Go.Proofs.YtlldoofclaokgaaGreat
