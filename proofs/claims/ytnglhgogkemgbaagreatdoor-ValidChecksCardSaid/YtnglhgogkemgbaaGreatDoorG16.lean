/- Package valid: Small: walked. -/
import Derived.Test.YtnglhgogkemgbaaGreatDoorG06
import Derived.Test.YtnglhgogkemgbaaGreatDoorG07
import Derived.Test.YtnglhgogkemgbaaGreatDoorG10
import Derived.Test.YtnglhgogkemgbaaGreatDoorG11
import Derived.Test.YtnglhgogkemgbaaGreatDoorG15
import Derived.Shelf.Abstract
namespace Go.Proofs.YtnglhgogkemgbaaGreatDoor
open Go.RowKit
open PlainAid (bt)
attribute [local go_sem] Oper.semAt_some

/-- two cells of an entry -/
def EbAt (W : World) (b : Nat) (c u : Value) : Prop := W.heap[b]? = some (.cells #[c, u] 45 (0, 0))
theorem EbAt.cells {W : World} {b : Nat} {c u : Value} (h : EbAt W b c u) : W.cell? ⟨b, 0, none⟩ = some c ∧ W.cell? ⟨b, 1, none⟩ = some u ∧ (∀ o, W.frozen? ⟨b, o, none⟩ = false) ∧ b < W.heap.size :=
  ⟨by simp [World.cell?, show W.heap[b]? = _ from h], by simp [World.cell?, show W.heap[b]? = _ from h], fun o => by simp [World.frozen?, show W.heap[b]? = _ from h], (Array.getElem?_eq_some_iff.1 h).1⟩
theorem EbAt.put0 {W : World} {b : Nat} {c u : Value} (h : EbAt W b c u) (v : Value) : EbAt (W.setCell ⟨b, 0, none⟩ v) b v u := by
  unfold EbAt at *
  unfold World.setCell
  simp [Array.getElem?_modify, h]
theorem EbAt.put1 {W : World} {b : Nat} {c u : Value} (h : EbAt W b c u) (v : Value) : EbAt (W.setCell ⟨b, 1, none⟩ v) b c v := by
  unfold EbAt at *
  unfold World.setCell
  simp [Array.getElem?_modify, h]
theorem EbAt.below {W W' : World} {b : Nat} {c u : Value} (h : EbAt W b c u) (hb : Below W.heap.size W W') : EbAt W' b c u := (hb.block b h.cells.2.2.2).trans h
theorem EbAt.grown {W W' : World} {b : Nat} {c u : Value} {row : Option Nat} {o : Obj} (h : EbAt W b c u) (hg : (W.alloc o).grownBy W' row) (hr : ∀ k, row = some k → k ≠ b) : EbAt W' b c u := by
  have h1 : EbAt (W.alloc o) b c u := h.below ((Below.refl _ _).alloc (Nat.le_refl _) _)
  exact (hg.block b h1.cells.2.2.2 (fun e => hr b e.symm rfl)).trans h1
theorem onlyGrown {S : Nat → Prop} {a b c : World} {row : Option Nat} (h : Only S a b) (hg : b.grownBy c row) (hr : ∀ j, row = some j → a.heap.size ≤ j) : Only S a c :=
  ⟨hg.os.trans h.os, hg.tape.trans h.tape, hg.output.trans h.output, Nat.le_trans h.size hg.size, fun i hi hs => (hg.block i (Nat.lt_of_lt_of_le hi h.size) (fun e => by have := hr i e.symm; omega)).trans (h.block i hi hs)⟩
theorem rowPut {B : Nat} {e : TypeId} {k : Nat} {v : Value} {n : Nat} {xs : List Value} {w : World} (h : w.ownsRow B e k v n xs) {p : Addr} (hp : p.block < B) (u : Value) : (w.setCell p u).ownsRow B e k v n xs := by
  obtain ⟨h1, h2⟩ := h
  refine ⟨h1, h2.imp id ?_⟩
  rintro ⟨g, cap, cur, e1, e2, e3, e4⟩
  refine ⟨g, cap, cur, e1, e2, ?_, e4⟩
  rw [Below.heap_setCell _ _ _ _ (by omega)]; exact e3
theorem lvS_or (s : ByteArray) : lvS s = 0 ∨ 0 < lvS s := by unfold lvS lvl; repeat' split; all_goals omega
theorem readV_fine (s : ByteArray) (h : goodB s = true) (hc : chkS s = 0) : readV s = .tuple #[elAgg (elS s), .int .i64 17, .int .i64 0] := by
  unfold readV; rw [if_pos h, if_pos hc]; rfl
/-- a text's length -/
def strLn : Value → Nat
  | .string s => s.size
  | _ => 0
theorem dropExtract (l : Bs) (n : Nat) : ((mkB l).extract n (mkB l).size).data.toList = l.drop n := by rw [Lib.extract_to_end, data_mkB]
theorem emptyMkB (l : Bs) (h : l ≠ []) : (mkB l).toList.isEmpty = false := by
  rw [Lib.toList_data, data_mkB]
  cases l with
  | nil => exact absurd rfl h
  | cons => rfl
theorem good17 (s : ByteArray) (h : goodB s = true) : 17 ≤ s.size := by
  unfold goodB at h; simp at h; exact h.1.1
/-- lengths and letters of a line's parts -/
def okLine2 (l : Bs) : Bool := decide ((Lib.trimSpace l).length ≤ 1000) && decide ((cutL l).1.length ≤ 1000) && decide ((cutL l).2.1.length ≤ 1000) && (cutL l).1.all (fun b => decide (b.toNat < 128))
set_option maxRecDepth 1000000 in
theorem smallL_ok2 : smallL.all okLine2 = true := by decide +kernel
def uniCells : Array Value := #[.int .i32 13312, .int .i32 19893, .int .i64 64384, .bool false, .int .i32 19968, .int .i32 40917, .int .i64 64320, .bool false, .int .i32 94208, .int .i32 100332, .int .i64 64256, .bool true, .int .i32 131072, .int .i32 173782, .int .i64 64384, .bool false]
theorem unified_any (w : World) :
    Calls Tryz.prog 31 #[] w fun e w' => e = .returned (.slice (some ⟨w.heap.size, 0, none⟩) 4 4) ∧ w.alloc (.cells uniCells 136) = w' := by
  go_enter Tryz.func31, Tryz.ntmps31
  go_wp2
  go_ret
  exact ⟨rfl, rfl⟩
/-- entries while they are read: the source at block sb, what it owns from block B on -/
def SmW (B sb : Nat) (sv rv : Value) (es : List Ent) (W : World) : Prop :=
  ∃ ev vs, W.heap[sb]? = some (.cells #[sv, rv, ev] 25 (0, 0)) ∧ W.ownsRow B 45 2 ev es.length (flatVs vs) ∧ vs.length = es.length ∧
    ∀ (j : Nat) x, es[j]? = some x → ∃ c u, vs[j]? = some (c, u) ∧ IntsIn (Lf B W) .i32 W c x.1 ∧ ElsIn (Lf B W) W u x.2
theorem SmW.sameC {B sb : Nat} {sv rv : Value} {es : List Ent} {W W' : World} (h : SmW B sb sv rv es W) (hz : W.heap.size ≤ W'.heap.size) (hk : ∀ k c t fr, W.heap[k]? = some (.cells c t fr) → (k = sb ∨ B ≤ k) → W'.heap[k]? = W.heap[k]?) : SmW B sb sv rv es W' := by
  obtain ⟨ev, vs, h1, h2, h3, h4⟩ := h
  have hlf : ∀ b, Lf B W b → Lf B W' b := fun b hb => by
    obtain ⟨e1, c, t, e2, e3⟩ := hb
    exact ⟨e1, c, t, (hk b _ _ _ e2 (.inr e1)).trans e2, e3⟩
  have hkp : Kept (Lf B W) W W' := ⟨hz, fun b hb hl => by obtain ⟨e1, c, t, e2, _⟩ := hb; exact hk b _ _ _ e2 (.inr e1)⟩
  refine ⟨ev, vs, (hk sb _ _ _ h1 (.inl rfl)).trans h1, ?_, h3, fun j x hx => ?_⟩
  · obtain ⟨g1, g2⟩ := h2
    refine ⟨g1, g2.imp id ?_⟩
    rintro ⟨g, cap, cur, e1, e2, e3, e4⟩
    exact ⟨g, cap, cur, e1, e2, (hk g _ _ _ e3 (.inr e2)).trans e3, e4⟩
  · obtain ⟨c, u, g1, g2, g3⟩ := h4 j x hx
    exact ⟨c, u, g1, (g2.kept hkp).mono (fun b hb _ => hlf b hb), (g3.kept hkp).mono (fun b hb _ => hlf b hb)⟩
theorem SmW.same {B sb : Nat} {sv rv : Value} {es : List Ent} {W W' : World} (h : SmW B sb sv rv es W) (hz : W.heap.size ≤ W'.heap.size) (hk : ∀ k, k < W.heap.size → (k = sb ∨ B ≤ k) → W'.heap[k]? = W.heap[k]?) : SmW B sb sv rv es W' :=
  h.sameC hz (fun k c t fr h1 h2 => hk k (Array.getElem?_eq_some_iff.1 h1).1 h2)
theorem SmW.lt {B sb : Nat} {sv rv : Value} {es : List Ent} {W : World} (h : SmW B sb sv rv es W) : sb < W.heap.size := by
  obtain ⟨ev, vs, h1, _⟩ := h; exact (Array.getElem?_eq_some_iff.1 h1).1
theorem SmW.push {B sb : Nat} {sv rv ev v' c u : Value} {es : List Ent} {x : Ent} {vs : List (Value × Value)} {W w2 : World} (hsb : W.heap[sb]? = some (.cells #[sv, rv, ev] 25 (0, 0))) (hrow : W.ownsRow B 45 2 ev es.length (flatVs vs)) (hvl : vs.length = es.length)
    (hvals : ∀ (j : Nat) x, es[j]? = some x → ∃ c u, vs[j]? = some (c, u) ∧ IntsIn (Lf B W) .i32 W c x.1 ∧ ElsIn (Lf B W) W u x.2) (hc : IntsIn (Lf B W) .i32 W c x.1) (hu : ElsIn (Lf B W) W u x.2)
    (hown : w2.ownsRow B 45 2 v' (es.length + 1) (flatVs vs ++ [c, u])) (hg : (W.alloc (.cells #[c, u] 45)).grownBy w2 ev.ownBlock) :
    SmW B sb sv rv (es ++ [x]) (w2.setCell ⟨sb, 2, none⟩ v') ∧ Only (fun k => k = sb ∨ ev.ownBlock = some k) W (w2.setCell ⟨sb, 2, none⟩ v') := by
  have hal : Below W.heap.size W (W.alloc (.cells #[c, u] 45)) := (Below.refl _ _).alloc (Nat.le_refl _) _
  have hev : ∀ k, ev.ownBlock = some k → ∃ cur, W.heap[k]? = some (.cells cur 45 (0, 0)) := fun k hk => by
    rcases hrow.2 with ⟨rfl, _⟩ | ⟨g, cap, cur, rfl, _, e3, _⟩
    · cases hk
    · cases hk; exact ⟨cur, e3⟩
  have keep : ∀ {g : Nat} {c' : Array Value} {t : TypeId} {fr : Nat × Nat}, W.heap[g]? = some (.cells c' t fr) → t ≠ 45 → w2.heap[g]? = W.heap[g]? := fun {g} {c'} {t} {fr} hc' ht => by
    have hl := (Array.getElem?_eq_some_iff.1 hc').1
    rw [hg.block g (by simp; omega) (fun e => by obtain ⟨cur, h⟩ := hev g e.symm; rw [hc'] at h; cases h; exact ht rfl), hal.block g hl]
  have hother : ∀ k, k ≠ sb → (w2.setCell ⟨sb, 2, none⟩ v').heap[k]? = w2.heap[k]? := fun k hk => Below.heap_setCell _ _ _ _ hk
  have hz : (w2.setCell ⟨sb, 2, none⟩ v').heap.size = w2.heap.size := by simp [World.setCell]
  have hz2 : W.heap.size ≤ w2.heap.size := by have := hg.size; simp at this; omega
  have s2 := (keep hsb (by decide)).trans hsb
  have hlf : ∀ (b : Nat), Lf B W b → (w2.setCell ⟨sb, 2, none⟩ v').heap[b]? = W.heap[b]? := fun b hb => by
    obtain ⟨hbA, c', t, h3, h4⟩ := hb
    rw [hother b (fun e => by subst e; rw [hsb] at h3; cases h3; rcases h4 with h4 | h4 <;> cases h4)]
    exact keep h3 (by rcases h4 with h4 | h4 <;> (rw [h4]; decide))
  have hk : Kept (Lf B W) W (w2.setCell ⟨sb, 2, none⟩ v') := ⟨by rw [hz]; exact hz2, fun b hb _ => hlf b hb⟩
  refine ⟨⟨v', vs ++ [(c, u)], ?_, ?_, by simp [hvl], fun j y hy => ?_⟩, ?_⟩
  · unfold World.setCell
    simp [Array.getElem?_modify, s2]
  · have h3 : (w2.setCell ⟨sb, 2, none⟩ v').ownsRow B 45 2 v' (es.length + 1) (flatVs vs ++ [c, u]) := by
      obtain ⟨g1, g2⟩ := hown
      refine ⟨g1, g2.imp id ?_⟩
      rintro ⟨g, cap, cur, e1, e2, e3, e4⟩
      exact ⟨g, cap, cur, e1, e2, (hother g (fun e => by subst e; rw [s2] at e3; cases e3)).trans e3, e4⟩
    have h4 : flatVs (vs ++ [(c, u)]) = flatVs vs ++ [c, u] := by simp [flatVs]
    rw [h4, List.length_append]
    exact h3
  · rcases Nat.lt_or_ge j es.length with hj | hj
    · rw [List.getElem?_append_left hj] at hy
      obtain ⟨c', u', g1, g2, g3⟩ := hvals j y hy
      exact ⟨c', u', by rw [List.getElem?_append_left (by omega)]; exact g1, g2.lf hk (Nat.le_refl _), g3.lf hk (Nat.le_refl _)⟩
    · have hje : j = es.length := by
        have := (List.getElem?_eq_some_iff.1 hy).1
        simp at this; omega
      subst hje
      simp at hy
      subst hy
      exact ⟨c, u, by rw [← hvl]; simp, hc.lf hk (Nat.le_refl _), hu.lf hk (Nat.le_refl _)⟩
  · have h0 : Only (fun k => k = sb ∨ ev.ownBlock = some k) W w2 :=
      ⟨hg.os.trans hal.os, hg.tape.trans hal.tape, hg.output.trans hal.output, hz2, fun k hk hs => (hg.block k (by simp; omega) (fun e => hs (.inr e.symm))).trans (hal.block k hk)⟩
    exact h0.setCell (p := ⟨sb, 2, none⟩) (.inl rfl) _
theorem elsS_nil (f : Nat) : elsS f [] = [] := by cases f <;> simp [elsS]
theorem alloc3M {w : World} {o0 o1 o2 o3 : Obj} {W : World} (h : ((((w.alloc o0).alloc o1).alloc o2).alloc o3) = W) :
    W.heap.size = w.heap.size + 4 ∧ W.heap[w.heap.size]? = some o0 ∧ W.heap[w.heap.size + 1]? = some o1 ∧ W.heap[w.heap.size + 2]? = some o2 ∧ W.heap[w.heap.size + 3]? = some o3 ∧ Below w.heap.size w W := by
  subst h
  have key : ∀ (v : World) (o : Obj) (n : Nat), v.heap.size = n → (v.alloc o).heap[n]? = some o ∧ (v.alloc o).heap.size = n + 1 ∧ ∀ k, k < n → (v.alloc o).heap[k]? = v.heap[k]? := fun v o n hn => by
    subst hn
    exact ⟨World.alloc_heap_new v o, by simp, fun k hk => Below.heap_alloc _ _ _ hk⟩
  have a0 := key w o0 _ rfl
  have a1 := key _ o1 _ a0.2.1
  have a2 := key _ o2 _ a1.2.1
  have a3 := key _ o3 _ a2.2.1
  refine ⟨a3.2.1, ?_, ?_, ?_, a3.1, ?_⟩
  · rw [a3.2.2 _ (by omega), a2.2.2 _ (by omega), a1.2.2 _ (by omega)]; exact a0.1
  · rw [a3.2.2 _ (by omega), a2.2.2 _ (by omega)]; exact a1.1
  · rw [a3.2.2 _ (by omega)]; exact a2.1
  · exact ((((Below.refl _ w).alloc (Nat.le_refl _) _).alloc (by omega) _).alloc (by omega) _).alloc (by omega) _
def uniRv (w : World) : Value := .slice (some ⟨w.heap.size + 1, 0, none⟩) 4 4
def srcV : Value := .string ⟨#[115, 109, 97, 108, 108, 45, 49]⟩
/-- behind i lines -/
def SmI (D sb b : Nat) (rv : Value) (w0 : World) (i : Nat) (W : World) : Prop :=
  SmW (D + 2) sb srcV rv ((smallL.take i).filterMap lineEnt) W ∧ Only (fun k => k = sb ∨ k = b ∨ D ≤ k) w0 W ∧ HasS b W
theorem three_put {W : World} {b : Nat} {x y z : Value} {t : TypeId} (h : W.heap[b]? = some (.cells #[x, y, z] t (0, 0))) (x' y' z' : Value) :
    (((W.setCell ⟨b, 0, none⟩ x').setCell ⟨b, 1, none⟩ y').setCell ⟨b, 2, none⟩ z').heap[b]? = some (.cells #[x', y', z'] t (0, 0)) := by
  unfold World.setCell
  simp [Array.getElem?_modify, h]
theorem onlyPut {S : Nat → Prop} {a b : World} (h : Only S a b) {D : Nat} (hD : S D) (o : Obj) : Only S a (b.putObj D o) :=
  h.trans ⟨rfl, rfl, rfl, by simp [World.putObj], fun k _ hk => World.putObj_heap_other (fun e => hk (e ▸ hD))⟩
theorem HasS.of {b : Nat} {A B : World} (h : HasS b A) (hk : b < A.heap.size → B.heap[b]? = A.heap[b]?) : HasS b B := by
  obtain ⟨s, hs⟩ := h
  exact ⟨s, (hk (Array.getElem?_eq_some_iff.1 hs).1).trans hs⟩
/-- how Small ends -/
def SmallEnd (w : World) (e : Ending) (w' : World) : Prop :=
  Below w.heap.size w w' ∧ ∃ rv ev, e = .returned (.agg #[srcV, rv, ev]) ∧ w'.heap[w.heap.size + 1]? = some (.cells uniCells 136 (0, 0)) ∧ rv = uniRv w ∧ ∃ sb, w.heap.size ≤ sb ∧ SmW (w.heap.size + 6) sb srcV rv smallE w' ∧ w'.cell? ⟨sb, 2, none⟩ = some ev ∧ sb < w.heap.size + 6
set_option maxHeartbeats 4000000 in
set_option maxRecDepth 1000000 in
theorem small_any (w : World) (hm : MS w) : Calls Tryz.prog 12 #[] w (SmallEnd w) := by
  obtain ⟨i0, hi, hz0, hz1, hz2⟩ := info_parts Tryz.infoI32
  obtain ⟨i1, hi1, hy0, hy1, hy2⟩ := info_parts Tryz.infoE
  obtain ⟨i2, hi2, hx0, hx1, hx2⟩ := info_parts Tryz.infoN
  have HM := Lib.hid hm
  refine callsIn_wide (n := 0) |>.1 ?_
  refine callsIn_of_wp_marks Tryz.func12 rfl trivial ?_ rfl
  obtain ⟨S, hS⟩ : ∃ S, smallB = S := ⟨_, rfl⟩
  have HS := Lib.hid hS
  delta smallB at hS
  simp only [Tryz.ntmps12, List.size_toArray, List.length_cons, List.length_nil, Nat.reduceAdd, Nat.reduceSub, Array.replicate_succ, Array.replicate_zero, List.push_toArray, List.append_toArray, List.nil_append, List.cons_append]
  rw [hS]
  clear hS
  gi_wp2_with fail
  refine ⟨trivial, rfl, (callsIn_wide.2 (unified_any _)).mono ?_⟩
  rintro e w1 ⟨rfl, hw1⟩
  gi_wp2_with fail
  refine ⟨trivial, rfl, (callsIn_wide.2 (lines_fn _ _)).mono ?_⟩
  rintro e w2 ⟨rfl, hw2⟩
  gi_wp2_with fail
  have hz1 : w1.heap.size = w.heap.size + 2 := by rw [← hw1]; simp
  obtain ⟨hz2, ho0, ho1, ho2, ho3, hbw⟩ := alloc3M (w := w) (W := w2) (by rw [← hw2, ← hw1])
  have HZ2 := Lib.hid hz2
  have HBW := Lib.hid hbw
  have HO := Lib.hid (And.intro ho0 (And.intro ho1 (And.intro ho2 ho3)))
  simp only [hz1, Nat.add_assoc, Nat.reduceAdd]
  obtain ⟨D, hD⟩ : ∃ D, D = w2.heap.size := ⟨_, rfl⟩
  have HD := Lib.hid hD
  have HL : Hid (LinesOk smallL ∧ restL smallL 0 = S.data.toList ∧ S.size ≤ 10000) := by
    refine ⟨fun l hl => ?_, ?_, ?_⟩
    · have h := List.all_eq_true.1 smallL_ok l hl
      unfold okLine at h
      simp only [Bool.and_eq_true, decide_eq_true_eq] at h
      obtain ⟨⟨⟨⟨_, h1⟩, h2⟩, _⟩, _⟩ := h
      obtain ⟨t, rfl⟩ := List.getLast?_eq_some_iff.1 h1
      refine ⟨t, rfl, fun b hb => ?_⟩
      rw [List.dropLast_concat] at h2
      have := List.all_eq_true.1 h2 b hb
      simpa using this
    · rw [← HS.out]; unfold restL smallL; rw [List.drop_zero]; exact linesN_flat _
    · rw [← HS.out]; exact smallL_len.2
  have HLI := Lib.hid (lines_iter smallL HL.out.1 (by rw [HL.out.2.1]; have h1 := HL.out.2.2; have h2 : S.data.toList.length = S.size := (Lib.size_eq S).symm; omega) (w.heap.size + 3) (D + 2))
  have HI0 : Hid (SmI D (w.heap.size + 2) (w.heap.size + 3) (uniRv w) w2 0 w2) := by
    refine ⟨⟨.slice none 0 0, [], ho2, World.ownsRow_nil _ _ _ _, rfl, fun j x hx => by simp at hx⟩, Only.refl _ _, ⟨_, ho3⟩⟩
  clear hz1 hz2 ho0 ho1 ho2 ho3 hbw hw1 hw2
  refine wp_rangeB (gf := 65) (lb := #[.pointer (some ⟨w.heap.size + 3, 0, none⟩)]) rfl (enters_of Tryz.func65 (by kernel_rfl) rfl) (by rw [← hD]; exact HLI.out) ?hInit
    (fun (A B C : World) (h : KeepL (w.heap.size + 3) A B) k => ⟨Nat.le_trans h.1 k.1, k.2.trans h.2⟩) (fun A o => ?hKp) ?hps (SmI D (w.heap.size + 2) (w.heap.size + 3) (uniRv w) w2) (fun c W => False) ?hI ?hIx ?hIT (fun _ _ _ h _ => h) ?hT ?hPre (fun _ _ h => h.elim) HI0.out ?hround ?hdone (fun _ _ _ _ h => h.elim)
  case hInit =>
    intro W1 h1
    rw [HL.out.2.1, mkB_data]
    exact (h1.block (w.heap.size + 3) (Array.getElem?_eq_some_iff.1 HO.out.2.2.2).1).trans HO.out.2.2.2
  case hKp =>
    have h1 := HD.out
    have h2 := HZ2.out
    exact ⟨by simp [World.putObj], World.putObj_heap_other (by omega)⟩
  case hps => rintro i A vs j ⟨x, _, rfl, _⟩; rfl
  case hI =>
    have h1 := HD.out
    have h2 := HZ2.out
    rw [← hD]
    refine ⟨fun i A o h hA => ⟨h.1.same (by simp) (fun k hk _ => Below.heap_alloc _ _ _ hk), h.2.1.alloc o, h.2.2.of (fun hb => Below.heap_alloc _ _ _ hb)⟩, fun i A o h => ⟨h.1.same (by simp [World.putObj]) (fun k hk hs => World.putObj_heap_other (by omega)), onlyPut h.2.1 (.inr (.inr (by omega))) o, h.2.2.of (fun hb => World.putObj_heap_other (by omega))⟩⟩
  case hIx => exact ⟨fun _ _ _ h _ => h.elim, fun _ _ _ h => h.elim⟩
  case hIT =>
    have h1 := HD.out
    have h2 := HZ2.out
    exact fun i A B h ht => ⟨h.1.same ht.1.size (fun k hk hs => ht.1.block k hk (by omega)), h.2.1.trans ⟨ht.1.os, ht.1.tape, ht.1.output, ht.1.size, fun k hk hn => ht.1.block k hk (fun e => hn (.inr (.inl e)))⟩, ht.2 h.2.2⟩
  case hT =>
    have h1 := HD.out
    have h2 := HZ2.out
    exact fun A B ht k h3 h4 h5 => ht.1.block k h5 (by omega)
  case hPre => exact fun i A h => h.2.2
  case hround =>
    rintro l i A vs j ⟨hsm, ho, hb⟩ ⟨x, hx, rfl, rfl, hbx⟩ hA
    have hxm : x ∈ smallL := List.mem_of_getElem? hx
    have hok := List.all_eq_true.1 smallL_ok x hxm
    have hok2 := List.all_eq_true.1 smallL_ok2 x hxm
    have HSN : Hid ((smallL.take (i + 1)).filterMap lineEnt = (smallL.take i).filterMap lineEnt ++ [x].filterMap lineEnt) := by
      show _ = _
      rw [take_snocR hx, List.filterMap_append]
    have HLE : Hid (((smallL.take i).filterMap lineEnt).length ≤ 200) := by
      show _ ≤ _
      have h1 := List.length_filterMap_le lineEnt (smallL.take i)
      have h2 := smallL_len.1
      rw [List.length_take] at h1
      omega
    generalize (smallL.take i).filterMap lineEnt = es at *
    unfold okLine at hok
    unfold okLine2 at hok2
    simp only [Bool.and_eq_true, decide_eq_true_eq] at hok hok2
    obtain ⟨⟨⟨⟨k1, _⟩, _⟩, k4⟩, k5⟩ := hok
    obtain ⟨⟨⟨q1, q2⟩, q3⟩, q4⟩ := hok2
    have HEN : Hid (lineEnt x = if (cutL x).2.2 = true then some ((Lib.fields (cutL x).1).map hexS, elsS 8 (cutL x).2.1) else none) := rfl
    have htr := fun w hm => trimSpaceS_any (mkB x) w (by rw [size_mkB]; omega) (fun j b hb => by rw [data_mkB] at hb; simpa using List.all_eq_true.1 k4 b (List.mem_of_getElem? hb)) hm
    rw [data_mkB] at htr
    have hcu := fun w hm => cutS_any (mkB (Lib.trimSpace x)) ⟨#[32, 59, 32]⟩ w (by rw [size_mkB]; omega) hm
    rw [data_mkB] at hcu
    have hcl : Lib.cut (Lib.trimSpace x) (⟨#[32, 59, 32]⟩ : ByteArray).data.toList = cutL x := rfl
    rw [hcl] at hcu
    clear hcl
    generalize cutL x = cx at *
    obtain ⟨cd, el, is⟩ := cx
    simp only at k5 q2 q3 q4 HEN hcu
    have HTR := Lib.hid htr
    have HCU := Lib.hid hcu
    have HSM := Lib.hid hsm
    have HO := Lib.hid (And.intro ho (And.intro hb hA))
    rw [← HD.out] at hA ⊢
    have HAD := Lib.hid hA
    clear hsm ho hb hbx hxm hx k1 k4 q1 htr hcu hA
    simp
    gi_wp2
    refine ⟨fun _ _ _ => by first | rfl | trivial, ⟨Nat.le_refl _, by first | rfl | trivial⟩, fun o => ?_⟩
    obtain ⟨A2, hA2⟩ : ∃ A2, A.putObj (D + 1) o = A2 := ⟨_, rfl⟩
    rw [hA2]
    have h1 := HD.out
    have h2 := HZ2.out
    have hOA : Only (fun k => k = D + 1) A A2 := by rw [← hA2]; exact onlyPut (S := fun k => k = D + 1) (Only.refl _ _) rfl o
    have HWA : Hid (Below w.heap.size w A2) := by
      have h3 := HO.out.1
      exact HBW.out.trans ⟨hOA.os.trans h3.os, hOA.tape.trans h3.tape, hOA.output.trans h3.output, Nat.le_trans h3.size hOA.size, fun k hk => (hOA.block k (by have := h3.size; omega) (by omega)).trans (h3.block k (by omega) (by omega))⟩
    have HM2 : Hid (MS A2) := HM.out.below HWA.out
    have HA2 : Hid (SmW (D + 2) (w.heap.size + 2) srcV (uniRv w) es A2 ∧ Only (fun k => k = w.heap.size + 2 ∨ k = w.heap.size + 3 ∨ D ≤ k) w2 A2 ∧ HasS (w.heap.size + 3) A2 ∧ Only (fun k => k = D + 1) A A2 ∧ D + 2 ≤ A.heap.size) :=
      ⟨HSM.out.same hOA.size (fun k hk hs => hOA.block k hk (by omega)), HO.out.1.trans ⟨hOA.os, hOA.tape, hOA.output, hOA.size, fun k hk hn => hOA.block k hk (by omega)⟩, HO.out.2.1.of (fun hk => hOA.block _ hk (by omega)), hOA, HAD.out⟩
    clear HSM HO hOA hA2
    gi_wp2_with fail
    refine ⟨trivial, rfl, (callsIn_wide.2 (HTR.out _ HM2.out)).mono ?_⟩
    rintro e A3 ⟨rfl, hb3⟩
    have HM3 := Lib.hid (HM2.out.below hb3)
    have HB3 := Lib.hid hb3
    clear hb3
    gi_wp2_with fail
    refine ⟨trivial, rfl, (callsIn_wide.2 (HCU.out _ HM3.out)).mono ?_⟩
    rintro e A4 ⟨rfl, hb4⟩
    have HM4 := Lib.hid (HM3.out.below hb4)
    have HB4 := Lib.hid (HB3.out.trans (hb4.mono HB3.out.size))
    clear hb4 HM3 HB3 HM2 HTR HCU
    cases is with
    | false =>
      gi_wp2_with fail
      refine ⟨fun k h3 h4 => HB4.out.block k (by have := HAD.out; have := HA2.out.2.2.2.1.size; omega), ⟨HB4.out.size, HB4.out.block _ (Array.getElem?_eq_some_iff.1 HA2.out.2.2.1.choose_spec).1⟩, ?_⟩
      refine ⟨?_, HA2.out.2.1.trans ⟨HB4.out.os, HB4.out.tape, HB4.out.output, HB4.out.size, fun k hk _ => HB4.out.block k hk⟩, HA2.out.2.2.1.of (fun hk => HB4.out.block _ hk)⟩
      rw [HSN.out, show [x].filterMap lineEnt = [] from by simp [HEN.out], List.append_nil]
      exact HA2.out.1.same HB4.out.size (fun k hk _ => HB4.out.block k hk)
    | true =>
      obtain ⟨k5, k6, k7⟩ : (Lib.fields cd).length ≤ 8 ∧ (Lib.fields cd).all okHexS = true ∧ okElsS 8 el = true := by simpa [and_assoc] using k5
      have hfl := fun w hm => fieldsS_any (mkB cd) w (by rw [size_mkB]; omega) (fun j b hb => by rw [data_mkB] at hb; simpa using List.all_eq_true.1 q4 b (List.mem_of_getElem? hb)) hm
      rw [data_mkB] at hfl
      have HEN2 : Hid ([x].filterMap lineEnt = [((Lib.fields cd).map hexS, elsS 8 el)]) := by show _ = _; simp [HEN.out]
      clear HEN
      generalize Lib.fields cd = cs at *
      have HK6 := Lib.hid k6
      have HK7 := Lib.hid k7
      have HQ3 := Lib.hid q3
      have HFL := Lib.hid hfl
      have HM5 : Hid (MS (A4.alloc (.cells #[.slice none 0 0, .slice none 0 0] 45))) := HM4.out.below ((Below.refl _ _).alloc (Nat.le_refl _) _)
      clear hfl k6 k7 q2 q3 q4 HM4
      gi_wp2_with fail
      refine ⟨trivial, rfl, (callsIn_wide.2 (HFL.out _ HM5.out)).mono ?_⟩
      rintro e A5 ⟨v5, rfl, hst, hb5⟩
      have hE5 : EbAt A5 A4.heap.size (.slice none 0 0) (.slice none 0 0) := EbAt.below (World.alloc_heap_new A4 _) hb5
      have HB5 : Hid (Below A4.heap.size A4 A5) := ((Below.refl _ _).alloc (Nat.le_refl _) _).trans (hb5.mono (by simp))
      obtain ⟨sA, rfl, hsA, hAl, hsx⟩ := hst
      have HSA : Hid (A4.heap.size < sA) := by show _ < _; simp at hsA; omega
      have HSX := Lib.hid (And.intro hAl hsx)
      have HE5 := Lib.hid hE5
      obtain ⟨n, hn⟩ : ∃ n, n = cs.length := ⟨_, rfl⟩
      rw [← hn]
      have HN := Lib.hid hn
      have HN8 := Lib.hid k5
      obtain ⟨eb, heb⟩ : ∃ eb, eb = A4.heap.size := ⟨_, rfl⟩
      have HEB := Lib.hid heb
      rw [← heb] at HE5 HSA
      rw [← heb]
      clear hE5 hb5 hsA hAl hsx HFL hn k5 heb
      gi_wp2_with fail
      gi_loopw [30] (fun iv wr => ∃ (k : Nat) (cv : Value), iv = .int .i64 k ∧ k ≤ n ∧ EbAt wr eb cv (.slice none 0 0) ∧ wr.ownsRow A5.heap.size 21 1 cv k ((cs.take k).map (fun c => Value.int .i32 (hexS c))) ∧ Only (fun z => z = eb) A5 wr) (fun iv _ => n - (intOf iv).toNat)
      case atStart => exact ⟨0, _, rfl, Nat.zero_le _, HE5.out, World.ownsRow_nil _ _ _ _, Only.refl _ _⟩
      case round =>
        obtain ⟨k, cv, rfl, hkn, hev, hrow, ho⟩ := hrel
        obtain ⟨t0, t1, tf, tl⟩ := hev.cells
        have tf0 := tf 0
        have HEV := Lib.hid hev
        have HOW := Lib.hid ho
        have HROW := Lib.hid hrow
        have HKN := Lib.hid hkn
        clear hev ho hrow tf
        by_cases hlt : k < n
        · have g1 : (k : Int) < (n : Int) := by omega
          obtain ⟨c, hc⟩ : ∃ c, cs[k]? = some c := ⟨cs[k]'(by have := HN.out; omega), List.getElem?_eq_getElem _⟩
          have hcok := List.all_eq_true.1 HK6.out c (List.mem_of_getElem? hc)
          unfold okHexS at hcok
          simp only [Bool.and_eq_true, decide_eq_true_eq] at hcok
          obtain ⟨⟨c1, c6⟩, cx⟩ := hcok
          have hpu := fun w => parseUint_any (mkB c) (by rw [size_mkB]; omega) (by rw [size_mkB]; exact c6) (fun j hj => by rw [size_mkB] at hj; simpa using List.all_eq_true.1 cx j (List.mem_range.2 hj)) w
          have hsc : wr.cell? ⟨sA, k, none⟩ = some (.string (mkB c)) := by
            rw [World.cell?_of_block (w := A5) (a := ⟨sA, k, none⟩) (HOW.out.block sA HSX.out.1 (by have := HSA.out; omega))]
            exact HSX.out.2 k c hc
          have hsl : sA < wr.heap.size := Nat.lt_of_lt_of_le HSX.out.1 HOW.out.size
          have hhx := hxF_le (mkB c) (mkB c).size (fun j hj => by rw [size_mkB] at hj; simpa using List.all_eq_true.1 cx j (List.mem_range.2 hj))
          have hpw : (16 : Int) ^ (mkB c).size ≤ 16 ^ 6 := by
            have h3 : (16 : Nat) ^ (mkB c).size ≤ 16 ^ 6 := Nat.pow_le_pow_right (by omega) (by rw [size_mkB]; exact c6)
            exact_mod_cast h3
          have hwr : IntKind.i32.wrap (hexS c) = hexS c := IntWalk.i32_in (hexS c) (by unfold hexS; omega)
          have HHX : Hid (hxF (mkB c) (mkB c).size = hexS c) := rfl
          rw [HHX.out] at hpu
          obtain ⟨hx, hhx⟩ : ∃ z, z = hexS c := ⟨_, rfl⟩
          rw [← hhx] at hpu hwr
          have HHX2 := Lib.hid hhx
          clear hhx HHX
          have HC := Lib.hid hc
          have HPU := Lib.hid hpu
          clear c1 c6 cx hc hpu hhx hpw
          gi_wp2_with fail
          refine ⟨trivial, rfl, (callsIn_wide.2 (HPU.out _)).mono ?_⟩
          rintro e A6 ⟨rfl, hb6⟩
          have hs6 := hb6.size
          have HE6 := Lib.hid (HEV.out.below hb6)
          have HO6 : Hid (Only (fun z => z = eb) A5 A6) := HOW.out.trans ⟨hb6.os, hb6.tape, hb6.output, hb6.size, fun k hk _ => hb6.block k hk⟩
          have HR6 := Lib.hid (ownsRow_grow' HROW.out hb6)
          obtain ⟨t0, t1, tf, tl⟩ := HE6.out.cells
          have tf0 := tf 0
          have HNB : Hid (k ≤ 8 ∧ eb < A5.heap.size ∧ A5.heap.size ≤ A6.heap.size) := ⟨by have := HN8.out; have := HN.out; omega, by have := HE5.out.cells; exact this.2.2.2, by have := HOW.out.size; omega⟩
          have HVB : Hid (∀ j, cv.ownBlock = some j → A5.heap.size ≤ j) := fun j hj => (HR6.out.lt j hj).1
          clear hb6 tf HROW HOW HEV hs6
          gi_wp2_with (gi_at_builtin; refine wpListIn_append_own _ rfl _ _ 42 rfl A5.heap.size 21 i0 (.int .i32 0) 1 4 Tryz.underlying42 hi hz0 hz1 hz2 rfl (by decide) _ _ _ rfl (HR6.out.alloc _) ⟨A6.heap.size, 0, none⟩ 1 1 [.int .i32 hx] rfl rfl (cell_one_new _ _ _) (by simp [Value.oneCell']) (by unfold maxLen; have := HNB.out; omega) (by have := HNB.out; omega) (by simp; have := HNB.out; omega) ?_; intro v' A7 hown' hgrow _; have HO7 := Lib.hid (onlyGrown (HO6.out.trans ((Only.refl _ A6).alloc _)) hgrow HVB.out); have HE7 := Lib.hid (HE6.out.grown hgrow (fun k hk h => by have := HVB.out k hk; have := HNB.out; omega)); obtain ⟨g', cap', _, rfl, _⟩ := hown'.2.resolve_left (fun h => by have := h.2; omega); have HW7 := Lib.hid hown'; obtain ⟨p0, p1, pf, pl⟩ := HE7.out.cells; have pf0 := pf 0; clear hown' hgrow t0 t1 tf0 tl pf)
          have ho8 : Only (fun z => z = eb) A5 (A7.setCell ⟨eb, 0, none⟩ (.slice (some ⟨g', 0, none⟩) (k + 1) cap')) := HO7.out.setCell (p := ⟨eb, 0, none⟩) rfl _
          have he8 := HE7.out.put0 (.slice (some ⟨g', 0, none⟩) (k + 1) cap')
          have hw8 := rowPut HW7.out (p := ⟨eb, 0, none⟩) HNB.out.2.1 (.slice (some ⟨g', 0, none⟩) (k + 1) cap')
          have hw64 : wrap64 ((k : Int) + 1) = ((k + 1 : Nat) : Int) := by unfold wrap64; have := HNB.out; omega
          clear hwr
          have hk1 : k + 1 ≤ n := hlt
          have hm1 : n - (k + 1) < n - k := Nat.sub_lt_sub_left hlt (Nat.lt_succ_self k)
          rw [hw64]
          refine ⟨⟨k + 1, _, rfl, hk1, he8, ?_, ho8⟩, ?_⟩
          · rw [take_snocR HC.out, List.map_append, List.map_singleton, ← HHX2.out]
            exact hw8
          · exact hm1
        · have hkn : k = n := by have := HKN.out; omega
          subst hkn
          have g1 : ¬ (k : Int) < (k : Int) := by omega
          have HCI : Hid (IntsIn (Lf A5.heap.size wr) .i32 wr cv (cs.map hexS)) := by
            refine intsIn_row ?_
            have h3 := HROW.out
            rw [HN.out, List.take_length] at h3
            rw [List.length_map, List.map_map]
            exact h3
          have HEBL : Hid (eb < A5.heap.size ∧ A5.heap.size ≤ wr.heap.size) := ⟨HE5.out.cells.2.2.2, HOW.out.size⟩
          obtain ⟨W8, rfl⟩ : ∃ z, z = wr := ⟨_, rfl⟩
          clear HROW t0 t1 tf0 tl hlt HKN HSX HSA
          gi_wp2_with fail
          gi_loopw [4] (fun bv W => ∃ (f : Nat) (l' : Bs) (ys : List El) (uv : Value), bv = .string (mkB l') ∧ l'.length ≤ 1000 ∧ okElsS f l' = true ∧ ys ++ elsS f l' = elsS 8 el ∧ ys.length + f ≤ 8 ∧ EbAt W eb cv uv ∧ W.ownsRow W8.heap.size 73 4 uv ys.length (ys.flatMap elCells) ∧ Only (fun z => z = eb) W8 W) (fun bv _ => strLn bv)
          case atStart => exact ⟨8, el, [], _, rfl, HQ3.out, HK7.out, rfl, by simp, HEV.out, World.ownsRow_nil _ _ _ _, Only.refl _ _⟩
          case round =>
            obtain ⟨f, l', ys, uv, rfl, hl1, hl2, hl3, hl4, he9, hr9, ho9⟩ := hrel
            obtain ⟨W9, rfl⟩ : ∃ z, z = wr := ⟨_, rfl⟩
            obtain ⟨t0, t1, tf, tl⟩ := he9.cells
            have tf1 := tf 1
            have HE9 := Lib.hid he9
            have HR9 := Lib.hid hr9
            have HO9 := Lib.hid ho9
            clear he9 hr9 ho9 tf
            by_cases hl : l' = []
            · have HYS : Hid (ys = elsS 8 el) := by
                show _ = _
                rw [hl, elsS_nil, List.append_nil] at hl3
                exact hl3
              have hemp : (mkB l').toList.isEmpty = true := by rw [Lib.toList_data, data_mkB, hl]; rfl
              have HUI : Hid (ElsIn (Lf W8.heap.size W9) W9 uv ys) := elsIn_row HR9.out
              clear hl1 hl2 hl3 HR9 tf1 hl
              have hz0 := HEBL.out
              have heq := HEB.out
              have h4 := HB4.out.size
              have hz5 := HB5.out.size
              have h6 := HOW.out.size
              have h7 := HO9.out.size
              have hzA : D + 2 ≤ A2.heap.size := Nat.le_trans HAD.out HA2.out.2.2.2.1.size
              have hbl2 : Only (fun k => False) A2 W9 :=
                ⟨HO9.out.os.trans (HOW.out.os.trans (HB5.out.os.trans HB4.out.os)), HO9.out.tape.trans (HOW.out.tape.trans (HB5.out.tape.trans HB4.out.tape)), HO9.out.output.trans (HOW.out.output.trans (HB5.out.output.trans HB4.out.output)), by omega,
                  fun k hk _ => (HO9.out.block k (by omega) (by omega)).trans ((HOW.out.block k (by omega) (by omega)).trans ((HB5.out.block k (by omega)).trans (HB4.out.block k hk)))⟩
              have hcv : IntsIn (Lf (D + 2) W9) .i32 W9 cv (cs.map hexS) :=
                (HCI.out.kept (w' := W9) ⟨h7, fun b hb hl => HO9.out.block b hl (by have := hb.1; omega)⟩).mono (fun b hb _ => by
                  obtain ⟨e1, c, t, e2, e3⟩ := hb
                  exact ⟨by omega, c, t, (HO9.out.block b (Array.getElem?_eq_some_iff.1 e2).1 (by omega)).trans e2, e3⟩)
              have huv : ElsIn (Lf (D + 2) W9) W9 uv (elsS 8 el) := by
                rw [← HYS.out]
                exact HUI.out.mono (fun b hb _ => ⟨by have := hb.1; omega, hb.2⟩)
              have hs9 : SmW (D + 2) (w.heap.size + 2) srcV (uniRv w) es W9 := HA2.out.1.same hbl2.size (fun k hk _ => hbl2.block k hk (fun h => h))
              obtain ⟨ev, vs, hsb, hrow, hvl, hvals⟩ := hs9
              obtain ⟨cp, cc, hcve, _⟩ := id hcv
              obtain ⟨up, uc, huve, _⟩ := id huv
              generalize (cs.map hexS).length = cn at hcve
              generalize (elsS 8 el).length = un at huve
              subst hcve huve
              have s2 : W9.cell? ⟨w.heap.size + 2, 2, none⟩ = some ev := by simp [World.cell?, hsb]
              have sf2 : W9.frozen? ⟨w.heap.size + 2, 2, none⟩ = false := by simp [World.frozen?, hsb]
              have HSB := Lib.hid hsb
              have HROWS := Lib.hid hrow
              have HVS := Lib.hid (And.intro hvl hvals)
              have HBL := Lib.hid hbl2
              have HCU := Lib.hid (And.intro hcv huv)
              have HZZ : Hid (D + 2 ≤ W9.heap.size ∧ D = w.heap.size + 4) := ⟨by omega, by omega⟩
              have HEN9 : Hid (∀ j, ev.ownBlock = some j → ∃ cur, W9.heap[j]? = some (.cells cur 45 (0, 0))) := fun k hk => by
                rcases hrow.2 with ⟨rfl, _⟩ | ⟨g, cap, cur, rfl, _, e3, _⟩
                · cases hk
                · cases hk; exact ⟨cur, e3⟩
              have sl := (Array.getElem?_eq_some_iff.1 hsb).1
              clear hsb hrow hvl hvals hbl2 hcv huv hz0 heq h4 hz5 h6 h7 hzA HUI HYS tl
              gi_wp2_with (gi_at_builtin; refine wpListIn_append_own _ rfl _ _ 23 rfl (D + 2) 45 i2 (.agg #[.slice none 0 0, .slice none 0 0]) 2 48 Tryz.underlying23 hi2 hx0 hx1 hx2 rfl (by decide) _ _ _ rfl (HROWS.out.alloc _) ⟨W9.heap.size, 0, none⟩ 1 1 [.slice cp cn cc, .slice up un uc] rfl rfl (cells_new _ _ _) (by simp [Value.oneCell']) (by unfold maxLen; have := HLE.out; omega) (by have := HLE.out; omega) (by simp; have := HZZ.out; omega) ?_; intro v' W12 hown' hgrow _; obtain ⟨g', cap', _, rfl, _⟩ := hown'.2.resolve_left (fun h => by have := h.2; omega); have hk12 : W12.heap[w.heap.size + 2]? = W9.heap[w.heap.size + 2]? := (hgrow.block _ (by simp; omega) (fun e => by obtain ⟨cur, h⟩ := HEN9.out _ e.symm; rw [HSB.out] at h; cases h)).trans (Below.heap_alloc _ _ _ sl); have q2 : W12.cell? ⟨w.heap.size + 2, 2, none⟩ = some ev := (World.cell?_of_block (w := W9) (a := ⟨w.heap.size + 2, 2, none⟩) hk12).trans s2; have qf : W12.frozen? ⟨w.heap.size + 2, 2, none⟩ = false := by { simp [World.frozen?, hk12, HSB.out] }; have HGR := Lib.hid hgrow; have HOWN := Lib.hid hown'; clear hown' hgrow hk12)
              have hpush := SmW.push (x := (cs.map hexS, elsS 8 el)) HSB.out HROWS.out HVS.out.1 HVS.out.2 HCU.out.1 HCU.out.2 HOWN.out HGR.out
              have hb3 := HA2.out.2.2.1
              have hbl3 := (Array.getElem?_eq_some_iff.1 hb3.choose_spec).1
              have hwz := HBL.out.size
              have key : ∀ q, q < A2.heap.size → (q = w.heap.size + 3 ∨ D ≤ q ∧ q < D + 2) → (W12.setCell ⟨w.heap.size + 2, 2, none⟩ (.slice (some ⟨g', 0, none⟩) (es.length + 1) cap')).heap[q]? = A2.heap[q]? := fun q hq hc => by
                refine (hpush.2.block q (by omega) (fun h => ?_)).trans (HBL.out.block q hq (fun h => h))
                rcases h with h | h
                · have := HZZ.out; omega
                · have := (HROWS.out.lt q h).1; have := HZZ.out; omega
              have hzA : D + 2 ≤ A2.heap.size := Nat.le_trans HAD.out HA2.out.2.2.2.1.size
              refine ⟨fun q h3 h4 => key q (by omega) (.inr ⟨h3, h4⟩), ⟨Nat.le_trans hwz hpush.2.size, key _ hbl3 (.inl rfl)⟩, ?_, ?_, hb3.of (fun _ => key _ hbl3 (.inl rfl))⟩
              · rw [HSN.out, HEN2.out]
                exact hpush.1
              · refine (HA2.out.2.1.trans ⟨HBL.out.os, HBL.out.tape, HBL.out.output, hwz, fun q hq _ => HBL.out.block q hq (fun h => h)⟩).trans ⟨hpush.2.os, hpush.2.tape, hpush.2.output, hpush.2.size, fun q hq hn => hpush.2.block q hq (fun h => ?_)⟩
                rcases h with h | h
                · exact hn (.inl h)
                · exact hn (.inr (.inr (by have := (HROWS.out.lt q h).1; omega)))
            · have hemp := emptyMkB l' hl
              cases f with
              | zero => exact absurd (of_decide_eq_true hl2) hl
              | succ f =>
                unfold okElsS at hl2
                rw [decide_eq_false hl, Bool.false_or] at hl2
                simp only [Bool.and_eq_true, decide_eq_true_eq] at hl2
                obtain ⟨⟨hg, hc⟩, hl5⟩ := hl2
                have h17 := good17 _ hg
                rw [size_mkB] at h17
                have hrd := fun w => read_any (mkB l') w (by rw [size_mkB]; unfold maxLen; omega)
                rw [readV_fine _ hg hc] at hrd
                unfold elsS at hl3
                rw [if_neg hl] at hl3
                have HV : Hid (lvS (mkB l') = lvl (elS (mkB l')).1 (elS (mkB l')).2.1 (elS (mkB l')).2.2.1) := rfl
                generalize elS (mkB l') = xx at *
                obtain ⟨x1, x2, x3, x4⟩ := xx
                simp only [elAgg] at hrd
                have hlv := fun w => level_any x1 x2 x3 x4 w
                simp only at HV
                rw [← HV.out] at hlv
                have HRD := Lib.hid hrd
                have HLV := Lib.hid hlv
                have HL1 := Lib.hid hl1
                have HL3 := Lib.hid hl3
                have HL4 := Lib.hid hl4
                have HL5 := Lib.hid hl5
                have H17 := Lib.hid h17
                have HLV2 := Lib.hid (lvS_or (mkB l'))
                generalize lvS (mkB l') = lv at *
                clear hrd hlv hl1 hl3 hl4 hl5 h17 hg hc hl
                gi_wp2_with fail
                refine ⟨trivial, rfl, (callsIn_wide.2 (HRD.out _)).mono ?_⟩
                rintro e W10 ⟨rfl, hb10⟩
                have HB10 := Lib.hid hb10
                clear hb10
                gi_wp2_with fail
                refine ⟨trivial, rfl, (callsIn_wide.2 (HLV.out _)).mono ?_⟩
                rintro e W11 ⟨rfl, hb11⟩
                have hal := Below.alloc (Below.refl W10.heap.size W10) (Nat.le_refl _) (.cells #[.int .i64 x1, .int .i64 x2, .int .i64 x3, .bool x4] 73)
                have hb11' : Below W9.heap.size W9 W11 := HB10.out.trans ((hal.trans (hb11.mono (by simp))).mono HB10.out.size)
                have HO11 : Hid (Only (fun z => z = eb) W8 W11) := HO9.out.trans ⟨hb11'.os, hb11'.tape, hb11'.output, hb11'.size, fun k hk _ => hb11'.block k hk⟩
                have HE11 := Lib.hid (HE9.out.below hb11')
                have HR11 := Lib.hid (ownsRow_grow' HR9.out hb11')
                have hxc : ∀ j u, #[Value.int .i64 x1, .int .i64 x2, .int .i64 x3, .bool x4][j]? = some u → W11.cell? ⟨W10.heap.size, j, none⟩ = some u := fun j u hj => by
                  rw [hb11.cell (p := ⟨W10.heap.size, j, none⟩) (by simp), World.cell?_alloc_at _ _ _ _ rfl]; exact hj
                have HXC := Lib.hid hxc
                have HBX : Hid (eb < W8.heap.size ∧ W8.heap.size ≤ W11.heap.size ∧ W10.heap.size < W11.heap.size ∧ ys.length ≤ 8) := ⟨by have := HEBL.out; omega, HO11.out.size, by have := hb11.size; simp at this; omega, by have := HL4.out; omega⟩
                have HLN : Hid (strLn (.string (mkB (l'.drop 17))) < strLn (.string (mkB l'))) := by
                  show _ < _
                  simp only [strLn, size_mkB, List.length_drop]
                  have := H17.out
                  omega
                have HLD : Hid ((l'.drop 17).length ≤ 1000) := by
                  show _ ≤ _
                  rw [List.length_drop]
                  have := HL1.out
                  omega
                clear hal hb11 hb11' hxc HE9 HR9 HO9 t0 t1 tf1 tl HRD HLV HB10
                have hs17 : 17 ≤ (mkB l').size := by rw [size_mkB]; exact H17.out
                have HDE : Hid ((mkB l').extract 17 (mkB l').size = mkB (l'.drop 17)) := by show _ = _; rw [← dropExtract, mkB_data]
                rcases HLV2.out with hz | hz
                · subst hz
                  gi_wp2_with fail
                  rw [HDE.out]
                  refine ⟨⟨f, _, ys, uv, rfl, HLD.out, HL5.out, ?_, by have := HL4.out; omega, HE11.out, HR11.out, HO11.out⟩, HLN.out⟩
                  have h3 := HL3.out
                  rwa [if_neg (by omega), List.nil_append] at h3
                · have e0 := HXC.out 0 _ rfl
                  have e1 := HXC.out 1 _ rfl
                  have e2 := HXC.out 2 _ rfl
                  have e3 := HXC.out 3 _ rfl
                  have hw11 := HBX.out.2.2.1
                  obtain ⟨y0, y1, yf, yl⟩ := HE11.out.cells
                  have yf1 := yf 1
                  have HVB : Hid (∀ j, uv.ownBlock = some j → W8.heap.size ≤ j) := fun j hj => (HR11.out.lt j hj).1
                  have hgt : (0 : Int) < lv := hz
                  clear yf
                  gi_wp2_with (gi_at_builtin; refine wpListIn_append_own _ rfl _ _ 43 rfl W8.heap.size 73 i1 (.agg #[.int .i64 0, .int .i64 0, .int .i64 0, .bool false]) 4 32 Tryz.underlying43 hi1 hy0 hy1 hy2 rfl (by decide) _ _ _ rfl (HR11.out.alloc _) ⟨W11.heap.size, 0, none⟩ 1 1 [.int .i64 x1, .int .i64 x2, .int .i64 x3, .bool x4] rfl rfl (cells_new _ _ _) (by simp [Value.oneCell']) (by unfold maxLen; have := HBX.out; omega) (by have := HBX.out; omega) (by simp; have := HBX.out; omega) ?_; intro v' W12 hown' hgrow _; have HO12 := Lib.hid (onlyGrown (HO11.out.trans ((Only.refl _ W11).alloc _)) hgrow HVB.out); have HE12 := Lib.hid (HE11.out.grown hgrow (fun k hk h => by have := HVB.out k hk; have := HBX.out; omega)); obtain ⟨g', cap', _, rfl, _⟩ := hown'.2.resolve_left (fun h => by have := h.2; omega); have HW12 := Lib.hid hown'; obtain ⟨p0, p1, pf, pl⟩ := HE12.out.cells; have pf1 := pf 1; clear hown' hgrow y0 y1 yf1 yl e0 e1 e2 e3 pf)
                  rw [HDE.out]
                  have ho13 : Only (fun z => z = eb) W8 (W12.setCell ⟨eb, 1, none⟩ (.slice (some ⟨g', 0, none⟩) (ys.length + 1) cap')) := HO12.out.setCell (p := ⟨eb, 1, none⟩) rfl _
                  have he13 := HE12.out.put1 (.slice (some ⟨g', 0, none⟩) (ys.length + 1) cap')
                  have hw13 := rowPut HW12.out (p := ⟨eb, 1, none⟩) HBX.out.1 (.slice (some ⟨g', 0, none⟩) (ys.length + 1) cap')
                  have hl9 : (ys ++ [(x1, x2, x3, x4)]).length = ys.length + 1 := by simp
                  have h3 := HL3.out
                  rw [if_pos hz, ← List.append_assoc] at h3
                  refine ⟨⟨f, _, ys ++ [(x1, x2, x3, x4)], _, rfl, HLD.out, HL5.out, h3, by have := HL4.out; omega, he13, ?_, ho13⟩, HLN.out⟩
                  rw [hl9, List.flatMap_append]
                  simpa [elCells] using hw13
  case hdone =>
    rintro D2 i A hD2 rfl ⟨hsm, ho, hb⟩ hdf
    have h1 := HD.out
    have h2 := HZ2.out
    rw [List.take_length] at hsm
    have HSM := Lib.hid hsm
    have HO2 := Lib.hid ho
    have HDF := Lib.hid hdf
    obtain ⟨ev, vs, hsb, hrow, _, _⟩ := hsm
    have hlen : ev.ownBlock = ev.ownBlock := rfl
    obtain ⟨pe, ce, rfl⟩ : ∃ p c, ev = .slice p (smallL.filterMap lineEnt).length c := by
      rcases hrow.2 with ⟨rfl, h0⟩ | ⟨g, cap, cur, rfl, _⟩
      · rw [h0]; exact ⟨_, _, rfl⟩
      · exact ⟨_, _, rfl⟩
    have hr0 : A.heap[w.heap.size]? = some (.cells #[.string ⟨#[]⟩, .slice none 0 0, .slice none 0 0] 25 (0, 0)) := (ho.block _ (by omega) (by omega)).trans HO.out.1
    have s0 : A.cell? ⟨w.heap.size + 2, 0, none⟩ = some srcV := by simp [World.cell?, hsb]
    have s1 : A.cell? ⟨w.heap.size + 2, 1, none⟩ = some (uniRv w) := by simp [World.cell?, hsb]
    have s2 : A.cell? ⟨w.heap.size + 2, 2, none⟩ = some (.slice pe (smallL.filterMap lineEnt).length ce) := by simp [World.cell?, hsb]
    have z0 : ∀ o, A.frozen? ⟨w.heap.size, o, none⟩ = false := fun o => by simp [World.frozen?, hr0]
    have z00 := z0 0
    have z01 := z0 1
    have z02 := z0 2
    have r0 : A.cell? ⟨w.heap.size, 0, none⟩ = some (.string ⟨#[]⟩) := by simp [World.cell?, hr0]
    have r1 : A.cell? ⟨w.heap.size, 1, none⟩ = some (.slice none 0 0) := by simp [World.cell?, hr0]
    have r2 : A.cell? ⟨w.heap.size, 2, none⟩ = some (.slice none 0 0) := by simp [World.cell?, hr0]
    have rl := (Array.getElem?_eq_some_iff.1 hr0).1
    have HR0 := Lib.hid hr0
    have HSB := Lib.hid hsb
    unfold srcV at s0
    unfold uniRv at s1
    generalize (smallL.filterMap lineEnt).length = n at *
    clear ho hdf hr0 hsb hrow hlen z0
    gi_wp2_with fail
    have hF := three_put HR0.out (.string ⟨#[115, 109, 97, 108, 108, 45, 49]⟩) (.slice (some ⟨w.heap.size + 1, 0, none⟩) 4 4) (.slice pe n ce)
    have hOF : Only (fun k => k = w.heap.size) A (((A.setCell ⟨w.heap.size, 0, none⟩ (.string ⟨#[115, 109, 97, 108, 108, 45, 49]⟩)).setCell ⟨w.heap.size, 1, none⟩ (.slice (some ⟨w.heap.size + 1, 0, none⟩) 4 4)).setCell ⟨w.heap.size, 2, none⟩ (.slice pe n ce)) :=
      (((Only.refl (fun k => k = w.heap.size) A).setCell (p := ⟨w.heap.size, 0, none⟩) rfl _).setCell (p := ⟨w.heap.size, 1, none⟩) rfl _).setCell (p := ⟨w.heap.size, 2, none⟩) rfl _
    generalize (((A.setCell ⟨w.heap.size, 0, none⟩ (.string ⟨#[115, 109, 97, 108, 108, 45, 49]⟩)).setCell ⟨w.heap.size, 1, none⟩ (.slice (some ⟨w.heap.size + 1, 0, none⟩) 4 4)).setCell ⟨w.heap.size, 2, none⟩ (.slice pe n ce)) = B5 at *
    have hD2l := (Array.getElem?_eq_some_iff.1 HDF.out).1
    have hdf5 : B5.heap[D2]? = some (.deferred (some [])) := (hOF.block D2 hD2l (by omega)).trans HDF.out
    have hk : ∀ k, k < A.heap.size → k ≠ w.heap.size → k ≠ D2 → (B5.putObj D2 (.deferred none)).heap[k]? = A.heap[k]? := fun k h3 h4 h5 => (World.putObj_heap_other h5).trans (hOF.block k h3 h4)
    have hF2 : (B5.putObj D2 (.deferred none)).heap[w.heap.size]? = some (.cells #[.string ⟨#[115, 109, 97, 108, 108, 45, 49]⟩, .slice (some ⟨w.heap.size + 1, 0, none⟩) 4 4, .slice pe n ce] 25 (0, 0)) := (World.putObj_heap_other (by omega)).trans hF
    have e0 : (B5.putObj D2 (.deferred none)).cell? ⟨w.heap.size, 0, none⟩ = some (.string ⟨#[115, 109, 97, 108, 108, 45, 49]⟩) := by simp [World.cell?, hF2]
    have e1 : (B5.putObj D2 (.deferred none)).cell? ⟨w.heap.size, 1, none⟩ = some (.slice (some ⟨w.heap.size + 1, 0, none⟩) 4 4) := by simp [World.cell?, hF2]
    have e2 : (B5.putObj D2 (.deferred none)).cell? ⟨w.heap.size, 2, none⟩ = some (.slice pe n ce) := by simp [World.cell?, hF2]
    refine leave_mark (v := .agg #[.string ⟨#[115, 109, 97, 108, 108, 45, 49]⟩, .slice (some ⟨w.heap.size + 1, 0, none⟩) 4 4, .slice pe n ce]) hdf5 (by simp [results, Tryz.results12, go_sem, e0, e1, e2]) ?_
    have hzA := HO2.out.size
    have hzB := hOF.size
    have hsm' : SmW (w.heap.size + 6) (w.heap.size + 2) srcV (uniRv w) smallE (B5.putObj D2 (.deferred none)) := by
      have h3 := HSM.out
      rw [show D + 2 = w.heap.size + 6 from by omega] at h3
      refine h3.sameC (by simp [World.putObj]; omega) (fun k c t fr h4 h5 => ?_)
      have h6 := (Array.getElem?_eq_some_iff.1 h4).1
      by_cases hkd : k = D2
      · subst hkd
        rw [HDF.out] at h4; cases h4
      · exact hk k h6 (by omega) hkd
    refine ⟨⟨?_, ?_, ?_, ?_, fun k h3 => ?_⟩, uniRv w, _, rfl, ?_, rfl, w.heap.size + 2, by omega, hsm', ?_, by omega⟩
    · exact (hOF.os.trans (HO2.out.os.trans HBW.out.os))
    · exact (hOF.tape.trans (HO2.out.tape.trans HBW.out.tape))
    · exact (hOF.output.trans (HO2.out.output.trans HBW.out.output))
    · simp [World.putObj]; omega
    · exact (hk k (by omega) (by omega) (by omega)).trans ((HO2.out.block k (by omega) (by omega)).trans (HBW.out.block k h3))
    · exact (hk _ (by omega) (by omega) (by omega)).trans ((HO2.out.block _ (by omega) (by omega)).trans HO.out.2.1)
    · have h3 := (hk (w.heap.size + 2) (by omega) (by omega) (by omega)).trans HSB.out
      simp [World.cell?, h3]
end Go.Proofs.YtnglhgogkemgbaaGreatDoor
