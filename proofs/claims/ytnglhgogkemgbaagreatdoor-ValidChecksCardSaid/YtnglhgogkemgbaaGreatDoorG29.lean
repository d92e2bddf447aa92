/- Package norms: reckon. Package norms: Decomp, Class, Starter of data that Load made. Data that nobody made: what its functions answer. Package utf: Scalar. -/
import Derived.Test.YtnglhgogkemgbaaGreatDoorG23
import Derived.Test.YtnglhgogkemgbaaGreatDoorG28
import Derived.Test.YtnglhgogkemgbaaGreatDoorG01
import Derived.OwnWalkIn
import Derived.TacticsInMore
import Derived.LoopNIn
import Derived.LoopIn
namespace Go.Proofs.YtnglhgogkemgbaaGreatDoor
open Go.RowKit
attribute [local go_sem] Oper.semAt_some

theorem StayFrom.ints {B : Nat} {Q : Nat → Prop} {k : IntKind} {v : Value} {xs : List Int} : StayFrom B (fun W => IntsIn Q k W v xs) := by
  intro W W' row h hg hr
  obtain ⟨p, cap, h1, h0, h2⟩ := h
  refine ⟨p, cap, h1, h0, fun i x hx => ?_⟩
  obtain ⟨b, o, e1, e2, e3, e4⟩ := h2 i x hx
  exact ⟨b, o, e1, e2, Nat.lt_of_lt_of_le e3 hg.size, cell_kept e4 hg (fun r e => (hr r e).2)⟩
theorem StayFrom.full {B : Nat} {Q : Nat → Prop} {mb : Nat} {d ds : List T3} (hm : mb < B) : StayFrom B (fun W => FullAt Q W mb d ds) := by
  intro W W' row h hg hr
  obtain ⟨n, f, h1, hn, h2⟩ := h
  refine ⟨n, f, h1.kept hg (fun e => by have := (hr mb e.symm).1; omega), hn, fun r => ?_⟩
  rcases h2 r with h | ⟨g, cap, e, hx, hi⟩
  · exact .inl h
  · exact .inr ⟨g, cap, e, hx, StayFrom.ints W W' row hi hg hr⟩
/-- one more decomposed -/
theorem FullAt.push {Q : Nat → Prop} {W W1 W2 : World} {mb g cap n : Nat} {d ds : List T3} {x : T3} {f : Int → Option (Nat × Nat × Nat)} (hn : n ≤ ds.length) (h2 : ∀ r, (f r = none ∧ ∀ y ∈ ds, y.1 ≠ r) ∨ (∃ g cap, f r = some (g, (deep d 4 r).1.length, cap) ∧ (∃ y ∈ ds, y.1 = r) ∧ IntsIn Q .i32 W (.slice (some ⟨g, 0, none⟩) (deep d 4 r).1.length cap) (deep d 4 r).1))
    (hk : Kept Q W W1) (hi : IntsIn Q .i32 W1 (.slice (some ⟨g, 0, none⟩) (deep d 4 x.1).1.length cap) (deep d 4 x.1).1) (hs : SMap Tryz.prog 21 W2 mb (n + 1) (fun q => if q = x.1 then some (g, (deep d 4 x.1).1.length, cap) else f q)) (hk2 : Kept Q W1 W2) :
    FullAt Q W2 mb d (ds ++ [x]) := by
  refine ⟨n + 1, _, hs, by simp; exact hn, fun r => ?_⟩
  by_cases e : r = x.1
  · subst e
    exact .inr ⟨g, cap, by simp, ⟨x, by simp, rfl⟩, hi.kept hk2⟩
  · rcases h2 r with ⟨h, hno⟩ | ⟨g', cap', h, ⟨y, hy, hyr⟩, hi'⟩
    · refine .inl ⟨by simp [e, h], fun y hy => ?_⟩
      rcases List.mem_append.1 hy with hy | hy
      · exact hno y hy
      · simp at hy; subst hy; exact fun h => e h.symm
    · exact .inr ⟨g', cap', by simp [e, h], ⟨y, by simp [hy], hyr⟩, (hi'.kept hk).kept hk2⟩
theorem only_grownS {S : Nat → Prop} {a b c : World} {j : Nat} (h : Only S a b) (hg : b.grownBy c (some j)) (hj : S j) : Only S a c :=
  ⟨hg.os.trans h.os, hg.tape.trans h.tape, hg.output.trans h.output, Nat.le_trans h.size hg.size, fun k hk hn => (hg.block k (Nat.lt_of_lt_of_le hk h.size) (fun e => by injection e with e; subst e; exact hn hj)).trans (h.block k hk hn)⟩
theorem wf_i32n {r : Int} (h : -2147483648 ≤ r ∧ r ≤ 2147483647) : (Lit.int .i32 r).wf = true := by
  simp only [Lit.wf, Bool.and_eq_true, decide_eq_true_eq]
  exact h
theorem FullAt.mono {Q S : Nat → Prop} {W : World} {mb : Nat} {d ds : List T3} (h : FullAt Q W mb d ds) (hm : ∀ b, Q b → b < W.heap.size → S b) : FullAt S W mb d ds := by
  obtain ⟨n, f, h1, hn, h2⟩ := h
  refine ⟨n, f, h1, hn, fun r => ?_⟩
  rcases h2 r with h | ⟨g, cap, e, hx, hi⟩
  · exact .inl h
  · exact .inr ⟨g, cap, e, hx, hi.mono hm⟩
theorem grownBy_putObj (W : World) (D : Nat) (o : Obj) : W.grownBy (W.putObj D o) (some D) := ⟨rfl, rfl, rfl, by simp, fun k _ hne => World.putObj_heap_other (fun e => hne (by rw [e]))⟩
set_option maxHeartbeats 4000000 in
set_option maxRecDepth 100000 in
theorem reckon_ok (R : Nat → Prop) (pb : Nat) (c d : List T3) (dv cv : Value) (w : World) (hR : ∀ b, w.heap.size ≤ b → R b) (hn : NoAt w pb cv dv 0 1 (.map none)) (hv : TrisIn (fun b => R b ∧ b ≠ pb) .i32 w dv d) (hok : dataOk c d = true) :
    Calls Tryz.prog 172 #[.pointer (some ⟨pb, 0, none⟩)] w fun e w' => e = .returned (.tuple #[]) ∧ (∃ mb, NoAt w' pb cv dv 0 1 (.map (some mb)) ∧ w.heap.size ≤ mb ∧ mb < w'.heap.size ∧ FullAt (fun b => R b ∧ b ≠ pb) w' mb d d) ∧ Only (fun k => k = pb) w w' := by
  obtain ⟨hcl, hl, hc, hd, h2⟩ := data_parts hok
  have hpl := hn.lt
  have HN := Lib.hid hn
  have HR := Lib.hid hR
  have HV : Hid (TrisIn (fun b => (R b ∧ b ≠ pb) ∧ b < w.heap.size) .i32 w dv d) := hv.mono (fun b h1 h2 => ⟨h1, h2⟩)
  have HD := Lib.hid hd
  have H2 := Lib.hid h2
  obtain ⟨p, cp, rfl, hcp, _⟩ := hv
  obtain ⟨_, _, _, _, _, c6, fz⟩ := hn.cells
  have f6 := fz 6
  have hmm := @run_makeMap Tryz.prog
  clear hn hR hc hd h2 fz hok
  refine callsIn_wide (n := 0) |>.1 ?_
  refine callsIn_of_wp_marks Tryz.func172 rfl trivial ?_ rfl
  simp only [Tryz.ntmps172, List.size_toArray, List.length_cons, List.length_nil, Nat.reduceAdd, Nat.reduceSub, Array.replicate_succ, Array.replicate_zero, List.push_toArray, List.append_toArray, List.nil_append, List.cons_append]
  gi_wp2_with fail
  refine ⟨trivial, rfl, (callsIn_wide.2 (nDecomps_any _ _)).mono ?_⟩
  rintro e w2 ⟨rfl, hw2⟩
  gi_wp2_with fail
  have hal : Only (fun k => k = pb) w w2 := by
    rw [← hw2]; exact ((((Only.refl (fun k => k = pb) w).setCell (p := ⟨pb, 6, none⟩) rfl _).alloc _).alloc _).alloc _
  have hz2 : w2.heap.size = w.heap.size + 3 := by rw [← hw2]; simp
  have hn2 : NoAt w2 pb cv (.slice p d.length cp) 0 1 (.map (some (w.heap.size + 1))) := by
    unfold NoAt
    rw [← hw2, Below.heap_alloc _ _ _ (by simp; omega), Below.heap_alloc _ _ _ (by simp; omega), Below.heap_alloc _ _ _ (by simpa using hpl)]
    have hnn := HN.out
    unfold NoAt at hnn
    unfold World.setCell
    simp [Array.getElem?_modify, hnn]
  have b0 : Boxed w2 w.heap.size 28 (.pointer (some ⟨pb, 0, none⟩)) := by
    rw [← hw2]
    have := Boxed.new (w.setCell ⟨pb, 6, none⟩ (.map (some (w.heap.size + 1)))) 28 (.pointer (some ⟨pb, 0, none⟩))
    simp only [World.size_setCell] at this
    exact (this.alloc _).alloc _
  have b2 : Boxed w2 (w.heap.size + 2) 28 (.pointer (some ⟨pb, 0, none⟩)) := by
    rw [← hw2]
    have := Boxed.new (((w.setCell ⟨pb, 6, none⟩ (.map (some (w.heap.size + 1)))).alloc (.cells #[.pointer (some ⟨pb, 0, none⟩)] 28)).alloc (.map #[] 0)) 28 (.pointer (some ⟨pb, 0, none⟩))
    simpa using this
  have hm2 : SMap Tryz.prog 21 w2 (w.heap.size + 1) 0 (fun _ => none) := by
    have h0 := SMap.made (P := Tryz.prog) (k := 21) ((w.setCell ⟨pb, 6, none⟩ (.map (some (w.heap.size + 1)))).alloc (.cells #[.pointer (some ⟨pb, 0, none⟩)] 28))
    simp only [World.size_alloc, World.size_setCell] at h0
    rw [← hw2]
    exact h0.same (Below.heap_alloc _ _ _ (by simp))
  have HN2 := Lib.hid hn2
  have HB0 := Lib.hid b0
  have HB2 := Lib.hid b2
  have HAL := Lib.hid hal
  have hml : w.heap.size + 1 < w2.heap.size := by omega
  have HV2 : Hid (TrisIn (fun b => (R b ∧ b ≠ pb) ∧ b < w.heap.size) .i32 w2 (.slice p d.length cp) d) := HV.out.kept (Kept.only hal (fun b hb e => hb.1.2 e))
  have HZ2 := Lib.hid hz2
  have hF0 : FullAt (fun b => w2.heap.size ≤ b) w2 (w.heap.size + 1) d (d.take 0) := ⟨0, _, hm2, Nat.zero_le _, fun r => .inl ⟨rfl, fun x hx => by simp at hx⟩⟩
  have HPB := Lib.hid hpl
  clear hw2 hn2 b0 b2 hal hm2 hz2 HN HV c6 f6 hpl
  refine wp_rangeA2 0 (gf := 192) (lb := #[.pointer (some ⟨w.heap.size + 2, 0, none⟩)]) rfl (enters_of Tryz.func192 (by kernel_rfl) rfl) (decs_iter (fun b => (R b ∧ b ≠ pb) ∧ b < w.heap.size) d p cp (w.heap.size + 2) pb hl) (fun _ => rfl)
    (fun i V => Only (fun k => k = w.heap.size + 1) w2 V ∧ FullAt (fun b => w2.heap.size ≤ b) V (w.heap.size + 1) d (d.take i)) (fun _ => False) (fun _ => False) (fun _ => .and (.only (Nat.le_refl _)) (.full hml)) (.const _) (.const _) (fun a A h => ?pre) ⟨Only.refl _ _, hF0⟩
    (fun i b => [(2, .pointer (some ⟨b, 0, none⟩))]) (fun i => .cells #[.int .i32 (d.getD i (0, 0, 0)).1, .int .i32 (d.getD i (0, 0, 0)).2.1, .int .i32 (d.getD i (0, 0, 0)).2.2] 94) ?assign ?body ?after ?exit ?ret ?bad
  case assign =>
    intro l a W
    unfold triAgg
    simp [roundFrame]
    gi_wp2
    exact ⟨trivial, trivial⟩
  case pre =>
    have hz := HZ2.out
    have hpb := HPB.out
    have hk : ∀ b, b < w2.heap.size → b ≠ w.heap.size + 1 → A.heap[b]? = w2.heap[b]? := fun b hb hne => h.1.block b hb hne
    have hno : NoAt A pb cv (.slice p d.length cp) 0 1 (.map (some (w.heap.size + 1))) := (hk pb (by omega) (by omega)).trans HN2.out
    obtain ⟨q0, _, q2, _⟩ := hno.cells
    refine ⟨(World.cell?_of_block (w := w2) (a := ⟨w.heap.size + 2, 0, none⟩) (hk (w.heap.size + 2) (by omega) (by omega))).trans HB2.out.cell, q0, q2, HV2.out.kept ⟨h.1.size, fun b hb hl => hk b hl (by omega)⟩⟩
  case exit => intro a' W' h; exact h
  case ret => intro D W _ h _; exact h.elim
  case bad => intro D c s W _ h _ _; exact h.elim
  case body =>
    rintro l i V b hlt' ⟨ho, hf⟩ hbl hbo
    have hz := HZ2.out
    have hpb := HPB.out
    have hk : ∀ b, b < w2.heap.size → b ≠ w.heap.size + 1 → V.heap[b]? = w2.heap[b]? := fun b hb hne => ho.block b hb hne
    have hno : NoAt V pb cv (.slice p d.length cp) 0 1 (.map (some (w.heap.size + 1))) := (hk pb (by omega) (by omega)).trans HN2.out
    obtain ⟨_, _, s2, _, _, s6, _⟩ := hno.cells
    have s0 : V.cell? ⟨w.heap.size, 0, none⟩ = some (.pointer (some ⟨pb, 0, none⟩)) := (World.cell?_of_block (w := w2) (a := ⟨w.heap.size, 0, none⟩) (hk w.heap.size (by omega) (by omega))).trans HB0.out.cell
    have HVV : Hid (TrisIn (fun b => (R b ∧ b ≠ pb) ∧ b < w.heap.size) .i32 V (.slice p d.length cp) d) := HV2.out.kept ⟨ho.size, fun b hb hl => hk b hl (by omega)⟩
    have hx : d[i]? = some (d.getD i (0, 0, 0)) := by rw [List.getD_eq_getElem?_getD, List.getElem?_eq_getElem hlt']; rfl
    have HTK : Hid (d.take (i + 1) = d.take i ++ [d.getD i (0, 0, 0)]) := by show _ = _; rw [List.take_add_one, hx]; rfl
    have hmem := List.mem_of_getElem? hx
    have hxb := dec_mem3 HD.out hmem
    have hdeep : (deep d 4 (d.getD i (0, 0, 0)).1).2 = true := by
      have := H2.out _ hmem
      unfold decTwo at this
      simp only [Bool.and_eq_true] at this
      exact this.1.2
    have HNE := Lib.hid (deep_ne 4 _ hdeep)
    have hil : (d.take i).length ≤ 8000 := by rw [List.length_take]; omega
    have HWH : Hid (∀ u, Below V.heap.size V u → Calls Tryz.prog 133 #[.slice p d.length cp, .int .i32 (d.getD i (0, 0, 0)).1] u (NewRunes (deep d 4 (d.getD i (0, 0, 0)).1).1 u)) := fun u hu =>
      whole_any _ d _ HD.out hl (fun z hz => two_B (H2.out z hz)) 4 (Nat.le_refl _) _ u (HVV.out.kept (Kept.below hu)) (by omega) (ends_of_deep HD.out 4 _ hdeep)
    have hwf : (Lit.int .i32 (d.getD i (0, 0, 0)).1).wf = true := wf_i32n (by omega)
    have HWF := Lib.hid hwf
    have c0 : V.cell? ⟨b, 0, none⟩ = some (.int .i32 (d.getD i (0, 0, 0)).1) := by simp [World.cell?, hbo]
    have hVz := ho.size
    have hbV := (Array.getElem?_eq_some_iff.1 hbo).1
    have hmV : w.heap.size + 1 < V.heap.size := by omega
    have HO := Lib.hid ho
    have HF := Lib.hid hf
    generalize hxe : d.getD i (0, 0, 0) = x at *
    have HXE := Lib.hid hxe
    clear ho hf hk hno hx hmem hxb hdeep hwf hxe hbo hlt'
    unfold triAgg
    simp [roundFrame]
    gi_wp2
    have hS : (fun u : World => (u.cell? ⟨w.heap.size, 0, none⟩ = some (.pointer (some ⟨pb, 0, none⟩)) ∧ u.cell? ⟨pb, 6, none⟩ = some (.map (some (w.heap.size + 1)))) ∧ u.cell? ⟨pb, 2, none⟩ = some (.slice p d.length cp) ∧ u.cell? ⟨b, 0, none⟩ = some (.int .i32 x.1)) V.drew := ⟨⟨s0, s6⟩, s2, c0⟩
    refine wpIn_region_held (fun u : World => (u.cell? ⟨w.heap.size, 0, none⟩ = some (.pointer (some ⟨pb, 0, none⟩)) ∧ u.cell? ⟨pb, 6, none⟩ = some (.map (some (w.heap.size + 1)))) ∧ u.cell? ⟨pb, 2, none⟩ = some (.slice p d.length cp) ∧ u.cell? ⟨b, 0, none⟩ = some (.int .i32 x.1)) (by kernel_rfl) (by kernel_rfl) ?lets hS ?walk
    case lets => rintro ⟨_, _, h⟩; exact h
    case walk =>
      intro hH
      clear hS
      refine wpAnyH_take (i := 0) (v := ?_) rfl (by kernel_rfl) (by kernel_rfl) (by kernel_rfl) (fun _ _ _ h => h) (Or.inl ⟨by rfl, ?_⟩) hH ?_; rotate_left 1; (first | (focus (intro w hSw; (try dsimp only at hSw); go_simp; done)) | (focus (intro w hSw; (try dsimp only at hSw); go_simp; with_reducible rfl))); (try simp only [Act.put, List.setIfInBounds_toArray, List.set_cons_zero, List.set_cons_succ])
      refine wpAnyH_take (i := 1) (v := ?_) rfl (by kernel_rfl) (by kernel_rfl) (by kernel_rfl) (fun _ _ _ h => h) (Or.inl ⟨by rfl, ?_⟩) hH ?_; rotate_left 1; (first | (focus (intro w hSw; (try dsimp only at hSw); go_simp; done)) | (focus (intro w hSw; (try dsimp only at hSw); go_simp; with_reducible rfl))); (try simp only [Act.put, List.setIfInBounds_toArray, List.set_cons_zero, List.set_cons_succ])
      refine wpAnyH_take (i := 2) (v := ?_) rfl (by kernel_rfl) (by kernel_rfl) (by kernel_rfl) (fun _ _ _ h => h) (Or.inl ⟨by rfl, ?_⟩) hH ?_; rotate_left 1; (first | (focus (intro w hSw; (try dsimp only at hSw); go_simp; done)) | (focus (intro w hSw; (try dsimp only at hSw); go_simp; with_reducible rfl))); (try simp only [Act.put, List.setIfInBounds_toArray, List.set_cons_zero, List.set_cons_succ])
      refine wpAnyH_take (i := 3) (v := ?_) rfl (by kernel_rfl) (by kernel_rfl) (by kernel_rfl) (fun _ _ _ h => h) (Or.inl ⟨by rfl, ?_⟩) hH ?_; rotate_left 1; (first | (focus (intro w hSw; (try dsimp only at hSw); go_simp; done)) | (focus (intro w hSw; (try dsimp only at hSw); go_simp; with_reducible rfl))); (try simp only [Act.put, List.setIfInBounds_toArray, List.set_cons_zero, List.set_cons_succ])
      refine wpAnyH_take (i := 4) (v := ?_) rfl (by kernel_rfl) (by kernel_rfl) (by kernel_rfl) (fun _ _ _ h => h) (Or.inl ⟨by rfl, ?_⟩) hH ?_; rotate_left 1; (first | (focus (intro w hSw; (try dsimp only at hSw); go_simp; done)) | (focus (intro w hSw; (try dsimp only at hSw); go_simp; with_reducible rfl))); (try simp only [Act.put, List.setIfInBounds_toArray, List.set_cons_zero, List.set_cons_succ])
      refine wpAnyH_take (i := 5) (v := ?_) rfl (by kernel_rfl) (by kernel_rfl) (by kernel_rfl) (fun _ _ _ h => h) (Or.inl ⟨by rfl, ?_⟩) hH ?_; rotate_left 1; (first | (focus (intro w hSw; (try dsimp only at hSw); go_simp; done)) | (focus (intro w hSw; (try dsimp only at hSw); go_simp; with_reducible rfl))); (try simp only [Act.put, List.setIfInBounds_toArray, List.set_cons_zero, List.set_cons_succ])
      refine wpAnyH_take (i := 6) (v := ?_) rfl (by kernel_rfl) (by kernel_rfl) (by kernel_rfl) (fun _ _ _ h => h) (Or.inl ⟨by rfl, ?_⟩) hH ?_; rotate_left 1; (first | (focus (intro w hSw; (try dsimp only at hSw); go_simp; done)) | (focus (intro w hSw; (try dsimp only at hSw); go_simp; with_reducible rfl))); (try simp only [Act.put, List.setIfInBounds_toArray, List.set_cons_zero, List.set_cons_succ])
      refine wpAnyH_take (i := 7) (v := ?_) rfl (by kernel_rfl) (by kernel_rfl) (by kernel_rfl) (fun _ _ _ h => h) (Or.inl ⟨by rfl, ?_⟩) hH ?_; rotate_left 1; (first | (focus (intro w hSw; (try dsimp only at hSw); go_simp; done)) | (focus (intro w hSw; (try dsimp only at hSw); go_simp; with_reducible rfl))); (try simp only [Act.put, List.setIfInBounds_toArray, List.set_cons_zero, List.set_cons_succ])
      refine wpAnyH_take (i := 8) (v := ?_) rfl (by kernel_rfl) (by kernel_rfl) (by kernel_rfl) (fun _ _ _ h => h) (Or.inl ⟨by rfl, ?_⟩) hH ?_; rotate_left 1; (first | (focus (intro w hSw; (try dsimp only at hSw); go_simp; done)) | (focus (intro w hSw; (try dsimp only at hSw); go_simp; with_reducible rfl))); (try simp only [Act.put, List.setIfInBounds_toArray, List.set_cons_zero, List.set_cons_succ])
      refine wpAnyH_take (i := 9) (v := ?_) rfl (by kernel_rfl) (by kernel_rfl) (by kernel_rfl) (fun _ _ _ h => h) (Or.inl ⟨by rfl, ?_⟩) hH ?_; rotate_left 1; (first | (focus (intro w hSw; (try dsimp only at hSw); go_simp; done)) | (focus (intro w hSw; (try dsimp only at hSw); go_simp; with_reducible rfl))); (try simp only [Act.put, List.setIfInBounds_toArray, List.set_cons_zero, List.set_cons_succ])
      refine wpAnyH_take (i := 10) (v := ?_) rfl (by kernel_rfl) (by kernel_rfl) (by kernel_rfl) (fun _ _ _ h => h) (Or.inl ⟨by rfl, ?_⟩) hH ?_; rotate_left 1; (first | (focus (intro w hSw; (try dsimp only at hSw); go_simp; done)) | (focus (intro w hSw; (try dsimp only at hSw); go_simp; with_reducible rfl))); (try simp only [Act.put, List.setIfInBounds_toArray, List.set_cons_zero, List.set_cons_succ])
      refine wpAnyH_take (i := 11) (v := ?_) rfl (by kernel_rfl) (by kernel_rfl) (by kernel_rfl) (fun _ _ _ h => h) (Or.inl ⟨by rfl, ?_⟩) hH ?_; rotate_left 1; (first | (focus (intro w hSw; (try dsimp only at hSw); go_simp; done)) | (focus (intro w hSw; (try dsimp only at hSw); go_simp; with_reducible rfl))); (try simp only [Act.put, List.setIfInBounds_toArray, List.set_cons_zero, List.set_cons_succ])
      refine wpAnyH_ready (rs := [12]) (by kernel_rfl) (by simp) ?_
      refine AllReadyH.cons rfl (fun K hK => ?_) AllReadyH.nil
      rw [if_pos (by rfl)]
      go_simp
      refine (HWH.out _ (Below.refl _ V).drew).mono ?_
      rintro e u1 ⟨v1, rfl, hr1, hb1⟩
      obtain ⟨m, hm⟩ : ∃ m, (deep d 4 x.1).1.length = m + 1 := ⟨(deep d 4 x.1).1.length - 1, by have := List.length_pos_iff.2 HNE.out; omega⟩
      have hr1' := hr1
      rw [hm] at hr1'
      obtain ⟨g, cap, hv1⟩ := ownsRow_succ hr1'
      rw [← hm] at hv1
      have hi1 : IntsIn (fun b => w2.heap.size ≤ b) .i32 u1 v1 (deep d 4 x.1).1 := (runes_of_own hr1).mono (fun b hb _ => Nat.le_trans hVz hb)
      subst hv1
      have hb1' : Below V.heap.size V u1 := (Below.refl _ V).drew.trans hb1
      have hk1 : ∀ j, j < V.heap.size → u1.heap[j]? = V.heap[j]? := fun j hj => hb1'.block j hj
      obtain ⟨n, f, hs, hn, hfr⟩ := HF.out
      obtain ⟨w4, hrun, hs4, hg4⟩ := (hs.same (hk1 _ hmV)).update (t := 119) (e := 42) Tryz.underlying21 Tryz.underlying119 (by unfold maxLen; omega) x.1 HWF.out g (deep d 4 x.1).1.length cap
      have hS1 : (u1.cell? ⟨w.heap.size, 0, none⟩ = some (.pointer (some ⟨pb, 0, none⟩)) ∧ u1.cell? ⟨pb, 6, none⟩ = some (.map (some (w.heap.size + 1)))) ∧ u1.cell? ⟨pb, 2, none⟩ = some (.slice p d.length cp) ∧ u1.cell? ⟨b, 0, none⟩ = some (.int .i32 x.1) :=
        ⟨⟨(hb1'.cell (p := ⟨w.heap.size, 0, none⟩) (by show w.heap.size < _; omega)).trans s0, (hb1'.cell (p := ⟨pb, 6, none⟩) (by show pb < _; omega)).trans s6⟩, (hb1'.cell (p := ⟨pb, 2, none⟩) (by show pb < _; omega)).trans s2, (hb1'.cell (p := ⟨b, 0, none⟩) hbV).trans c0⟩
      have hS4 : (w4.cell? ⟨w.heap.size, 0, none⟩ = some (.pointer (some ⟨pb, 0, none⟩)) ∧ w4.cell? ⟨pb, 6, none⟩ = some (.map (some (w.heap.size + 1)))) ∧ w4.cell? ⟨pb, 2, none⟩ = some (.slice p d.length cp) ∧ w4.cell? ⟨b, 0, none⟩ = some (.int .i32 x.1) := by
        have hz1 := hb1'.size
        have hh : ∀ j o u, j < V.heap.size → j ≠ w.heap.size + 1 → u1.cell? ⟨j, o, none⟩ = some u → w4.cell? ⟨j, o, none⟩ = some u := fun j o u hj hne h =>
          (World.cell?_of_block (w := u1) (a := ⟨j, o, none⟩) (hg4.block j (by omega) (by simp; omega))).trans h
        exact ⟨⟨hh _ _ _ (by omega) (by omega) hS1.1.1, hh _ _ _ (by omega) (by omega) hS1.1.2⟩, hh _ _ _ (by omega) (by omega) hS1.2.1, hh _ _ _ (by omega) (by omega) hS1.2.2⟩
      have HE : Hid (KeepsBooks V w4 ∧ Only (fun k => k = w.heap.size + 1) w2 w4 ∧ FullAt (fun b => w2.heap.size ≤ b) w4 (w.heap.size + 1) d (d.take (i + 1))) := by
        refine ⟨?_, ?_, ?_⟩
        · have hso : ∃ es c, u1.heap[w.heap.size + 1]? = some (.map es c) := by
            obtain ⟨L, ⟨es, c, h1, _⟩, _⟩ := hs.same (hk1 _ hmV)
            exact ⟨es, c, h1⟩
          obtain ⟨es, c, hm1⟩ := hso
          exact (KeepsBooks.below hb1').trans (KeepsBooks.grown hg4 (fun k o e ho => by
            injection e with e; subst e
            rw [hm1] at ho; cases ho
            exact ⟨fun _ => by simp, fun _ => by simp⟩))
        · exact only_grownS (HO.out.below hb1') hg4 rfl
        · rw [HTK.out]
          exact FullAt.push hn hfr (Kept.below hb1') hi1 hs4 (Kept.grown hg4 (fun j hj e => by injection e with e; omega))
      clear hr1 hr1' hb1 hb1' hk1 hs hfr hs4 hg4 hi1 hm
      refine hK.out _ _ hS1 (fun hH1 => ?_)
      clear hK hH hS1
      (try simp only [Act.put, List.setIfInBounds_toArray, List.set_cons_zero, List.set_cons_succ])
      refine wpAnyH_ready (rs := [13]) (by kernel_rfl) (by simp) ?_
      refine AllReadyH.cons rfl (fun K hK => ?_) AllReadyH.nil
      rw [if_pos (by rfl)]
      go_simp
      refine hK.out _ _ hS4 (fun _ => ?_)
      refine wpAnyH_done (by kernel_rfl) ?_ _
      exact HE.out
  case after =>
    rintro D V hD (⟨i, hl', ho, hf⟩ | h) hK
    · have HF := Lib.hid hf
      have HO := Lib.hid ho
      have hz := HZ2.out
      have hpb := HPB.out
      have hk : ∀ b, b < w2.heap.size → b ≠ w.heap.size + 1 → V.heap[b]? = w2.heap[b]? := fun b hb hne => ho.block b hb hne
      have HNO : Hid (NoAt V pb cv (.slice p d.length cp) 0 1 (.map (some (w.heap.size + 1)))) := (hk pb (by omega) (by omega)).trans HN2.out
      have hDl := (Array.getElem?_eq_some_iff.1 hK).1
      have HT : Hid (d.take i = d) := List.take_of_length_le hl'
      clear ho hf hk
      simp only [marked]
      gi_wp2_with fail
      refine leave_mark (v := .tuple #[]) hK ?_ ⟨rfl, ⟨w.heap.size + 1, ?_, by omega, ?_, ?_⟩, ?_⟩
      · simp [results, Tryz.results172, go_sem]
      · exact (World.putObj_heap_other (by omega)).trans HNO.out
      · have := HO.out.size; simp; omega
      · have hf := HF.out
        rw [HT.out] at hf
        refine (StayFrom.full hml V _ (some D) hf (grownBy_putObj V D _) (fun r e => by injection e with e; subst e; exact ⟨hD, _, hK, rfl⟩)).mono (fun b hb _ => ⟨HR.out b (by omega), by omega⟩)
      · refine ⟨HO.out.os.trans HAL.out.os, HO.out.tape.trans HAL.out.tape, HO.out.output.trans HAL.out.output, by have := HO.out.size; simp; omega, fun k hk hn => ?_⟩
        exact (World.putObj_heap_other (by omega)).trans ((HO.out.block k (by omega) (show ¬ k = w.heap.size + 1 by omega)).trans (HAL.out.block k hk hn))
    · exact h.elim
end Go.Proofs.YtnglhgogkemgbaaGreatDoor
namespace Go.Proofs.YtnglhgogkemgbaaGreatDoor
open Go.RowKit

set_option maxHeartbeats 1000000 in
set_option maxRecDepth 100000 in
theorem rclone_ok (R : Nat → Prop) (xs : List Int) (v : Value) (w : World) (hv : IntsIn R .i32 w v xs) (hne : 0 < xs.length) (hl : xs.length ≤ 1000000000) :
    Calls Tryz.prog 137 #[v] w fun e w' => (∃ v, e = .returned v ∧ w'.ownsRow w.heap.size 21 1 v xs.length (xs.map (Value.int .i32))) ∧ Below w.heap.size w w' := by
  obtain ⟨i0, hi, hz0, hz1, hz2⟩ := info_parts Tryz.infoI32
  have HV : Hid (IntsIn (fun b => R b ∧ b < w.heap.size) .i32 w v xs) := hv.mono (fun b h1 h2 => ⟨h1, h2⟩)
  obtain ⟨b, o, cp, rfl, _, _, _⟩ := hv.place hne
  have he : ∀ w, (binOp .eql 42 (.slice (some ⟨b, o, none⟩) xs.length cp) (.slice none 0 0)).run Tryz.prog w = .ok (.bool false) w := fun w => Lib.run_eql_slice_nil w _ _ (some ⟨b, o, none⟩) _ cp 0 0 Tryz.underlying42
  have hal : Below w.heap.size w (w.alloc (.cells #[] 21)) := (Below.refl _ w).alloc (Nat.le_refl _) _
  have HR : Hid ((w.alloc (.cells #[] 21)).ownsRow w.heap.size 21 1 (.slice (some ⟨w.heap.size, 0, none⟩) 0 0) 0 []) := World.ownsRow_lit w #[] 0 (Nat.le_refl _) (by decide) rfl
  obtain ⟨_, _, _, e, _, _, hc⟩ := (HV.out.kept (Kept.below hal)).place hne
  cases e
  have HC := Lib.hid hc
  have hz : w.heap.size ≤ (w.alloc (.cells #[] 21)).heap.size := by simp
  have HAL := Lib.hid hal
  clear hv hc hal
  go_enter Tryz.func137, Tryz.ntmps137
  go_wp2_with (at_builtin; refine app_stop ⟨_, _, rfl⟩ ?_)
  refine Lib.hid ?_
  refine wpList_append_own _ rfl _ _ 42 rfl (w.heap.size) 21 i0 (.int .i32 0) 1 4 Tryz.underlying42 hi hz0 hz1 hz2 rfl (by decide) (.slice (some ⟨w.heap.size, 0, none⟩) 0 0) 0 [] rfl HR.out ⟨b, o, none⟩ xs.length cp (xs.map (Value.int .i32)) rfl (by simp) (news_of HC.out) (by simp [Value.oneCell']) (by unfold maxLen; omega) (by omega) hz ?_
  intro v5 w5 hr5 hg5 _
  have hr5' : w5.ownsRow w.heap.size 21 1 v5 xs.length (xs.map (Value.int .i32)) := by simpa using hr5
  have HR5 := Lib.hid hr5'
  have HB5 : Hid (Below w.heap.size w w5) := HAL.out.grown hg5 HAL.out.size (fun j hj => by
    have : some w.heap.size = some j := hj
    simp at this; omega)
  clear hr5 hr5' hg5 hz
  go_wp2
  refine bodyPost_ret (v := v5) (by simp [results, Tryz.results137, go_sem]) rfl ⟨⟨v5, rfl, HR5.out⟩, HB5.out⟩
theorem NoAt.put {W : World} {pb : Nat} {cv dv full : Value} {dn mu : Int} (h : NoAt W pb cv dv dn mu full) (x : Int) : NoAt (W.setCell ⟨pb, 4, none⟩ (.int .i32 x)) pb cv dv dn x full := by
  unfold NoAt at *
  unfold World.setCell
  simp [Array.getElem?_modify, h]
theorem NoAt.putD {W : World} {pb : Nat} {cv dv full : Value} {dn mu : Int} (h : NoAt W pb cv dv dn mu full) (x : Int) : NoAt (W.setCell ⟨pb, 3, none⟩ (.int .u32 x)) pb cv dv x mu full := by
  unfold NoAt at *
  unfold World.setCell
  simp [Array.getElem?_modify, h]
/-- data in memory whose map is made -/
def NrmD (R : Nat → Prop) (W : World) (pb : Nat) (c d : List T3) (mb : Nat) : Prop :=
  ∃ cv dv, NoAt W pb cv dv 1 0 (.map (some mb)) ∧ mb ≠ pb ∧ mb < W.heap.size ∧ FullAt (fun b => R b ∧ b ≠ pb) W mb d d
theorem kept_setCell {R : Nat → Prop} {W : World} {pb o : Nat} {v : Value} (h : ∀ b, R b → b ≠ pb) : Kept R W (W.setCell ⟨pb, o, none⟩ v) := ⟨by simp, fun b hb _ => Below.heap_setCell _ _ _ _ (h b hb)⟩
set_option maxHeartbeats 1000000 in
set_option maxRecDepth 100000 in
theorem do_any (R : Nat → Prop) (pb : Nat) (c d : List T3) (w : World) (hR : ∀ b, w.heap.size ≤ b → R b) (h : Nrm R w pb c d) :
    Calls Tryz.prog 171 #[.pointer (some ⟨pb, 3, none⟩), .func (.func 172) #[.pointer (some ⟨pb, 0, none⟩)] #[]] w fun e w' => e = .returned (.tuple #[]) ∧ Nrm R w' pb c d ∧ (∃ mb, NrmD R w' pb c d mb) ∧ Only (fun k => k = pb) w w' := by
  obtain ⟨hr, ho, cv, dv, h1, h2, hn | ⟨mb, hn, hm, hne, hml, hf⟩⟩ := h
  · obtain ⟨_, _, _, c3, c4, _, fz⟩ := hn.cells
    refine (once_first pb 3 172 (.pointer (some ⟨pb, 0, none⟩)) (fun w' => (∃ mb, NoAt w' pb cv dv 0 1 (.map (some mb)) ∧ w.heap.size ≤ mb ∧ mb < w'.heap.size ∧ FullAt (fun b => R b ∧ b ≠ pb) w' mb d d) ∧ Only (fun k => k = pb) w w') w (enters_of Tryz.func172 (by kernel_rfl) rfl) c3 c4 (fz 4) ?_ ?_).mono ?_
    · refine (reckon_ok R pb c d dv cv _ (fun b hb => hR b (by simpa using hb)) (hn.put 1) (h2.kept (kept_setCell (fun b hb => hb.2))) ho).mono ?_
      rintro e w' ⟨he, ⟨mb, k1, k2, k3, k4⟩, k5⟩
      exact ⟨he, ⟨mb, k1, by simpa using k2, k3, k4⟩, ((Only.refl (fun k => k = pb) w).setCell (p := ⟨pb, 4, none⟩) rfl _).trans k5⟩
    · rintro w' ⟨⟨mb, k1, _⟩, _⟩
      obtain ⟨_, _, _, q3, q4, _, qf⟩ := k1.cells
      exact ⟨q3, q4, qf 3, qf 4⟩
    · rintro e w' ⟨he, w1, ⟨⟨mb, k1, k2, k3, k4⟩, k5⟩, rfl⟩
      have hn' : NoAt ((w1.drew.setCell ⟨pb, 3, none⟩ (.int .u32 1)).setCell ⟨pb, 4, none⟩ (.int .i32 0)) pb cv dv 1 0 (.map (some mb)) := (NoAt.putD (W := w1.drew) k1 1).put 0
      have hk : Kept (fun b => R b ∧ b ≠ pb) w1 ((w1.drew.setCell ⟨pb, 3, none⟩ (.int .u32 1)).setCell ⟨pb, 4, none⟩ (.int .i32 0)) :=
        Kept.trans (b := w1.drew.setCell ⟨pb, 3, none⟩ (.int .u32 1)) ⟨by simp, fun b hb _ => Below.heap_setCell w1.drew _ _ _ hb.2⟩ (kept_setCell (fun b hb => hb.2))
      have hlt := hn.lt
      have hmb : mb ≠ pb := by omega
      have hk0 : Kept (fun b => R b ∧ b ≠ pb) w w1 := Kept.only k5 (fun b hb e => hb.2 e)
      have hff : FullAt (fun b => R b ∧ b ≠ pb) ((w1.drew.setCell ⟨pb, 3, none⟩ (.int .u32 1)).setCell ⟨pb, 4, none⟩ (.int .i32 0)) mb d d := k4.kept hk (hk.2 mb ⟨hR mb k2, hmb⟩ k3)
      have hml : mb < ((w1.drew.setCell ⟨pb, 3, none⟩ (.int .u32 1)).setCell ⟨pb, 4, none⟩ (.int .i32 0)).heap.size := by simpa using k3
      refine ⟨he, ⟨hr, ho, cv, dv, (h1.kept hk0).kept hk, (h2.kept hk0).kept hk, .inr ⟨mb, hn', hR mb k2, hmb, hml, hff⟩⟩, ⟨mb, cv, dv, hn', hmb, hml, hff⟩, ?_⟩
      exact (k5.drew.setCell (p := ⟨pb, 3, none⟩) rfl _).setCell (p := ⟨pb, 4, none⟩) rfl _
  · obtain ⟨_, _, _, c3, _⟩ := hn.cells
    refine (once_done pb 3 _ w c3).mono ?_
    rintro e w' ⟨he, rfl⟩
    exact ⟨he, ⟨hr, ho, cv, dv, h1, h2, .inr ⟨mb, hn, hm, hne, hml, hf⟩⟩, ⟨mb, cv, dv, hn, hne, hml, hf⟩, Only.refl _ _⟩
/-- runes of memory of one's own -/
def RunesTold (pb : Nat) (R : Nat → Prop) (c d : List T3) (L : List Int) (w : World) (e : Ending) (w' : World) : Prop :=
  (∃ v, e = .returned v ∧ w'.ownsRow w.heap.size 21 1 v L.length (L.map (Value.int .i32))) ∧ Nrm R w' pb c d ∧ Only (fun k => k = pb) w w'
theorem Nrm.cell0 {R : Nat → Prop} {W : World} {pb : Nat} {c d : List T3} (h : Nrm R W pb c d) : W.cell? ⟨pb, 0, none⟩ = some (.int .i64 1) := by
  obtain ⟨_, _, cv, dv, _, _, h | ⟨mb, h, _⟩⟩ := h <;> exact h.cells.1
theorem deep_hang {d : List T3} {r : Int} (k : Nat) (h : hang r ≠ []) : (deep d k r).1 = hang r := by unfold deep; rw [if_pos h]
theorem deep_pos {c d : List T3} {r : Int} (h : dataOk c d = true) : ∀ x ∈ d, x.1 = r → 0 < (deep d 4 r).1.length := by
  intro x hx hxr
  have := (data_parts h).2.2.2.2 x hx
  unfold decTwo at this
  simp only [Bool.and_eq_true] at this
  rw [← hxr]
  exact List.length_pos_iff.2 (deep_ne 4 x.1 this.1.2)
theorem deep_none {d : List T3} {r : Int} (k : Nat) (h : hang r = []) (hn : dOne d r = none) : (deep d k r).1 = [r] := by unfold deep; rw [if_neg (by simp [h]), hn]
set_option maxHeartbeats 2000000 in
set_option maxRecDepth 100000 in
theorem decomp_any (R : Nat → Prop) (pb : Nat) (c d : List T3) (r : Int) (w : World) (hR : ∀ b, w.heap.size ≤ b → R b) (h : Nrm R w pb c d) (hr : -2147483648 ≤ r ∧ r ≤ 2147483647) :
    Calls Tryz.prog 139 #[.pointer (some ⟨pb, 0, none⟩), .int .i32 r] w (RunesTold pb R c d (deep d 4 r).1 w) := by
  have hmf : ∀ (fn : Fn) (first cap : Array Value) (w : World), (Instr.makeFunc fn first cap).run Tryz.prog w = .ok (.func fn first cap) w := fun _ _ _ _ => rfl
  have his := nIs_any pb w h.cell0
  have H := Lib.hid h
  by_cases hh : hang r ≠ []
  · have hy := hangul_yes r (hang_in hh).1 (hang_in hh).2 w
    have HL := Lib.hid (hang_len r (hang_in hh).1 (hang_in hh).2)
    rw [deep_hang 4 hh]
    clear hh hR h
    go_enter Tryz.func139, Tryz.ntmps139
    go_wp2_with fail
    refine his.mono ?_
    rintro e w' ⟨rfl, rfl⟩
    go_wp2_with fail
    refine hy.mono ?_
    rintro e w1 ⟨v, rfl, hr1, hb1⟩
    obtain ⟨m, hm⟩ := HL.out
    have hr' := hr1
    rw [hm] at hr'
    obtain ⟨g, cap, rfl⟩ := ownsRow_succ hr'
    have HR1 := Lib.hid hr1
    clear hy his hr1 hr' hm
    go_wp2_with fail
    go_ret
    exact ⟨⟨_, rfl, HR1.out⟩, H.out.below hb1, (Only.refl _ _).below hb1⟩
  · have h0 : hang r = [] := Decidable.not_not.1 hh
    have hout := hang_out h0
    have hno := hangul_no r hout w
    have hdo := do_any R pb c d w hR h
    have hlt := h.lt
    have HNE : Hid (∀ x ∈ d, x.1 = r → 0 < (deep d 4 r).1.length) := deep_pos h.2.1
    clear hh hout h
    go_enter Tryz.func139, Tryz.ntmps139
    go_wp2_with fail
    refine his.mono ?_
    rintro e w' ⟨rfl, rfl⟩
    go_wp2_with fail
    refine hno.mono ?_
    rintro e w' ⟨rfl, rfl⟩
    clear his hno
    go_wp2_with fail
    refine hdo.mono ?_
    rintro e w1 ⟨rfl, hn1, ⟨mb, cv, dv, hno1, hmp, hml, n, f, hs, hnn, hf⟩, ho1⟩
    have HN1 := Lib.hid hn1
    have HO1 := Lib.hid ho1
    obtain ⟨_, _, _, _, _, c6, _⟩ := hno1.cells
    have hz : ∀ w, (zeroValue 42).run Tryz.prog w = .ok (.slice none 0 0) w := fun w => by kernel_rfl
    have hlook := hs.lookup (t := 119) (e := 42) Tryz.underlying21 Tryz.underlying119 hz r (wf_i32n hr)
    rcases hf r with ⟨hf0, hnone⟩ | ⟨g, cap, hf1, hsome, hi⟩
    · rw [hf0] at hlook
      have HD : Hid ((deep d 4 r).1 = [r]) := deep_none 4 h0 (find_no _ d fun i y hy => by
        have := hnone y (List.mem_of_getElem? hy)
        simpa using this)
      unfold slV at hlook
      simp only [Option.isSome_none] at hlook
      clear hdo hn1 ho1 hno1 hs hf hf0 hnone hr h0
      go_wp2_with fail
      go_ret
      rw [HD.out]
      have hz1 := HO1.out.size
      have hb2 : Below w1.heap.size w1 (w1.alloc (.cells #[.int .i32 r] 21)) := (Below.refl _ w1).alloc (Nat.le_refl _) _
      refine ⟨⟨_, rfl, World.ownsRow_lit (base := w.heap.size) (e := 21) (size := 1) w1 #[.int .i32 r] 1 hz1 (by decide) rfl⟩, HN1.out.below hb2, HO1.out.below hb2⟩
    · rw [hf1] at hlook
      unfold slV at hlook
      simp only [Option.isSome_some] at hlook
      have hll := deep_len d 4 r
      have hne : 0 < (deep d 4 r).1.length := by
        obtain ⟨x, hx, hxr⟩ := hsome
        exact HNE.out x hx hxr
      have hcl := rclone_ok _ _ _ w1 hi hne (by omega)
      clear hdo hn1 ho1 hno1 hs hf hf1 hsome hr h0
      go_wp2_with fail
      refine hcl.mono ?_
      rintro e w2 ⟨⟨v, rfl, hr2⟩, hb2⟩
      have HR2 := Lib.hid hr2
      have HB2 := Lib.hid hb2
      clear hcl hr2 hb2
      go_wp2_with fail
      go_ret
      exact ⟨⟨v, rfl, ownsRow_mono HR2.out HO1.out.size⟩, HN1.out.below HB2.out, HO1.out.below HB2.out⟩
set_option maxHeartbeats 1000000 in
set_option maxRecDepth 100000 in
theorem nClass_any (R : Nat → Prop) (pb : Nat) (c d : List T3) (r : Int) (w : World) (h : Nrm R w pb c d) :
    Calls Tryz.prog 100 #[.pointer (some ⟨pb, 0, none⟩), .int .i32 r] w fun e w' => e = .returned (.int .i64 (clsOf c r)) ∧ Below w.heap.size w w' := by
  have his := nIs_any pb w h.cell0
  obtain ⟨hr, ho, cv, dv, h1, h2, h3⟩ := h
  obtain ⟨hcl, _, hc, _⟩ := data_parts ho
  have c1 : w.cell? ⟨pb, 1, none⟩ = some cv := by rcases h3 with h | ⟨mb, h, _⟩ <;> exact h.cells.2.1
  have hco := classOf_any _ c cv r w h1 hc hcl
  clear h1 h2 h3 hc ho
  go_enter Tryz.func100, Tryz.ntmps100
  go_wp2_with fail
  refine his.mono ?_
  rintro e w' ⟨rfl, rfl⟩
  clear his
  go_wp2_with fail
  refine hco.mono ?_
  rintro e w1 ⟨rfl, hb1⟩
  clear hco
  go_wp2_with fail
  go_ret
  exact ⟨rfl, hb1⟩
set_option maxHeartbeats 1000000 in
set_option maxRecDepth 100000 in
theorem nStarter_any (R : Nat → Prop) (pb : Nat) (c d : List T3) (r : Int) (w : World) (h : Nrm R w pb c d) :
    Calls Tryz.prog 53 #[.pointer (some ⟨pb, 0, none⟩), .int .i32 r] w fun e w' => e = .returned (.bool (clsOf c r == 0)) ∧ Below w.heap.size w w' := by
  have hco := nClass_any R pb c d r w h
  clear h
  generalize clsOf c r = k at *
  go_enter Tryz.func53, Tryz.ntmps53
  go_wp2_with fail
  refine hco.mono ?_
  rintro e w1 ⟨rfl, hb1⟩
  clear hco
  go_wp2_with fail
  go_ret
  exact ⟨rfl, hb1⟩
end Go.Proofs.YtnglhgogkemgbaaGreatDoor
namespace Go.Proofs.YtnglhgogkemgbaaGreatDoor
open Go.RowKit
attribute [local go_sem] Oper.semAt_some

/-- nobody made it: nil, or a head of zeros -/
def NotNrm (w : World) (v : Value) : Prop := v = .pointer none ∨ ∃ z, v = .pointer (some ⟨z, 0, none⟩) ∧ w.cell? ⟨z, 0, none⟩ = some (.int .i64 0)
theorem NotNrm.below {w w' : World} {v : Value} (h : NotNrm w v) (hb : Below w.heap.size w w') : NotNrm w' v := by
  rcases h with h | ⟨z, h, hz⟩
  · exact .inl h
  · refine .inr ⟨z, h, ?_⟩
    have hl : z < w.heap.size := by
      rcases Nat.lt_or_ge z w.heap.size with h' | h'
      · exact h'
      · simp [World.cell?, Array.getElem?_eq_none h'] at hz
    rw [hb.cell (p := ⟨z, 0, none⟩) hl]; exact hz
end Go.Proofs.YtnglhgogkemgbaaGreatDoor
namespace Go.Proofs.YtnglhgogkemgbaaGreatDoor
open Go.RowKit

set_option maxHeartbeats 400000 in
theorem scalar_any (r : Int) (w : World) :
    Calls Tryz.prog 138 #[.int .i32 r] w fun e w' => e = .returned (.bool (sc r)) ∧ w = w' := by
  go_enter Tryz.func138, Tryz.ntmps138
  go_wp2
  all_goals go_ret
  all_goals (refine ⟨?_, rfl⟩; simp_all [sc]; try omega)

end Go.Proofs.YtnglhgogkemgbaaGreatDoor
