/- Package valid: Check: walked. -/
import Derived.Test.YtnglhgogkemgbaaGreatDoorG40
import Derived.Test.YtnglhgogkemgbaaGreatDoorG41
import Derived.Recover
import Derived.Defers
import Derived.Shelf.Abstract
namespace Go.Proofs.YtnglhgogkemgbaaGreatDoor
open Go.RowKit

set_option maxHeartbeats 1000000 in
set_option maxRecDepth 100000 in
theorem vcatch_panic (A E : Nat) (k z x y : Int) (w : World) (hA : w.heap[A]? = some (.cells #[.int .i64 x] 3 (0, 0))) (hE : w.heap[E]? = some (.cells #[.int .i64 y] 35 (0, 0))) :
    CallsD Tryz.prog 16 #[.pointer (some ⟨A, 0, none⟩), .pointer (some ⟨E, 0, none⟩)] (.panicking (chainV k z)) w fun e u' w' =>
      e = .returned (.tuple #[]) ∧ u' = .panicking (chainVR k z) ∧ Only (fun i => i = A ∨ i = E) w w' ∧ w'.cell? ⟨A, 0, none⟩ = some (.int .i64 k) ∧ w'.cell? ⟨E, 0, none⟩ = some (.int .i64 z) := by
  have hne : A ≠ E := fun e => by subst e; rw [hA] at hE; simp at hE
  obtain ⟨a0, a1, a2⟩ := one_cell hA
  obtain ⟨e0, e1, e2⟩ := one_cell hE
  have hta : ∀ w, (Instr.typeAssert (.iface 57 (.agg #[.int .i64 k, .int .i64 z])) 20 57 true).run Tryz.prog w = .ok (.tuple #[.agg #[.int .i64 k, .int .i64 z], .bool true]) w := fun _ => by kernel_rfl
  have HF : Hid (∀ V : World, Below w.heap.size w V → (((V.setCell ⟨A, 0, none⟩ (.int .i64 k)).setCell ⟨E, 0, none⟩ (.int .i64 z)).cell? ⟨A, 0, none⟩ = some (.int .i64 k) ∧ ((V.setCell ⟨A, 0, none⟩ (.int .i64 k)).setCell ⟨E, 0, none⟩ (.int .i64 z)).cell? ⟨E, 0, none⟩ = some (.int .i64 z)) ∧
      (((V.setCell ⟨E, 0, none⟩ (.int .i64 z)).setCell ⟨A, 0, none⟩ (.int .i64 k)).cell? ⟨A, 0, none⟩ = some (.int .i64 k) ∧ ((V.setCell ⟨E, 0, none⟩ (.int .i64 z)).setCell ⟨A, 0, none⟩ (.int .i64 k)).cell? ⟨E, 0, none⟩ = some (.int .i64 z))) := by
    show ∀ V, _
    intro V hV
    have hA' := (hV.block A a2).trans hA
    have hE' := (hV.block E e2).trans hE
    refine ⟨⟨?_, ?_⟩, ⟨?_, ?_⟩⟩
    · refine (one_cell (t := 3) ?_).1
      rw [Below.heap_setCell _ _ _ _ hne]; exact one_put hA'
    · refine (one_cell (t := 35) ?_).1
      exact one_put ((Below.heap_setCell _ _ _ _ (Ne.symm hne)).trans hE')
    · refine (one_cell (t := 3) ?_).1
      exact one_put ((Below.heap_setCell _ _ _ _ hne).trans hA')
    · refine (one_cell (t := 35) ?_).1
      rw [Below.heap_setCell _ _ _ _ (Ne.symm hne)]; exact one_put hE'
  refine callsD_of_wpS Tryz.func16 rfl fun c₀ cs hu => ?_
  apply wpS_seq
  apply wpS_region
  unfold chainV at hu
  simp [wpOpsS, go_sem, recoverD, hu, Tryz.ntmps16, Exit.thenS]
  refine wpS_of_wp ?_
  simp only [List.size_toArray, List.length_cons, List.length_nil, Nat.reduceAdd, Nat.reduceSub, Array.replicate_succ, Array.replicate_zero, List.push_toArray, List.append_toArray, List.nil_append, List.cons_append, List.setIfInBounds_toArray, List.set_cons_zero, List.set_cons_succ]
  go_wp2
  have ha : Below w.heap.size w (w.alloc (.cells #[.int .i64 k, .int .i64 z] 57)) := (Below.refl _ w).alloc (Nat.le_refl _) _
  have hf : (w.alloc (.cells #[.int .i64 k, .int .i64 z] 57)).heap[w.heap.size]? = some (.cells #[.int .i64 k, .int .i64 z] 57 (0, 0)) := World.alloc_heap_new _ _
  have HA := Lib.hid ha
  generalize w.alloc (.cells #[.int .i64 k, .int .i64 z] 57) = V at *
  obtain ⟨f0, f1, _, _⟩ := two_cells hf
  have hfl := (Array.getElem?_eq_some_iff.1 hf).1
  obtain ⟨b0, b1, b2⟩ := one_cell ((ha.block A a2).trans hA)
  obtain ⟨d0, d1, d2⟩ := one_cell ((ha.block E e2).trans hE)
  have hAf : A ≠ w.heap.size := by omega
  have hEf : E ≠ w.heap.size := by omega
  obtain ⟨fb, hfb⟩ : ∃ fb, w.heap.size = fb := ⟨_, rfl⟩
  have HSZ := Lib.hid hfb
  rw [hfb] at HA f0 f1 hfl hAf hEf HF ⊢
  clear hfb
  have HHA := Lib.hid (And.intro hA hE)
  clear hA hE ha hf a0 a1 a2 e0 e1 e2 hta hu
  go_region
  all_goals go_wp2
  all_goals (
    obtain ⟨⟨k1, k2⟩, k3, k4⟩ := HF.out V HA.out
    have hO : Only (fun i => i = A ∨ i = E) w V := (Only.refl (fun i => i = A ∨ i = E) w).below (show Below w.heap.size w V from ⟨HA.out.os, HA.out.tape, HA.out.output, HA.out.size, fun j hj => HA.out.block j (by have := HSZ.out; omega)⟩)
    refine ⟨rfl, .panicking (chainVR k z), rfl, .tuple #[], results_none rfl _ _ _, rfl, rfl, ?_, ?_, ?_⟩
    · first
        | exact ((hO.setCell (p := ⟨A, 0, none⟩) (.inl rfl) _).setCell (p := ⟨E, 0, none⟩) (.inr rfl) _).drew
        | exact ((hO.setCell (p := ⟨E, 0, none⟩) (.inr rfl) _).setCell (p := ⟨A, 0, none⟩) (.inl rfl) _).drew
    · first | exact k1 | exact k3
    · first | exact k2 | exact k4)
set_option maxHeartbeats 1000000 in
set_option maxRecDepth 100000 in
theorem vcatch_idle (A E : Nat) (w : World) :
    CallsD Tryz.prog 16 #[.pointer (some ⟨A, 0, none⟩), .pointer (some ⟨E, 0, none⟩)] .returning w fun e u' w' => e = .returned (.tuple #[]) ∧ u' = .returning ∧ w' = w := by
  refine callsD_of_wpS Tryz.func16 rfl fun c₀ cs hu => ?_
  apply wpS_seq
  apply wpS_region
  simp [wpOpsS, go_sem, recoverD, hu, Tryz.ntmps16, Exit.thenS]
  refine wpS_of_wp ?_
  simp only [List.size_toArray, List.length_cons, List.length_nil, Nat.reduceAdd, Nat.reduceSub, Array.replicate_succ, Array.replicate_zero, List.push_toArray, List.append_toArray, List.nil_append, List.cons_append, List.setIfInBounds_toArray, List.set_cons_zero, List.set_cons_succ]
  go_wp2
  refine ⟨rfl, .returning, ?_, .tuple #[], results_none rfl _ _ _, rfl, rfl, rfl⟩
  cases c₀
  simp_all
/-- what Check answers -/
def vres (c d : List T3) (ver : ByteArray) (rs : List Rng) (es : List Ent) : Int × Int := vchk ckA ckE (clsOf c) (isNf (clsOf c) (fun r => (deep d 4 r).1)) 65536 ver.data.toList rs es
section
variable {c d : List T3} {ver : ByteArray} {rs : List Rng} {es : List Ent}
theorem vres_ver (h : verB ver.data.toList = false) : vres c d ver rs es = (0, 114) := by unfold vres vchk; rw [if_pos h]
theorem vres_rng (h : verB ver.data.toList = true) (h2 : rngC rs ≠ 0) : vres c d ver rs es = (0, rngC rs) := by unfold vres vchk; rw [if_neg (by rw [h]; decide), if_pos h2]
theorem vres_ent (h : verB ver.data.toList = true) (h2 : rngC rs = 0) (h3 : ckE es ≠ 0) : vres c d ver rs es = (ckA es, ckE es) := by
  unfold vres vchk; rw [if_neg (by rw [h]; decide), if_neg (by rw [h2]; decide), if_pos h3]
theorem vres_frm (h : verB ver.data.toList = true) (h2 : rngC rs = 0) (h3 : ckE es = 0) {r : Nat × Int} (h4 : fstZ (frmZ (clsOf c) (isNf (clsOf c) (fun r => (deep d 4 r).1)) es) 0 es = some r) : vres c d ver rs es = ((r.1 : Int), r.2) := by
  unfold vres vchk; rw [if_neg (by rw [h]; decide), if_neg (by rw [h2]; decide), if_neg (by rw [h3]; decide), h4]
theorem vres_ord (h : verB ver.data.toList = true) (h2 : rngC rs = 0) (h3 : ckE es = 0) (h4 : fstZ (frmZ (clsOf c) (isNf (clsOf c) (fun r => (deep d 4 r).1)) es) 0 es = none) {r : Nat × Int} (h5 : fstZ (ordZ (greatV 65536 es)) 0 es = some r) : vres c d ver rs es = ((r.1 : Int), r.2) := by
  unfold vres vchk; rw [if_neg (by rw [h]; decide), if_neg (by rw [h2]; decide), if_neg (by rw [h3]; decide), h4]; dsimp only; rw [h5]
theorem vres_var (h : verB ver.data.toList = true) (h2 : rngC rs = 0) (h3 : ckE es = 0) (h4 : fstZ (frmZ (clsOf c) (isNf (clsOf c) (fun r => (deep d 4 r).1)) es) 0 es = none) (h5 : fstZ (ordZ (greatV 65536 es)) 0 es = none) {r : Nat × Int} (h6 : fstZ (varZ (greatV 65536 es)) 0 es = some r) : vres c d ver rs es = ((r.1 : Int), r.2) := by
  unfold vres vchk; rw [if_neg (by rw [h]; decide), if_neg (by rw [h2]; decide), if_neg (by rw [h3]; decide), h4]; dsimp only; rw [h5]; dsimp only; rw [h6]
theorem vres_ok (h : verB ver.data.toList = true) (h2 : rngC rs = 0) (h3 : ckE es = 0) (h4 : fstZ (frmZ (clsOf c) (isNf (clsOf c) (fun r => (deep d 4 r).1)) es) 0 es = none) (h5 : fstZ (ordZ (greatV 65536 es)) 0 es = none) (h6 : fstZ (varZ (greatV 65536 es)) 0 es = none) : vres c d ver rs es = (0, 0) := by
  unfold vres vchk; rw [if_neg (by rw [h]; decide), if_neg (by rw [h2]; decide), if_neg (by rw [h3]; decide), h4]; dsimp only; rw [h5]; dsimp only; rw [h6]
end
/-- while Check looks: b0 is the first of its own blocks -/
structure VC (pb : Nat) (N0 : Nat → Prop) (b0 : Nat) (c d : List T3) (w : World) (ver : ByteArray) (rv ev tv : Value) (W : World) : Prop where
  only : Only (fun i => i = pb) w W
  nrm : Nrm (fun b => N0 b ∧ b ≠ b0 + 1 ∧ b ≠ b0 + 2 ∧ b ≠ b0 + 3) W pb c d
  atc : W.heap[b0 + 1]? = some (.cells #[.int .i64 0] 3 (0, 0))
  erc : W.heap[b0 + 2]? = some (.cells #[.int .i64 0] 35 (0, 0))
  wk : WkAt W (b0 + 3) (.pointer (some ⟨pb, 0, none⟩)) ver rv ev tv
/-- the first k checks are behind -/
structure VSt (pb : Nat) (N0 : Nat → Prop) (b0 : Nat) (c d : List T3) (rs : List Rng) (es : List Ent) (w : World) (ver : ByteArray) (rv ev : Value) (k : Nat) (W : World) : Prop where
  at0 : ∃ tv, VC pb N0 b0 c d w ver rv ev tv W ∧ (k = 3 → ∃ tb B N root lv n vs, tv = .pointer (some ⟨tb, 0, none⟩) ∧ NewAt B W tb es es (es.map (·.1)) N root lv n 0 vs ∧ b0 + 4 ≤ B ∧ Nrm (fun b => (N0 b ∧ b ≠ b0 + 1 ∧ b ≠ b0 + 2 ∧ b ≠ b0 + 3) ∧ b ≠ tb) W pb c d)
  v1 : 1 ≤ k → verB ver.data.toList = true
  v2 : 2 ≤ k → rngC rs = 0
  v3 : 3 ≤ k → ckE es = 0
  v4 : 4 ≤ k → fstZ (frmZ (clsOf c) (isNf (clsOf c) (fun r => (deep d 4 r).1)) es) 0 es = none
  v5 : 5 ≤ k → fstZ (ordZ (greatV 65536 es)) 0 es = none
  v6 : 6 ≤ k → fstZ (varZ (greatV 65536 es)) 0 es = none
/-- one check threw -/
structure VThrow (pb : Nat) (N0 : Nat → Prop) (b0 : Nat) (c d : List T3) (w : World) (W : World) : Prop where
  only : Only (fun i => i = pb) w W
  nrm : Nrm (fun b => N0 b ∧ b ≠ b0 + 1 ∧ b ≠ b0 + 2 ∧ b ≠ b0 + 3) W pb c d
  atc : W.heap[b0 + 1]? = some (.cells #[.int .i64 0] 3 (0, 0))
  erc : W.heap[b0 + 2]? = some (.cells #[.int .i64 0] 35 (0, 0))
/-- how a check of Check ends -/
def VStep (pb : Nat) (N0 : Nat → Prop) (b0 : Nat) (c d : List T3) (rs : List Rng) (es : List Ent) (w : World) (ver : ByteArray) (rv ev : Value) (k : Nat) (e : Ending) (W : World) : Prop :=
  (e = .returned (.tuple #[]) ∧ VSt pb N0 b0 c d rs es w ver rv ev (k + 1) W) ∨ ((vres c d ver rs es).2 ≠ 0 ∧ e = .panicked (chainV (vres c d ver rs es).1 (vres c d ver rs es).2) ∧ VThrow pb N0 b0 c d w W)
theorem cellG {W W' : World} {b : Nat} {o : Obj} (h : W.heap[b]? = some o) (hb : Below W.heap.size W W') : W'.heap[b]? = some o := (hb.block b (Array.getElem?_eq_some_iff.1 h).1).trans h
section
variable {pb b0 : Nat} {N0 : Nat → Prop} {c d : List T3} {rs : List Rng} {es : List Ent} {w W W' : World} {ver : ByteArray} {rv ev tv : Value}
theorem VC.below (h : VC pb N0 b0 c d w ver rv ev tv W) (hb : Below W.heap.size W W') : VC pb N0 b0 c d w ver rv ev tv W' :=
  ⟨h.only.below hb, h.nrm.below hb, cellG h.atc hb, cellG h.erc hb, h.wk.below hb⟩
theorem VC.throw (h : VC pb N0 b0 c d w ver rv ev tv W) : VThrow pb N0 b0 c d w W := ⟨h.only, h.nrm, h.atc, h.erc⟩
theorem only_high {S T : Nat → Prop} {a b x : World} (h : Only S a b) (k : Only T b x) (hT : ∀ i, T i → S i ∨ a.heap.size ≤ i) : Only S a x :=
  ⟨k.os.trans h.os, k.tape.trans h.tape, k.output.trans h.output, Nat.le_trans h.size k.size, fun i hi hs => (k.block i (Nat.lt_of_lt_of_le hi h.size) (fun e => by rcases hT i e with h' | h'; exact hs h'; omega)).trans (h.block i hi hs)⟩
theorem fst_end_cases {o : Option (Nat × Int)} {e : Ending} (h : FstEnd o e) : (o = none ∧ e = .returned (.tuple #[])) ∨ ∃ r, o = some r ∧ r.2 ≠ 0 ∧ e = .panicked (chainV r.1 r.2) := by
  cases o with
  | none => exact .inl ⟨rfl, h⟩
  | some r => exact .inr ⟨r, rfl, h⟩
end
/-- the six checks, one by one: check k of a state behind k of them -/
def vNum : Nat → Nat
  | 0 => 17
  | 1 => 18
  | 2 => 19
  | 3 => 20
  | 4 => 21
  | _ => 22
theorem vstep_any (Rr Re : Nat → Prop) (pb : Nat) (N0 : Nat → Prop) (b0 : Nat) (c d : List T3) (rs : List Rng) (es : List Ent) (ver : ByteArray) (rv ev : Value) (w : World) (hb0 : b0 = w.heap.size) (hpb : pb < b0) (hr : RngsIn Rr w rv rs) (hRr : ∀ b, Rr b → b ≠ pb) (hv : EntsIn Re w ev es) (hRe : ∀ b, Re b → b ≠ pb) (hN0 : ∀ b, b0 ≤ b → N0 b)
    (hok : ∀ x ∈ es, EntOk x) (hrl : rs.length ≤ 140737488351232) (hel : es.length ≤ 140737488351232) (hvl : ver.size ≤ 140737488351232) (hdo : dataOk c d = true) :
    ∀ (k : Nat) (W : World), k < 6 → VSt pb N0 b0 c d rs es w ver rv ev k W → Calls Tryz.prog (vNum k) #[.pointer (some ⟨b0 + 3, 0, none⟩)] W (VStep pb N0 b0 c d rs es w ver rv ev k)
  | 0, W, _, h => by
    obtain ⟨tv, hc, _⟩ := h.at0
    refine (vversion_any (b0 + 3) _ ver rv ev tv W hc.wk hvl).mono ?_
    rintro e W' ⟨he, rfl⟩
    rcases he with ⟨h0, rfl⟩ | ⟨h0, rfl⟩
    · refine .inl ⟨rfl, ⟨tv, hc, fun e => (by omega)⟩, fun _ => ?_, fun e => (by omega), fun e => (by omega), fun e => (by omega), fun e => (by omega), fun e => (by omega)⟩
      unfold verZ at h0
      cases hv : verB ver.data.toList with
      | true => rfl
      | false => rw [hv] at h0; simp at h0
    · have hv : verB ver.data.toList = false := by
        cases hv : verB ver.data.toList with
        | true => unfold verZ at h0; rw [hv] at h0; exact absurd rfl h0
        | false => rfl
      rw [show verZ ver.data.toList = 114 from verZ_no (by rw [hv]; rfl)]
      exact .inr (by rw [vres_ver hv]; exact ⟨by decide, rfl, hc.throw⟩)
  | 1, W, _, h => by
    obtain ⟨tv, hc, _⟩ := h.at0
    refine (vranges_any Rr rs (b0 + 3) _ ver rv ev tv W hc.wk (hr.kept (Kept.only hc.only (fun b hb hs => hRr b hb hs))) hrl).mono ?_
    rintro e W' ⟨he, hb⟩
    have hc' := hc.below hb
    rcases he with ⟨h0, rfl⟩ | ⟨h0, rfl⟩
    · exact .inl ⟨rfl, ⟨tv, hc', fun e => (by omega)⟩, fun _ => h.v1 (by omega), fun _ => h0, fun e => (by omega), fun e => (by omega), fun e => (by omega), fun e => (by omega)⟩
    · exact .inr (by rw [vres_rng (h.v1 (by omega)) h0]; exact ⟨h0, rfl, hc'.throw⟩)
  | 2, W, _, h => by
    obtain ⟨tv, hc, _⟩ := h.at0
    have hWz : b0 + 4 ≤ W.heap.size := hc.wk.cells.2.2.2.2.2.2
    have hes : EntsIn (· < W.heap.size) W ev es := by
      obtain ⟨q, cq, e1, e2⟩ := hv.kept (Kept.only hc.only (fun b hb hs => hRe b hb hs))
      refine ⟨q, cq, e1, fun i x hx => ?_⟩
      obtain ⟨b, o, c, u, g1, g2, g3, g4, g5, g6, g7⟩ := e2 i x hx
      exact ⟨b, o, c, u, g1, g3, g3, g4, g5, g6.mono (fun b h1 h2 => h2), g7.mono (fun b h1 h2 => h2)⟩
    refine (ventries_any es (b0 + 3) _ ver rv ev tv W hc.wk hes hok hel).mono ?_
    rintro e W' ⟨ho, he⟩
    have ho' : Only (fun i => i = pb) w W' := only_high hc.only ho (fun i hi => .inr (by subst hi; omega))
    have hn' : Nrm (fun b => N0 b ∧ b ≠ b0 + 1 ∧ b ≠ b0 + 2 ∧ b ≠ b0 + 3) W' pb c d := hc.nrm.kept (Kept.only ho (fun b hb hs => hb.2.2.2 hs))
    have ha' : W'.heap[b0 + 1]? = some (.cells #[.int .i64 0] 3 (0, 0)) := (ho.block _ (by omega) (by omega)).trans hc.atc
    have hx' : W'.heap[b0 + 2]? = some (.cells #[.int .i64 0] 35 (0, 0)) := (ho.block _ (by omega) (by omega)).trans hc.erc
    rcases he with ⟨h0, rfl, tb, N, root, lv, n, vs, hwk, hnew⟩ | ⟨h0, rfl⟩
    · refine .inl ⟨rfl, ⟨_, ⟨ho', hn', ha', hx', hwk⟩, fun _ => ⟨tb, _, N, root, lv, n, vs, rfl, hnew, hWz, ?_⟩⟩, fun _ => h.v1 (by omega), fun _ => h.v2 (by omega), fun _ => h0, fun e => (by omega), fun e => (by omega), fun e => (by omega)⟩
      have h2 := (hc.nrm.bound.kept (Kept.only ho (fun b hb hs => hb.1.2.2.2 hs)))
      exact h2.mono (fun b hb => ⟨hb.1, fun e => by have := hb.2; have := hnew.tB; omega⟩)
    · exact .inr (by rw [vres_ent (h.v1 (by omega)) (h.v2 (by omega)) h0]; exact ⟨h0, rfl, ho', hn', ha', hx'⟩)
  | 3, W, _, h => by
    obtain ⟨tv, hc, ht⟩ := h.at0
    obtain ⟨tb, B, N, root, lv, n, vs, rfl, hnew, hB, hn⟩ := ht rfl
    have h0 := ck_zero (h.v3 (by omega))
    have htl := hnew.tlt
    have htB := hnew.tB
    have hzW : b0 + 4 ≤ W.heap.size := hc.wk.cells.2.2.2.2.2.2
    refine (vforms_any _ (fun b => Re b ∧ b < b0) pb tb (b0 + 3) B c d es N root lv n vs ver rv ev W hc.wk hn hnew (by omega) ?_ (fun b hb => ⟨hRe b hb.1, by omega⟩) (by omega) hok h0.2.1 h0.1 (fun b hb => ⟨⟨hN0 b (by omega), by omega, by omega, by omega⟩, by omega⟩) (fun b hb => hb.2) hdo).mono ?_
    · obtain ⟨q, cq, e1, e2⟩ := hv
      refine EntsIn.kept (w := w) ⟨q, cq, e1, fun i x hx => ?_⟩ (Kept.only hc.only (fun b hb hs => hRe b hb.1 hs))
      obtain ⟨b, o, c, u, g1, g2, g3, g4, g5, g6, g7⟩ := e2 i x hx
      exact ⟨b, o, c, u, g1, ⟨g2, by omega⟩, g3, g4, g5, g6.mono (fun b h1 h2 => ⟨h1, by omega⟩), g7.mono (fun b h1 h2 => ⟨h1, by omega⟩)⟩
    · rintro e W' ⟨he, hn', ho⟩
      have ho' : Only (fun i => i = pb) w W' := only_high hc.only ho (fun i hi => by rcases hi with hi | hi; exact .inl hi; exact .inr (by omega))
      have hn2 : Nrm (fun b => N0 b ∧ b ≠ b0 + 1 ∧ b ≠ b0 + 2 ∧ b ≠ b0 + 3) W' pb c d := hn'.mono (fun b hb => hb.1)
      have ha' : W'.heap[b0 + 1]? = some (.cells #[.int .i64 0] 3 (0, 0)) := (ho.block _ (by omega) (by omega)).trans hc.atc
      have hx' : W'.heap[b0 + 2]? = some (.cells #[.int .i64 0] 35 (0, 0)) := (ho.block _ (by omega) (by omega)).trans hc.erc
      rcases fst_end_cases he with ⟨h4, rfl⟩ | ⟨r, h4, h5, rfl⟩
      · exact .inl ⟨rfl, ⟨_, ⟨ho', hn2, ha', hx', hc.wk.only ho (by omega)⟩, fun e => (by omega)⟩, fun _ => h.v1 (by omega), fun _ => h.v2 (by omega), fun _ => h.v3 (by omega), fun _ => h4, fun e => (by omega), fun e => (by omega)⟩
      · exact .inr (by rw [vres_frm (h.v1 (by omega)) (h.v2 (by omega)) (h.v3 (by omega)) h4]; exact ⟨h5, rfl, ho', hn2, ha', hx'⟩)
  | 4, W, _, h => by
    obtain ⟨tv, hc, _⟩ := h.at0
    have h0 := ck_zero (h.v3 (by omega))
    refine (vlevels_any Re 65536 es (b0 + 3) _ ver rv ev tv W hc.wk (hv.kept (Kept.only hc.only (fun b hb hs => hRe b hb hs))) h0.1 (fun x hx => (eErr_zero (h0.2.1 x hx)).2.2.2.1)).mono ?_
    rintro e W' ⟨he, hb⟩
    have hc' := hc.below hb
    rcases fst_end_cases he with ⟨h4, rfl⟩ | ⟨r, h4, h5, rfl⟩
    · exact .inl ⟨rfl, ⟨tv, hc', fun e => (by omega)⟩, fun _ => h.v1 (by omega), fun _ => h.v2 (by omega), fun _ => h.v3 (by omega), fun _ => h.v4 (by omega), fun _ => h4, fun e => (by omega)⟩
    · exact .inr (by rw [vres_ord (h.v1 (by omega)) (h.v2 (by omega)) (h.v3 (by omega)) (h.v4 (by omega)) h4]; exact ⟨h5, rfl, hc'.throw⟩)
  | 5, W, _, h => by
    obtain ⟨tv, hc, _⟩ := h.at0
    have h0 := ck_zero (h.v3 (by omega))
    refine (vvariable_any Re es (b0 + 3) _ ver rv ev tv W hc.wk (hv.kept (Kept.only hc.only (fun b hb hs => hRe b hb hs))) h0.1 (fun x hx => (eErr_zero (h0.2.1 x hx)).2.2.2.1)).mono ?_
    rintro e W' ⟨he, hb⟩
    have hc' := hc.below hb
    rcases fst_end_cases he with ⟨h4, rfl⟩ | ⟨r, h4, h5, rfl⟩
    · exact .inl ⟨rfl, ⟨tv, hc', fun e => (by omega)⟩, fun _ => h.v1 (by omega), fun _ => h.v2 (by omega), fun _ => h.v3 (by omega), fun _ => h.v4 (by omega), fun _ => h.v5 (by omega), fun _ => h4⟩
    · exact .inr (by rw [vres_var (h.v1 (by omega)) (h.v2 (by omega)) (h.v3 (by omega)) (h.v4 (by omega)) (h.v5 (by omega)) h4]; exact ⟨h5, rfl, hc'.throw⟩)
  | k + 6, W, hk, _ => absurd hk (by omega)
theorem fnAt0 (a0 a1 a2 a3 a4 a5 : Value) (w : World) : (Instr.index 62 (.agg #[a0, a1, a2, a3, a4, a5]) (.int .i64 0)).run Tryz.prog w = .ok a0 w := by kernel_rfl
theorem fnAt1 (a0 a1 a2 a3 a4 a5 : Value) (w : World) : (Instr.index 62 (.agg #[a0, a1, a2, a3, a4, a5]) (.int .i64 1)).run Tryz.prog w = .ok a1 w := by kernel_rfl
theorem fnAt2 (a0 a1 a2 a3 a4 a5 : Value) (w : World) : (Instr.index 62 (.agg #[a0, a1, a2, a3, a4, a5]) (.int .i64 2)).run Tryz.prog w = .ok a2 w := by kernel_rfl
theorem fnAt3 (a0 a1 a2 a3 a4 a5 : Value) (w : World) : (Instr.index 62 (.agg #[a0, a1, a2, a3, a4, a5]) (.int .i64 3)).run Tryz.prog w = .ok a3 w := by kernel_rfl
theorem fnAt4 (a0 a1 a2 a3 a4 a5 : Value) (w : World) : (Instr.index 62 (.agg #[a0, a1, a2, a3, a4, a5]) (.int .i64 4)).run Tryz.prog w = .ok a4 w := by kernel_rfl
theorem fnAt5 (a0 a1 a2 a3 a4 a5 : Value) (w : World) : (Instr.index 62 (.agg #[a0, a1, a2, a3, a4, a5]) (.int .i64 5)).run Tryz.prog w = .ok a5 w := by kernel_rfl
theorem alloc4M {w : World} {o0 o1 o2 o3 : Obj} {W : World} (h : ((((w.alloc o0).alloc o1).alloc o2).alloc o3) = W) :
    W.heap.size = w.heap.size + 4 ∧ W.heap[w.heap.size + 1]? = some o1 ∧ W.heap[w.heap.size + 2]? = some o2 ∧ W.heap[w.heap.size + 3]? = some o3 ∧ Below w.heap.size w W := by
  subst h
  have key : ∀ (v : World) (o : Obj) (n : Nat), v.heap.size = n → (v.alloc o).heap[n]? = some o ∧ (v.alloc o).heap.size = n + 1 ∧ ∀ k, k < n → (v.alloc o).heap[k]? = v.heap[k]? := fun v o n hn => by
    subst hn
    exact ⟨World.alloc_heap_new v o, by simp, fun k hk => Below.heap_alloc _ _ _ hk⟩
  have a0 := key w o0 _ rfl
  have a1 := key _ o1 _ a0.2.1
  have a2 := key _ o2 _ a1.2.1
  have a3 := key _ o3 _ a2.2.1
  refine ⟨a3.2.1, ?_, ?_, a3.1, ?_⟩
  · rw [a3.2.2 _ (by omega), a2.2.2 _ (by omega)]; exact a1.1
  · rw [a3.2.2 _ (by omega)]; exact a2.1
  · exact ((((Below.refl _ w).alloc (Nat.le_refl _) _).alloc (by omega) _).alloc (by omega) _).alloc (by omega) _
set_option maxHeartbeats 8000000 in
set_option maxRecDepth 100000 in
theorem vcheck_any (Rr Re : Nat → Prop) (pb : Nat) (N0 : Nat → Prop) (c d : List T3) (rs : List Rng) (es : List Ent) (ver : ByteArray) (rv ev : Value) (w : World) (hn : Nrm N0 w pb c d) (hN0 : ∀ b, w.heap.size ≤ b → N0 b) (hr : RngsIn Rr w rv rs) (hRr : ∀ b, Rr b → b ≠ pb) (hv : EntsIn Re w ev es) (hRe : ∀ b, Re b → b ≠ pb)
    (hok : ∀ x ∈ es, EntOk x) (hrl : rs.length ≤ 140737488351232) (hel : es.length ≤ 140737488351232) (hvl : ver.size ≤ 140737488351232) (hdo : dataOk c d = true) :
    Calls Tryz.prog 9 #[.pointer (some ⟨pb, 0, none⟩), .agg #[.string ver, rv, ev]] w fun e w' =>
      e = .returned (.tuple #[.int .i64 (vres c d ver rs es).1, .int .i64 (vres c d ver rs es).2]) ∧ Nrm N0 w' pb c d ∧ Only (fun i => i = pb) w w' := by
  have hmf : ∀ (fn : Fn) (first cap : Array Value) (w : World), (Instr.makeFunc fn first cap).run Tryz.prog w = .ok (.func fn first cap) w := fun _ _ _ _ => rfl
  have hpl := hn.lt
  have HS0 := Lib.hid (vstep_any Rr Re pb N0 w.heap.size c d rs es ver rv ev w rfl hpl hr hRr hv hRe hN0 hok hrl hel hvl hdo)
  obtain ⟨p, cp, rfl, _⟩ := hv
  obtain ⟨q, cq, rfl, _⟩ := hr
  obtain ⟨nr, hnr⟩ : ∃ n, n = rs.length := ⟨_, rfl⟩
  obtain ⟨ne, hne⟩ : ∃ n, n = es.length := ⟨_, rfl⟩
  rw [← hnr, ← hne] at HS0
  rw [← hnr, ← hne]
  have HS := HS0
  have HN := Lib.hid hn
  have HZ0 : Hid ((∀ b, w.heap.size ≤ b → N0 b) ∧ pb < w.heap.size) := ⟨hN0, hpl⟩
  have HEND : Hid (∀ w1 w2, VThrow pb N0 w.heap.size c d w w1 → Only (fun i => i = w.heap.size + 1 ∨ i = w.heap.size + 2) w1 w2 → (Nrm N0 w2 pb c d ∧ Only (fun i => i = pb) w w2)) := by
    show ∀ w1 w2, _
    intro w1 w2 ht ho
    exact ⟨(ht.nrm.kept (Kept.only ho (fun b hb hs => by omega))).mono (fun b hb => hb.1), only_high ht.only ho (fun i hi => .inr (by omega))⟩
  clear hnr hne HS0 hok hrl hel hvl hdo hn hN0 hpl hRr hRe
  go_enter_defers Tryz.func9, Tryz.ntmps9
  go_wp2_with fail
  obtain ⟨W4, hW4⟩ : ∃ W4, ((((w.alloc (.cells #[.string ver, .slice q nr cq, .slice p ne cp] 25)).alloc (.cells #[.int .i64 0] 3)).alloc (.cells #[.int .i64 0] 35)).alloc (.cells #[.pointer (some ⟨pb, 0, none⟩), .string ver, .slice q nr cq, .slice p ne cp, .pointer none] 61)) = W4 := ⟨_, rfl⟩
  rw [hW4]
  obtain ⟨hsz, h1, h2, h3, hb4⟩ := alloc4M hW4
  have HST : Hid (VSt pb N0 w.heap.size c d rs es w ver (.slice q nr cq) (.slice p ne cp) 0 W4) := by
    refine ⟨⟨.pointer none, ⟨(Only.refl _ w).below hb4, ?_, h1, h2, h3⟩, fun e => (by omega)⟩, fun e => (by omega), fun e => (by omega), fun e => (by omega), fun e => (by omega), fun e => (by omega), fun e => (by omega)⟩
    exact (HN.out.bound.kept (Kept.below hb4)).mono (fun b hb => ⟨hb.1, by omega, by omega, by omega⟩)
  clear hsz h1 h2 h3 hb4 hW4
  simp only [Nat.add_assoc, Nat.reduceAdd]
  go_loopw [27] (fun iv wr => ∃ k : Nat, iv = .int .i64 k ∧ k ≤ 6 ∧ VSt pb N0 w.heap.size c d rs es w ver (.slice q nr cq) (.slice p ne cp) k wr) (fun iv _ => 6 - (intOf iv).toNat)
  case atStart => exact ⟨0, rfl, Nat.zero_le _, HST.out⟩
  case round =>
    obtain ⟨k, rfl, hk, hr⟩ := hrel
    have HR := Lib.hid hr
    clear hr
    rcases (show k = 0 ∨ k = 1 ∨ k = 2 ∨ k = 3 ∨ k = 4 ∨ k = 5 ∨ k = 6 by omega) with rfl | rfl | rfl | rfl | rfl | rfl | rfl
    · have h1 : Calls Tryz.prog 17 #[.pointer (some ⟨w.heap.size + 3, 0, none⟩)] wr (VStep pb N0 w.heap.size c d rs es w ver (.slice q nr cq) (.slice p ne cp) 0) := HS.out 0 wr (by omega) HR.out
      have hix := fnAt0
      go_wp2_with fail
      with_reducible refine h1.mono ?_
      clear h1
      rintro e w1 (⟨rfl, hs⟩ | ⟨hz, rfl, ht⟩)
      · have HS1 := Lib.hid hs
        clear hs
        go_wp2_with fail
        go_roundw
        case rel => exact ⟨1, by first | rfl | go_num, by omega, HS1.out⟩
        case measure => simp [intOf]
      · have HT := Lib.hid ht
        clear ht
        go_wp2
        refine leaves_cons (f := 16) (args := #[.pointer (some ⟨w.heap.size + 1, 0, none⟩), .pointer (some ⟨w.heap.size + 2, 0, none⟩)]) (by simp) (by simp [go_sem]) ?_
        refine (vcatch_panic (w.heap.size + 1) (w.heap.size + 2) _ _ 0 0 w1 HT.out.atc HT.out.erc).mono ?_
        rintro e u' w2 ⟨rfl, rfl, ho2, d0, d1⟩
        refine ⟨.tuple #[.int .i64 (vres c d ver rs es).1, .int .i64 (vres c d ver rs es).2], by simp [results, Tryz.results9, go_sem, d0, d1], ?_⟩
        exact ⟨rfl, (HEND.out w1 w2 HT.out ho2).1, (HEND.out w1 w2 HT.out ho2).2⟩
    · have h1 : Calls Tryz.prog 18 #[.pointer (some ⟨w.heap.size + 3, 0, none⟩)] wr (VStep pb N0 w.heap.size c d rs es w ver (.slice q nr cq) (.slice p ne cp) 1) := HS.out 1 wr (by omega) HR.out
      have hix := fnAt1
      go_wp2_with fail
      with_reducible refine h1.mono ?_
      clear h1
      rintro e w1 (⟨rfl, hs⟩ | ⟨hz, rfl, ht⟩)
      · have HS1 := Lib.hid hs
        clear hs
        go_wp2_with fail
        go_roundw
        case rel => exact ⟨2, by first | rfl | go_num, by omega, HS1.out⟩
        case measure => simp [intOf]
      · have HT := Lib.hid ht
        clear ht
        go_wp2
        refine leaves_cons (f := 16) (args := #[.pointer (some ⟨w.heap.size + 1, 0, none⟩), .pointer (some ⟨w.heap.size + 2, 0, none⟩)]) (by simp) (by simp [go_sem]) ?_
        refine (vcatch_panic (w.heap.size + 1) (w.heap.size + 2) _ _ 0 0 w1 HT.out.atc HT.out.erc).mono ?_
        rintro e u' w2 ⟨rfl, rfl, ho2, d0, d1⟩
        refine ⟨.tuple #[.int .i64 (vres c d ver rs es).1, .int .i64 (vres c d ver rs es).2], by simp [results, Tryz.results9, go_sem, d0, d1], ?_⟩
        exact ⟨rfl, (HEND.out w1 w2 HT.out ho2).1, (HEND.out w1 w2 HT.out ho2).2⟩
    · have h1 : Calls Tryz.prog 19 #[.pointer (some ⟨w.heap.size + 3, 0, none⟩)] wr (VStep pb N0 w.heap.size c d rs es w ver (.slice q nr cq) (.slice p ne cp) 2) := HS.out 2 wr (by omega) HR.out
      have hix := fnAt2
      go_wp2_with fail
      with_reducible refine h1.mono ?_
      clear h1
      rintro e w1 (⟨rfl, hs⟩ | ⟨hz, rfl, ht⟩)
      · have HS1 := Lib.hid hs
        clear hs
        go_wp2_with fail
        go_roundw
        case rel => exact ⟨3, by first | rfl | go_num, by omega, HS1.out⟩
        case measure => simp [intOf]
      · have HT := Lib.hid ht
        clear ht
        go_wp2
        refine leaves_cons (f := 16) (args := #[.pointer (some ⟨w.heap.size + 1, 0, none⟩), .pointer (some ⟨w.heap.size + 2, 0, none⟩)]) (by simp) (by simp [go_sem]) ?_
        refine (vcatch_panic (w.heap.size + 1) (w.heap.size + 2) _ _ 0 0 w1 HT.out.atc HT.out.erc).mono ?_
        rintro e u' w2 ⟨rfl, rfl, ho2, d0, d1⟩
        refine ⟨.tuple #[.int .i64 (vres c d ver rs es).1, .int .i64 (vres c d ver rs es).2], by simp [results, Tryz.results9, go_sem, d0, d1], ?_⟩
        exact ⟨rfl, (HEND.out w1 w2 HT.out ho2).1, (HEND.out w1 w2 HT.out ho2).2⟩
    · have h1 : Calls Tryz.prog 20 #[.pointer (some ⟨w.heap.size + 3, 0, none⟩)] wr (VStep pb N0 w.heap.size c d rs es w ver (.slice q nr cq) (.slice p ne cp) 3) := HS.out 3 wr (by omega) HR.out
      have hix := fnAt3
      go_wp2_with fail
      with_reducible refine h1.mono ?_
      clear h1
      rintro e w1 (⟨rfl, hs⟩ | ⟨hz, rfl, ht⟩)
      · have HS1 := Lib.hid hs
        clear hs
        go_wp2_with fail
        go_roundw
        case rel => exact ⟨4, by first | rfl | go_num, by omega, HS1.out⟩
        case measure => simp [intOf]
      · have HT := Lib.hid ht
        clear ht
        go_wp2
        refine leaves_cons (f := 16) (args := #[.pointer (some ⟨w.heap.size + 1, 0, none⟩), .pointer (some ⟨w.heap.size + 2, 0, none⟩)]) (by simp) (by simp [go_sem]) ?_
        refine (vcatch_panic (w.heap.size + 1) (w.heap.size + 2) _ _ 0 0 w1 HT.out.atc HT.out.erc).mono ?_
        rintro e u' w2 ⟨rfl, rfl, ho2, d0, d1⟩
        refine ⟨.tuple #[.int .i64 (vres c d ver rs es).1, .int .i64 (vres c d ver rs es).2], by simp [results, Tryz.results9, go_sem, d0, d1], ?_⟩
        exact ⟨rfl, (HEND.out w1 w2 HT.out ho2).1, (HEND.out w1 w2 HT.out ho2).2⟩
    · have h1 : Calls Tryz.prog 21 #[.pointer (some ⟨w.heap.size + 3, 0, none⟩)] wr (VStep pb N0 w.heap.size c d rs es w ver (.slice q nr cq) (.slice p ne cp) 4) := HS.out 4 wr (by omega) HR.out
      have hix := fnAt4
      go_wp2_with fail
      with_reducible refine h1.mono ?_
      clear h1
      rintro e w1 (⟨rfl, hs⟩ | ⟨hz, rfl, ht⟩)
      · have HS1 := Lib.hid hs
        clear hs
        go_wp2_with fail
        go_roundw
        case rel => exact ⟨5, by first | rfl | go_num, by omega, HS1.out⟩
        case measure => simp [intOf]
      · have HT := Lib.hid ht
        clear ht
        go_wp2
        refine leaves_cons (f := 16) (args := #[.pointer (some ⟨w.heap.size + 1, 0, none⟩), .pointer (some ⟨w.heap.size + 2, 0, none⟩)]) (by simp) (by simp [go_sem]) ?_
        refine (vcatch_panic (w.heap.size + 1) (w.heap.size + 2) _ _ 0 0 w1 HT.out.atc HT.out.erc).mono ?_
        rintro e u' w2 ⟨rfl, rfl, ho2, d0, d1⟩
        refine ⟨.tuple #[.int .i64 (vres c d ver rs es).1, .int .i64 (vres c d ver rs es).2], by simp [results, Tryz.results9, go_sem, d0, d1], ?_⟩
        exact ⟨rfl, (HEND.out w1 w2 HT.out ho2).1, (HEND.out w1 w2 HT.out ho2).2⟩
    · have h1 : Calls Tryz.prog 22 #[.pointer (some ⟨w.heap.size + 3, 0, none⟩)] wr (VStep pb N0 w.heap.size c d rs es w ver (.slice q nr cq) (.slice p ne cp) 5) := HS.out 5 wr (by omega) HR.out
      have hix := fnAt5
      go_wp2_with fail
      with_reducible refine h1.mono ?_
      clear h1
      rintro e w1 (⟨rfl, hs⟩ | ⟨hz, rfl, ht⟩)
      · have HS1 := Lib.hid hs
        clear hs
        go_wp2_with fail
        go_roundw
        case rel => exact ⟨6, by first | rfl | go_num, by omega, HS1.out⟩
        case measure => simp [intOf]
      · have HT := Lib.hid ht
        clear ht
        go_wp2
        refine leaves_cons (f := 16) (args := #[.pointer (some ⟨w.heap.size + 1, 0, none⟩), .pointer (some ⟨w.heap.size + 2, 0, none⟩)]) (by simp) (by simp [go_sem]) ?_
        refine (vcatch_panic (w.heap.size + 1) (w.heap.size + 2) _ _ 0 0 w1 HT.out.atc HT.out.erc).mono ?_
        rintro e u' w2 ⟨rfl, rfl, ho2, d0, d1⟩
        refine ⟨.tuple #[.int .i64 (vres c d ver rs es).1, .int .i64 (vres c d ver rs es).2], by simp [results, Tryz.results9, go_sem, d0, d1], ?_⟩
        exact ⟨rfl, (HEND.out w1 w2 HT.out ho2).1, (HEND.out w1 w2 HT.out ho2).2⟩
    · obtain ⟨tv, hc, _⟩ := HR.out.at0
      have hok := vres_ok (HR.out.v1 (by omega)) (HR.out.v2 (by omega)) (HR.out.v3 (by omega)) (HR.out.v4 (by omega)) (HR.out.v5 (by omega)) (HR.out.v6 (by omega))
      have HOK := Lib.hid hok
      obtain ⟨a0, a1, a2⟩ := one_cell hc.atc
      obtain ⟨e0, e1, e2⟩ := one_cell hc.erc
      have HF : Hid (∀ V, V = (wr.setCell ⟨w.heap.size + 1, 0, none⟩ (.int .i64 0)).setCell ⟨w.heap.size + 2, 0, none⟩ (.int .i64 0) → V.cell? ⟨w.heap.size + 1, 0, none⟩ = some (.int .i64 0) ∧ V.cell? ⟨w.heap.size + 2, 0, none⟩ = some (.int .i64 0) ∧ Nrm N0 V pb c d ∧ Only (fun i => i = pb) w V) := by
        show ∀ V, _
        rintro V rfl
        have ho : Only (fun i => i = w.heap.size + 1 ∨ i = w.heap.size + 2) wr ((wr.setCell ⟨w.heap.size + 1, 0, none⟩ (.int .i64 0)).setCell ⟨w.heap.size + 2, 0, none⟩ (.int .i64 0)) := ((Only.refl _ wr).setCell (p := ⟨w.heap.size + 1, 0, none⟩) (.inl rfl) _).setCell (p := ⟨w.heap.size + 2, 0, none⟩) (.inr rfl) _
        refine ⟨?_, ?_, HEND.out wr _ hc.throw ho⟩
        · refine (one_cell (t := 3) ?_).1
          rw [Below.heap_setCell _ _ _ _ (by simp)]; exact one_put hc.atc
        · refine (one_cell (t := 35) ?_).1
          exact one_put ((Below.heap_setCell _ _ _ _ (by simp)).trans hc.erc)
      clear hc hok
      go_wp2_with fail
      refine leaves_cons (f := 16) (args := #[.pointer (some ⟨w.heap.size + 1, 0, none⟩), .pointer (some ⟨w.heap.size + 2, 0, none⟩)]) (by simp) (by simp [go_sem]) ?_
      refine (vcatch_idle (w.heap.size + 1) (w.heap.size + 2) _).mono ?_
      rintro e u' w'' ⟨rfl, rfl, rfl⟩
      obtain ⟨d0, d1, d2, d3⟩ := HF.out _ rfl
      refine ⟨.tuple #[.int .i64 0, .int .i64 0], by simp [results, Tryz.results9, go_sem, d0, d1], ?_⟩
      exact ⟨by rw [HOK.out], d2, d3⟩
end Go.Proofs.YtnglhgogkemgbaaGreatDoor
