/- What the laws over lists and data share: two rows, what lies fixed; the class of the reference's data. lecternlaw11: its data. Chapter 11 in plain words: when a source is well formed, for which reason not; its entries' order doesn't matter; an entry of one code point may go. -/
import Derived.Test.YtnglhgogkemgbaaGreatDoorG30
import Derived.Test.YtnglhgogkemgbaaGreatDoorG17
import Derived.Test.YtnglhgogkemgbaaGreatDoorG20
import Derived.Test.YtnglhgogkemgbaaGreatDoorG23
import Derived.Test.YtnglhgogkemgbaaGreatDoorG03
namespace Go.Proofs.YtnglhgogkemgbaaGreatDoor
open Go.RowKit

theorem two_cells {W : World} {b : Nat} {x y : Value} {t : TypeId} (h : W.heap[b]? = some (.cells #[x, y] t (0, 0))) :
    W.cell? ⟨b, 0, none⟩ = some x ∧ W.cell? ⟨b, 1, none⟩ = some y ∧ W.frozen? ⟨b, 0, none⟩ = false ∧ W.frozen? ⟨b, 1, none⟩ = false := by
  refine ⟨?_, ?_, ?_, ?_⟩ <;> simp [World.cell?, World.frozen?, h]
theorem two_put {W : World} {b : Nat} {x y : Value} {t : TypeId} (h : W.heap[b]? = some (.cells #[x, y] t (0, 0))) (x' y' : Value) :
    ((W.setCell ⟨b, 0, none⟩ x').setCell ⟨b, 1, none⟩ y').heap[b]? = some (.cells #[x', y'] t (0, 0)) := by
  unfold World.setCell
  simp [Array.getElem?_modify, h]
theorem ints_one {W : World} {b : Nat} {x : Int} {t : TypeId} (h : W.heap[b]? = some (.cells #[.int .i32 x] t (0, 0))) : IntsIn (fun k => k = b) .i32 W (.slice (some ⟨b, 0, none⟩) 1 1) [x] := by
  refine ⟨_, _, rfl, ⟨Nat.le_refl _, by decide⟩, fun i y hy => ⟨b, 0, rfl, rfl, (Array.getElem?_eq_some_iff.1 h).1, ?_⟩⟩
  match i, hy with
  | 0, hy =>
    simp at hy; subst hy
    simp [World.cell?, h]
theorem run_append_empty {P : Program} (w : World) (t ty e : TypeId) (i : TypeInfo) (ht : P.underlying t = some (.slice e)) (hi : P.info? e = some i) (p q : Option Addr) (n cap c : Nat) (hn : n ≤ cap) :
    (Builtin.append_ #[t, t] ty #[.slice p n cap, .slice q 0 c]).run P w = .ok (.slice p n cap) w := by
  cases p <;> cases q <;> simp [Builtin.append_, run_underlying ht, sizeOf, typeInfo, hi, Builtin.lenOf, Builtin.firstCells, loadCells, loadCellsFrom, storeCells, hn]
set_option maxHeartbeats 1000000 in
set_option maxRecDepth 100000 in
theorem dclass_any (R : Nat → Prop) (c : List T3) (u : Value) (vp : Option Addr) (vn vc : Nat) (r : Int) (w : World) (hu : TrisIn R .i64 w u c) (hl : c.length ≤ 4000) :
    Calls Tryz.prog 144 #[.agg #[u, .slice vp vn vc], .int .i32 r] w fun e w' => e = .returned (.int .i64 (clsOf c r)) ∧ Below w.heap.size w w' := by
  have HU := Lib.hid hu
  obtain ⟨q, cq, rfl, _, _⟩ := hu
  have hal : Below w.heap.size w (w.alloc (.cells #[.slice q c.length cq, .slice vp vn vc] 32)) := (Below.refl _ w).alloc (Nat.le_refl _) _
  have hca := rclass_any R c _ r _ (HU.out.kept (Kept.below hal)) hl
  have HAL := Lib.hid hal
  clear hal
  go_enter Tryz.func144, Tryz.ntmps144
  go_wp2_with fail
  refine hca.mono ?_
  rintro e w1 ⟨rfl, hb1⟩
  have HB1 := Lib.hid hb1
  clear hca hb1
  go_wp2_with fail
  go_ret
  exact ⟨rfl, HAL.out.trans (HB1.out.mono HAL.out.size)⟩
/-- two rows of our own, apart -/
structure TwoRows (B : Nat) (A : List Int) (av : Value) (C : List Int) (cv : Value) (W : World) : Prop where
  a : W.ownsRow B 21 1 av A.length (A.map (Value.int .i32))
  c : W.ownsRow B 21 1 cv C.length (C.map (Value.int .i32))
  sep : ∀ j, av.ownBlock = some j → cv.ownBlock ≠ some j
theorem TwoRows.below {B : Nat} {A C : List Int} {av cv : Value} {W W1 : World} (h : TwoRows B A av C cv W) (hb : Below W.heap.size W W1) : TwoRows B A av C cv W1 :=
  ⟨ownsRow_block h.a (fun j _ hl => hb.block j hl), ownsRow_block h.c (fun j _ hl => hb.block j hl), h.sep⟩
theorem below_grown {B : Nat} {V W W2 : World} {row : Option Nat} (h : Below B V W) (hg : W.grownBy W2 row) (hB : B ≤ W.heap.size) (hr : ∀ j, row = some j → B ≤ j) : Below B V W2 := h.grown hg hB hr
/-- what lies fixed while the law looks at both lists -/
structure Fix (V0 : World) (c : List T3) (L O : List Int) (xb n : Nat) (u : Value) (vp : Option Addr) (vn vc : Nat) (lp : Option Addr) (lc : Nat) (op : Option Addr) (oc : Nat) : Prop where
  data : V0.heap[xb]? = some (.cells #[u, .slice vp vn vc] 32 (0, 0))
  cls : TrisIn (fun _ => True) .i64 V0 u c
  l : IntsIn (fun _ => True) .i32 V0 (.slice lp n lc) L
  o : IntsIn (fun _ => True) .i32 V0 (.slice op n oc) O
  clen : c.length ≤ 4000
section
variable {V0 : World} {c : List T3} {L O : List Int} {xb n : Nat} {u : Value} {vp : Option Addr} {vn vc : Nat} {lp : Option Addr} {lc : Nat} {op : Option Addr} {oc : Nat}
theorem Fix.below (h : Fix V0 c L O xb n u vp vn vc lp lc op oc) {W : World} (hb : Below V0.heap.size V0 W) : Fix W c L O xb n u vp vn vc lp lc op oc :=
  ⟨(hb.block _ (Array.getElem?_eq_some_iff.1 h.data).1).trans h.data, h.cls.kept (Kept.below hb), h.l.kept (Kept.below hb), h.o.kept (Kept.below hb), h.clen⟩
theorem Fix.call (h : Fix V0 c L O xb n u vp vn vc lp lc op oc) (r : Int) : ∀ u', Calls Tryz.prog 144 #[.agg #[u, .slice vp vn vc], .int .i32 r] (over V0 u') fun e w' => e = .returned (.int .i64 (clsOf c r)) ∧ Below (over V0 u').heap.size (over V0 u') w' :=
  fun u' => dclass_any _ c u vp vn vc r _ (h.cls.kept (Kept.below (below_over V0 u'))) h.clen
theorem Fix.cells (h : Fix V0 c L O xb n u vp vn vc lp lc op oc) : V0.cell? ⟨xb, 0, none⟩ = some u ∧ V0.cell? ⟨xb, 1, none⟩ = some (.slice vp vn vc) ∧ xb < V0.heap.size :=
  ⟨(two_cells h.data).1, (two_cells h.data).2.1, (Array.getElem?_eq_some_iff.1 h.data).1⟩
theorem Fix.atL (h : Fix V0 c L O xb n u vp vn vc lp lc op oc) {i : Nat} {x : Int} (hx : L[i]? = some x) : ∃ b o, lp = some ⟨b, o, none⟩ ∧ b < V0.heap.size ∧ V0.cell? ⟨b, o + i, none⟩ = some (.int .i32 x) := by
  obtain ⟨p, cap, e, _, hc⟩ := h.l
  injection e with e1 _ _
  obtain ⟨b, o, e2, _, h1, h2⟩ := hc i x hx
  exact ⟨b, o, e1.trans e2, h1, h2⟩
end
end Go.Proofs.YtnglhgogkemgbaaGreatDoor
namespace Go.Proofs.YtnglhgogkemgbaaGreatDoor
open Go.RowKit

def smallC : List T3 := [(768, 788, 230), (803, 806, 220), (807, 808, 202), (824, 824, 1), (837, 837, 240), (1456, 1456, 10), (2364, 2364, 7), (2381, 2381, 9)]
def smallD : List T3 := [(192, 65, 768), (193, 65, 769), (194, 65, 770), (195, 65, 771), (196, 65, 776), (197, 65, 778), (199, 67, 807), (200, 69, 768), (201, 69, 769), (202, 69, 770), (203, 69, 776), (209, 78, 771), (214, 79, 776), (220, 85, 776), (224, 97, 768), (225, 97, 769), (226, 97, 770), (227, 97, 771), (228, 97, 776), (229, 97, 778), (231, 99, 807), (232, 101, 768), (233, 101, 769), (234, 101, 770), (235, 101, 776), (241, 110, 771), (244, 111, 770), (246, 111, 776), (252, 117, 776), (255, 121, 776), (257, 97, 772), (469, 220, 772), (470, 252, 772), (836, 776, 769), (2392, 2325, 2364), (7691, 100, 775), (7693, 100, 803), (7779, 115, 803), (7785, 7779, 775), (7841, 97, 803), (7845, 226, 769), (7853, 7841, 770), (7865, 101, 803), (7879, 7865, 770), (8486, 937, 0), (8491, 197, 0)]
set_option maxRecDepth 100000 in
theorem small_ok : dataOk smallC smallD = true := by kernel_rfl
theorem smallD_len : smallD.length = 46 := rfl
theorem smallC_len : smallC.length = 8 := rfl
set_option maxRecDepth 100000 in
theorem smallD_cells : (triVs .i32 smallD).toArray = #[.int .i32 192, .int .i32 65, .int .i32 768, .int .i32 193, .int .i32 65, .int .i32 769, .int .i32 194, .int .i32 65, .int .i32 770, .int .i32 195, .int .i32 65, .int .i32 771, .int .i32 196, .int .i32 65, .int .i32 776, .int .i32 197, .int .i32 65, .int .i32 778, .int .i32 199, .int .i32 67, .int .i32 807, .int .i32 200, .int .i32 69, .int .i32 768, .int .i32 201, .int .i32 69, .int .i32 769, .int .i32 202, .int .i32 69, .int .i32 770, .int .i32 203, .int .i32 69, .int .i32 776, .int .i32 209, .int .i32 78, .int .i32 771, .int .i32 214, .int .i32 79, .int .i32 776, .int .i32 220, .int .i32 85, .int .i32 776, .int .i32 224, .int .i32 97, .int .i32 768, .int .i32 225, .int .i32 97, .int .i32 769, .int .i32 226, .int .i32 97, .int .i32 770, .int .i32 227, .int .i32 97, .int .i32 771, .int .i32 228, .int .i32 97, .int .i32 776, .int .i32 229, .int .i32 97, .int .i32 778, .int .i32 231, .int .i32 99, .int .i32 807, .int .i32 232, .int .i32 101, .int .i32 768, .int .i32 233, .int .i32 101, .int .i32 769, .int .i32 234, .int .i32 101, .int .i32 770, .int .i32 235, .int .i32 101, .int .i32 776, .int .i32 241, .int .i32 110, .int .i32 771, .int .i32 244, .int .i32 111, .int .i32 770, .int .i32 246, .int .i32 111, .int .i32 776, .int .i32 252, .int .i32 117, .int .i32 776, .int .i32 255, .int .i32 121, .int .i32 776, .int .i32 257, .int .i32 97, .int .i32 772, .int .i32 469, .int .i32 220, .int .i32 772, .int .i32 470, .int .i32 252, .int .i32 772, .int .i32 836, .int .i32 776, .int .i32 769, .int .i32 2392, .int .i32 2325, .int .i32 2364, .int .i32 7691, .int .i32 100, .int .i32 775, .int .i32 7693, .int .i32 100, .int .i32 803, .int .i32 7779, .int .i32 115, .int .i32 803, .int .i32 7785, .int .i32 7779, .int .i32 775, .int .i32 7841, .int .i32 97, .int .i32 803, .int .i32 7845, .int .i32 226, .int .i32 769, .int .i32 7853, .int .i32 7841, .int .i32 770, .int .i32 7865, .int .i32 101, .int .i32 803, .int .i32 7879, .int .i32 7865, .int .i32 770, .int .i32 8486, .int .i32 937, .int .i32 0, .int .i32 8491, .int .i32 197, .int .i32 0] := rfl
theorem tris_lit {R : Nat → Prop} {kc : IntKind} {w : World} {b : Nat} {t : TypeId} (xs : List T3) (h : w.heap[b]? = some (.cells (triVs kc xs).toArray t (0, 0))) (hR : R b) (hl : xs.length ≤ maxLen) :
    TrisIn R kc w (.slice (some ⟨b, 0, none⟩) xs.length xs.length) xs := by
  refine ⟨_, _, rfl, ⟨Nat.le_refl _, hl⟩, fun i x hx => ⟨b, 0, rfl, hR, (Array.getElem?_eq_some_iff.1 h).1, ?_⟩⟩
  obtain ⟨e1, e2, e3⟩ := triVs_at kc xs i x hx
  refine ⟨?_, ?_, ?_⟩ <;> simp [World.cell?, h, e1, e2, e3]
/-! lecternref05.Small, out of XNaj (that one also walks norms.Small, which seat v lacks). -/
theorem smallC_cells : (triVs .i64 smallC).toArray = #[.int .i32 768, .int .i32 788, .int .i64 230, .int .i32 803, .int .i32 806, .int .i64 220, .int .i32 807, .int .i32 808, .int .i64 202, .int .i32 824, .int .i32 824, .int .i64 1, .int .i32 837, .int .i32 837, .int .i64 240, .int .i32 1456, .int .i32 1456, .int .i64 10, .int .i32 2364, .int .i32 2364, .int .i64 7, .int .i32 2381, .int .i32 2381, .int .i64 9] := rfl
set_option maxHeartbeats 4000000 in
set_option maxRecDepth 100000 in
theorem rsmall_any (w : World) :
    Calls Tryz.prog 13 #[] w fun e w' => ∃ cv dv, e = .returned (.tuple #[cv, dv]) ∧ TrisIn (fun b => w.heap.size ≤ b) .i64 w' cv smallC ∧ TrisIn (fun b => w.heap.size ≤ b) .i32 w' dv smallD ∧ Below w.heap.size w w' := by
  go_enter Tryz.func13, Tryz.ntmps13
  go_wp2_with fail
  rw [← smallD_cells, ← smallC_cells]
  have HC0 : Hid (TrisIn (fun b => w.heap.size ≤ b) .i64 (w.alloc (.cells (triVs .i64 smallC).toArray 92)) (.slice (some ⟨w.heap.size, 0, none⟩) 8 8) smallC) := tris_lit smallC (World.alloc_heap_new _ _) (Nat.le_refl _) (by rw [smallC_len]; decide)
  have hb1 : Below (w.alloc (.cells (triVs .i64 smallC).toArray 92)).heap.size (w.alloc (.cells (triVs .i64 smallC).toArray 92)) ((w.alloc (.cells (triVs .i64 smallC).toArray 92)).alloc (.cells (triVs .i32 smallD).toArray 94)) := (Below.refl _ _).alloc (Nat.le_refl _) _
  have HC1 := Lib.hid (HC0.out.kept (Kept.below hb1))
  have HD1 : Hid (TrisIn (fun b => w.heap.size ≤ b) .i32 ((w.alloc (.cells (triVs .i64 smallC).toArray 92)).alloc (.cells (triVs .i32 smallD).toArray 94)) (.slice (some ⟨w.heap.size + 1, 0, none⟩) 46 46) smallD) := by
    have := tris_lit (R := fun b => w.heap.size ≤ b) (b := (w.alloc (.cells (triVs .i64 smallC).toArray 92)).heap.size) smallD (World.alloc_heap_new (w.alloc (.cells (triVs .i64 smallC).toArray 92)) (.cells (triVs .i32 smallD).toArray 94)) (by simp) (by rw [smallD_len]; decide)
    rwa [World.size_alloc] at this
  have HB : Hid (Below w.heap.size w ((w.alloc (.cells (triVs .i64 smallC).toArray 92)).alloc (.cells (triVs .i32 smallD).toArray 94))) := ((Below.refl _ w).alloc (Nat.le_refl _) _).alloc (by simp) _
  go_ret2
  exact ⟨_, _, rfl, HC1.out, HD1.out, HB.out⟩
set_option maxHeartbeats 4000000 in
set_option maxRecDepth 1000000 in
theorem data11_any (w : World) : Calls Tryz.prog 8 #[] w fun e w' =>
    ∃ pb u v, e = .returned (.tuple #[.pointer (some ⟨pb, 0, none⟩), .agg #[u, v]]) ∧ Nrm (fun b => w.heap.size ≤ b) w' pb smallC smallD ∧ TrisIn (fun b => w.heap.size ≤ b ∧ b ≠ pb) .i64 w' u smallC ∧ TrisIn (fun b => w.heap.size ≤ b ∧ b ≠ pb) .i32 w' v smallD ∧ Below w.heap.size w w' := by
  have hal : Below w.heap.size w (w.alloc (.cells #[.slice none 0 0, .slice none 0 0] 32)) := (Below.refl _ w).alloc (Nat.le_refl _) _
  have hcell : (w.alloc (.cells #[.slice none 0 0, .slice none 0 0] 32)).heap[w.heap.size]? = some (.cells #[.slice none 0 0, .slice none 0 0] 32 (0, 0)) := World.alloc_heap_new _ _
  have hsz : (w.alloc (.cells #[.slice none 0 0, .slice none 0 0] 32)).heap.size = w.heap.size + 1 := by simp
  have HAL := Lib.hid hal
  have HCELL := Lib.hid hcell
  have HSZ := Lib.hid hsz
  clear hal hcell hsz
  go_enter Tryz.func8, Tryz.ntmps8
  go_wp2_with fail
  refine (rsmall_any _).mono ?_
  rintro e w1 ⟨u, v, rfl, hu, hv, hb1⟩
  have HU : Hid (TrisIn (fun b => w.heap.size + 1 ≤ b ∧ b < w1.heap.size) .i64 w1 u smallC) := by rw [HSZ.out] at hu; exact hu.mono (fun b hb hl => ⟨hb, hl⟩)
  have HV : Hid (TrisIn (fun b => w.heap.size + 1 ≤ b ∧ b < w1.heap.size) .i32 w1 v smallD) := by rw [HSZ.out] at hv; exact hv.mono (fun b hb hl => ⟨hb, hl⟩)
  have HB1 : Hid (Below w.heap.size w w1) := HAL.out.trans (hb1.mono HAL.out.size)
  have HC1 : Hid (w1.heap[w.heap.size]? = some (.cells #[.slice none 0 0, .slice none 0 0] 32 (0, 0))) := (hb1.block _ (by rw [HSZ.out]; omega)).trans HCELL.out
  have HZ1 : Hid (w.heap.size + 1 ≤ w1.heap.size) := by have := hb1.size; rw [HSZ.out] at this; exact this
  have hrb := rbuild_any _ _ smallC smallD _ _ w1 hu hv
  obtain ⟨q, cq, rfl, _, _⟩ := hu
  obtain ⟨p, cp, rfl, _, _⟩ := hv
  clear hb1
  go_wp2_with fail
  with_reducible refine hrb.mono ?_
  rintro e w2 ⟨hb2, hrr⟩
  have hok : dataOk smallC smallD = true := small_ok
  rcases hrr with ⟨_, z, rfl, hz⟩ | ⟨h, _⟩
  · have hlo := load_nrm _ smallC smallD z w2 (ints_of_own hz) hok
    have HB2 := Lib.hid hb2
    have HC2 : Hid (w2.heap[w.heap.size]? = some (.cells #[.slice none 0 0, .slice none 0 0] 32 (0, 0))) := (hb2.block _ (by have := HZ1.out; omega)).trans HC1.out
    clear hrb hz hok hb2
    go_wp2_with fail
    with_reducible refine hlo.mono ?_
    rintro e w3 ⟨pb, rfl, hn3, _, hb3⟩
    have HN3 := Lib.hid hn3
    have HB3 : Hid (Below w1.heap.size w1 w3) := HB2.out.trans (hb3.mono HB2.out.size)
    have HC3 := (hb3.block _ (by have := HZ1.out; have := HB2.out.size; omega)).trans HC2.out
    obtain ⟨c0, c1, z0, z1⟩ := two_cells HC3
    have HC3 := Lib.hid HC3
    have HZ2 : Hid (w1.heap.size ≤ w2.heap.size) := HB2.out.size
    clear hlo hn3 hb3
    go_wp2_with fail
    have HF := Lib.hid (two_put HC3.out (.slice q smallC.length cq) (.slice p smallD.length cp))
    obtain ⟨f0, f1, _, _⟩ := two_cells HF.out
    have hput : ∀ (R : Nat → Prop), (∀ b, R b → b ≠ w.heap.size) → Kept R w3 ((w3.setCell ⟨w.heap.size, 0, none⟩ (.slice q smallC.length cq)).setCell ⟨w.heap.size, 1, none⟩ (.slice p smallD.length cp)) := fun R hR =>
      (kept_setCell hR).trans (kept_setCell hR)
    refine bodyPost_ret (v := .tuple #[.pointer (some ⟨pb, 0, none⟩), .agg #[.slice q smallC.length cq, .slice p smallD.length cp]]) (by simp [results, Tryz.results8, go_sem, f0, f1]) rfl ?_
    have z1 := HZ1.out
    have z2 := HZ2.out
    have hpb1 : w2.heap.size ≤ pb := HN3.out.1
    refine ⟨pb, _, _, rfl, ?_, ?_, ?_, ?_⟩
    · exact (HN3.out.kept (hput _ (fun b hb e => by omega))).mono (fun b hb => by omega)
    · exact ((HU.out.kept (Kept.below HB3.out)).kept (hput _ (fun b hb e => by have := hb.1; omega))).mono (fun b hb _ => ⟨by have := hb.1; omega, fun e => by have := hb.2; omega⟩)
    · exact ((HV.out.kept (Kept.below HB3.out)).kept (hput _ (fun b hb e => by have := hb.1; omega))).mono (fun b hb _ => ⟨by have := hb.1; omega, fun e => by have := hb.2; omega⟩)
    · exact ((HB1.out.trans (HB3.out.mono (by omega))).setCell (p := ⟨w.heap.size, 0, none⟩) (Nat.le_refl _) _).setCell (p := ⟨w.heap.size, 1, none⟩) (Nat.le_refl _) _
  · rw [hok] at h; cases h
end Go.Proofs.YtnglhgogkemgbaaGreatDoor
namespace Go.Proofs.YtnglhgogkemgbaaGreatDoor
open Go.RowKit

def lvE (y : El) : Int := lvl y.1 y.2.1 y.2.2.1
/-- the greatest S of level 1, T of levels 1 and 2, the least P of level 1 that isn't variable -/
def gst (a : Int × Int × Int) (y : El) : Int × Int × Int :=
  (if lvE y = 1 ∧ a.1 < y.2.1 then y.2.1 else a.1, if (lvE y = 1 ∨ lvE y = 2) ∧ a.2.1 < y.2.2.1 then y.2.2.1 else a.2.1, if lvE y = 1 ∧ y.2.2.2 = false ∧ y.1 < a.2.2 then y.1 else a.2.2)
def elsV (es : List Ent) : List El := es.flatMap (·.2)
def greatV (p0 : Int) (es : List Ent) : Int × Int × Int := (elsV es).foldl gst (32, 2, p0)
theorem gst_fold : ∀ (l : List El) (a : Int × Int × Int), (∀ n : Int, (l.foldl gst a).1 < n ↔ a.1 < n ∧ ∀ z ∈ l, lvE z = 1 → z.2.1 < n) ∧ (∀ n : Int, (l.foldl gst a).2.1 < n ↔ a.2.1 < n ∧ ∀ z ∈ l, lvE z = 1 ∨ lvE z = 2 → z.2.2.1 < n) ∧
    (∀ n : Int, n < (l.foldl gst a).2.2 ↔ n < a.2.2 ∧ ∀ z ∈ l, lvE z = 1 → z.2.2.2 = false → n < z.1)
  | [], a => ⟨fun n => by simp, fun n => by simp, fun n => by simp⟩
  | y :: l, a => by
    obtain ⟨h1, h2, h3⟩ := gst_fold l (gst a y)
    rw [List.foldl_cons]
    refine ⟨fun n => ?_, fun n => ?_, fun n => ?_⟩
    · rw [h1 n]
      simp only [List.mem_cons, forall_eq_or_imp]
      have : (gst a y).1 < n ↔ a.1 < n ∧ (lvE y = 1 → y.2.1 < n) := by
        unfold gst
        dsimp only
        split
        · rename_i h; constructor
          · intro h'; exact ⟨by omega, fun _ => h'⟩
          · intro h'; exact h'.2 h.1
        · rename_i h; constructor
          · intro h'; exact ⟨h', fun h4 => by have : ¬ a.1 < y.2.1 := fun h5 => h ⟨h4, h5⟩; omega⟩
          · intro h'; exact h'.1
      rw [this, and_assoc]
    · rw [h2 n]
      simp only [List.mem_cons, forall_eq_or_imp]
      have : (gst a y).2.1 < n ↔ a.2.1 < n ∧ (lvE y = 1 ∨ lvE y = 2 → y.2.2.1 < n) := by
        unfold gst
        dsimp only
        split
        · rename_i h; constructor
          · intro h'; exact ⟨by omega, fun _ => h'⟩
          · intro h'; exact h'.2 h.1
        · rename_i h; constructor
          · intro h'; exact ⟨h', fun h4 => by have : ¬ a.2.1 < y.2.2.1 := fun h5 => h ⟨h4, h5⟩; omega⟩
          · intro h'; exact h'.1
      rw [this, and_assoc]
    · rw [h3 n]
      simp only [List.mem_cons, forall_eq_or_imp]
      have : n < (gst a y).2.2 ↔ n < a.2.2 ∧ (lvE y = 1 → y.2.2.2 = false → n < y.1) := by
        unfold gst
        dsimp only
        split
        · rename_i h; constructor
          · intro h'; exact ⟨by omega, fun _ _ => h'⟩
          · intro h'; exact h'.2 h.1 h.2.1
        · rename_i h; constructor
          · intro h'; exact ⟨h', fun h4 h6 => by have : ¬ y.1 < a.2.2 := fun h5 => h ⟨h4, h6, h5⟩; omega⟩
          · intro h'; exact h'.1
      rw [this, and_assoc]
/-- an entry by its code points -/
def preV (cls : Int → Int) (es : List Ent) (x : Ent) : Bool := decide (x.1.length < 3) || decide (cls (x.1.getLastD 0) = 0) || es.any (fun y => y.1 == x.1.dropLast)
def frmZ (cls : Int → Int) (isN : List Int → Bool) (es : List Ent) (x : Ent) : Int := if isN x.1 = true then (if preV cls es x = true then 0 else 112) else 113
/-- an entry by its elements' levels -/
def ordB (g : Int × Int × Int) (y : El) : Bool := !(decide (lvE y = 2) && decide (y.2.1 ≤ g.1) || decide (lvE y = 3) && decide (y.2.2.1 ≤ g.2.1))
def ordZ (g : Int × Int × Int) (x : Ent) : Int := if x.2.all (ordB g) = true then 0 else 110
/-- an entry by its variable elements -/
def plnB (y : El) : Bool := decide (lvE y = 1) && !y.2.2.2
def varB (g : Int × Int × Int) (x : Ent) : Bool := x.2.all (fun y => !(y.2.2.2 && decide (g.2.2 ≤ y.1))) && !(x.2.any (fun y => y.2.2.2) && x.2.any plnB)
def varZ (g : Int × Int × Int) (x : Ent) : Int := if varB g x = true then 0 else 111
/-- the first that a test finds, with its reason -/
def fstZ (f : Ent → Int) : Nat → List Ent → Option (Nat × Int)
  | _, [] => none
  | i, x :: xs => if f x = 0 then fstZ f (i + 1) xs else some (i, f x)
theorem fstZ_none {f : Ent → Int} : ∀ {es : List Ent} {i : Nat}, fstZ f i es = none ↔ ∀ x ∈ es, f x = 0
  | [], i => by simp [fstZ]
  | x :: xs, i => by
    rw [fstZ]
    by_cases h : f x = 0
    · rw [if_pos h, fstZ_none]; simp [h]
    · rw [if_neg h]; simp [h]
/-- the first of a list that is found behind a beginning that is not -/
theorem fstZ_at {f : Ent → Int} : ∀ {es : List Ent} {i k : Nat} {x : Ent}, es[k]? = some x → (∀ j y, j < k → es[j]? = some y → f y = 0) → f x ≠ 0 → fstZ f i es = some (i + k, f x)
  | [], i, k, x, h, _, _ => by simp at h
  | y :: ys, i, 0, x, h, _, hx => by simp at h; subst h; rw [fstZ, if_neg hx]; rfl
  | y :: ys, i, k + 1, x, h, h0, hx => by
    rw [fstZ, if_pos (h0 0 y (by omega) rfl), fstZ_at (k := k) (by simpa using h) (fun j z hj hz => h0 (j + 1) z (by omega) (by simpa using hz)) hx]
    congr 2; omega
/-- the answer of Check: a place, a reason -/
def vchk (eA eE : List Ent → Int) (cls : Int → Int) (isN : List Int → Bool) (p0 : Int) (ver : Bs) (rs : List Rng) (es : List Ent) : Int × Int :=
  if verB ver = false then (0, 114) else if rngC rs ≠ 0 then (0, rngC rs) else if eE es ≠ 0 then (eA es, eE es) else
  match fstZ (frmZ cls isN es) 0 es with
  | some r => ((r.1 : Int), r.2)
  | none => match fstZ (ordZ (greatV p0 es)) 0 es with
    | some r => ((r.1 : Int), r.2)
    | none => match fstZ (varZ (greatV p0 es)) 0 es with
      | some r => ((r.1 : Int), r.2)
      | none => (0, 0)
theorem var_iff {p0 : Int} {es : List Ent} {x : Ent} : varZ (greatV p0 es) x = 0 ↔ (∀ y ∈ x.2, y.2.2.2 = true → y.1 < p0 ∧ ∀ z ∈ elsV es, lvE z = 1 → z.2.2.2 = false → y.1 < z.1) ∧ ((∃ y ∈ x.2, y.2.2.2 = true) → ∀ y ∈ x.2, lvE y = 1 → y.2.2.2 = true) := by
  have hg := gst_fold (elsV es) (32, 2, p0)
  have k1 : x.2.all (fun y => !(y.2.2.2 && decide ((greatV p0 es).2.2 ≤ y.1))) = true ↔ ∀ y ∈ x.2, y.2.2.2 = true → y.1 < p0 ∧ ∀ z ∈ elsV es, lvE z = 1 → z.2.2.2 = false → y.1 < z.1 := by
    rw [List.all_eq_true]
    refine forall_congr' fun y => forall_congr' fun _ => ?_
    rw [← hg.2.2 y.1]
    unfold greatV
    cases y.2.2.2 <;> simp
  have k2 : (!(x.2.any (fun y => y.2.2.2) && x.2.any plnB)) = true ↔ ((∃ y ∈ x.2, y.2.2.2 = true) → ∀ y ∈ x.2, lvE y = 1 → y.2.2.2 = true) := by
    rw [Bool.not_eq_true', Bool.and_eq_false_iff]
    constructor
    · rintro (h | h) ⟨y, hy, hv⟩ z hz hl
      · rw [List.any_eq_false] at h; exact absurd hv (h y hy)
      · rw [List.any_eq_false] at h
        have := h z hz
        unfold plnB at this
        rw [hl] at this
        cases hzz : z.2.2.2 with
        | true => rfl
        | false => rw [hzz] at this; simp at this
    · intro h
      by_cases h1 : ∃ y ∈ x.2, y.2.2.2 = true
      · right
        rw [List.any_eq_false]
        intro y hy
        unfold plnB
        by_cases hl : lvE y = 1
        · rw [h h1 y hy hl]; simp
        · simp [hl]
      · left
        rw [List.any_eq_false]
        intro y hy hv
        exact h1 ⟨y, hy, hv⟩
  unfold varZ varB
  rw [← k1, ← k2]
  by_cases h : (x.2.all (fun y => !(y.2.2.2 && decide ((greatV p0 es).2.2 ≤ y.1))) && !(x.2.any (fun y => y.2.2.2) && x.2.any plnB)) = true
  · rw [if_pos h]; rw [Bool.and_eq_true] at h; exact ⟨fun _ => h, fun _ => rfl⟩
  · rw [if_neg h]; rw [Bool.and_eq_true] at h; exact ⟨fun e => absurd e (by decide), fun e => absurd e h⟩
end Go.Proofs.YtnglhgogkemgbaaGreatDoor
