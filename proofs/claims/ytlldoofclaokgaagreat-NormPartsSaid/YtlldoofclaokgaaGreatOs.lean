/- NormMoves. -/
import Derived.Test.YtlldoofclaokgaaGreatOr
import Derived.Test.YtlldoofclaokgaaGreatOp
import Derived.Test.YtlldoofclaokgaaGreatOi
namespace Go.Proofs.YtlldoofclaokgaaGreat
open Go.RowKit

theorem ch_at {f : Int → Int} : ∀ (L : List Int), Ch f L → ∀ (i : Nat) x y, L[i]? = some x → L[i + 1]? = some y → f y ≠ 0 → f x ≤ f y
  | [], _, i, x, y, hx, _, _ => by simp at hx
  | z :: zs, h, 0, x, y, hx, hy, h0 => by
    simp at hx; subst hx
    exact h.1 y (by rw [List.head?_eq_getElem?]; simpa using hy) h0
  | z :: zs, h, i + 1, x, y, hx, hy, h0 => ch_at zs h.2 i x y (by simpa using hx) (by simpa using hy) h0
theorem run_append_empty {P : Program} (w : World) (t ty e : TypeId) (i : TypeInfo) (ht : P.underlying t = some (.slice e)) (hi : P.info? e = some i) (p q : Option Addr) (n cap c : Nat) (hn : n ≤ cap) :
    (Builtin.append_ #[t, t] ty #[.slice p n cap, .slice q 0 c]).run P w = .ok (.slice p n cap) w := by
  cases p <;> cases q <;> simp [Builtin.append_, run_underlying ht, sizeOf, typeInfo, hi, Builtin.lenOf, Builtin.firstCells, loadCells, loadCellsFrom, storeCells, hn]
/-- append of any slice of numbers to nothing -/
theorem wpList_append_all {ops : Array Oper} {rest : List Oper} {o : Oper} {a : Act} {Q : Exit → Act → World → Prop} (w : World) (hgd : o.guard = none) (s x : Operand)
    (ho : o.op = .call { callee := .builtin .append, args := #[s, x], argTypes := #[48, 48] }) (hs : a.eval s = .slice none 0 0)
    (xv : Value) (xs : List Int) (R : Nat → Prop) (hx : a.eval x = xv) (hin : IntsIn R .i32 w xv xs) (hlen : xs.length ≤ 100000000)
    (h : ∀ v' w', w'.ownsRow w.heap.size 21 1 v' xs.length (xs.map (Value.int .i32)) → Below w.heap.size w w' → (xs = [] → v' = .slice none 0 0) → wpList Tryz.prog ops Q rest (a.put o.dst v') w') :
    wpList Tryz.prog ops Q (o :: rest) a w := by
  obtain ⟨i0, hi, hz0, hz1, hz2⟩ := info_parts Tryz.infoI32
  by_cases h0 : xs = []
  · obtain ⟨q, c, rfl, _, _⟩ := hin
    subst h0
    refine wpList_plain hgd fun K hK => ?_
    have hr := run_append_empty (P := Tryz.prog) w 48 o.type 21 i0 Tryz.underlying48 hi none q 0 0 c (Nat.le_refl _)
    unfold Oper.wp execOp
    simp only [ho, resolve, invoke, builtin, Sem.run_bind, Sem.run_pure, Result.andThen_ok, List.map_toArray, List.map_cons, List.map_nil, hs, hx, List.length_nil, hr]
    exact hK _ _ (h _ _ ⟨rfl, .inl ⟨rfl, rfl⟩⟩ (Below.refl _ _) (fun _ => rfl))
  · obtain ⟨g5, o5, c5, rfl, _, _, hc5⟩ := hin.place (List.length_pos_iff.2 h0)
    refine wpList_append_own_at w hgd s x 48 ho w.heap.size 21 i0 (.int .i32 0) 1 4 Tryz.underlying48 hi hz0 hz1 hz2 rfl (by decide) (.slice none 0 0) 0 [] hs ⟨rfl, .inl ⟨rfl, rfl⟩⟩ ⟨g5, o5, none⟩ xs.length c5 (xs.map (Value.int .i32)) hx (by simp) (news_of hc5) (by simp [Value.oneCell']) (by unfold maxLen; omega) (by omega) (Nat.le_refl _) ?_
    intro v' w' h1 h2 _ _
    refine h v' w' (by simpa using h1) ((Below.refl _ w).grown h2 (Nat.le_refl _) (fun k hk => by cases hk)) (fun e => absurd e h0)
/-- Order of a list, or of nothing -/
theorem order_norm0 {f : Int → Int} {dc : Int → List Int} {rp : Value} {J : (Nat → Prop) → World → Prop} {S : Nat → Prop} (hN : Norm f dc rp S J) (Z Q : Nat → Prop) (L : List Int) (v : Value) (W : World) (hv : IntsIn Q .i32 W v L) (hnil : L = [] → v = .slice none 0 0) (hl : L.length ≤ 1000000) (hj : J Z W) :
    Calls Tryz.prog 30 #[rp, v] W fun e w' => (∃ v', e = .returned v' ∧ IntsIn (fun b => W.heap.size ≤ b) .i32 w' v' (ordL f L)) ∧ J Z w' ∧ Below W.heap.size W w' := by
  by_cases h0 : L = []
  · have hv0 := hnil h0
    subst h0 hv0
    refine (order_nil rp W).mono ?_
    rintro e w' ⟨rfl, hb⟩
    exact ⟨⟨_, rfl, .nil _ _ _⟩, hN.kept _ _ _ hj (Kept.below hb), hb⟩
  · exact order_norm hN Z Q L v W hv (List.length_pos_iff.2 h0) hl hj
set_option maxHeartbeats 1000000 in
set_option maxRecDepth 100000 in
theorem dclass_any (R : Nat → Prop) (c : List T3) (u : Value) (vp : Option Addr) (vn vc : Nat) (r : Int) (w : World) (hu : TrisIn R .i64 w u c) (hl : c.length ≤ 4000) :
    Calls Tryz.prog 31 #[.agg #[u, .slice vp vn vc], .int .i32 r] w fun e w' => e = .returned (.int .i64 (clsOf c r)) ∧ Below w.heap.size w w' := by
  have HU := Lib.hid hu
  obtain ⟨q, cq, rfl, _, _⟩ := hu
  have hal : Below w.heap.size w (w.alloc (.cells #[.slice q c.length cq, .slice vp vn vc] 57)) := (Below.refl _ w).alloc (Nat.le_refl _) _
  have hca := rclass_any R c _ r _ (HU.out.kept (Kept.below hal)) hl
  have HAL := Lib.hid hal
  clear hal
  go_enter Tryz.func31, Tryz.ntmps31
  go_wp2_with fail
  refine hca.mono ?_
  rintro e w1 ⟨rfl, hb1⟩
  have HB1 := Lib.hid hb1
  clear hca hb1
  go_wp2_with fail
  go_ret
  exact ⟨rfl, HAL.out.trans (HB1.out.mono HAL.out.size)⟩
/-- two rows of our own, apart -/
structure TwoRows (B : Nat) (A : List Int) (av : Value) (C : List Int) (cv : Value) (W : World) : Prop where
  a : W.ownsRow B 21 1 av A.length (A.map (Value.int .i32))
  c : W.ownsRow B 21 1 cv C.length (C.map (Value.int .i32))
  sep : ∀ j, av.ownBlock = some j → cv.ownBlock ≠ some j
theorem TwoRows.below {B : Nat} {A C : List Int} {av cv : Value} {W W1 : World} (h : TwoRows B A av C cv W) (hb : Below W.heap.size W W1) : TwoRows B A av C cv W1 :=
  ⟨ownsRow_block h.a (fun j _ hl => hb.block j hl), ownsRow_block h.c (fun j _ hl => hb.block j hl), h.sep⟩
theorem TwoRows.growA {B : Nat} {A C : List Int} {av cv : Value} {W W2 : World} (h : TwoRows B A av C cv W) {A2 : List Int} {av2 : Value} (hrow : W2.ownsRow B 21 1 av2 A2.length (A2.map (Value.int .i32))) (hg : W.grownBy W2 av.ownBlock) (hown : av2.ownBlock = av.ownBlock ∨ av2.ownBlock = some W.heap.size) : TwoRows B A2 av2 C cv W2 :=
  ⟨hrow, ownsRow_block h.c (fun j hj hl => hg.block j hl (fun e => h.sep j e.symm hj)), fun j hj e => by
    rcases hown with h' | h'
    · exact h.sep j (h' ▸ hj) e
    · rw [h'] at hj; cases hj; have := (ownsRow_own h.c e).2; omega⟩
theorem TwoRows.growC {B : Nat} {A C : List Int} {av cv : Value} {W W2 : World} (h : TwoRows B A av C cv W) {C2 : List Int} {cv2 : Value} (hrow : W2.ownsRow B 21 1 cv2 C2.length (C2.map (Value.int .i32))) (hg : W.grownBy W2 cv.ownBlock) (hown : cv2.ownBlock = cv.ownBlock ∨ cv2.ownBlock = some W.heap.size) : TwoRows B A av C2 cv2 W2 :=
  ⟨ownsRow_block h.a (fun j hj hl => hg.block j hl (fun e => h.sep j hj e.symm)), hrow, fun j hj e => by
    rcases hown with h' | h'
    · exact h.sep j hj (h' ▸ e)
    · rw [h'] at e; cases e; have := (ownsRow_own h.a hj).2; omega⟩
theorem below_grown {B : Nat} {V W W2 : World} {row : Option Nat} (h : Below B V W) (hg : W.grownBy W2 row) (hB : B ≤ W.heap.size) (hr : ∀ j, row = some j → B ≤ j) : Below B V W2 := h.grown hg hB hr
/-- what lies fixed while the law looks at both lists -/
structure Fix (V0 : World) (c : List T3) (L O : List Int) (xb n : Nat) (u : Value) (vp : Option Addr) (vn vc : Nat) (lp : Option Addr) (lc : Nat) (op : Option Addr) (oc : Nat) : Prop where
  data : V0.heap[xb]? = some (.cells #[u, .slice vp vn vc] 57 (0, 0))
  cls : TrisIn (fun _ => True) .i64 V0 u c
  l : IntsIn (fun _ => True) .i32 V0 (.slice lp n lc) L
  o : IntsIn (fun _ => True) .i32 V0 (.slice op n oc) O
  clen : c.length ≤ 4000
section
variable {V0 : World} {c : List T3} {L O : List Int} {xb n : Nat} {u : Value} {vp : Option Addr} {vn vc : Nat} {lp : Option Addr} {lc : Nat} {op : Option Addr} {oc : Nat}
theorem Fix.below (h : Fix V0 c L O xb n u vp vn vc lp lc op oc) {W : World} (hb : Below V0.heap.size V0 W) : Fix W c L O xb n u vp vn vc lp lc op oc :=
  ⟨(hb.block _ (Array.getElem?_eq_some_iff.1 h.data).1).trans h.data, h.cls.kept (Kept.below hb), h.l.kept (Kept.below hb), h.o.kept (Kept.below hb), h.clen⟩
theorem Fix.call (h : Fix V0 c L O xb n u vp vn vc lp lc op oc) (r : Int) : ∀ u', Calls Tryz.prog 31 #[.agg #[u, .slice vp vn vc], .int .i32 r] (over V0 u') fun e w' => e = .returned (.int .i64 (clsOf c r)) ∧ Below (over V0 u').heap.size (over V0 u') w' :=
  fun u' => dclass_any _ c u vp vn vc r _ (h.cls.kept (Kept.below (below_over V0 u'))) h.clen
theorem Fix.cells (h : Fix V0 c L O xb n u vp vn vc lp lc op oc) : V0.cell? ⟨xb, 0, none⟩ = some u ∧ V0.cell? ⟨xb, 1, none⟩ = some (.slice vp vn vc) ∧ xb < V0.heap.size :=
  ⟨(two_cells h.data).1, (two_cells h.data).2.1, (Array.getElem?_eq_some_iff.1 h.data).1⟩
theorem Fix.atL (h : Fix V0 c L O xb n u vp vn vc lp lc op oc) {i : Nat} {x : Int} (hx : L[i]? = some x) : ∃ b o, lp = some ⟨b, o, none⟩ ∧ b < V0.heap.size ∧ V0.cell? ⟨b, o + i, none⟩ = some (.int .i32 x) := by
  obtain ⟨p, cap, e, _, hc⟩ := h.l
  injection e with e1 _ _
  obtain ⟨b, o, e2, _, h1, h2⟩ := hc i x hx
  exact ⟨b, o, e1.trans e2, h1, h2⟩
theorem Fix.atO (h : Fix V0 c L O xb n u vp vn vc lp lc op oc) {i : Nat} {x : Int} (hx : O[i]? = some x) : ∃ b o, op = some ⟨b, o, none⟩ ∧ b < V0.heap.size ∧ V0.cell? ⟨b, o + i, none⟩ = some (.int .i32 x) := by
  obtain ⟨p, cap, e, _, hc⟩ := h.o
  injection e with e1 _ _
  obtain ⟨b, o, e2, _, h1, h2⟩ := hc i x hx
  exact ⟨b, o, e1.trans e2, h1, h2⟩
end
theorem three_cls (q : Int) (k : Nat) : (q = (k : Int) ∧ ∀ {c : List T3} x, q = clsOf c x → inCls (clsOf c) k x = true) ∨ (q ≠ (k : Int) ∧ q = 0 ∧ ∀ {c : List T3} x, q = clsOf c x → inCls (clsOf c) k x = true) ∨ (q ≠ (k : Int) ∧ q ≠ 0 ∧ ∀ {c : List T3} x, q = clsOf c x → ¬ inCls (clsOf c) k x = true) := by
  by_cases h : q = (k : Int)
  · exact .inl ⟨h, fun x hx => by unfold inCls; rw [← hx, h]; simp⟩
  · by_cases h0 : q = 0
    · exact .inr (.inl ⟨h, h0, fun x hx => by unfold inCls; rw [← hx, h0]; simp⟩)
    · exact .inr (.inr ⟨h, h0, fun x hx => by unfold inCls; rw [← hx]; simp [h, h0]⟩)
theorem List.length_append_singleton' {α : Type} (l : List α) (x : α) : (l ++ [x]).length = l.length + 1 := by simp
set_option maxHeartbeats 8000000 in
set_option maxRecDepth 1000000 in
theorem moves_law (c d : List T3) (L : List Int) (u v lv : Value) (w : World) (hu : TrisIn (· < w.heap.size) .i64 w u c) (hv : TrisIn (· < w.heap.size) .i32 w v d) (hL : IntsIn (· < w.heap.size) .i32 w lv L) (hll : L.length * 4 ≤ 140737488351232) :
    Calls Tryz.prog 6 #[u, v, lv] w fun e w' => e = .returned (.bool true) ∧ Below w.heap.size w w' := by
  obtain ⟨i0, hi, hz0, hz1, hz2⟩ := info_parts Tryz.infoI32
  have haw := awake6_any w
  have HU := Lib.hid hu
  have HV := Lib.hid hv
  have HL := Lib.hid hL
  obtain ⟨q, cq, rfl, _, _⟩ := hu
  obtain ⟨p, cp, rfl, _, _⟩ := hv
  obtain ⟨lp, lc, rfl, hlc, _⟩ := hL
  obtain ⟨n, hn⟩ : ∃ n, n = L.length := ⟨_, rfl⟩
  rw [← hn] at HL hll hlc ⊢
  have HNL := Lib.hid hn
  clear hn
  go_enter Tryz.func6, Tryz.ntmps6
  go_wp2_with fail
  refine haw.mono ?_
  rintro e w1 ⟨rfl, hb1⟩
  have HB1 := Lib.hid hb1
  have hda := data_any _ _ c d _ _ w1 (HU.out.kept (Kept.below hb1)) (HV.out.kept (Kept.below hb1))
  clear haw hb1
  go_wp2_with fail
  refine hda.mono ?_
  rintro e w2 ⟨hb2, hh⟩
  have HB2 := Lib.hid (HB1.out.trans (hb2.mono HB1.out.size))
  have hsz2 := hb2.size
  rcases hh with ⟨hc1, hd1, hok, pb, rfl, hnr⟩ | ⟨_, x, rfl⟩
  rotate_left
  · clear hda hb2
    go_wp2_with fail
    go_ret
    exact ⟨rfl, HB2.out.alloc HB2.out.size _⟩
  · have HN2 := Lib.hid hnr
    have HOK := Lib.hid hok
    have HC1 := Lib.hid hc1
    clear hda hnr hok hd1 hc1
    by_cases hlong : 300 < n
    · have g1 : (300 : Int) < (n : Int) := by omega
      go_wp2_with fail
      go_ret
      exact ⟨rfl, HB2.out.alloc HB2.out.size _⟩
    · have g1 : ¬ ((300 : Int) < (n : Int)) := by omega
      go_wp2_with (at_builtin; refine app_stop ⟨_, _, rfl⟩ ?_)
      refine Lib.hid ?_
      have hal : Below w2.heap.size w2 (w2.alloc (.cells #[.slice q c.length cq, .slice p d.length cp] 57)) := (Below.refl _ _).alloc (Nat.le_refl _) _
      have hxd : (w2.alloc (.cells #[.slice q c.length cq, .slice p d.length cp] 57)).heap[w2.heap.size]? = some (.cells #[.slice q c.length cq, .slice p d.length cp] 57 (0, 0)) := World.alloc_heap_new _ _
      have HB3 := Lib.hid (HB2.out.trans (hal.mono HB2.out.size))
      have HN3 := Lib.hid (HN2.out.kept (Kept.below hal))
      generalize w2.alloc (.cells #[.slice q c.length cq, .slice p d.length cp] 57) = w3 at *
      obtain ⟨xb, hxb⟩ : ∃ xb, xb = w2.heap.size := ⟨_, rfl⟩
      rw [← hxb] at hxd ⊢
      have HXD := Lib.hid hxd
      refine wpList_append_all _ rfl _ _ rfl rfl (.slice lp n lc) L (· < w.heap.size) rfl (HL.out.kept (Kept.below HB3.out)) (by have := HNL.out; omega) ?_
      intro av w4 hrow4 hb4 hn4
      have hno := order_norm0 (norm_made pb c d HOK.out) (fun b => w1.heap.size ≤ b) _ L av w4 (ints_of_own32 hrow4) hn4 (by have := HNL.out; omega) (HN3.out.kept (Kept.below hb4))
      have HB4 := Lib.hid (HB3.out.trans (hb4.mono HB3.out.size))
      have HXD4 := Lib.hid ((hb4.block _ (Array.getElem?_eq_some_iff.1 hxd).1).trans hxd)
      clear hal hxd hrow4 hb4 hn4 HXD hxb
      go_wp2_with fail
      with_reducible refine hno.mono ?_
      rintro e V0 ⟨⟨ov, rfl, hio⟩, _, hb5⟩
      have HB5 := Lib.hid (HB4.out.trans (hb5.mono HB4.out.size))
      have HXD5 := Lib.hid ((hb5.block _ (Array.getElem?_eq_some_iff.1 HXD4.out).1).trans HXD4.out)
      have hon : (ordL (clsOf c) L).length = n := by rw [ordL_len]; exact HNL.out.symm
      obtain ⟨op, oc, he, hio2⟩ := id hio
      rw [hon] at he
      subst he
      have HFX : Hid (Fix V0 c L (ordL (clsOf c) L) xb n (.slice q c.length cq) p d.length cp lp lc op oc) :=
        ⟨HXD5.out, (HU.out.kept (Kept.below HB5.out)).mono (fun _ _ _ => trivial), (HL.out.kept (Kept.below HB5.out)).mono (fun _ _ _ => trivial), hio.mono (fun _ _ _ => trivial), by have := HC1.out; omega⟩
      have HOL : Hid (∀ (i : Nat) y, L[i]? = some y → clsOf c y = 0 → (ordL (clsOf c) L)[i]? = some y) := fun i y => ord_starters (fun r => (clsOf_bound (data_parts HOK.out).2.2.1 r).1)
      have HFI : Hid (∀ k, (ordL (clsOf c) L).filter (inCls (clsOf c) k) = L.filter (inCls (clsOf c) k)) := fun k => ord_filter (fun r => (clsOf_bound (data_parts HOK.out).2.2.1 r).1) L k
      have HCH := Lib.hid (ord_chain (clsOf c) L)
      have HFN := Lib.hid (fun r => (clsOf_bound (data_parts HOK.out).2.2.1 r).1)
      have HON := Lib.hid hon
      generalize ordL (clsOf c) L = O at *
      clear hno hio hio2 hb5 hon HXD4 HXD5 HB4 HN3 HB3 HN2 HL HV HU HB2 hsz2 HC1
      go_wp2_with fail
      go_loopw [11, 47] (fun _ iv wr => ∃ i : Nat, iv = .int .i64 i ∧ i ≤ n ∧ Below V0.heap.size V0 wr) (fun _ iv _ => n - (intOf iv).toNat)
      case atStart => exact ⟨0, rfl, Nat.zero_le _, Below.refl _ _⟩
      case round =>
        obtain ⟨i, rfl, hin, hb⟩ := hrel
        have HB := Lib.hid hb
        by_cases hlt : i < n
        · have g2 : (i : Int) < (n : Int) := by omega
          have hfx := HFX.out.below hb
          obtain ⟨d0, d1, hxl⟩ := hfx.cells
          obtain ⟨x, hx⟩ : ∃ x, L[i]? = some x := ⟨L[i]'(by rw [← HNL.out]; exact hlt), List.getElem?_eq_getElem _⟩
          obtain ⟨y, hy⟩ : ∃ y, O[i]? = some y := ⟨O[i]'(by rw [HON.out]; exact hlt), List.getElem?_eq_getElem _⟩
          obtain ⟨lb, lo, e1, hbl, c0⟩ := hfx.atL hx
          subst e1
          obtain ⟨ob, oo, e2, hbo, c1⟩ := hfx.atO hy
          subst e2
          have hca := hfx.call x
          obtain ⟨q, hq⟩ : ∃ q, q = clsOf c x := ⟨_, rfl⟩
          rw [← hq] at hca
          have HCA := Lib.hid hca
          clear hb hfx hca
          by_cases hq0 : q = 0
          · have hyx : y = x := by
              have := HOL.out i x hx (by rw [← hq]; exact hq0)
              rw [hy] at this; cases this; rfl
            subst hyx hq0
            clear hx hy hq
            go_wp2_with fail
            refine wp_region_over (by kernel_rfl) (by kernel_rfl) ?_; (repeat (go_big_quiet_step (((go_at_call 31; exact over_of (HCA.out _)))))); refine wpQuiet_nil ?_; intro w1 hb1
            have HB1 := Lib.hid hb1
            clear hb1 c0 c1 d0 d1
            go_wp2_with fail
            go_roundw
            case rel => exact ⟨i + 1, by go_num, by omega, HB.out.trans (HB1.out.mono HB.out.size)⟩
            case measure => (show n - ((i : Int) + 1).toNat < n - (i : Int).toNat; omega)
          · have g3 : ¬ (q = 0) := hq0
            have g3b : (q == 0) = false := by simpa using hq0
            clear hx hy hq
            go_wp2_with fail
            refine wp_region_over (by kernel_rfl) (by kernel_rfl) ?_; (repeat (go_big_quiet_step (((go_at_call 31; exact over_of (HCA.out _)))))); refine wpQuiet_nil ?_; intro w1 hb1
            have HB1 := Lib.hid hb1
            clear hb1 c0 c1 d0 d1
            go_wp2_with fail
            go_roundw
            case rel => exact ⟨i + 1, by go_num, by omega, HB.out.trans (HB1.out.mono HB.out.size)⟩
            case measure => (show n - ((i : Int) + 1).toNat < n - (i : Int).toNat; omega)
        · have g2 : ¬ ((i : Int) < (n : Int)) := by omega
          clear hb hlt hin
          go_wp2_with fail
          go_loopw [12, 13, 14, 15, 16, 17, 75] (fun kv _ _ _ _ _ _ wr => ∃ k : Nat, kv = .int .i64 k ∧ k ≤ 255 ∧ Below V0.heap.size V0 wr) (fun kv _ _ _ _ _ _ _ => 255 - (intOf kv).toNat)
          case atStart => exact ⟨0, rfl, by omega, HB.out⟩
          case round =>
            obtain ⟨k, rfl, hk, hbk⟩ := hrel
            have HBK := Lib.hid hbk
            clear hbk HB g2
            by_cases hkl : k < 255
            · have g2 : (k : Int) < 255 := by omega
              go_wp2_with fail
              go_loopw [13, 14, 15, 16, 17, 75] (fun av bv _ _ _ iv wr => ∃ i : Nat, iv = .int .i64 i ∧ i ≤ n ∧ TwoRows V0.heap.size ((L.take i).filter (inCls (clsOf c) k)) av ((O.take i).filter (inCls (clsOf c) k)) bv wr ∧ Below V0.heap.size V0 wr) (fun _ _ _ _ _ iv _ => n - (intOf iv).toNat)
              case atStart => exact ⟨0, rfl, Nat.zero_le _, ⟨⟨rfl, .inl ⟨rfl, rfl⟩⟩, ⟨rfl, .inl ⟨rfl, rfl⟩⟩, fun j h => by cases h⟩, HBK.out⟩
              case round =>
                obtain ⟨i, rfl, hin, hT, hb⟩ := hrel
                have HB := Lib.hid hb
                by_cases hlt : i < n
                · have g1 : (i : Int) < (n : Int) := by omega
                  have hfx := HFX.out.below hb
                  obtain ⟨d0, d1, hxl⟩ := hfx.cells
                  obtain ⟨x, hx⟩ : ∃ x, L[i]? = some x := ⟨L[i]'(by rw [← HNL.out]; exact hlt), List.getElem?_eq_getElem _⟩
                  obtain ⟨y, hy⟩ : ∃ y, O[i]? = some y := ⟨O[i]'(by rw [HON.out]; exact hlt), List.getElem?_eq_getElem _⟩
                  obtain ⟨lb, lo, e1, hbl, c0⟩ := hfx.atL hx
                  subst e1
                  obtain ⟨ob, oo, e2, hbo, c1⟩ := hfx.atO hy
                  subst e2
                  have hca := hfx.call x
                  obtain ⟨q, hq⟩ : ∃ q, q = clsOf c x := ⟨_, rfl⟩
                  rw [← hq] at hca
                  have HCA := Lib.hid hca
                  have HQ := Lib.hid hq
                  have HX := Lib.hid hx
                  have HY := Lib.hid hy
                  have hAl : ((L.take i).filter (inCls (clsOf c) k)).length ≤ 300 := by
                    have h1 := List.length_filter_le (inCls (clsOf c) k) (L.take i)
                    rw [List.length_take] at h1; omega
                  have hCl : ((O.take i).filter (inCls (clsOf c) k)).length ≤ 300 := by
                    have h1 := List.length_filter_le (inCls (clsOf c) k) (O.take i)
                    rw [List.length_take] at h1; omega
                  obtain ⟨A, hA⟩ : ∃ A, A = (L.take i).filter (inCls (clsOf c) k) := ⟨_, rfl⟩
                  obtain ⟨C, hC⟩ : ∃ C, C = (O.take i).filter (inCls (clsOf c) k) := ⟨_, rfl⟩
                  rw [← hA, ← hC] at hT
                  rw [← hA] at hAl
                  rw [← hC] at hCl
                  have HT := Lib.hid hT
                  have HAC := Lib.hid (And.intro hA hC)
                  clear hb hfx hca hq hx hy hA hC hT
                  rcases three_cls q k with ⟨h1, hix⟩ | ⟨h1, h2, hix⟩ | ⟨h1, h2, hix⟩
                  · have g3 : q = (k : Int) := h1
                    have HIX := Lib.hid (hix x HQ.out)
                    clear hix
                    go_wp2_with fail
                    refine wp_region_over (by kernel_rfl) (by kernel_rfl) ?_; (repeat (go_big_quiet_step (((go_at_call 31; exact over_of (HCA.out _)))))); refine wpQuiet_nil ?_; intro w1 hb1
                    have HBY : Hid (Below V0.heap.size V0 w1) := HB.out.trans (hb1.mono HB.out.size)
                    have HTY := Lib.hid (HT.out.below hb1)
                    have c0' := (hb1.cell (p := ⟨lb, lo + i, none⟩) hbl).trans c0
                    have hbl3 : lb < w1.heap.size := by have := hb1.size; omega
                    clear hb1 c0 c1 d0 d1
                    go_wp2_with (at_builtin; refine app_stop ⟨_, _, rfl⟩ ?_)
                    refine Lib.hid ?_
                    have HTA_HTX := Lib.hid (HTY.out.below ((Below.refl _ w1).alloc (Nat.le_refl _) (.cells #[.int .i32 x] 21)))
                    have hza_HTX : V0.heap.size ≤ (w1.alloc (.cells #[.int .i32 x] 21)).heap.size := by have := HBY.out.size; simp; omega
                    refine wpList_append_own_at _ rfl _ _ 48 rfl V0.heap.size 21 i0 (.int .i32 0) 1 4 Tryz.underlying48 hi hz0 hz1 hz2 rfl (by decide) _ A.length (A.map (Value.int .i32)) rfl HTA_HTX.out.a ⟨w1.heap.size, 0, none⟩ 1 1 [.int .i32 x] rfl rfl (cell_one_new _ _ _) (by simp [Value.oneCell']) (by unfold maxLen; omega) (by omega) hza_HTX ?_
                    intro v_HTX w_HTX hrow_HTX hg_HTX _ how_HTX
                    have HTX := Lib.hid (HTA_HTX.out.growA (A2 := A ++ [x]) (by rw [List.length_append, List.map_append]; exact hrow_HTX) hg_HTX how_HTX)
                    have HBX : Hid (Below V0.heap.size V0 w_HTX) := below_grown (HBY.out.alloc HBY.out.size _) hg_HTX hza_HTX (fun j hj => (ownsRow_own HTA_HTX.out.a hj).1)
                    clear hrow_HTX hg_HTX how_HTX HTA_HTX hza_HTX
                    have hfx2 := HFX.out.below HBX.out
                    obtain ⟨d0, d1, hxl2⟩ := hfx2.cells
                    obtain ⟨ob2, oo2, e2, hbo2, c1⟩ := hfx2.atO HY.out
                    cases e2
                    have hca2 := hfx2.call y
                    obtain ⟨q2, hq2⟩ : ∃ q2, q2 = clsOf c y := ⟨_, rfl⟩
                    rw [← hq2] at hca2
                    have HCA := Lib.hid hca2
                    have HQ2 := Lib.hid hq2
                    clear hca2 hfx2 hq2
                    rcases three_cls q2 k with ⟨h1, hiy⟩ | ⟨h1, h2, hiy⟩ | ⟨h1, h2, hiy⟩
                    · have g5 : q2 = (k : Int) := h1
                      have HIY := Lib.hid (hiy y HQ2.out)
                      clear hiy
                      go_wp2_with fail
                      refine wp_region_over (by kernel_rfl) (by kernel_rfl) ?_; (repeat (go_big_quiet_step (((go_at_call 31; exact over_of (HCA.out _)))))); refine wpQuiet_nil ?_; intro w1 hb1
                      have HBZ : Hid (Below V0.heap.size V0 w1) := HBX.out.trans (hb1.mono HBX.out.size)
                      have HTZ := Lib.hid (HTX.out.below hb1)
                      have c1' := (hb1.cell (p := ⟨ob, oo + i, none⟩) hbo2).trans c1
                      have hbo3 : ob < w1.heap.size := by have := hb1.size; omega
                      clear hb1 c1 d0 d1
                      go_wp2_with (at_builtin; refine app_stop ⟨_, _, rfl⟩ ?_)
                      refine Lib.hid ?_
                      have HTA_HTF := Lib.hid (HTZ.out.below ((Below.refl _ w1).alloc (Nat.le_refl _) (.cells #[.int .i32 y] 21)))
                      have hza_HTF : V0.heap.size ≤ (w1.alloc (.cells #[.int .i32 y] 21)).heap.size := by have := HBZ.out.size; simp; omega
                      refine wpList_append_own_at _ rfl _ _ 48 rfl V0.heap.size 21 i0 (.int .i32 0) 1 4 Tryz.underlying48 hi hz0 hz1 hz2 rfl (by decide) _ C.length (C.map (Value.int .i32)) rfl HTA_HTF.out.c ⟨w1.heap.size, 0, none⟩ 1 1 [.int .i32 y] rfl rfl (cell_one_new _ _ _) (by simp [Value.oneCell']) (by unfold maxLen; omega) (by omega) hza_HTF ?_
                      intro v_HTF w_HTF hrow_HTF hg_HTF _ how_HTF
                      have HTF := Lib.hid (HTA_HTF.out.growC (C2 := C ++ [y]) (by rw [List.length_append, List.map_append]; exact hrow_HTF) hg_HTF how_HTF)
                      have HBF : Hid (Below V0.heap.size V0 w_HTF) := below_grown (HBZ.out.alloc HBZ.out.size _) hg_HTF hza_HTF (fun j hj => (ownsRow_own HTA_HTF.out.c hj).1)
                      clear hrow_HTF hg_HTF how_HTF HTA_HTF hza_HTF
                      go_wp2_with fail
                      go_roundw
                      case rel => exact ⟨i + 1, by go_num, by omega, by rw [filter_take HX.out, filter_take HY.out, if_pos HIX.out, if_pos HIY.out, ← HAC.out.1, ← HAC.out.2]; exact HTF.out, HBF.out⟩
                      case measure => (show n - ((i : Int) + 1).toNat < n - (i : Int).toNat; omega)
                    · have g5 : ¬ (q2 = (k : Int)) := h1
                      subst h2
                      have HIY := Lib.hid (hiy y HQ2.out)
                      clear hiy
                      go_wp2_with fail
                      refine wp_region_over (by kernel_rfl) (by kernel_rfl) ?_; (repeat (go_big_quiet_step (((go_at_call 31; exact over_of (HCA.out _)))))); refine wpQuiet_nil ?_; intro w1 hb1
                      have HBZ : Hid (Below V0.heap.size V0 w1) := HBX.out.trans (hb1.mono HBX.out.size)
                      have HTZ := Lib.hid (HTX.out.below hb1)
                      have c1' := (hb1.cell (p := ⟨ob, oo + i, none⟩) hbo2).trans c1
                      have hbo3 : ob < w1.heap.size := by have := hb1.size; omega
                      clear hb1 c1 d0 d1
                      go_wp2_with (at_builtin; refine app_stop ⟨_, _, rfl⟩ ?_)
                      refine Lib.hid ?_
                      have HTA_HTF := Lib.hid (HTZ.out.below ((Below.refl _ w1).alloc (Nat.le_refl _) (.cells #[.int .i32 y] 21)))
                      have hza_HTF : V0.heap.size ≤ (w1.alloc (.cells #[.int .i32 y] 21)).heap.size := by have := HBZ.out.size; simp; omega
                      refine wpList_append_own_at _ rfl _ _ 48 rfl V0.heap.size 21 i0 (.int .i32 0) 1 4 Tryz.underlying48 hi hz0 hz1 hz2 rfl (by decide) _ C.length (C.map (Value.int .i32)) rfl HTA_HTF.out.c ⟨w1.heap.size, 0, none⟩ 1 1 [.int .i32 y] rfl rfl (cell_one_new _ _ _) (by simp [Value.oneCell']) (by unfold maxLen; omega) (by omega) hza_HTF ?_
                      intro v_HTF w_HTF hrow_HTF hg_HTF _ how_HTF
                      have HTF := Lib.hid (HTA_HTF.out.growC (C2 := C ++ [y]) (by rw [List.length_append, List.map_append]; exact hrow_HTF) hg_HTF how_HTF)
                      have HBF : Hid (Below V0.heap.size V0 w_HTF) := below_grown (HBZ.out.alloc HBZ.out.size _) hg_HTF hza_HTF (fun j hj => (ownsRow_own HTA_HTF.out.c hj).1)
                      clear hrow_HTF hg_HTF how_HTF HTA_HTF hza_HTF
                      go_wp2_with fail
                      go_roundw
                      case rel => exact ⟨i + 1, by go_num, by omega, by rw [filter_take HX.out, filter_take HY.out, if_pos HIX.out, if_pos HIY.out, ← HAC.out.1, ← HAC.out.2]; exact HTF.out, HBF.out⟩
                      case measure => (show n - ((i : Int) + 1).toNat < n - (i : Int).toNat; omega)
                    · have g5 : ¬ (q2 = (k : Int)) := h1
                      have g6 : ¬ (q2 = 0) := h2
                      have g5b : (q2 == (k : Int)) = false := by simpa using h1
                      have g6b : (q2 == 0) = false := by simpa using h2
                      have HIY := Lib.hid (hiy y HQ2.out)
                      clear hiy
                      go_wp2_with fail
                      refine wp_region_over (by kernel_rfl) (by kernel_rfl) ?_; (repeat (go_big_quiet_step (((go_at_call 31; exact over_of (HCA.out _)))))); refine wpQuiet_nil ?_; intro w1 hb1
                      have HBZ : Hid (Below V0.heap.size V0 w1) := HBX.out.trans (hb1.mono HBX.out.size)
                      have HTZ := Lib.hid (HTX.out.below hb1)
                      have c1' := (hb1.cell (p := ⟨ob, oo + i, none⟩) hbo2).trans c1
                      have hbo3 : ob < w1.heap.size := by have := hb1.size; omega
                      clear hb1 c1 d0 d1
                      go_wp2_with fail
                      go_roundw
                      case rel => exact ⟨i + 1, by go_num, by omega, by rw [filter_take HX.out, filter_take HY.out, if_pos HIX.out, if_neg HIY.out, ← HAC.out.1, ← HAC.out.2]; exact HTZ.out, HBZ.out⟩
                      case measure => (show n - ((i : Int) + 1).toNat < n - (i : Int).toNat; omega)
                  · have g3 : ¬ (q = (k : Int)) := h1
                    subst h2
                    have HIX := Lib.hid (hix x HQ.out)
                    clear hix
                    go_wp2_with fail
                    refine wp_region_over (by kernel_rfl) (by kernel_rfl) ?_; (repeat (go_big_quiet_step (((go_at_call 31; exact over_of (HCA.out _)))))); refine wpQuiet_nil ?_; intro w1 hb1
                    have HBY : Hid (Below V0.heap.size V0 w1) := HB.out.trans (hb1.mono HB.out.size)
                    have HTY := Lib.hid (HT.out.below hb1)
                    have c0' := (hb1.cell (p := ⟨lb, lo + i, none⟩) hbl).trans c0
                    have hbl3 : lb < w1.heap.size := by have := hb1.size; omega
                    clear hb1 c0 c1 d0 d1
                    go_wp2_with (at_builtin; refine app_stop ⟨_, _, rfl⟩ ?_)
                    refine Lib.hid ?_
                    have HTA_HTX := Lib.hid (HTY.out.below ((Below.refl _ w1).alloc (Nat.le_refl _) (.cells #[.int .i32 x] 21)))
                    have hza_HTX : V0.heap.size ≤ (w1.alloc (.cells #[.int .i32 x] 21)).heap.size := by have := HBY.out.size; simp; omega
                    refine wpList_append_own_at _ rfl _ _ 48 rfl V0.heap.size 21 i0 (.int .i32 0) 1 4 Tryz.underlying48 hi hz0 hz1 hz2 rfl (by decide) _ A.length (A.map (Value.int .i32)) rfl HTA_HTX.out.a ⟨w1.heap.size, 0, none⟩ 1 1 [.int .i32 x] rfl rfl (cell_one_new _ _ _) (by simp [Value.oneCell']) (by unfold maxLen; omega) (by omega) hza_HTX ?_
                    intro v_HTX w_HTX hrow_HTX hg_HTX _ how_HTX
                    have HTX := Lib.hid (HTA_HTX.out.growA (A2 := A ++ [x]) (by rw [List.length_append, List.map_append]; exact hrow_HTX) hg_HTX how_HTX)
                    have HBX : Hid (Below V0.heap.size V0 w_HTX) := below_grown (HBY.out.alloc HBY.out.size _) hg_HTX hza_HTX (fun j hj => (ownsRow_own HTA_HTX.out.a hj).1)
                    clear hrow_HTX hg_HTX how_HTX HTA_HTX hza_HTX
                    have hfx2 := HFX.out.below HBX.out
                    obtain ⟨d0, d1, hxl2⟩ := hfx2.cells
                    obtain ⟨ob2, oo2, e2, hbo2, c1⟩ := hfx2.atO HY.out
                    cases e2
                    have hca2 := hfx2.call y
                    obtain ⟨q2, hq2⟩ : ∃ q2, q2 = clsOf c y := ⟨_, rfl⟩
                    rw [← hq2] at hca2
                    have HCA := Lib.hid hca2
                    have HQ2 := Lib.hid hq2
                    clear hca2 hfx2 hq2
                    rcases three_cls q2 k with ⟨h1, hiy⟩ | ⟨h1, h2, hiy⟩ | ⟨h1, h2, hiy⟩
                    · have g5 : q2 = (k : Int) := h1
                      have HIY := Lib.hid (hiy y HQ2.out)
                      clear hiy
                      go_wp2_with fail
                      refine wp_region_over (by kernel_rfl) (by kernel_rfl) ?_; (repeat (go_big_quiet_step (((go_at_call 31; exact over_of (HCA.out _)))))); refine wpQuiet_nil ?_; intro w1 hb1
                      have HBZ : Hid (Below V0.heap.size V0 w1) := HBX.out.trans (hb1.mono HBX.out.size)
                      have HTZ := Lib.hid (HTX.out.below hb1)
                      have c1' := (hb1.cell (p := ⟨ob, oo + i, none⟩) hbo2).trans c1
                      have hbo3 : ob < w1.heap.size := by have := hb1.size; omega
                      clear hb1 c1 d0 d1
                      go_wp2_with (at_builtin; refine app_stop ⟨_, _, rfl⟩ ?_)
                      refine Lib.hid ?_
                      have HTA_HTF := Lib.hid (HTZ.out.below ((Below.refl _ w1).alloc (Nat.le_refl _) (.cells #[.int .i32 y] 21)))
                      have hza_HTF : V0.heap.size ≤ (w1.alloc (.cells #[.int .i32 y] 21)).heap.size := by have := HBZ.out.size; simp; omega
                      refine wpList_append_own_at _ rfl _ _ 48 rfl V0.heap.size 21 i0 (.int .i32 0) 1 4 Tryz.underlying48 hi hz0 hz1 hz2 rfl (by decide) _ C.length (C.map (Value.int .i32)) rfl HTA_HTF.out.c ⟨w1.heap.size, 0, none⟩ 1 1 [.int .i32 y] rfl rfl (cell_one_new _ _ _) (by simp [Value.oneCell']) (by unfold maxLen; omega) (by omega) hza_HTF ?_
                      intro v_HTF w_HTF hrow_HTF hg_HTF _ how_HTF
                      have HTF := Lib.hid (HTA_HTF.out.growC (C2 := C ++ [y]) (by rw [List.length_append, List.map_append]; exact hrow_HTF) hg_HTF how_HTF)
                      have HBF : Hid (Below V0.heap.size V0 w_HTF) := below_grown (HBZ.out.alloc HBZ.out.size _) hg_HTF hza_HTF (fun j hj => (ownsRow_own HTA_HTF.out.c hj).1)
                      clear hrow_HTF hg_HTF how_HTF HTA_HTF hza_HTF
                      go_wp2_with fail
                      go_roundw
                      case rel => exact ⟨i + 1, by go_num, by omega, by rw [filter_take HX.out, filter_take HY.out, if_pos HIX.out, if_pos HIY.out, ← HAC.out.1, ← HAC.out.2]; exact HTF.out, HBF.out⟩
                      case measure => (show n - ((i : Int) + 1).toNat < n - (i : Int).toNat; omega)
                    · have g5 : ¬ (q2 = (k : Int)) := h1
                      subst h2
                      have HIY := Lib.hid (hiy y HQ2.out)
                      clear hiy
                      go_wp2_with fail
                      refine wp_region_over (by kernel_rfl) (by kernel_rfl) ?_; (repeat (go_big_quiet_step (((go_at_call 31; exact over_of (HCA.out _)))))); refine wpQuiet_nil ?_; intro w1 hb1
                      have HBZ : Hid (Below V0.heap.size V0 w1) := HBX.out.trans (hb1.mono HBX.out.size)
                      have HTZ := Lib.hid (HTX.out.below hb1)
                      have c1' := (hb1.cell (p := ⟨ob, oo + i, none⟩) hbo2).trans c1
                      have hbo3 : ob < w1.heap.size := by have := hb1.size; omega
                      clear hb1 c1 d0 d1
                      go_wp2_with (at_builtin; refine app_stop ⟨_, _, rfl⟩ ?_)
                      refine Lib.hid ?_
                      have HTA_HTF := Lib.hid (HTZ.out.below ((Below.refl _ w1).alloc (Nat.le_refl _) (.cells #[.int .i32 y] 21)))
                      have hza_HTF : V0.heap.size ≤ (w1.alloc (.cells #[.int .i32 y] 21)).heap.size := by have := HBZ.out.size; simp; omega
                      refine wpList_append_own_at _ rfl _ _ 48 rfl V0.heap.size 21 i0 (.int .i32 0) 1 4 Tryz.underlying48 hi hz0 hz1 hz2 rfl (by decide) _ C.length (C.map (Value.int .i32)) rfl HTA_HTF.out.c ⟨w1.heap.size, 0, none⟩ 1 1 [.int .i32 y] rfl rfl (cell_one_new _ _ _) (by simp [Value.oneCell']) (by unfold maxLen; omega) (by omega) hza_HTF ?_
                      intro v_HTF w_HTF hrow_HTF hg_HTF _ how_HTF
                      have HTF := Lib.hid (HTA_HTF.out.growC (C2 := C ++ [y]) (by rw [List.length_append, List.map_append]; exact hrow_HTF) hg_HTF how_HTF)
                      have HBF : Hid (Below V0.heap.size V0 w_HTF) := below_grown (HBZ.out.alloc HBZ.out.size _) hg_HTF hza_HTF (fun j hj => (ownsRow_own HTA_HTF.out.c hj).1)
                      clear hrow_HTF hg_HTF how_HTF HTA_HTF hza_HTF
                      go_wp2_with fail
                      go_roundw
                      case rel => exact ⟨i + 1, by go_num, by omega, by rw [filter_take HX.out, filter_take HY.out, if_pos HIX.out, if_pos HIY.out, ← HAC.out.1, ← HAC.out.2]; exact HTF.out, HBF.out⟩
                      case measure => (show n - ((i : Int) + 1).toNat < n - (i : Int).toNat; omega)
                    · have g5 : ¬ (q2 = (k : Int)) := h1
                      have g6 : ¬ (q2 = 0) := h2
                      have g5b : (q2 == (k : Int)) = false := by simpa using h1
                      have g6b : (q2 == 0) = false := by simpa using h2
                      have HIY := Lib.hid (hiy y HQ2.out)
                      clear hiy
                      go_wp2_with fail
                      refine wp_region_over (by kernel_rfl) (by kernel_rfl) ?_; (repeat (go_big_quiet_step (((go_at_call 31; exact over_of (HCA.out _)))))); refine wpQuiet_nil ?_; intro w1 hb1
                      have HBZ : Hid (Below V0.heap.size V0 w1) := HBX.out.trans (hb1.mono HBX.out.size)
                      have HTZ := Lib.hid (HTX.out.below hb1)
                      have c1' := (hb1.cell (p := ⟨ob, oo + i, none⟩) hbo2).trans c1
                      have hbo3 : ob < w1.heap.size := by have := hb1.size; omega
                      clear hb1 c1 d0 d1
                      go_wp2_with fail
                      go_roundw
                      case rel => exact ⟨i + 1, by go_num, by omega, by rw [filter_take HX.out, filter_take HY.out, if_pos HIX.out, if_neg HIY.out, ← HAC.out.1, ← HAC.out.2]; exact HTZ.out, HBZ.out⟩
                      case measure => (show n - ((i : Int) + 1).toNat < n - (i : Int).toNat; omega)
                  · have g3 : ¬ (q = (k : Int)) := h1
                    have g4 : ¬ (q = 0) := h2
                    have g3b : (q == (k : Int)) = false := by simpa using h1
                    have g4b : (q == 0) = false := by simpa using h2
                    have HIX := Lib.hid (hix x HQ.out)
                    clear hix
                    go_wp2_with fail
                    refine wp_region_over (by kernel_rfl) (by kernel_rfl) ?_; (repeat (go_big_quiet_step (((go_at_call 31; exact over_of (HCA.out _)))))); refine wpQuiet_nil ?_; intro w1 hb1
                    have HBY : Hid (Below V0.heap.size V0 w1) := HB.out.trans (hb1.mono HB.out.size)
                    have HTY := Lib.hid (HT.out.below hb1)
                    have c0' := (hb1.cell (p := ⟨lb, lo + i, none⟩) hbl).trans c0
                    have hbl3 : lb < w1.heap.size := by have := hb1.size; omega
                    clear hb1 c0 c1 d0 d1
                    have hfx2 := HFX.out.below HBY.out
                    obtain ⟨d0, d1, hxl2⟩ := hfx2.cells
                    obtain ⟨ob2, oo2, e2, hbo2, c1⟩ := hfx2.atO HY.out
                    cases e2
                    have hca2 := hfx2.call y
                    obtain ⟨q2, hq2⟩ : ∃ q2, q2 = clsOf c y := ⟨_, rfl⟩
                    rw [← hq2] at hca2
                    have HCA := Lib.hid hca2
                    have HQ2 := Lib.hid hq2
                    clear hca2 hfx2 hq2
                    rcases three_cls q2 k with ⟨h1, hiy⟩ | ⟨h1, h2, hiy⟩ | ⟨h1, h2, hiy⟩
                    · have g5 : q2 = (k : Int) := h1
                      have HIY := Lib.hid (hiy y HQ2.out)
                      clear hiy
                      go_wp2_with fail
                      refine wp_region_over (by kernel_rfl) (by kernel_rfl) ?_; (repeat (go_big_quiet_step (((go_at_call 31; exact over_of (HCA.out _)))))); refine wpQuiet_nil ?_; intro w1 hb1
                      have HBZ : Hid (Below V0.heap.size V0 w1) := HBY.out.trans (hb1.mono HBY.out.size)
                      have HTZ := Lib.hid (HTY.out.below hb1)
                      have c1' := (hb1.cell (p := ⟨ob, oo + i, none⟩) hbo2).trans c1
                      have hbo3 : ob < w1.heap.size := by have := hb1.size; omega
                      clear hb1 c1 d0 d1
                      go_wp2_with (at_builtin; refine app_stop ⟨_, _, rfl⟩ ?_)
                      refine Lib.hid ?_
                      have HTA_HTF := Lib.hid (HTZ.out.below ((Below.refl _ w1).alloc (Nat.le_refl _) (.cells #[.int .i32 y] 21)))
                      have hza_HTF : V0.heap.size ≤ (w1.alloc (.cells #[.int .i32 y] 21)).heap.size := by have := HBZ.out.size; simp; omega
                      refine wpList_append_own_at _ rfl _ _ 48 rfl V0.heap.size 21 i0 (.int .i32 0) 1 4 Tryz.underlying48 hi hz0 hz1 hz2 rfl (by decide) _ C.length (C.map (Value.int .i32)) rfl HTA_HTF.out.c ⟨w1.heap.size, 0, none⟩ 1 1 [.int .i32 y] rfl rfl (cell_one_new _ _ _) (by simp [Value.oneCell']) (by unfold maxLen; omega) (by omega) hza_HTF ?_
                      intro v_HTF w_HTF hrow_HTF hg_HTF _ how_HTF
                      have HTF := Lib.hid (HTA_HTF.out.growC (C2 := C ++ [y]) (by rw [List.length_append, List.map_append]; exact hrow_HTF) hg_HTF how_HTF)
                      have HBF : Hid (Below V0.heap.size V0 w_HTF) := below_grown (HBZ.out.alloc HBZ.out.size _) hg_HTF hza_HTF (fun j hj => (ownsRow_own HTA_HTF.out.c hj).1)
                      clear hrow_HTF hg_HTF how_HTF HTA_HTF hza_HTF
                      go_wp2_with fail
                      go_roundw
                      case rel => exact ⟨i + 1, by go_num, by omega, by rw [filter_take HX.out, filter_take HY.out, if_neg HIX.out, if_pos HIY.out, ← HAC.out.1, ← HAC.out.2]; exact HTF.out, HBF.out⟩
                      case measure => (show n - ((i : Int) + 1).toNat < n - (i : Int).toNat; omega)
                    · have g5 : ¬ (q2 = (k : Int)) := h1
                      subst h2
                      have HIY := Lib.hid (hiy y HQ2.out)
                      clear hiy
                      go_wp2_with fail
                      refine wp_region_over (by kernel_rfl) (by kernel_rfl) ?_; (repeat (go_big_quiet_step (((go_at_call 31; exact over_of (HCA.out _)))))); refine wpQuiet_nil ?_; intro w1 hb1
                      have HBZ : Hid (Below V0.heap.size V0 w1) := HBY.out.trans (hb1.mono HBY.out.size)
                      have HTZ := Lib.hid (HTY.out.below hb1)
                      have c1' := (hb1.cell (p := ⟨ob, oo + i, none⟩) hbo2).trans c1
                      have hbo3 : ob < w1.heap.size := by have := hb1.size; omega
                      clear hb1 c1 d0 d1
                      go_wp2_with (at_builtin; refine app_stop ⟨_, _, rfl⟩ ?_)
                      refine Lib.hid ?_
                      have HTA_HTF := Lib.hid (HTZ.out.below ((Below.refl _ w1).alloc (Nat.le_refl _) (.cells #[.int .i32 y] 21)))
                      have hza_HTF : V0.heap.size ≤ (w1.alloc (.cells #[.int .i32 y] 21)).heap.size := by have := HBZ.out.size; simp; omega
                      refine wpList_append_own_at _ rfl _ _ 48 rfl V0.heap.size 21 i0 (.int .i32 0) 1 4 Tryz.underlying48 hi hz0 hz1 hz2 rfl (by decide) _ C.length (C.map (Value.int .i32)) rfl HTA_HTF.out.c ⟨w1.heap.size, 0, none⟩ 1 1 [.int .i32 y] rfl rfl (cell_one_new _ _ _) (by simp [Value.oneCell']) (by unfold maxLen; omega) (by omega) hza_HTF ?_
                      intro v_HTF w_HTF hrow_HTF hg_HTF _ how_HTF
                      have HTF := Lib.hid (HTA_HTF.out.growC (C2 := C ++ [y]) (by rw [List.length_append, List.map_append]; exact hrow_HTF) hg_HTF how_HTF)
                      have HBF : Hid (Below V0.heap.size V0 w_HTF) := below_grown (HBZ.out.alloc HBZ.out.size _) hg_HTF hza_HTF (fun j hj => (ownsRow_own HTA_HTF.out.c hj).1)
                      clear hrow_HTF hg_HTF how_HTF HTA_HTF hza_HTF
                      go_wp2_with fail
                      go_roundw
                      case rel => exact ⟨i + 1, by go_num, by omega, by rw [filter_take HX.out, filter_take HY.out, if_neg HIX.out, if_pos HIY.out, ← HAC.out.1, ← HAC.out.2]; exact HTF.out, HBF.out⟩
                      case measure => (show n - ((i : Int) + 1).toNat < n - (i : Int).toNat; omega)
                    · have g5 : ¬ (q2 = (k : Int)) := h1
                      have g6 : ¬ (q2 = 0) := h2
                      have g5b : (q2 == (k : Int)) = false := by simpa using h1
                      have g6b : (q2 == 0) = false := by simpa using h2
                      have HIY := Lib.hid (hiy y HQ2.out)
                      clear hiy
                      go_wp2_with fail
                      refine wp_region_over (by kernel_rfl) (by kernel_rfl) ?_; (repeat (go_big_quiet_step (((go_at_call 31; exact over_of (HCA.out _)))))); refine wpQuiet_nil ?_; intro w1 hb1
                      have HBZ : Hid (Below V0.heap.size V0 w1) := HBY.out.trans (hb1.mono HBY.out.size)
                      have HTZ := Lib.hid (HTY.out.below hb1)
                      have c1' := (hb1.cell (p := ⟨ob, oo + i, none⟩) hbo2).trans c1
                      have hbo3 : ob < w1.heap.size := by have := hb1.size; omega
                      clear hb1 c1 d0 d1
                      go_wp2_with fail
                      go_roundw
                      case rel => exact ⟨i + 1, by go_num, by omega, by rw [filter_take HX.out, filter_take HY.out, if_neg HIX.out, if_neg HIY.out, ← HAC.out.1, ← HAC.out.2]; exact HTZ.out, HBZ.out⟩
                      case measure => (show n - ((i : Int) + 1).toNat < n - (i : Int).toNat; omega)
                · have g1 : ¬ ((i : Int) < (n : Int)) := by omega
                  obtain rfl : i = n := by omega
                  have ht1 : L.take i = L := List.take_of_length_le (by rw [← HNL.out]; exact Nat.le_refl _)
                  have ht2 : O.take i = O := List.take_of_length_le (by rw [HON.out]; exact Nat.le_refl _)
                  have hll1 : (L.filter (inCls (clsOf c) k)).length ≤ 1000000000 := by
                    have := List.length_filter_le (inCls (clsOf c) k) L
                    have := HNL.out; omega
                  rw [ht1, ht2, HFI.out] at hT
                  have hru := runes5_any _ _ _ _ _ _ _ (ints_of_own32 hT.a) (ints_of_own32 hT.c) hll1 hll1
                  rw [decide_eq_true rfl] at hru
                  clear hT hll1 ht1 ht2 hb
                  go_wp2_with fail
                  with_reducible refine hru.mono ?_
                  rintro e w1 ⟨rfl, hb1⟩
                  have HB1 : Hid (Below V0.heap.size V0 w1) := HB.out.trans (hb1.mono HB.out.size)
                  clear hru hb1
                  go_wp2_with fail
                  go_roundw
                  case rel => exact ⟨k + 1, by go_num, by omega, HB1.out⟩
                  case measure => (show 255 - ((k : Int) + 1).toNat < 255 - (k : Int).toNat; omega)
            · have g2 : ¬ ((k : Int) < 255) := by omega
              go_wp2_with fail
              go_loopw [18, 19] (fun iv _ wr => ∃ i : Nat, iv = .int .i64 i ∧ 1 ≤ i ∧ i ≤ n + 1 ∧ Below V0.heap.size V0 wr) (fun iv _ _ => n - (intOf iv).toNat)
              case atStart => exact ⟨1, rfl, Nat.le_refl _, by omega, HBK.out⟩
              case round =>
                obtain ⟨i, rfl, hi1, hin, hb⟩ := hrel
                have HB := Lib.hid hb
                by_cases hlt : i < n
                · have g1 : (i : Int) < (n : Int) := by omega
                  have hfx := HFX.out.below hb
                  obtain ⟨d0, d1, hxl⟩ := hfx.cells
                  obtain ⟨j, hj⟩ : ∃ j, i = j + 1 := ⟨i - 1, by omega⟩
                  have hji : (i : Int) - 1 = (j : Int) := by omega
                  have hjn : j < n := by omega
                  obtain ⟨y, hy⟩ : ∃ y, O[i]? = some y := ⟨O[i]'(by rw [HON.out]; exact hlt), List.getElem?_eq_getElem _⟩
                  obtain ⟨x, hx⟩ : ∃ x, O[j]? = some x := ⟨O[j]'(by rw [HON.out]; exact hjn), List.getElem?_eq_getElem _⟩
                  obtain ⟨ob, oo, e2, hbo, c1⟩ := hfx.atO hy
                  subst e2
                  obtain ⟨ob2, oo2, e2, hbo2, c2⟩ := hfx.atO hx
                  cases e2
                  have hca := hfx.call y
                  obtain ⟨q, hq⟩ : ∃ q, q = clsOf c y := ⟨_, rfl⟩
                  rw [← hq] at hca
                  have HCA := Lib.hid hca
                  have HLE : Hid (q ≠ 0 → clsOf c x ≤ q) := fun h0 => by
                    rw [hq] at h0 ⊢
                    exact ch_at O HCH.out j x y hx (by rw [← hj]; exact hy) h0
                  clear hb hfx hca hq hx hy hj
                  by_cases hq0 : q = 0
                  · subst hq0
                    go_wp2_with fail
                    refine wp_region_over (by kernel_rfl) (by kernel_rfl) ?_; (repeat (go_big_quiet_step (((go_at_call 31; exact over_of (HCA.out _)))))); refine wpQuiet_nil ?_; intro w1 hb1
                    have HB1 : Hid (Below V0.heap.size V0 w1) := HB.out.trans (hb1.mono HB.out.size)
                    have hfx2 := HFX.out.below HB1.out
                    obtain ⟨d0', d1', hxl2⟩ := hfx2.cells
                    clear hb1 c1 c2 d0 d1 hfx2 hxl
                    go_wp2_with fail
                    refine wp_region_over (by kernel_rfl) (by kernel_rfl) ?_; (repeat (go_big_quiet_step ((fail)))); refine wpQuiet_nil ?_; intro w1 hb1
                    have HB2 : Hid (Below V0.heap.size V0 _) := HB1.out.trans (hb1.mono HB1.out.size)
                    clear hb1
                    go_wp2_with fail
                    go_roundw
                    case rel => exact ⟨i + 1, by go_num, by omega, by omega, HB2.out⟩
                    case measure => (show n - ((i : Int) + 1).toNat < n - (i : Int).toNat; omega)
                  · have g3 : ¬ (q = 0) := hq0
                    have g3b : (q == 0) = false := by simpa using hq0
                    have g3c : (q != 0) = true := by simpa using hq0
                    go_wp2_with fail
                    refine wp_region_over (by kernel_rfl) (by kernel_rfl) ?_; (repeat (go_big_quiet_step (((go_at_call 31; exact over_of (HCA.out _)))))); refine wpQuiet_nil ?_; intro w1 hb1
                    have HB1 : Hid (Below V0.heap.size V0 w1) := HB.out.trans (hb1.mono HB.out.size)
                    have hfx2 := HFX.out.below HB1.out
                    obtain ⟨d0', d1', hxl2⟩ := hfx2.cells
                    have c2' := (hb1.cell (p := ⟨ob, oo + j, none⟩) hbo2).trans c2
                    have hbo3 : ob < w1.heap.size := by have := hb1.size; omega
                    have hca2 := hfx2.call x
                    obtain ⟨q2, hq2⟩ : ∃ q2, q2 = clsOf c x := ⟨_, rfl⟩
                    have hle := HLE.out hq0
                    rw [← hq2] at hca2 hle
                    have g4 : ¬ (q < q2) := by omega
                    have HCA := Lib.hid hca2
                    clear hb1 c1 c2 d0 d1 hfx2 hxl hca2 hq2 hle
                    go_wp2_with fail
                    refine wp_region_over (by kernel_rfl) (by kernel_rfl) ?_; (repeat (go_big_quiet_step (((go_at_call 31; exact over_of (HCA.out _)))))); refine wpQuiet_nil ?_; intro w1 hb1
                    have HB2 : Hid (Below V0.heap.size V0 _) := HB1.out.trans (hb1.mono HB1.out.size)
                    clear hb1
                    go_wp2_with fail
                    go_roundw
                    case rel => exact ⟨i + 1, by go_num, by omega, by omega, HB2.out⟩
                    case measure => (show n - ((i : Int) + 1).toNat < n - (i : Int).toNat; omega)
                · have g1 : ¬ ((i : Int) < (n : Int)) := by omega
                  clear hb
                  go_wp2_with fail
                  go_ret
                  exact ⟨rfl, HB5.out.trans (HB.out.mono HB5.out.size)⟩
end Go.Proofs.YtlldoofclaokgaaGreat
