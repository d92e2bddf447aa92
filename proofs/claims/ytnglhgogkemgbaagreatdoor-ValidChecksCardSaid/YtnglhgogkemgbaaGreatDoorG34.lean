/- lecternref06.Order. lecternref06.Order, walked. -/
import Derived.Test.YtnglhgogkemgbaaGreatDoorG31
/-! lecternref06.Order. -/
namespace Go.Proofs.YtnglhgogkemgbaaGreatDoor
open Go.RowKit

theorem takeWhile_append_all {p : Int → Bool} : ∀ (A B : List Int), (∀ x ∈ A, p x = true) → (∀ x, B.head? = some x → p x = false) → (A ++ B).takeWhile p = A
  | [], B, _, h => by
    cases B with
    | nil => rfl
    | cons x xs => exact List.takeWhile_cons_of_neg (by rw [h x rfl]; simp)
  | a :: A, B, h1, h2 => by
    rw [List.cons_append, List.takeWhile_cons_of_pos (h1 a (by simp)), takeWhile_append_all A B (fun x hx => h1 x (by simp [hx])) h2]
/-- where the search has come to an end -/
theorem insC_at {f : Int → Int} {D : List Int} {x : Int} {k : Nat} (hk : k ≤ D.length) (h0 : f x = 0 → k = D.length) (h1 : ∀ (t : Nat) y, k ≤ t → D[t]? = some y → f x < f y) (h2 : ∀ y, f x ≠ 0 → 0 < k → D[k - 1]? = some y → f y ≤ f x) :
    insC f D x = D.take k ++ x :: D.drop k := by
  by_cases hx : f x = 0
  · rw [insC_zero hx, h0 hx, List.take_length, List.drop_length]
  · have ha : aheadOf f D x = D.length - k := by
      unfold aheadOf
      have e : D.reverse = (D.drop k).reverse ++ (D.take k).reverse := by rw [← List.reverse_append, List.take_append_drop]
      rw [e, takeWhile_append_all]
      · rw [List.length_reverse, List.length_drop]
      · intro y hy
        rw [List.mem_reverse] at hy
        obtain ⟨t, ht⟩ := List.mem_iff_getElem?.1 hy
        rw [List.getElem?_drop] at ht
        have := h1 (k + t) y (by omega) ht
        simpa using this
      · intro y hy
        rw [List.head?_reverse] at hy
        obtain ⟨h3, h4⟩ := last_take hy hk
        have := h2 y hx h3 h4
        simp; omega
    unfold insC
    rw [if_neg hx, ha, show D.length - (D.length - k) = k from by omega]
theorem slice_full32 (w : World) (p : Option Addr) (len cap k : Nat) (hk : k ≤ cap) : (Instr.sliceAt 42 (.slice p len cap) none (some (.int .i64 k)) (some (.int .i64 k))).run Tryz.prog w = .ok (sliced p 0 k k 1) w := by
  have he : Tryz.prog.elem 42 = 21 := by kernel_rfl
  rw [run_sliceAt_slice w 42 _ _ _ _ (by rw [he]; exact Tryz.underlying42), run_slice_hm w 42 p len cap (by rw [he]; exact Tryz.underlying42) .i64 .i64 k k (by omega) (by omega) (by omega), he]
  have hz : (sizeOf 21).run Tryz.prog w = .ok 1 w := by kernel_rfl
  rw [hz]
  simp [Result.andThen]
theorem sliced_zero (p : Option Addr) (k : Nat) : sliced p 0 k k 1 = .slice p k k := by
  unfold sliced
  rw [Nat.zero_mul, Nat.sub_zero]
  split
  · rfl
  · cases p with
    | none => rfl
    | some a => show Value.slice (some (a.add 0)) k k = _; unfold Addr.add; rw [if_pos rfl]
theorem IntsIn.cut0 {R : Nat → Prop} {w : World} {p : Option Addr} {len cap : Nat} {xs : List Int} (h : IntsIn R .i32 w (.slice p len cap) xs) (k : Nat) (hk : k ≤ xs.length) : IntsIn R .i32 w (.slice p k k) (xs.take k) := by
  obtain ⟨p', cap', e, ⟨h1, h2⟩, h3⟩ := h
  injection e with e1 e2 e3
  subst e1
  have hl : (xs.take k).length = k := by rw [List.length_take]; omega
  refine ⟨p, k, by rw [hl], ⟨by omega, by omega⟩, fun i x hx => ?_⟩
  have hik : i < k := by have := (List.getElem?_eq_some_iff.1 hx).1; omega
  rw [List.getElem?_take_of_lt hik] at hx
  exact h3 i x hx
/-- append to a slice that is full: all in new memory -/
theorem run_append_full (w : World) (ty : TypeId) (R Q : Nat → Prop) (p q : Option Addr) (k n c : Nat) (ys xs : List Int) (hy : IntsIn R .i32 w (.slice p k k) ys) (hx : IntsIn Q .i32 w (.slice q n c) xs) (hyl : ys.length = k) (hlen : k + xs.length ≤ 100000000) :
    ∃ v' w', (Builtin.append_ #[42, 42] ty #[.slice p k k, .slice q n c]).run Tryz.prog w = .ok v' w' ∧ IntsIn (fun b => (w.heap.size ≤ b ∨ (xs = [] ∧ R b))) .i32 w' v' (ys ++ xs) ∧ Below w.heap.size w w' := by
  obtain ⟨i0, hi, hz0, hz1, hz2⟩ := info_parts Tryz.infoI32
  by_cases h0 : xs = []
  · subst h0
    have hn0 : n = 0 := by obtain ⟨_, _, e, _⟩ := hx; injection e
    subst hn0
    refine ⟨_, w, run_append_empty (P := Tryz.prog) w 42 ty 21 i0 Tryz.underlying42 hi p q k k c (Nat.le_refl _), ?_, Below.refl _ _⟩
    rw [List.append_nil]
    exact hy.mono (fun b hb _ => .inr ⟨rfl, hb⟩)
  · have hxp : 0 < xs.length := List.length_pos_iff.2 h0
    obtain ⟨g5, o5, c5, e5, _, _, hc5⟩ := hx.place hxp
    injection e5 with e51 e52 e53
    subst e51 e52 e53
    have mk : ∀ (zs : List Int) (pad : Array Value) (m cp : Nat), zs.length = m → m ≤ cp → cp ≤ maxLen → IntsIn (fun b => (w.heap.size ≤ b ∨ (xs = [] ∧ R b))) .i32 (w.drew.alloc (.cells ((zs.map (Value.int .i32)).toArray ++ pad) 21)) (.slice (some ⟨w.heap.size, 0, none⟩) m cp) zs ∧ Below w.heap.size w (w.drew.alloc (.cells ((zs.map (Value.int .i32)).toArray ++ pad) 21)) := by
      intro zs pad m cp hm h1 h2
      subst hm
      refine ⟨?_, ((Below.refl _ w).drew).alloc (Nat.le_refl _) _⟩
      have hb : (w.drew.alloc (.cells ((zs.map (Value.int .i32)).toArray ++ pad) 21)).heap[w.heap.size]? = some (.cells ((zs.map (Value.int .i32)).toArray ++ pad) 21 (0, 0)) := World.alloc_heap_new w.drew _
      generalize w.drew.alloc (.cells ((zs.map (Value.int .i32)).toArray ++ pad) 21) = W' at hb ⊢
      refine ⟨_, cp, rfl, ⟨h1, h2⟩, fun i x hx => ⟨w.heap.size, 0, rfl, .inl (Nat.le_refl _), (Array.getElem?_eq_some_iff.1 hb).1, ?_⟩⟩
      have hi := (List.getElem?_eq_some_iff.1 hx).1
      have hc : ((zs.map (Value.int .i32)).toArray ++ pad)[i]? = some (.int .i32 x) := by
        rw [Array.getElem?_append_left (by simpa using hi)]
        simp [hx]
      unfold World.cell?
      simp only [hb, Nat.zero_add]
      exact hc
    by_cases hk : k = 0
    · subst hk
      have hy0 : ys = [] := List.eq_nil_of_length_eq_zero hyl
      subst hy0
      cases p with
      | none =>
        have hr := run_append_nil (P := Tryz.prog) w 42 ty 21 i0 (.int .i32 0) Tryz.underlying42 hi hz0 ⟨g5, o5, none⟩ xs.length c (xs.map (Value.int .i32)) (by rw [hz1]; simp) (news_of hc5) hxp (by omega) (by rw [hz2]; omega)
        obtain ⟨m1, m2⟩ := mk xs (Builtin.zeroCells (Value.int .i32 0).cells (grownCap w xs.length 0 21 - xs.length)) xs.length (grownCap w xs.length 0 21) rfl (grownCap_ge w _ _ _) (grownCap_le_maxLen w _ _ _ (by unfold maxLen; omega))
        exact ⟨_, _, hr, m1, m2⟩
      | some a =>
        have hr := run_append_grow (P := Tryz.prog) w 42 ty 21 i0 (.int .i32 0) Tryz.underlying42 hi hz0 a 0 0 [] (by simp) (fun j v h => by simp at h) ⟨g5, o5, none⟩ xs.length c (xs.map (Value.int .i32)) (by rw [hz1]; simp) (news_of hc5) (by omega) (by omega) (growslice_fits (by omega) (by rw [hz2]; omega))
        rw [Nat.zero_add, show ([] : List Value).toArray ++ (xs.map (Value.int .i32)).toArray = (xs.map (Value.int .i32)).toArray from by simp] at hr
        obtain ⟨m1, m2⟩ := mk xs (Builtin.zeroCells (Value.int .i32 0).cells (grownCap w xs.length 0 21 - xs.length)) xs.length (grownCap w xs.length 0 21) rfl (grownCap_ge w _ _ _) (grownCap_le_maxLen w _ _ _ (by unfold maxLen; omega))
        exact ⟨_, _, hr, m1, m2⟩
    · obtain ⟨g, o, cc, e, _, _, hcy⟩ := hy.place (by omega)
      injection e with e1 e2 e3
      subst e1
      have hr := run_append_grow (P := Tryz.prog) w 42 ty 21 i0 (.int .i32 0) Tryz.underlying42 hi hz0 ⟨g, o, none⟩ k k (ys.map (Value.int .i32)) (by rw [hz1]; simp [hyl]) (news_of hcy) ⟨g5, o5, none⟩ xs.length c (xs.map (Value.int .i32)) (by rw [hz1]; simp) (news_of hc5) (by omega) (by omega) (growslice_fits (by omega) (by rw [hz2]; omega))
      rw [show (ys.map (Value.int .i32)).toArray ++ (xs.map (Value.int .i32)).toArray = ((ys ++ xs).map (Value.int .i32)).toArray from by simp] at hr
      obtain ⟨m1, m2⟩ := mk (ys ++ xs) (Builtin.zeroCells (Value.int .i32 0).cells (grownCap w (k + xs.length) k 21 - (k + xs.length))) (k + xs.length) (grownCap w (k + xs.length) k 21) (by simp [hyl]) (grownCap_ge w _ _ _) (grownCap_le_maxLen w _ _ _ (by unfold maxLen; omega))
      exact ⟨_, _, hr, m1, m2⟩
end Go.Proofs.YtnglhgogkemgbaaGreatDoor
/-! lecternref06.Order, walked. -/
namespace Go.Proofs.YtnglhgogkemgbaaGreatDoor
open Go.RowKit

theorem wp_append_run {o : Oper} {a : Act} {K : Act → World → Prop} {Q : Exit → Act → World → Prop} {w : World} (s x : Operand) (ho : o.op = .call { callee := .builtin .append, args := #[s, x], argTypes := #[42, 42] }) {u v : Value} (hs : a.eval s = u) (hx : a.eval x = v) {v' : Value} {w' : World}
    (hr : (Builtin.append_ #[42, 42] o.type #[u, v]).run Tryz.prog w = .ok v' w') (h : K (a.put o.dst v') w') : o.wp Tryz.prog a w K Q := by
  unfold Oper.wp execOp
  simp only [ho, resolve, invoke, builtin, Sem.run_bind, Sem.run_pure, Result.andThen_ok, List.map_toArray, List.map_cons, List.map_nil, hs, hx, hr]
  exact h
/-- what lies fixed while Order goes on -/
structure Fx (V0 : World) (c : List T3) (L : List Int) (xb n : Nat) (u : Value) (vp : Option Addr) (vn vc : Nat) (lp : Option Addr) (lc : Nat) : Prop where
  data : V0.heap[xb]? = some (.cells #[u, .slice vp vn vc] 32 (0, 0))
  cls : TrisIn (fun _ => True) .i64 V0 u c
  l : IntsIn (fun _ => True) .i32 V0 (.slice lp n lc) L
  clen : c.length ≤ 4000
section
variable {V0 : World} {c : List T3} {L : List Int} {xb n : Nat} {u : Value} {vp : Option Addr} {vn vc : Nat} {lp : Option Addr} {lc : Nat}
theorem Fx.below (h : Fx V0 c L xb n u vp vn vc lp lc) {W : World} (hb : Below V0.heap.size V0 W) : Fx W c L xb n u vp vn vc lp lc :=
  ⟨(hb.block _ (Array.getElem?_eq_some_iff.1 h.data).1).trans h.data, h.cls.kept (Kept.below hb), h.l.kept (Kept.below hb), h.clen⟩
theorem Fx.call (h : Fx V0 c L xb n u vp vn vc lp lc) (r : Int) : ∀ u', Calls Tryz.prog 144 #[.agg #[u, .slice vp vn vc], .int .i32 r] (over V0 u') fun e w' => e = .returned (.int .i64 (clsOf c r)) ∧ Below (over V0 u').heap.size (over V0 u') w' :=
  fun u' => dclass_any _ c u vp vn vc r _ (h.cls.kept (Kept.below (below_over V0 u'))) h.clen
theorem Fx.cells (h : Fx V0 c L xb n u vp vn vc lp lc) : V0.cell? ⟨xb, 0, none⟩ = some u ∧ V0.cell? ⟨xb, 1, none⟩ = some (.slice vp vn vc) ∧ xb < V0.heap.size :=
  ⟨(two_cells h.data).1, (two_cells h.data).2.1, (Array.getElem?_eq_some_iff.1 h.data).1⟩
theorem Fx.atL (h : Fx V0 c L xb n u vp vn vc lp lc) {i : Nat} {x : Int} (hx : L[i]? = some x) : ∃ b o, lp = some ⟨b, o, none⟩ ∧ b < V0.heap.size ∧ V0.cell? ⟨b, o + i, none⟩ = some (.int .i32 x) := by
  obtain ⟨p, cap, e, _, hc⟩ := h.l
  injection e with e1 _ _
  obtain ⟨b, o, e2, _, h1, h2⟩ := hc i x hx
  exact ⟨b, o, e1.trans e2, h1, h2⟩
end
theorem IntsIn.atC {R : Nat → Prop} {w : World} {p : Option Addr} {m cap : Nat} {xs : List Int} (h : IntsIn R .i32 w (.slice p m cap) xs) {i : Nat} {x : Int} (hx : xs[i]? = some x) : ∃ b o, p = some ⟨b, o, none⟩ ∧ b < w.heap.size ∧ w.cell? ⟨b, o + i, none⟩ = some (.int .i32 x) := by
  obtain ⟨p', cap', e, _, hc⟩ := h
  injection e with e1 _ _
  obtain ⟨b, o, e2, _, h1, h2⟩ := hc i x hx
  exact ⟨b, o, e1.trans e2, h1, h2⟩
set_option maxHeartbeats 8000000 in
set_option maxRecDepth 1000000 in
theorem rorder_any (R Q : Nat → Prop) (c : List T3) (u : Value) (vp : Option Addr) (vn vc : Nat) (L : List Int) (lv : Value) (w : World) (hu : TrisIn R .i64 w u c) (hcl : c.length ≤ 4000) (hf : ∀ r, 0 ≤ clsOf c r) (hL : IntsIn Q .i32 w lv L) (hll : L.length ≤ 1000000) :
    Calls Tryz.prog 108 #[.agg #[u, .slice vp vn vc], lv] w fun e w' => (∃ v', e = .returned v' ∧ IntsIn (fun b => w.heap.size ≤ b) .i32 w' v' (ordL (clsOf c) L)) ∧ Below w.heap.size w w' := by
  have HU := Lib.hid hu
  have HL := Lib.hid hL
  have HF := Lib.hid hf
  have HCL := Lib.hid hcl
  obtain ⟨q, cq, rfl, _, _⟩ := hu
  obtain ⟨lp, lc, rfl, hlc, _⟩ := hL
  obtain ⟨n, hn⟩ : ∃ n, n = L.length := ⟨_, rfl⟩
  rw [← hn] at HL hll hlc ⊢
  have HNL := Lib.hid hn
  have hal : Below w.heap.size w (w.alloc (.cells #[.slice q c.length cq, .slice vp vn vc] 32)) := (Below.refl _ w).alloc (Nat.le_refl _) _
  have hxd : (w.alloc (.cells #[.slice q c.length cq, .slice vp vn vc] 32)).heap[w.heap.size]? = some (.cells #[.slice q c.length cq, .slice vp vn vc] 32 (0, 0)) := World.alloc_heap_new _ _
  have HFX : Hid (Fx (w.alloc (.cells #[.slice q c.length cq, .slice vp vn vc] 32)) c L w.heap.size n (.slice q c.length cq) vp vn vc lp lc) :=
    ⟨hxd, (HU.out.kept (Kept.below hal)).mono (fun _ _ _ => trivial), (HL.out.kept (Kept.below hal)).mono (fun _ _ _ => trivial), hcl⟩
  have HAL := Lib.hid hal
  clear hf hcl hn hal hxd
  go_enter Tryz.func108, Tryz.ntmps108
  go_wp2_with fail
  generalize w.alloc (.cells #[.slice q c.length cq, .slice vp vn vc] 32) = V0 at *
  obtain ⟨xb, hxb⟩ : ∃ xb, xb = w.heap.size := ⟨_, rfl⟩
  rw [← hxb] at HFX ⊢
  have HXB := Lib.hid hxb
  have hv0 : xb < V0.heap.size := HFX.out.cells.2.2
  clear hxb
  go_loopw [5, 6, 7, 8] (fun ov iv _ _ W => ∃ i : Nat, iv = .int .i64 i ∧ i ≤ n ∧ IntsIn (fun b => xb < b) .i32 W ov ((L.take i).foldl (insC (clsOf c)) []) ∧ Below V0.heap.size V0 W) (fun _ iv _ _ _ => n - (intOf iv).toNat)
  case atStart => exact ⟨0, rfl, Nat.zero_le _, .nil _ _ _, Below.refl _ _⟩
  case round =>
    obtain ⟨i, rfl, hin, hov, hb⟩ := hrel
    have HB := Lib.hid hb
    obtain ⟨D, hD⟩ : ∃ D, D = (L.take i).foldl (insC (clsOf c)) [] := ⟨_, rfl⟩
    have hDl : D.length = i := by
      have h1 := ordL_len (clsOf c) (L.take i)
      unfold ordL at h1
      rw [← hD] at h1
      rw [h1, List.length_take]
      have := HNL.out; omega
    rw [← hD] at hov
    have HD := Lib.hid hD
    have HOV := Lib.hid hov
    obtain ⟨op, oc, rfl, hoc, _⟩ := hov
    rw [hDl] at HOV hoc ⊢
    have HDL := Lib.hid hDl
    clear hD hDl
    by_cases hlt : i < n
    · have g1 : (i : Int) < (n : Int) := by omega
      have hfx := HFX.out.below hb
      obtain ⟨d0, d1, hxl⟩ := hfx.cells
      obtain ⟨x, hx⟩ : ∃ x, L[i]? = some x := ⟨L[i]'(by rw [← HNL.out]; exact hlt), List.getElem?_eq_getElem _⟩
      obtain ⟨lb, lo, e1, hbl, c0⟩ := hfx.atL hx
      subst e1
      have hca := hfx.call x
      obtain ⟨z, hz⟩ : ∃ z, z = clsOf c x := ⟨_, rfl⟩
      rw [← hz] at hca
      have HCA := Lib.hid hca
      have HZ := Lib.hid hz
      have hz0 : 0 ≤ z := by rw [hz]; exact HF.out x
      have HX := Lib.hid hx
      clear hb hfx hca hx hz
      go_wp2_with fail
      refine wp_region_over (by kernel_rfl) (by kernel_rfl) ?_; (repeat (go_big_quiet_step (((go_at_call 144; exact over_of (HCA.out _)))))); refine wpQuiet_nil ?_; intro w1 hb1
      rename World => wq
      have hbl1 := Nat.lt_of_lt_of_le hbl hb1.size
      have HB1 : Hid (Below V0.heap.size V0 wq) := HB.out.trans (hb1.mono HB.out.size)
      have HOV1 := Lib.hid (HOV.out.kept (Kept.below hb1))
      clear hb1 c0 d0 d1 HCA HOV
      go_wp2_with fail
      go_loopw [7] (fun kv W => ∃ k : Nat, kv = .int .i64 k ∧ k ≤ i ∧ (z = 0 → k = i) ∧ (∀ (t : Nat) y, k ≤ t → D[t]? = some y → z < clsOf c y) ∧ Below wq.heap.size wq W) (fun kv _ => (intOf kv).toNat)
      case atStart => exact ⟨i, rfl, Nat.le_refl _, fun _ => rfl, fun t y h1 h2 => by have := (List.getElem?_eq_some_iff.1 h2).1; have := HDL.out; omega, Below.refl _ _⟩
      case round =>
        obtain ⟨k, rfl, hki, hk0, hgt, hb⟩ := hrel
        have HK0 := Lib.hid hk0
        have HGT := Lib.hid hgt
        have HB2 := Lib.hid hb
        have HB2V : Hid (Below V0.heap.size V0 wr) := HB1.out.trans (hb.mono HB1.out.size)
        have hfx := HFX.out.below HB2V.out
        obtain ⟨d0, d1, hxl2⟩ := hfx.cells
        have hov2 := HOV1.out.kept (Kept.below hb)
        have hgo : (0 < z ∧ 0 < k ∧ ∃ j y, k = j + 1 ∧ D[j]? = some y ∧ z < clsOf c y) ∨ (z = 0 ∨ k = 0 ∨ ∃ j y, k = j + 1 ∧ D[j]? = some y ∧ clsOf c y ≤ z) := by
          by_cases h1 : z = 0
          · exact .inr (.inl h1)
          · cases k with
            | zero => exact .inr (.inr (.inl rfl))
            | succ j =>
              obtain ⟨y, hy⟩ : ∃ y, D[j]? = some y := ⟨D[j]'(by have := HDL.out; omega), List.getElem?_eq_getElem _⟩
              by_cases h2 : z < clsOf c y
              · exact .inl ⟨by omega, by omega, j, y, rfl, hy, h2⟩
              · exact .inr (.inr (.inr ⟨j, y, rfl, hy, by omega⟩))
        rcases hgo with ⟨hz1, hk1, j, y, hj, hy, hzy⟩ | hend
        · have g2 : (0 : Int) < (k : Int) := by omega
          have hji : (k : Int) - 1 = (j : Int) := by omega
          have hjl : j < i := by omega
          obtain ⟨ob, oo, e2, hbo, c1⟩ := hov2.atC hy
          subst e2
          have hca := hfx.call y
          obtain ⟨q2, hq2⟩ : ∃ q2, q2 = clsOf c y := ⟨_, rfl⟩
          rw [← hq2] at hca hzy
          have HCA := Lib.hid hca
          have HQ2 := Lib.hid (And.intro hq2 (And.intro hj hy))
          clear hca hq2 hj hy hfx hov2 hk0 hgt hb
          go_wp2_with fail
          refine wp_region_over (by kernel_rfl) (by kernel_rfl) ?_; (repeat (go_big_quiet_step (((go_at_call 144; exact over_of (HCA.out _)))))); refine wpQuiet_nil ?_; intro w1 hb1
          have HB3 : Hid (Below wq.heap.size wq _) := HB2.out.trans (hb1.mono HB2.out.size)
          clear hb1 c1 d0 d1
          go_wp2_with fail
          go_roundw
          case rel =>
            obtain ⟨hq2, hj, hy⟩ := HQ2.out
            refine ⟨j, by first | rfl | rw [hji], by omega, fun h => by omega, fun t y' ht hy' => ?_, HB3.out⟩
            rcases Nat.lt_or_ge t k with h | h
            · obtain rfl : t = j := by omega
              rw [hy] at hy'; cases hy'
              rw [← hq2]; exact hzy
            · exact HGT.out t y' h hy'
          case measure => (have := HQ2.out.2.1; show (j : Int).toNat < (k : Int).toNat; omega)
        · have HOV2 := Lib.hid hov2
          have hbx : lb < wr.heap.size := Nat.lt_of_lt_of_le hbl1 HB2.out.size
          have c0' := (hfx.atL HX.out)
          obtain ⟨lb', lo', el, _, c0'⟩ := c0'
          cases el
          have HNEXT : Hid (∀ y, z ≠ 0 → 0 < k → D[k - 1]? = some y → clsOf c y ≤ z) := fun y h1 h2 h3 => by
            rcases hend with h | h | ⟨j, y', hj, hy, hle⟩
            · exact absurd h h1
            · omega
            · rw [hj, Nat.add_sub_cancel, hy] at h3; cases h3; exact hle
          have hway : z = 0 ∨ (z ≠ 0 ∧ k = 0) ∨ (z ≠ 0 ∧ ∃ j y, k = j + 1 ∧ D[j]? = some y ∧ clsOf c y ≤ z) := by
            by_cases h0 : z = 0
            · exact .inl h0
            · rcases hend with h | h | h
              · exact absurd h h0
              · exact .inr (.inl ⟨h0, h⟩)
              · exact .inr (.inr ⟨h0, h⟩)
          clear hend
          rcases hway with h | ⟨hzn, h⟩ | ⟨hzn, j, y, hj, hy, hle⟩
          · subst h
            clear hfx
            clear hov2 hk0 hgt hb
            go_wp2_with fail
            refine wp_region_over (by kernel_rfl) (by kernel_rfl) ?_; (repeat (go_big_quiet_step ((fail)))); refine wpQuiet_nil ?_; intro w1 hb1
            have HBX : Hid (Below V0.heap.size V0 _) := HB2V.out.trans (hb1.mono HB2V.out.size)
            have HOVX := Lib.hid (HOV2.out.kept (Kept.below hb1))
            have c0x := (hb1.cell (p := ⟨lb, lo + i, none⟩) hbx).trans c0'
            have hbx9 := Nat.lt_of_lt_of_le hbx hb1.size
            clear hb1 c0' d0 d1
            have hs1 : ∀ w, (Instr.sliceAt 42 (.slice op i oc) none (some (.int .i64 k)) (some (.int .i64 k))).run Tryz.prog w = .ok (.slice op k k) w := fun w => by rw [slice_full32 _ _ _ _ _ (by omega), sliced_zero]
            obtain ⟨p9, n9, c9, h9⟩ : ∃ p9 n9 c9, sliced op k i oc 1 = .slice p9 n9 c9 := ⟨_, _, _, rfl⟩
            have hs2 : ∀ w, (Instr.sliceAt 42 (.slice op i oc) (some (.int .i64 k)) none none).run Tryz.prog w = .ok (.slice p9 n9 c9) w := fun w => by rw [← h9]; exact slice_from32 w _ i oc k hki
            have hd9 : IntsIn (fun b => xb < b) .i32 w1 (.slice p9 n9 c9) (D.drop k) := by
              have := HOVX.out.dropped k (by rw [HDL.out]; exact hki)
              rwa [h9] at this
            have hc9 := HOVX.out.cut0 k (by rw [HDL.out]; exact hki)
            have hal9 : Below w1.heap.size w1 (w1.drew.alloc (.cells #[.int .i32 x] 21)) := ((Below.refl _ w1).drew).alloc (Nat.le_refl _) _
            have hdl9 : (D.drop k).length ≤ 1000000 := by rw [List.length_drop, HDL.out]; omega
            have htl9 : (D.take k).length = k := by rw [List.length_take, HDL.out]; omega
            obtain ⟨v12, w12, hr12, hi12, hb12⟩ := run_append_full (w1.drew.alloc (.cells #[.int .i32 x] 21)) 42 _ _ (some ⟨w1.heap.size, 0, none⟩) p9 1 n9 c9 [x] (D.drop k) (ints_one (World.alloc_heap_new w1.drew _)) (hd9.kept (Kept.below hal9)) rfl (by omega)
            have hb12' : Below w1.heap.size w1 w12 := hal9.trans (hb12.mono hal9.size)
            obtain ⟨q12, c12, hv12, _, _⟩ := id hi12
            obtain ⟨m12, hm12⟩ : ∃ m, m = ([x] ++ D.drop k).length := ⟨_, rfl⟩
            rw [← hm12] at hv12
            subst hv12
            obtain ⟨v13, w13, hr13, hi13, hb13⟩ := run_append_full w12 42 _ _ op q12 k m12 c12 (D.take k) ([x] ++ D.drop k) (hc9.kept (Kept.below hb12')) hi12 htl9 (by rw [List.length_append, List.length_singleton]; omega)
            have hb13' : Below w1.heap.size w1 w13 := hb12'.trans (hb13.mono hb12'.size)
            have HEND : Hid (IntsIn (fun b => xb < b) .i32 w13 v13 (D.take k ++ ([x] ++ D.drop k)) ∧ Below V0.heap.size V0 w13) :=
              ⟨hi13.mono (fun b hb _ => by
                rcases hb with h | ⟨h, _⟩
                · have := hb12'.size; have := HBX.out.size; omega
                · cases h), HBX.out.trans (hb13'.mono HBX.out.size)⟩
            have e9 : (⟨w1.heap.size, 0, none⟩ : Addr) = ⟨w1.drew.heap.size, 0, none⟩ := rfl
            have hS1 : (w1.drew.alloc (.cells #[.int .i32 x] 21)).cell? ⟨lb, lo + i, none⟩ = some (.int .i32 x) := (hal9.cell (p := ⟨lb, lo + i, none⟩) hbx9).trans c0x
            have hS2 : w12.cell? ⟨lb, lo + i, none⟩ = some (.int .i32 x) := (hb12'.cell (p := ⟨lb, lo + i, none⟩) hbx9).trans c0x
            have hS3 : w13.cell? ⟨lb, lo + i, none⟩ = some (.int .i32 x) := (hb13'.cell (p := ⟨lb, lo + i, none⟩) hbx9).trans c0x
            clear hd9 hc9 hal9 hi12 hb12 hb12' hi13 hb13 hb13' hdl9 htl9 h9 hm12
            go_wp2_with fail
            refine wp_region_held_drew (S := fun u : World => u.cell? ⟨lb, lo + i, none⟩ = some (.int .i32 x)) (by kernel_rfl) c0x (fun hH => ?_)
            refine wpAnyH_take (i := 0) (v := ?_) rfl (by kernel_rfl) (by kernel_rfl) (by kernel_rfl) (fun _ _ _ h => h) (Or.inl ⟨by rfl, ?_⟩) hH ?_; rotate_left 1; (first | (focus (intro w hSw; (try dsimp only at hSw); go_simp; done)) | (focus (intro w hSw; (try dsimp only at hSw); go_simp; with_reducible rfl))); (try simp only [Act.put])
            refine wpAnyH_take (i := 1) (v := ?_) rfl (by kernel_rfl) (by kernel_rfl) (by kernel_rfl) (fun _ _ _ h => h) (Or.inl ⟨by rfl, ?_⟩) hH ?_; rotate_left 1; (first | (focus (intro w hSw; (try dsimp only at hSw); go_simp; done)) | (focus (intro w hSw; (try dsimp only at hSw); go_simp; with_reducible rfl))); (try simp only [Act.put])
            refine wpAnyH_take (i := 2) (v := ?_) rfl (by kernel_rfl) (by kernel_rfl) (by kernel_rfl) (fun _ _ _ h => h) (Or.inl ⟨by rfl, ?_⟩) hH ?_; rotate_left 1; (first | (focus (intro w hSw; (try dsimp only at hSw); go_simp; done)) | (focus (intro w hSw; (try dsimp only at hSw); go_simp; with_reducible rfl))); (try simp only [Act.put])
            refine wpAnyH_take (i := 3) (v := ?_) rfl (by kernel_rfl) (by kernel_rfl) (by kernel_rfl) (fun _ _ _ h => h) (Or.inl ⟨by rfl, ?_⟩) hH ?_; rotate_left 1; (first | (focus (intro w hSw; (try dsimp only at hSw); go_simp; done)) | (focus (intro w hSw; (try dsimp only at hSw); go_simp; with_reducible rfl))); (try simp only [Act.put])
            refine wpAnyH_take (i := 4) (v := ?_) rfl (by kernel_rfl) (by kernel_rfl) (by kernel_rfl) (fun _ _ _ h => h) (Or.inl ⟨by rfl, ?_⟩) hH ?_; rotate_left 1; (first | (focus (intro w hSw; (try dsimp only at hSw); go_simp; done)) | (focus (intro w hSw; (try dsimp only at hSw); go_simp; with_reducible rfl))); (try simp only [Act.put])
            refine wpAnyH_take (i := 5) (v := ?_) rfl (by kernel_rfl) (by kernel_rfl) (by kernel_rfl) (fun _ _ _ h => h) (Or.inl ⟨by rfl, ?_⟩) hH ?_; rotate_left 1; (first | (focus (intro w hSw; (try dsimp only at hSw); go_simp; done)) | (focus (intro w hSw; (try dsimp only at hSw); go_simp; with_reducible rfl))); (try simp only [Act.put])
            refine wpAnyH_take (i := 6) (v := ?_) rfl (by kernel_rfl) (by kernel_rfl) (by kernel_rfl) (fun _ _ _ h => h) (Or.inl ⟨by rfl, ?_⟩) hH ?_; rotate_left 1; (first | (focus (intro w hSw; (try dsimp only at hSw); go_simp; done)) | (focus (intro w hSw; (try dsimp only at hSw); go_simp; with_reducible rfl))); (try simp only [Act.put])
            refine wpAnyH_take (i := 7) (v := ?_) rfl (by kernel_rfl) (by kernel_rfl) (by kernel_rfl) (fun _ _ _ h => h) (Or.inl ⟨by rfl, ?_⟩) hH ?_; rotate_left 1; (first | (focus (intro w hSw; (try dsimp only at hSw); go_simp; done)) | (focus (intro w hSw; (try dsimp only at hSw); go_simp; with_reducible rfl))); (try simp only [Act.put])
            refine wpAnyH_take (i := 9) (v := ?_) rfl (by kernel_rfl) (by kernel_rfl) (by kernel_rfl) (fun _ _ _ h => h) (Or.inl ⟨by rfl, ?_⟩) hH ?_; rotate_left 1; (first | (focus (intro w hSw; (try dsimp only at hSw); go_simp; done)) | (focus (intro w hSw; (try dsimp only at hSw); go_simp; with_reducible rfl))); (try simp only [Act.put])
            refine wpAnyH_take (i := 10) (v := ?_) rfl (by kernel_rfl) (by kernel_rfl) (by kernel_rfl) (fun _ _ _ h => h) (Or.inl ⟨by rfl, ?_⟩) hH ?_; rotate_left 1; (first | (focus (intro w hSw; (try dsimp only at hSw); go_simp; done)) | (focus (intro w hSw; (try dsimp only at hSw); go_simp; with_reducible rfl))); (try simp only [Act.put])
            refine wpAnyH_take (i := 11) (v := ?_) rfl (by kernel_rfl) (by kernel_rfl) (by kernel_rfl) (fun _ _ _ h => h) (Or.inl ⟨by rfl, ?_⟩) hH ?_; rotate_left 1; (first | (focus (intro w hSw; (try dsimp only at hSw); go_simp; done)) | (focus (intro w hSw; (try dsimp only at hSw); go_simp; with_reducible rfl))); (try simp only [Act.put])
            refine wpAnyH_ready (rs := [8]) (by kernel_rfl) (by simp) ?_
            refine AllReadyH.cons rfl (fun K hK => ?_) AllReadyH.nil
            rw [if_pos (by rfl)]
            go_simp
            refine hK.out _ _ hS1 (fun hH1 => ?_)
            clear hK
            (try simp only [Act.put])
            refine wpAnyH_ready (rs := [12]) (by kernel_rfl) (by simp) ?_
            refine AllReadyH.cons rfl (fun K hK => ?_) AllReadyH.nil
            rw [if_pos (by rfl)]
            (try simp only [List.getElem_toArray, List.getElem_cons_succ, List.getElem_cons_zero])
            refine wp_append_run (.tmp 50) (.tmp 53) rfl rfl rfl hr12 ?_
            dsimp only [Act.put]
            refine hK.out _ _ hS2 (fun hH2 => ?_)
            clear hK
            (try simp only [Act.put])
            refine wpAnyH_ready (rs := [13]) (by kernel_rfl) (by simp) ?_
            refine AllReadyH.cons rfl (fun K hK => ?_) AllReadyH.nil
            rw [if_pos (by rfl)]
            (try simp only [List.getElem_toArray, List.getElem_cons_succ, List.getElem_cons_zero])
            refine wp_append_run (.tmp 45) (.tmp 54) rfl rfl rfl hr13 ?_
            dsimp only [Act.put]
            refine hK.out _ _ hS3 (fun hH3 => ?_)
            clear hK
            (try simp only [Act.put])
            refine wpAnyH_take (i := 14) (v := ?_) rfl (by kernel_rfl) (by kernel_rfl) (by kernel_rfl) (fun _ _ _ h => h) (Or.inl ⟨by rfl, ?_⟩) hH3 ?_; rotate_left 1; (first | (focus (intro w hSw; (try dsimp only at hSw); go_simp; done)) | (focus (intro w hSw; (try dsimp only at hSw); go_simp; with_reducible rfl))); (try simp only [Act.put])
            refine wpAnyH_done (by kernel_rfl) ?_ _
            clear hr12 hr13 hs1 hs2 hH hH1 hH2 hH3 hS1 hS2 hS3
            go_wp2_with fail
            go_roundw
            case rel => exact ⟨i + 1, by go_num, by omega, by rw [take_snoc HX.out, List.foldl_append, ← HD.out]; show IntsIn _ _ _ _ (insC (clsOf c) D x); rw [insC_at (k := k) (by rw [HDL.out]; exact hki) (fun h => by rw [HDL.out]; first | exact HK0.out (HZ.out.trans h) | exact HK0.out trivial) (fun t y ht hy => by rw [← HZ.out]; exact HGT.out t y ht hy) (fun y h1 h2 h3 => by rw [← HZ.out] at h1 ⊢; exact HNEXT.out y h1 h2 h3)]; exact HEND.out.1, HEND.out.2⟩
            case measure => (show n - ((i : Int) + 1).toNat < n - (i : Int).toNat; omega)
          · have h2 : (0 : Int) < z := by omega
            have g2 : ¬ ((0 : Int) < (k : Int)) := by omega
            have g2d : decide ((0 : Int) < (k : Int)) = false := decide_eq_false g2
            have g2n : decide (0 < k) = false := decide_eq_false (by omega)
            have h2d : decide ((0 : Int) < z) = true := decide_eq_true h2
            clear hfx h
            clear hov2 hk0 hgt hb
            go_wp2_with fail
            refine wp_region_over (by kernel_rfl) (by kernel_rfl) ?_; (repeat (go_big_quiet_step ((fail)))); refine wpQuiet_nil ?_; intro w1 hb1
            have HBX : Hid (Below V0.heap.size V0 _) := HB2V.out.trans (hb1.mono HB2V.out.size)
            have HOVX := Lib.hid (HOV2.out.kept (Kept.below hb1))
            have c0x := (hb1.cell (p := ⟨lb, lo + i, none⟩) hbx).trans c0'
            have hbx9 := Nat.lt_of_lt_of_le hbx hb1.size
            clear hb1 c0' d0 d1
            have hs1 : ∀ w, (Instr.sliceAt 42 (.slice op i oc) none (some (.int .i64 k)) (some (.int .i64 k))).run Tryz.prog w = .ok (.slice op k k) w := fun w => by rw [slice_full32 _ _ _ _ _ (by omega), sliced_zero]
            obtain ⟨p9, n9, c9, h9⟩ : ∃ p9 n9 c9, sliced op k i oc 1 = .slice p9 n9 c9 := ⟨_, _, _, rfl⟩
            have hs2 : ∀ w, (Instr.sliceAt 42 (.slice op i oc) (some (.int .i64 k)) none none).run Tryz.prog w = .ok (.slice p9 n9 c9) w := fun w => by rw [← h9]; exact slice_from32 w _ i oc k hki
            have hd9 : IntsIn (fun b => xb < b) .i32 w1 (.slice p9 n9 c9) (D.drop k) := by
              have := HOVX.out.dropped k (by rw [HDL.out]; exact hki)
              rwa [h9] at this
            have hc9 := HOVX.out.cut0 k (by rw [HDL.out]; exact hki)
            have hal9 : Below w1.heap.size w1 (w1.drew.alloc (.cells #[.int .i32 x] 21)) := ((Below.refl _ w1).drew).alloc (Nat.le_refl _) _
            have hdl9 : (D.drop k).length ≤ 1000000 := by rw [List.length_drop, HDL.out]; omega
            have htl9 : (D.take k).length = k := by rw [List.length_take, HDL.out]; omega
            obtain ⟨v12, w12, hr12, hi12, hb12⟩ := run_append_full (w1.drew.alloc (.cells #[.int .i32 x] 21)) 42 _ _ (some ⟨w1.heap.size, 0, none⟩) p9 1 n9 c9 [x] (D.drop k) (ints_one (World.alloc_heap_new w1.drew _)) (hd9.kept (Kept.below hal9)) rfl (by omega)
            have hb12' : Below w1.heap.size w1 w12 := hal9.trans (hb12.mono hal9.size)
            obtain ⟨q12, c12, hv12, _, _⟩ := id hi12
            obtain ⟨m12, hm12⟩ : ∃ m, m = ([x] ++ D.drop k).length := ⟨_, rfl⟩
            rw [← hm12] at hv12
            subst hv12
            obtain ⟨v13, w13, hr13, hi13, hb13⟩ := run_append_full w12 42 _ _ op q12 k m12 c12 (D.take k) ([x] ++ D.drop k) (hc9.kept (Kept.below hb12')) hi12 htl9 (by rw [List.length_append, List.length_singleton]; omega)
            have hb13' : Below w1.heap.size w1 w13 := hb12'.trans (hb13.mono hb12'.size)
            have HEND : Hid (IntsIn (fun b => xb < b) .i32 w13 v13 (D.take k ++ ([x] ++ D.drop k)) ∧ Below V0.heap.size V0 w13) :=
              ⟨hi13.mono (fun b hb _ => by
                rcases hb with h | ⟨h, _⟩
                · have := hb12'.size; have := HBX.out.size; omega
                · cases h), HBX.out.trans (hb13'.mono HBX.out.size)⟩
            have e9 : (⟨w1.heap.size, 0, none⟩ : Addr) = ⟨w1.drew.heap.size, 0, none⟩ := rfl
            have hS1 : (w1.drew.alloc (.cells #[.int .i32 x] 21)).cell? ⟨lb, lo + i, none⟩ = some (.int .i32 x) := (hal9.cell (p := ⟨lb, lo + i, none⟩) hbx9).trans c0x
            have hS2 : w12.cell? ⟨lb, lo + i, none⟩ = some (.int .i32 x) := (hb12'.cell (p := ⟨lb, lo + i, none⟩) hbx9).trans c0x
            have hS3 : w13.cell? ⟨lb, lo + i, none⟩ = some (.int .i32 x) := (hb13'.cell (p := ⟨lb, lo + i, none⟩) hbx9).trans c0x
            clear hd9 hc9 hal9 hi12 hb12 hb12' hi13 hb13 hb13' hdl9 htl9 h9 hm12
            go_wp2_with fail
            refine wp_region_held_drew (S := fun u : World => u.cell? ⟨lb, lo + i, none⟩ = some (.int .i32 x)) (by kernel_rfl) c0x (fun hH => ?_)
            refine wpAnyH_take (i := 0) (v := ?_) rfl (by kernel_rfl) (by kernel_rfl) (by kernel_rfl) (fun _ _ _ h => h) (Or.inl ⟨by rfl, ?_⟩) hH ?_; rotate_left 1; (first | (focus (intro w hSw; (try dsimp only at hSw); go_simp; done)) | (focus (intro w hSw; (try dsimp only at hSw); go_simp; with_reducible rfl))); (try simp only [Act.put])
            refine wpAnyH_take (i := 1) (v := ?_) rfl (by kernel_rfl) (by kernel_rfl) (by kernel_rfl) (fun _ _ _ h => h) (Or.inl ⟨by rfl, ?_⟩) hH ?_; rotate_left 1; (first | (focus (intro w hSw; (try dsimp only at hSw); go_simp; done)) | (focus (intro w hSw; (try dsimp only at hSw); go_simp; with_reducible rfl))); (try simp only [Act.put])
            refine wpAnyH_take (i := 2) (v := ?_) rfl (by kernel_rfl) (by kernel_rfl) (by kernel_rfl) (fun _ _ _ h => h) (Or.inl ⟨by rfl, ?_⟩) hH ?_; rotate_left 1; (first | (focus (intro w hSw; (try dsimp only at hSw); go_simp; done)) | (focus (intro w hSw; (try dsimp only at hSw); go_simp; with_reducible rfl))); (try simp only [Act.put])
            refine wpAnyH_take (i := 3) (v := ?_) rfl (by kernel_rfl) (by kernel_rfl) (by kernel_rfl) (fun _ _ _ h => h) (Or.inl ⟨by rfl, ?_⟩) hH ?_; rotate_left 1; (first | (focus (intro w hSw; (try dsimp only at hSw); go_simp; done)) | (focus (intro w hSw; (try dsimp only at hSw); go_simp; with_reducible rfl))); (try simp only [Act.put])
            refine wpAnyH_take (i := 4) (v := ?_) rfl (by kernel_rfl) (by kernel_rfl) (by kernel_rfl) (fun _ _ _ h => h) (Or.inl ⟨by rfl, ?_⟩) hH ?_; rotate_left 1; (first | (focus (intro w hSw; (try dsimp only at hSw); go_simp; done)) | (focus (intro w hSw; (try dsimp only at hSw); go_simp; with_reducible rfl))); (try simp only [Act.put])
            refine wpAnyH_take (i := 5) (v := ?_) rfl (by kernel_rfl) (by kernel_rfl) (by kernel_rfl) (fun _ _ _ h => h) (Or.inl ⟨by rfl, ?_⟩) hH ?_; rotate_left 1; (first | (focus (intro w hSw; (try dsimp only at hSw); go_simp; done)) | (focus (intro w hSw; (try dsimp only at hSw); go_simp; with_reducible rfl))); (try simp only [Act.put])
            refine wpAnyH_take (i := 6) (v := ?_) rfl (by kernel_rfl) (by kernel_rfl) (by kernel_rfl) (fun _ _ _ h => h) (Or.inl ⟨by rfl, ?_⟩) hH ?_; rotate_left 1; (first | (focus (intro w hSw; (try dsimp only at hSw); go_simp; done)) | (focus (intro w hSw; (try dsimp only at hSw); go_simp; with_reducible rfl))); (try simp only [Act.put])
            refine wpAnyH_take (i := 7) (v := ?_) rfl (by kernel_rfl) (by kernel_rfl) (by kernel_rfl) (fun _ _ _ h => h) (Or.inl ⟨by rfl, ?_⟩) hH ?_; rotate_left 1; (first | (focus (intro w hSw; (try dsimp only at hSw); go_simp; done)) | (focus (intro w hSw; (try dsimp only at hSw); go_simp; with_reducible rfl))); (try simp only [Act.put])
            refine wpAnyH_take (i := 9) (v := ?_) rfl (by kernel_rfl) (by kernel_rfl) (by kernel_rfl) (fun _ _ _ h => h) (Or.inl ⟨by rfl, ?_⟩) hH ?_; rotate_left 1; (first | (focus (intro w hSw; (try dsimp only at hSw); go_simp; done)) | (focus (intro w hSw; (try dsimp only at hSw); go_simp; with_reducible rfl))); (try simp only [Act.put])
            refine wpAnyH_take (i := 10) (v := ?_) rfl (by kernel_rfl) (by kernel_rfl) (by kernel_rfl) (fun _ _ _ h => h) (Or.inl ⟨by rfl, ?_⟩) hH ?_; rotate_left 1; (first | (focus (intro w hSw; (try dsimp only at hSw); go_simp; done)) | (focus (intro w hSw; (try dsimp only at hSw); go_simp; with_reducible rfl))); (try simp only [Act.put])
            refine wpAnyH_take (i := 11) (v := ?_) rfl (by kernel_rfl) (by kernel_rfl) (by kernel_rfl) (fun _ _ _ h => h) (Or.inl ⟨by rfl, ?_⟩) hH ?_; rotate_left 1; (first | (focus (intro w hSw; (try dsimp only at hSw); go_simp; done)) | (focus (intro w hSw; (try dsimp only at hSw); go_simp; with_reducible rfl))); (try simp only [Act.put])
            refine wpAnyH_ready (rs := [8]) (by kernel_rfl) (by simp) ?_
            refine AllReadyH.cons rfl (fun K hK => ?_) AllReadyH.nil
            rw [if_pos (by rfl)]
            go_simp
            refine hK.out _ _ hS1 (fun hH1 => ?_)
            clear hK
            (try simp only [Act.put])
            refine wpAnyH_ready (rs := [12]) (by kernel_rfl) (by simp) ?_
            refine AllReadyH.cons rfl (fun K hK => ?_) AllReadyH.nil
            rw [if_pos (by rfl)]
            (try simp only [List.getElem_toArray, List.getElem_cons_succ, List.getElem_cons_zero])
            refine wp_append_run (.tmp 50) (.tmp 53) rfl rfl rfl hr12 ?_
            dsimp only [Act.put]
            refine hK.out _ _ hS2 (fun hH2 => ?_)
            clear hK
            (try simp only [Act.put])
            refine wpAnyH_ready (rs := [13]) (by kernel_rfl) (by simp) ?_
            refine AllReadyH.cons rfl (fun K hK => ?_) AllReadyH.nil
            rw [if_pos (by rfl)]
            (try simp only [List.getElem_toArray, List.getElem_cons_succ, List.getElem_cons_zero])
            refine wp_append_run (.tmp 45) (.tmp 54) rfl rfl rfl hr13 ?_
            dsimp only [Act.put]
            refine hK.out _ _ hS3 (fun hH3 => ?_)
            clear hK
            (try simp only [Act.put])
            refine wpAnyH_take (i := 14) (v := ?_) rfl (by kernel_rfl) (by kernel_rfl) (by kernel_rfl) (fun _ _ _ h => h) (Or.inl ⟨by rfl, ?_⟩) hH3 ?_; rotate_left 1; (first | (focus (intro w hSw; (try dsimp only at hSw); go_simp; done)) | (focus (intro w hSw; (try dsimp only at hSw); go_simp; with_reducible rfl))); (try simp only [Act.put])
            refine wpAnyH_done (by kernel_rfl) ?_ _
            clear hr12 hr13 hs1 hs2 hH hH1 hH2 hH3 hS1 hS2 hS3
            go_wp2_with fail
            go_roundw
            case rel => exact ⟨i + 1, by go_num, by omega, by rw [take_snoc HX.out, List.foldl_append, ← HD.out]; show IntsIn _ _ _ _ (insC (clsOf c) D x); rw [insC_at (k := k) (by rw [HDL.out]; exact hki) (fun h => by rw [HDL.out]; first | exact HK0.out (HZ.out.trans h) | exact HK0.out trivial) (fun t y ht hy => by rw [← HZ.out]; exact HGT.out t y ht hy) (fun y h1 h2 h3 => by rw [← HZ.out] at h1 ⊢; exact HNEXT.out y h1 h2 h3)]; exact HEND.out.1, HEND.out.2⟩
            case measure => (show n - ((i : Int) + 1).toNat < n - (i : Int).toNat; omega)
          · have h2 : (0 : Int) < z := by omega
            have g2 : (0 : Int) < (k : Int) := by omega
            have hk1 : 0 < k := by omega
            have hz1 : 0 < z := by omega
            have hji : (k : Int) - 1 = (j : Int) := by omega
            have hjl : j < i := by omega
            obtain ⟨ob, oo, e2, hbo, c1⟩ := hov2.atC hy
            subst e2
            have hca := hfx.call y
            obtain ⟨q2, hq2⟩ : ∃ q2, q2 = clsOf c y := ⟨_, rfl⟩
            rw [← hq2] at hca hle
            have g4 : ¬ (z < q2) := by omega
            have g2d : decide ((0 : Int) < (k : Int)) = true := decide_eq_true g2
            have h2d : decide ((0 : Int) < z) = true := decide_eq_true h2
            have g4d : decide (z < q2) = false := decide_eq_false g4
            have HCA := Lib.hid hca
            clear hca hq2 hy hfx hj
            clear hov2 hk0 hgt hb
            go_wp2_with fail
            refine wp_region_over (by kernel_rfl) (by kernel_rfl) ?_; (repeat (go_big_quiet_step (((go_at_call 144; exact over_of (HCA.out _)))))); refine wpQuiet_nil ?_; intro w1 hb1
            have HBX : Hid (Below V0.heap.size V0 _) := HB2V.out.trans (hb1.mono HB2V.out.size)
            have HOVX := Lib.hid (HOV2.out.kept (Kept.below hb1))
            have c0x := (hb1.cell (p := ⟨lb, lo + i, none⟩) hbx).trans c0'
            have hbx9 := Nat.lt_of_lt_of_le hbx hb1.size
            clear hb1 c1 c0' d0 d1
            have hs1 : ∀ w, (Instr.sliceAt 42 (.slice (some ⟨ob, oo, none⟩) i oc) none (some (.int .i64 k)) (some (.int .i64 k))).run Tryz.prog w = .ok (.slice (some ⟨ob, oo, none⟩) k k) w := fun w => by rw [slice_full32 _ _ _ _ _ (by omega), sliced_zero]
            obtain ⟨p9, n9, c9, h9⟩ : ∃ p9 n9 c9, sliced (some ⟨ob, oo, none⟩) k i oc 1 = .slice p9 n9 c9 := ⟨_, _, _, rfl⟩
            have hs2 : ∀ w, (Instr.sliceAt 42 (.slice (some ⟨ob, oo, none⟩) i oc) (some (.int .i64 k)) none none).run Tryz.prog w = .ok (.slice p9 n9 c9) w := fun w => by rw [← h9]; exact slice_from32 w _ i oc k hki
            have hd9 : IntsIn (fun b => xb < b) .i32 w1 (.slice p9 n9 c9) (D.drop k) := by
              have := HOVX.out.dropped k (by rw [HDL.out]; exact hki)
              rwa [h9] at this
            have hc9 := HOVX.out.cut0 k (by rw [HDL.out]; exact hki)
            have hal9 : Below w1.heap.size w1 (w1.drew.alloc (.cells #[.int .i32 x] 21)) := ((Below.refl _ w1).drew).alloc (Nat.le_refl _) _
            have hdl9 : (D.drop k).length ≤ 1000000 := by rw [List.length_drop, HDL.out]; omega
            have htl9 : (D.take k).length = k := by rw [List.length_take, HDL.out]; omega
            obtain ⟨v12, w12, hr12, hi12, hb12⟩ := run_append_full (w1.drew.alloc (.cells #[.int .i32 x] 21)) 42 _ _ (some ⟨w1.heap.size, 0, none⟩) p9 1 n9 c9 [x] (D.drop k) (ints_one (World.alloc_heap_new w1.drew _)) (hd9.kept (Kept.below hal9)) rfl (by omega)
            have hb12' : Below w1.heap.size w1 w12 := hal9.trans (hb12.mono hal9.size)
            obtain ⟨q12, c12, hv12, _, _⟩ := id hi12
            obtain ⟨m12, hm12⟩ : ∃ m, m = ([x] ++ D.drop k).length := ⟨_, rfl⟩
            rw [← hm12] at hv12
            subst hv12
            obtain ⟨v13, w13, hr13, hi13, hb13⟩ := run_append_full w12 42 _ _ (some ⟨ob, oo, none⟩) q12 k m12 c12 (D.take k) ([x] ++ D.drop k) (hc9.kept (Kept.below hb12')) hi12 htl9 (by rw [List.length_append, List.length_singleton]; omega)
            have hb13' : Below w1.heap.size w1 w13 := hb12'.trans (hb13.mono hb12'.size)
            have HEND : Hid (IntsIn (fun b => xb < b) .i32 w13 v13 (D.take k ++ ([x] ++ D.drop k)) ∧ Below V0.heap.size V0 w13) :=
              ⟨hi13.mono (fun b hb _ => by
                rcases hb with h | ⟨h, _⟩
                · have := hb12'.size; have := HBX.out.size; omega
                · cases h), HBX.out.trans (hb13'.mono HBX.out.size)⟩
            have e9 : (⟨w1.heap.size, 0, none⟩ : Addr) = ⟨w1.drew.heap.size, 0, none⟩ := rfl
            have hS1 : (w1.drew.alloc (.cells #[.int .i32 x] 21)).cell? ⟨lb, lo + i, none⟩ = some (.int .i32 x) := (hal9.cell (p := ⟨lb, lo + i, none⟩) hbx9).trans c0x
            have hS2 : w12.cell? ⟨lb, lo + i, none⟩ = some (.int .i32 x) := (hb12'.cell (p := ⟨lb, lo + i, none⟩) hbx9).trans c0x
            have hS3 : w13.cell? ⟨lb, lo + i, none⟩ = some (.int .i32 x) := (hb13'.cell (p := ⟨lb, lo + i, none⟩) hbx9).trans c0x
            clear hd9 hc9 hal9 hi12 hb12 hb12' hi13 hb13 hb13' hdl9 htl9 h9 hm12
            go_wp2_with fail
            refine wp_region_held_drew (S := fun u : World => u.cell? ⟨lb, lo + i, none⟩ = some (.int .i32 x)) (by kernel_rfl) c0x (fun hH => ?_)
            refine wpAnyH_take (i := 0) (v := ?_) rfl (by kernel_rfl) (by kernel_rfl) (by kernel_rfl) (fun _ _ _ h => h) (Or.inl ⟨by rfl, ?_⟩) hH ?_; rotate_left 1; (first | (focus (intro w hSw; (try dsimp only at hSw); go_simp; done)) | (focus (intro w hSw; (try dsimp only at hSw); go_simp; with_reducible rfl))); (try simp only [Act.put])
            refine wpAnyH_take (i := 1) (v := ?_) rfl (by kernel_rfl) (by kernel_rfl) (by kernel_rfl) (fun _ _ _ h => h) (Or.inl ⟨by rfl, ?_⟩) hH ?_; rotate_left 1; (first | (focus (intro w hSw; (try dsimp only at hSw); go_simp; done)) | (focus (intro w hSw; (try dsimp only at hSw); go_simp; with_reducible rfl))); (try simp only [Act.put])
            refine wpAnyH_take (i := 2) (v := ?_) rfl (by kernel_rfl) (by kernel_rfl) (by kernel_rfl) (fun _ _ _ h => h) (Or.inl ⟨by rfl, ?_⟩) hH ?_; rotate_left 1; (first | (focus (intro w hSw; (try dsimp only at hSw); go_simp; done)) | (focus (intro w hSw; (try dsimp only at hSw); go_simp; with_reducible rfl))); (try simp only [Act.put])
            refine wpAnyH_take (i := 3) (v := ?_) rfl (by kernel_rfl) (by kernel_rfl) (by kernel_rfl) (fun _ _ _ h => h) (Or.inl ⟨by rfl, ?_⟩) hH ?_; rotate_left 1; (first | (focus (intro w hSw; (try dsimp only at hSw); go_simp; done)) | (focus (intro w hSw; (try dsimp only at hSw); go_simp; with_reducible rfl))); (try simp only [Act.put])
            refine wpAnyH_take (i := 4) (v := ?_) rfl (by kernel_rfl) (by kernel_rfl) (by kernel_rfl) (fun _ _ _ h => h) (Or.inl ⟨by rfl, ?_⟩) hH ?_; rotate_left 1; (first | (focus (intro w hSw; (try dsimp only at hSw); go_simp; done)) | (focus (intro w hSw; (try dsimp only at hSw); go_simp; with_reducible rfl))); (try simp only [Act.put])
            refine wpAnyH_take (i := 5) (v := ?_) rfl (by kernel_rfl) (by kernel_rfl) (by kernel_rfl) (fun _ _ _ h => h) (Or.inl ⟨by rfl, ?_⟩) hH ?_; rotate_left 1; (first | (focus (intro w hSw; (try dsimp only at hSw); go_simp; done)) | (focus (intro w hSw; (try dsimp only at hSw); go_simp; with_reducible rfl))); (try simp only [Act.put])
            refine wpAnyH_take (i := 6) (v := ?_) rfl (by kernel_rfl) (by kernel_rfl) (by kernel_rfl) (fun _ _ _ h => h) (Or.inl ⟨by rfl, ?_⟩) hH ?_; rotate_left 1; (first | (focus (intro w hSw; (try dsimp only at hSw); go_simp; done)) | (focus (intro w hSw; (try dsimp only at hSw); go_simp; with_reducible rfl))); (try simp only [Act.put])
            refine wpAnyH_take (i := 7) (v := ?_) rfl (by kernel_rfl) (by kernel_rfl) (by kernel_rfl) (fun _ _ _ h => h) (Or.inl ⟨by rfl, ?_⟩) hH ?_; rotate_left 1; (first | (focus (intro w hSw; (try dsimp only at hSw); go_simp; done)) | (focus (intro w hSw; (try dsimp only at hSw); go_simp; with_reducible rfl))); (try simp only [Act.put])
            refine wpAnyH_take (i := 9) (v := ?_) rfl (by kernel_rfl) (by kernel_rfl) (by kernel_rfl) (fun _ _ _ h => h) (Or.inl ⟨by rfl, ?_⟩) hH ?_; rotate_left 1; (first | (focus (intro w hSw; (try dsimp only at hSw); go_simp; done)) | (focus (intro w hSw; (try dsimp only at hSw); go_simp; with_reducible rfl))); (try simp only [Act.put])
            refine wpAnyH_take (i := 10) (v := ?_) rfl (by kernel_rfl) (by kernel_rfl) (by kernel_rfl) (fun _ _ _ h => h) (Or.inl ⟨by rfl, ?_⟩) hH ?_; rotate_left 1; (first | (focus (intro w hSw; (try dsimp only at hSw); go_simp; done)) | (focus (intro w hSw; (try dsimp only at hSw); go_simp; with_reducible rfl))); (try simp only [Act.put])
            refine wpAnyH_take (i := 11) (v := ?_) rfl (by kernel_rfl) (by kernel_rfl) (by kernel_rfl) (fun _ _ _ h => h) (Or.inl ⟨by rfl, ?_⟩) hH ?_; rotate_left 1; (first | (focus (intro w hSw; (try dsimp only at hSw); go_simp; done)) | (focus (intro w hSw; (try dsimp only at hSw); go_simp; with_reducible rfl))); (try simp only [Act.put])
            refine wpAnyH_ready (rs := [8]) (by kernel_rfl) (by simp) ?_
            refine AllReadyH.cons rfl (fun K hK => ?_) AllReadyH.nil
            rw [if_pos (by rfl)]
            go_simp
            refine hK.out _ _ hS1 (fun hH1 => ?_)
            clear hK
            (try simp only [Act.put])
            refine wpAnyH_ready (rs := [12]) (by kernel_rfl) (by simp) ?_
            refine AllReadyH.cons rfl (fun K hK => ?_) AllReadyH.nil
            rw [if_pos (by rfl)]
            (try simp only [List.getElem_toArray, List.getElem_cons_succ, List.getElem_cons_zero])
            refine wp_append_run (.tmp 50) (.tmp 53) rfl rfl rfl hr12 ?_
            dsimp only [Act.put]
            refine hK.out _ _ hS2 (fun hH2 => ?_)
            clear hK
            (try simp only [Act.put])
            refine wpAnyH_ready (rs := [13]) (by kernel_rfl) (by simp) ?_
            refine AllReadyH.cons rfl (fun K hK => ?_) AllReadyH.nil
            rw [if_pos (by rfl)]
            (try simp only [List.getElem_toArray, List.getElem_cons_succ, List.getElem_cons_zero])
            refine wp_append_run (.tmp 45) (.tmp 54) rfl rfl rfl hr13 ?_
            dsimp only [Act.put]
            refine hK.out _ _ hS3 (fun hH3 => ?_)
            clear hK
            (try simp only [Act.put])
            refine wpAnyH_take (i := 14) (v := ?_) rfl (by kernel_rfl) (by kernel_rfl) (by kernel_rfl) (fun _ _ _ h => h) (Or.inl ⟨by rfl, ?_⟩) hH3 ?_; rotate_left 1; (first | (focus (intro w hSw; (try dsimp only at hSw); go_simp; done)) | (focus (intro w hSw; (try dsimp only at hSw); go_simp; with_reducible rfl))); (try simp only [Act.put])
            refine wpAnyH_done (by kernel_rfl) ?_ _
            clear hr12 hr13 hs1 hs2 hH hH1 hH2 hH3 hS1 hS2 hS3
            go_wp2_with fail
            go_roundw
            case rel => exact ⟨i + 1, by go_num, by omega, by rw [take_snoc HX.out, List.foldl_append, ← HD.out]; show IntsIn _ _ _ _ (insC (clsOf c) D x); rw [insC_at (k := k) (by rw [HDL.out]; exact hki) (fun h => by rw [HDL.out]; first | exact HK0.out (HZ.out.trans h) | exact HK0.out trivial) (fun t y ht hy => by rw [← HZ.out]; exact HGT.out t y ht hy) (fun y h1 h2 h3 => by rw [← HZ.out] at h1 ⊢; exact HNEXT.out y h1 h2 h3)]; exact HEND.out.1, HEND.out.2⟩
            case measure => (show n - ((i : Int) + 1).toNat < n - (i : Int).toNat; omega)
    · have g1 : ¬ ((i : Int) < (n : Int)) := by omega
      obtain rfl : i = n := by omega
      have hte : (L.take i).foldl (insC (clsOf c)) [] = ordL (clsOf c) L := by rw [List.take_of_length_le (by rw [← HNL.out]; exact Nat.le_refl _)]; rfl
      have HR : Hid (IntsIn (fun b => w.heap.size ≤ b) .i32 wr (.slice op i oc) (ordL (clsOf c) L)) := by
        have h1 := HOV.out
        rw [HD.out, hte] at h1
        exact h1.mono (fun b hb _ => by have := HXB.out; omega)
      clear hte hb
      go_wp2_with fail
      go_ret
      exact ⟨⟨_, rfl, HR.out⟩, HAL.out.trans (HB.out.mono HAL.out.size)⟩
end Go.Proofs.YtnglhgogkemgbaaGreatDoor
