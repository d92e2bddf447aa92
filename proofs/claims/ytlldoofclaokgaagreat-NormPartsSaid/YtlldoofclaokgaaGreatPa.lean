/- lecternref06.Push. -/
import Derived.Test.YtlldoofclaokgaaGreatOx
namespace Go.Proofs.YtlldoofclaokgaaGreat
open Go.RowKit

/-- append of any slice of numbers to a row of our own -/
theorem run_append_ints (w : World) (ty : TypeId) (base : Nat) (v : Value) (ys : List Int) (hown : w.ownsRow base 21 1 v ys.length (ys.map (Value.int .i32))) (q : Option Addr) (n c : Nat) (xs : List Int) (R : Nat → Prop) (hin : IntsIn R .i32 w (.slice q n c) xs) (hlen : ys.length + xs.length ≤ 100000000) (hbase : base ≤ w.heap.size) :
    ∃ v' w', (Builtin.append_ #[48, 48] ty #[v, .slice q n c]).run Tryz.prog w = .ok v' w' ∧ w'.ownsRow base 21 1 v' (ys ++ xs).length ((ys ++ xs).map (Value.int .i32)) ∧ w.grownBy w' v.ownBlock ∧ (∀ j, v'.ownBlock = some j → v.ownBlock = some j ∨ w.heap.size ≤ j) := by
  obtain ⟨i0, hi, hz0, hz1, hz2⟩ := info_parts Tryz.infoI32
  by_cases h0 : xs = []
  · subst h0
    have hn0 : n = 0 := by obtain ⟨_, _, e, _⟩ := hin; injection e
    subst hn0
    have hvs : ∃ p n cap, v = .slice p n cap ∧ n ≤ cap := by
      rcases hown.2 with ⟨rfl, _⟩ | ⟨g, cap, cur, rfl, _, _, h1, _⟩
      · exact ⟨none, 0, 0, rfl, Nat.le_refl _⟩
      · exact ⟨_, _, _, rfl, h1⟩
    obtain ⟨p, m, cap, rfl, hnc⟩ := hvs
    exact ⟨_, w, run_append_empty (P := Tryz.prog) w 48 ty 21 i0 Tryz.underlying48 hi p q m cap c hnc, by rw [List.append_nil]; exact hown, ⟨rfl, rfl, rfl, Nat.le_refl _, fun _ _ _ => rfl⟩, fun j hj => .inl hj⟩
  · obtain ⟨g5, o5, c5, e5, _, _, hc5⟩ := hin.place (List.length_pos_iff.2 h0)
    injection e5 with e51 e52 e53
    subst e51 e52 e53
    obtain ⟨v', w', hr, h1, h2, _, h4⟩ := run_append_own_at (P := Tryz.prog) w base 48 ty 21 i0 (.int .i32 0) 1 4 Tryz.underlying48 hi hz0 hz1 hz2 rfl (by decide) v ys.length (ys.map (Value.int .i32)) hown ⟨g5, o5, none⟩ xs.length c (xs.map (Value.int .i32)) (by simp) (news_of hc5) (by simp [Value.oneCell']) (by unfold maxLen; omega) (by omega) hbase
    refine ⟨v', w', hr, by rw [List.length_append, List.map_append]; exact h1, h2, fun j hj => ?_⟩
    rcases h4 with e | e
    · exact .inl (e ▸ hj)
    · rw [e] at hj; cases hj; exact .inr (Nat.le_refl _)
theorem wpList_append_to {ops : Array Oper} {rest : List Oper} {o : Oper} {a : Act} {Q : Exit → Act → World → Prop} (w : World) (hgd : o.guard = none) (s x : Operand)
    (ho : o.op = .call { callee := .builtin .append, args := #[s, x], argTypes := #[48, 48] }) (base : Nat) (v : Value) (ys : List Int) (hs : a.eval s = v) (hown : w.ownsRow base 21 1 v ys.length (ys.map (Value.int .i32)))
    (xv : Value) (xs : List Int) (R : Nat → Prop) (hx : a.eval x = xv) (hin : IntsIn R .i32 w xv xs) (hlen : ys.length + xs.length ≤ 100000000) (hbase : base ≤ w.heap.size)
    (h : ∀ v' w', w'.ownsRow base 21 1 v' (ys ++ xs).length ((ys ++ xs).map (Value.int .i32)) → w.grownBy w' v.ownBlock → (∀ j, v'.ownBlock = some j → v.ownBlock = some j ∨ w.heap.size ≤ j) → wpList Tryz.prog ops Q rest (a.put o.dst v') w') :
    wpList Tryz.prog ops Q (o :: rest) a w := by
  obtain ⟨q, c, rfl, hh⟩ := id hin
  obtain ⟨v', w', hr, h1, h2, h3⟩ := run_append_ints w o.type base v ys hown q _ c xs R hin hlen hbase
  refine wpList_plain hgd fun K hK => ?_
  unfold Oper.wp execOp
  simp only [ho, resolve, invoke, builtin, Sem.run_bind, Sem.run_pure, Result.andThen_ok, List.map_toArray, List.map_cons, List.map_nil, hs, hx, hr]
  exact hK _ _ (h v' w' h1 h2 h3)
/-- between two rounds of the reference's Push -/
structure RPushAt (V0 : World) (dv : Value) (D O : List Int) (ov : Value) (G : List Int) (hvc : Value) (W : World) : Prop where
  orow : W.ownsRow V0.heap.size 21 1 ov O.length (O.map (Value.int .i32))
  held : IntsIn (fun b => ov.ownBlock ≠ some b) .i32 W hvc G
  dec : IntsIn (fun b => ov.ownBlock ≠ some b) .i32 W dv D
  below : Below V0.heap.size V0 W
section
variable {V0 : World} {dv : Value} {D O : List Int} {ov : Value} {G : List Int} {hvc : Value} {W : World}
theorem RPushAt.under (h : RPushAt V0 dv D O ov G hvc W) {W1 : World} (hb : Below W.heap.size W W1) : RPushAt V0 dv D O ov G hvc W1 :=
  ⟨ownsRow_block h.orow (fun j _ hl => hb.block j hl), h.held.kept (Kept.below hb), h.dec.kept (Kept.below hb), h.below.trans (hb.mono h.below.size)⟩
theorem RPushAt.grown (h : RPushAt V0 dv D O ov G hvc W) {O2 : List Int} {ov2 : Value} {W2 : World} (hrow : W2.ownsRow V0.heap.size 21 1 ov2 O2.length (O2.map (Value.int .i32))) (hg : W.grownBy W2 ov.ownBlock) (hown : ∀ j, ov2.ownBlock = some j → ov.ownBlock = some j ∨ W.heap.size ≤ j) : RPushAt V0 dv D O2 ov2 G hvc W2 := by
  have key : ∀ {v : Value} {xs : List Int}, IntsIn (fun b => ov.ownBlock ≠ some b) .i32 W v xs → IntsIn (fun b => ov2.ownBlock ≠ some b) .i32 W2 v xs := by
    intro v xs hi
    have h1 := (hi.mono (S := fun b => ov.ownBlock ≠ some b ∧ b < W.heap.size) (fun b hb hl => ⟨hb, hl⟩)).kept (Kept.grown hg (fun b hb e => hb.1 e.symm))
    refine h1.mono (fun b hb _ e => ?_)
    rcases hown b e with h' | h'
    · exact hb.1 h'
    · have := hb.2; omega
  exact ⟨hrow, key h.held, key h.dec, h.below.grown hg h.below.size (fun j hj => (ownsRow_own h.orow hj).1)⟩
theorem RPushAt.anew (h : RPushAt V0 dv D O ov G hvc W) {W1 : World} (hb : Below W.heap.size W W1) {G2 : List Int} {hv2 : Value} (hi : IntsIn (fun b => W.heap.size ≤ b) .i32 W1 hv2 G2) : RPushAt V0 dv D O ov G2 hv2 W1 := by
  have h1 := h.under hb
  exact ⟨h1.orow, hi.mono (fun b hb' _ e => by have := (ownsRow_own h.orow e).2; omega), h1.dec, h1.below⟩
end
set_option maxHeartbeats 8000000 in
set_option maxRecDepth 1000000 in
theorem rpush_any (R Rd Q : Nat → Prop) (c d : List T3) (u v : Value) (H : List Int) (r : Int) (hv : Value) (w : World) (hu : TrisIn R .i64 w u c) (hd : TrisIn Rd .i32 w v d) (ho : dataOk c d = true) (hH : IntsIn Q .i32 w hv H) (hl : H.length ≤ 500000) :
    Calls Tryz.prog 25 #[.agg #[u, v], hv, .int .i32 r] w fun e w' => (∃ ov hv', e = .returned (.tuple #[ov, hv']) ∧ IntsIn (fun b => w.heap.size ≤ b) .i32 w' ov (pushL (clsOf c) H (deep d 4 r).1).1 ∧ IntsIn (fun b => w.heap.size ≤ b ∨ Q b) .i32 w' hv' (pushL (clsOf c) H (deep d 4 r).1).2) ∧ Below w.heap.size w w' := by
  obtain ⟨i0, hi, hz0, hz1, hz2⟩ := info_parts Tryz.infoI32
  have HU := Lib.hid hu
  have HV := Lib.hid hd
  have HO := Lib.hid ho
  have HH := Lib.hid hH
  obtain ⟨q, cq, rfl, _, _⟩ := hu
  obtain ⟨p, cp, rfl, _, _⟩ := hd
  obtain ⟨hp, hc, rfl, hhc, _⟩ := hH
  have hdlen : 0 < (deep d 4 r).1.length ∧ (deep d 4 r).1.length ≤ 7 := (norm_made 0 c d ho).dlen r
  have hal : Below w.heap.size w (w.alloc (.cells #[.slice q c.length cq, .slice p d.length cp] 57)) := (Below.refl _ w).alloc (Nat.le_refl _) _
  have hxd : (w.alloc (.cells #[.slice q c.length cq, .slice p d.length cp] 57)).heap[w.heap.size]? = some (.cells #[.slice q c.length cq, .slice p d.length cp] 57 (0, 0)) := World.alloc_heap_new _ _
  have HAL := Lib.hid hal
  have HXD := Lib.hid hxd
  have hde := ddecomp_any _ d q c.length cq _ r _ (HV.out.kept (Kept.below hal)) (data_parts ho).2.1
  have HU0 : Hid (TrisIn (fun _ => True) .i64 (w.alloc (.cells #[.slice q c.length cq, .slice p d.length cp] 57)) (.slice q c.length cq) c) := (HU.out.kept (Kept.below hal)).mono (fun _ _ _ => trivial)
  have HH0 : Hid (IntsIn (fun _ => True) .i32 (w.alloc (.cells #[.slice q c.length cq, .slice p d.length cp] 57)) (.slice hp H.length hc) H) := (HH.out.kept (Kept.below hal)).mono (fun _ _ _ => trivial)
  clear ho hal
  obtain ⟨c0, c1, _, _⟩ := two_cells hxd
  clear hxd
  go_enter Tryz.func25, Tryz.ntmps25
  go_wp2_with fail
  generalize w.alloc (.cells #[.slice q c.length cq, .slice p d.length cp] 57) = V0 at *
  obtain ⟨xb, hxb⟩ : ∃ xb, xb = w.heap.size := ⟨_, rfl⟩
  rw [← hxb] at HXD ⊢
  have HXB := Lib.hid hxb
  clear c0 c1 hxb
  generalize hDD : (deep d 4 r).1 = D at *
  have HDD := Lib.hid hDD
  clear hDD
  with_reducible refine hde.mono ?_
  rintro e w1 ⟨dv, rfl, hr1, hb1⟩
  have HFX : Hid (Fx V0 c D xb D.length (.slice q c.length cq) p d.length cp none 0 ∨ True) := .inr trivial
  have hAT : RPushAt V0 dv D [] (.slice none 0 0) H (.slice hp H.length hc) w1 :=
    ⟨⟨rfl, .inl ⟨rfl, rfl⟩⟩, (HH0.out.kept (Kept.below hb1)).mono (fun b _ _ e => by cases e), (ints_of_own32 hr1).mono (fun b _ _ e => by cases e), hb1⟩
  have HAT0 := Lib.hid hAT
  obtain ⟨dp, dcap, rfl, _, _⟩ := ints_of_own32 hr1
  obtain ⟨n, hn⟩ : ∃ n, n = D.length := ⟨_, rfl⟩
  rw [← hn] at HAT0 hdlen ⊢
  have HNL := Lib.hid hn
  clear hde hr1 hb1 hAT hn HFX HH0
  go_wp2_with fail
  go_loopw [1, 8, 10] (fun hv2 ov iv W => ∃ k : Nat, iv = .int .i64 k ∧ k ≤ n ∧ RPushAt V0 (.slice dp n dcap) D (pushL (clsOf c) H (D.take k)).1 ov (pushL (clsOf c) H (D.take k)).2 hv2 W ∧ (k = 0 → hv2 = .slice hp H.length hc ∧ ov = .slice none 0 0) ∧ (0 < k → IntsIn (fun b => V0.heap.size ≤ b) .i32 W hv2 (pushL (clsOf c) H (D.take k)).2)) (fun _ _ iv _ => n - (intOf iv).toNat)
  case atStart => exact ⟨0, rfl, Nat.zero_le _, HAT0.out, fun _ => ⟨rfl, rfl⟩, fun h => by omega⟩
  case round =>
    obtain ⟨k, rfl, hkn, hat, hk0, hkp⟩ := hrel
    have HAT := Lib.hid hat
    by_cases hlt : k < n
    · have g1 : (k : Int) < (n : Int) := by omega
      obtain ⟨x, hx⟩ : ∃ x, D[k]? = some x := ⟨D[k]'(by rw [← HNL.out]; exact hlt), List.getElem?_eq_getElem _⟩
      obtain ⟨lb, lo, e1, hbl, c0⟩ := hat.dec.atC hx
      subst e1
      have HX := Lib.hid (pushL_step (f := clsOf c) (H := H) hx)
      have HXX := Lib.hid hx
      have hpl := pushL_len (clsOf c) H (D.take k)
      rw [List.length_take] at hpl
      obtain ⟨O, hO⟩ : ∃ O, O = (pushL (clsOf c) H (D.take k)).1 := ⟨_, rfl⟩
      obtain ⟨G, hG⟩ : ∃ G, G = (pushL (clsOf c) H (D.take k)).2 := ⟨_, rfl⟩
      rw [← hO, ← hG] at hpl HAT hat
      have HOG : Hid (pushL (clsOf c) H (D.take (k + 1)) = pushStep (clsOf c) (O, G) x) := by show _ = _; rw [HX.out, hO, hG]
      have hol : O.length + G.length ≤ 600000 := by omega
      have hxl : xb < V0.heap.size := (Array.getElem?_eq_some_iff.1 HXD.out).1
      obtain ⟨d0, d1, _, _⟩ := two_cells ((hat.below.block xb hxl).trans HXD.out)
      have hxl2 : xb < wr.heap.size := Nat.lt_of_lt_of_le hxl hat.below.size
      have hca : ∀ u', Calls Tryz.prog 31 #[.agg #[.slice q c.length cq, .slice p d.length cp], .int .i32 x] (over wr u') fun e w' => e = .returned (.int .i64 (clsOf c x)) ∧ Below (over wr u').heap.size (over wr u') w' :=
        fun u' => dclass_any _ c _ p d.length cp x _ ((HU0.out.kept (Kept.below hat.below)).kept (Kept.below (below_over wr u'))) (data_parts HO.out).1
      obtain ⟨z, hz⟩ : ∃ z, z = clsOf c x := ⟨_, rfl⟩
      rw [← hz] at hca
      have HCA := Lib.hid hca
      have HZ := Lib.hid hz
      obtain ⟨gp, gc, hgv, _, _⟩ := hat.held
      subst hgv
      clear hat hk0 hkp hx HX hO hG hpl hz hca
      by_cases hz0 : z = 0
      · subst hz0
        go_wp2_with fail
        refine wp_region_over (by kernel_rfl) (by kernel_rfl) ?_; (repeat (go_big_quiet_step (((go_at_call 31; exact over_of (HCA.out _)))))); refine wpQuiet_nil ?_; intro w1 hb1
        have HAT1 := Lib.hid (HAT.out.under hb1)
        obtain ⟨d0', d1', _, _⟩ := two_cells ((HAT1.out.below.block xb hxl).trans HXD.out)
        have hbl1 := Nat.lt_of_lt_of_le hbl hb1.size
        have c0' := (hb1.cell (p := ⟨lb, lo + k, none⟩) hbl).trans c0
        have hor := rorder_any _ _ c (.slice q c.length cq) p d.length cp G _ w1 (HU0.out.kept (Kept.below HAT1.out.below)) (data_parts HO.out).1 (fun r => (clsOf_bound (data_parts HO.out).2.2.1 r).1) HAT1.out.held (by omega)
        clear hb1 c0 d0 d1 HAT
        go_wp2_with fail
        with_reducible refine hor.mono ?_
        rintro e w2 ⟨⟨v2, rfl, hi2⟩, hb2⟩
        have HAT2 := Lib.hid (HAT1.out.under hb2)
        have HI2 := Lib.hid hi2
        have hbl2 := Nat.lt_of_lt_of_le hbl1 hb2.size
        have c0'' := (hb2.cell (p := ⟨lb, lo + k, none⟩) hbl1).trans c0'
        have hol2 : O.length + (ordL (clsOf c) G).length ≤ 100000000 := by rw [ordL_len]; omega
        have hsz2 := HAT2.out.below.size
        clear hor hi2 hb2 d0' d1' c0' HAT1
        go_wp2_with (at_builtin; refine app_stop ⟨_, _, rfl⟩ ?_)
        refine Lib.hid ?_
        refine wpList_append_to _ rfl _ _ rfl V0.heap.size _ O rfl HAT2.out.orow v2 (ordL (clsOf c) G) _ rfl HI2.out hol2 hsz2 ?_
        intro v3 w3 hrow3 hg3 how3
        have HAT3 := Lib.hid (HAT2.out.grown hrow3 hg3 how3)
        obtain ⟨lb', lo', el, hbl3, c3⟩ := HAT3.out.dec.atC HXX.out
        cases el
        have HATZ : Hid (RPushAt V0 (.slice (some ⟨lb, lo, none⟩) n dcap) D (O ++ ordL (clsOf c) G) v3 [] (.slice none 0 0) w3) := ⟨HAT3.out.orow, .nil _ _ _, HAT3.out.dec, HAT3.out.below⟩
        clear hrow3 hg3 how3 HAT2 HI2 c0'' HAT3
        have HS : Hid (∀ W1, Below w3.heap.size w3 W1 → W1.cell? ⟨lb, lo + k, none⟩ = some (.int .i32 x)) := fun W1 hb => (hb.cell (p := ⟨lb, lo + k, none⟩) hbl3).trans c3
        have HG : Hid (∀ W1, Below w3.heap.size w3 W1 → IntsIn (fun _ => True) .i32 W1 (.slice none 0 0) ([] : List Int)) := fun W1 hb => (HATZ.out.held.kept (Kept.below hb)).mono (fun _ _ _ => trivial)
        have HDR : Hid (Below w3.heap.size w3 w3.drew) := (Below.refl _ w3).drew
        have hgl : (([] : List Int)).length ≤ 600000 := by (try simp only [List.length_nil]); omega
        have hc3 : w3.drew.cell? ⟨lb, lo + k, none⟩ = some (.int .i32 x) := c3
        go_wp2_with fail
        refine wp_region_held_drew (S := fun u : World => u.cell? ⟨lb, lo + k, none⟩ = some (.int .i32 x)) (by kernel_rfl) hc3 (fun hH => ?_)
        clear c3 hc3
        refine wpAnyH_take (i := 1) (v := ?_) rfl (by kernel_rfl) (by kernel_rfl) (by kernel_rfl) (fun _ _ _ h => h) (Or.inl ⟨by rfl, ?_⟩) hH ?_; rotate_left 1; (first | (focus (intro w hSw; (try dsimp only at hSw); go_simp; done)) | (focus (intro w hSw; (try dsimp only at hSw); go_simp; with_reducible rfl))); (try simp only [Act.put])
        refine wpAnyH_take (i := 3) (v := ?_) rfl (by kernel_rfl) (by kernel_rfl) (by kernel_rfl) (fun _ _ _ h => h) (Or.inl ⟨by rfl, ?_⟩) hH ?_; rotate_left 1; (first | (focus (intro w hSw; (try dsimp only at hSw); go_simp; done)) | (focus (intro w hSw; (try dsimp only at hSw); go_simp; with_reducible rfl))); (try simp only [Act.put])
        refine wpAnyH_take (i := 4) (v := ?_) rfl (by kernel_rfl) (by kernel_rfl) (by kernel_rfl) (fun _ _ _ h => h) (Or.inl ⟨by rfl, ?_⟩) hH ?_; rotate_left 1; (first | (focus (intro w hSw; (try dsimp only at hSw); go_simp; done)) | (focus (intro w hSw; (try dsimp only at hSw); go_simp; with_reducible rfl))); (try simp only [Act.put])
        refine wpAnyH_take (i := 5) (v := ?_) rfl (by kernel_rfl) (by kernel_rfl) (by kernel_rfl) (fun _ _ _ h => h) (Or.inl ⟨by rfl, ?_⟩) hH ?_; rotate_left 1; (first | (focus (intro w hSw; (try dsimp only at hSw); go_simp; done)) | (focus (intro w hSw; (try dsimp only at hSw); go_simp; with_reducible rfl))); (try simp only [Act.put])
        refine wpAnyH_take (i := 6) (v := ?_) rfl (by kernel_rfl) (by kernel_rfl) (by kernel_rfl) (fun _ _ _ h => h) (Or.inl ⟨by rfl, ?_⟩) hH ?_; rotate_left 1; (first | (focus (intro w hSw; (try dsimp only at hSw); go_simp; done)) | (focus (intro w hSw; (try dsimp only at hSw); go_simp; with_reducible rfl))); (try simp only [Act.put])
        refine wpAnyH_ready (rs := [0, 7]) (by kernel_rfl) (by simp) ?_
        refine AllReadyH.cons rfl (fun K hK => ?_) (AllReadyH.cons rfl (fun K hK => ?_) AllReadyH.nil)
        · rw [if_pos (by rfl)]
          go_simp
          have hbA : Below w3.heap.size w3 (w3.drew.alloc (.cells #[] 21)) := HDR.out.alloc (Nat.le_refl _) _
          have rowA := World.ownsRow_lit (base := w3.heap.size) (e := 21) (size := 1) w3.drew #[] 0 (Nat.le_refl _) (by decide) rfl
          have eA : (w3.drew.alloc (.cells #[] 21)).heap.size = w3.heap.size + 1 := by simp
          refine hK.out _ _ (HS.out _ hbA) (fun hHA => ?_)
          clear hK
          (try simp only [Act.put])
          refine wpAnyH_ready (rs := [2, 7]) (by kernel_rfl) (by simp) ?_
          refine AllReadyH.cons rfl (fun K hK => ?_) (AllReadyH.cons rfl (fun K hK => ?_) AllReadyH.nil)
          · rw [if_pos (by rfl)]
            (try simp only [List.getElem_toArray, List.getElem_cons_succ, List.getElem_cons_zero])
            obtain ⟨v2_, w2_, hr2, hrow2, hg2, how2⟩ := run_append_ints (w3.drew.alloc (.cells #[] 21)) 48 w3.heap.size (.slice (some ⟨w3.heap.size, 0, none⟩) 0 0) [] rowA none 0 0 ([] : List Int) _ (HG.out _ hbA) (by (try simp only [List.length_nil]); omega) hbA.size
            have hb2_ : Below w3.heap.size w3 w2_ := hbA.grown hg2 hbA.size (fun j hj => by cases hj; exact Nat.le_refl _)
            refine wp_append_run (.tmp 32) (.tmp 33) rfl rfl rfl hr2 ?_
            dsimp only [Act.put]
            refine hK.out _ _ (HS.out _ hb2_) (fun hH2 => ?_)
            clear hK
            (try simp only [Act.put])
            refine wpAnyH_ready (rs := [7]) (by kernel_rfl) (by simp) ?_
            refine AllReadyH.cons rfl (fun K hK => ?_) AllReadyH.nil
            rw [if_pos (by rfl)]
            go_simp
            have hb3_ : Below w3.heap.size w3 (w2_.alloc (.cells #[.int .i32 x] 21)) := hb2_.alloc hb2_.size _
            have row3 := ownsRow_block hrow2 (W' := w2_.alloc (.cells #[.int .i32 x] 21)) (fun j _ hl => Below.heap_alloc _ _ _ hl)
            have xi3 := ints_one (x := x) (World.alloc_heap_new w2_ (.cells #[.int .i32 x] 21))
            refine hK.out _ _ (HS.out _ hb3_) (fun hH3 => ?_)
            clear hK
            (try simp only [Act.put])
            refine wpAnyH_ready (rs := [8]) (by kernel_rfl) (by simp) ?_
            refine AllReadyH.cons rfl (fun K hK => ?_) AllReadyH.nil
            rw [if_pos (by rfl)]
            (try simp only [List.getElem_toArray, List.getElem_cons_succ, List.getElem_cons_zero])
            obtain ⟨v6, w6, hr6, hrow6, hg6, how6⟩ := run_append_ints (w2_.alloc (.cells #[.int .i32 x] 21)) 48 w3.heap.size v2_ ([] ++ ([] : List Int)) row3 (some ⟨w2_.heap.size, 0, none⟩) 1 1 [x] _ xi3 (by (try simp only [List.nil_append, List.length_nil, List.length_singleton]); omega) hb3_.size
            have hb6 : Below w3.heap.size w3 w6 := hb3_.grown hg6 hb3_.size (fun j hj => (ownsRow_own row3 hj).1)
            refine wp_append_run (.tmp 34) (.tmp 39) rfl rfl rfl hr6 ?_
            dsimp only [Act.put]
            refine hK.out _ _ (HS.out _ hb6) (fun hH6 => ?_)
            clear hK
            (try simp only [Act.put])
            refine wpAnyH_take (i := 9) (v := ?_) rfl (by kernel_rfl) (by kernel_rfl) (by kernel_rfl) (fun _ _ _ h => h) (Or.inl ⟨by rfl, ?_⟩) hH6 ?_; rotate_left 1; (first | (focus (intro w hSw; (try dsimp only at hSw); go_simp; done)) | (focus (intro w hSw; (try dsimp only at hSw); go_simp; with_reducible rfl))); (try simp only [Act.put])
            refine wpAnyH_done (by kernel_rfl) ?_ _
            have HIE : Hid (IntsIn (fun b => w3.heap.size ≤ b) .i32 w6 v6 (([] : List Int) ++ [x])) := by
              show IntsIn _ _ _ _ _
              exact (ints_of_own32 hrow6).mono (fun b hb _ => hb.1)
            have HATE := Lib.hid (HATZ.out.anew hb6 HIE.out)
            have hzz := HATZ.out.below.size
            clear hrow6 hg6 how6 hr6 hH6 hb6 hH
            go_wp2_with fail
            go_roundw
            case rel => exact ⟨k + 1, by go_num, by omega, by rw [HOG.out]; unfold pushStep; rw [if_pos HZ.out.symm]; exact HATE.out, fun h => by omega, fun _ => by rw [HOG.out]; unfold pushStep; rw [if_pos HZ.out.symm]; exact HIE.out.mono (fun b hb _ => by omega)⟩
            case measure => (show n - ((k : Int) + 1).toNat < n - (k : Int).toNat; omega)
          · rw [if_pos (by rfl)]
            go_simp
            have hb4_ : Below w3.heap.size w3 ((w3.drew.alloc (.cells #[] 21)).alloc (.cells #[.int .i32 x] 21)) := hbA.alloc hbA.size _
            have row4 := ownsRow_block rowA (W' := (w3.drew.alloc (.cells #[] 21)).alloc (.cells #[.int .i32 x] 21)) (fun j _ hl => Below.heap_alloc _ _ _ hl)
            have xi4 := ints_one (x := x) (World.alloc_heap_new (w3.drew.alloc (.cells #[] 21)) (.cells #[.int .i32 x] 21))
            rw [eA] at xi4
            refine hK.out _ _ (HS.out _ hb4_) (fun hH4 => ?_)
            clear hK
            (try simp only [Act.put])
            refine wpAnyH_ready (rs := [2]) (by kernel_rfl) (by simp) ?_
            refine AllReadyH.cons rfl (fun K hK => ?_) AllReadyH.nil
            rw [if_pos (by rfl)]
            (try simp only [List.getElem_toArray, List.getElem_cons_succ, List.getElem_cons_zero])
            obtain ⟨v5_, w5_, hr5, hrow5, hg5, how5⟩ := run_append_ints ((w3.drew.alloc (.cells #[] 21)).alloc (.cells #[.int .i32 x] 21)) 48 w3.heap.size (.slice (some ⟨w3.heap.size, 0, none⟩) 0 0) [] row4 none 0 0 ([] : List Int) _ (HG.out _ hb4_) (by (try simp only [List.length_nil]); omega) hb4_.size
            have hb5_ : Below w3.heap.size w3 w5_ := hb4_.grown hg5 hb4_.size (fun j hj => by cases hj; exact Nat.le_refl _)
            have xi5 := xi4.kept (Kept.grown hg5 (fun b hb e => by
              have h1 : b = w3.heap.size + 1 := hb
              have h2 : b = w3.heap.size := Option.some.inj e
              omega))
            refine wp_append_run (.tmp 32) (.tmp 33) rfl rfl rfl hr5 ?_
            dsimp only [Act.put]
            refine hK.out _ _ (HS.out _ hb5_) (fun hH5 => ?_)
            clear hK
            (try simp only [Act.put])
            refine wpAnyH_ready (rs := [8]) (by kernel_rfl) (by simp) ?_
            refine AllReadyH.cons rfl (fun K hK => ?_) AllReadyH.nil
            rw [if_pos (by rfl)]
            (try simp only [List.getElem_toArray, List.getElem_cons_succ, List.getElem_cons_zero])
            obtain ⟨v7, w7, hr7, hrow7, hg7, how7⟩ := run_append_ints w5_ 48 w3.heap.size v5_ ([] ++ ([] : List Int)) hrow5 (some ⟨w3.heap.size + 1, 0, none⟩) 1 1 [x] _ xi5 (by (try simp only [List.nil_append, List.length_nil, List.length_singleton]); omega) hb5_.size
            have hb7 : Below w3.heap.size w3 w7 := hb5_.grown hg7 hb5_.size (fun j hj => (ownsRow_own hrow5 hj).1)
            refine wp_append_run (.tmp 34) (.tmp 39) rfl rfl rfl hr7 ?_
            dsimp only [Act.put]
            refine hK.out _ _ (HS.out _ hb7) (fun hH7 => ?_)
            clear hK
            (try simp only [Act.put])
            refine wpAnyH_take (i := 9) (v := ?_) rfl (by kernel_rfl) (by kernel_rfl) (by kernel_rfl) (fun _ _ _ h => h) (Or.inl ⟨by rfl, ?_⟩) hH7 ?_; rotate_left 1; (first | (focus (intro w hSw; (try dsimp only at hSw); go_simp; done)) | (focus (intro w hSw; (try dsimp only at hSw); go_simp; with_reducible rfl))); (try simp only [Act.put])
            refine wpAnyH_done (by kernel_rfl) ?_ _
            have HIE : Hid (IntsIn (fun b => w3.heap.size ≤ b) .i32 w7 v7 (([] : List Int) ++ [x])) := by
              show IntsIn _ _ _ _ _
              exact (ints_of_own32 hrow7).mono (fun b hb _ => hb.1)
            have HATE := Lib.hid (HATZ.out.anew hb7 HIE.out)
            have hzz := HATZ.out.below.size
            clear hrow7 hg7 how7 hr7 hH7 hb7 hH
            go_wp2_with fail
            go_roundw
            case rel => exact ⟨k + 1, by go_num, by omega, by rw [HOG.out]; unfold pushStep; rw [if_pos HZ.out.symm]; exact HATE.out, fun h => by omega, fun _ => by rw [HOG.out]; unfold pushStep; rw [if_pos HZ.out.symm]; exact HIE.out.mono (fun b hb _ => by omega)⟩
            case measure => (show n - ((k : Int) + 1).toNat < n - (k : Int).toNat; omega)
        · rw [if_pos (by rfl)]
          go_simp
          have hbC : Below w3.heap.size w3 (w3.drew.alloc (.cells #[.int .i32 x] 21)) := HDR.out.alloc (Nat.le_refl _) _
          have xiC := ints_one (x := x) (World.alloc_heap_new w3.drew (.cells #[.int .i32 x] 21))
          have eC : (w3.drew.alloc (.cells #[.int .i32 x] 21)).heap.size = w3.heap.size + 1 := by simp
          refine hK.out _ _ (HS.out _ hbC) (fun hHC => ?_)
          clear hK
          (try simp only [Act.put])
          refine wpAnyH_ready (rs := [0]) (by kernel_rfl) (by simp) ?_
          refine AllReadyH.cons rfl (fun K hK => ?_) AllReadyH.nil
          rw [if_pos (by rfl)]
          go_simp
          have hbD : Below w3.heap.size w3 ((w3.drew.alloc (.cells #[.int .i32 x] 21)).alloc (.cells #[] 21)) := hbC.alloc hbC.size _
          have rowD := World.ownsRow_lit (base := w3.heap.size) (e := 21) (size := 1) (w3.drew.alloc (.cells #[.int .i32 x] 21)) #[] 0 hbC.size (by decide) rfl
          rw [eC] at rowD
          have xiD := xiC.kept (Kept.below ((Below.refl _ (w3.drew.alloc (.cells #[.int .i32 x] 21))).alloc (Nat.le_refl _) (.cells #[] 21)))
          refine hK.out _ _ (HS.out _ hbD) (fun hHD => ?_)
          clear hK
          (try simp only [Act.put])
          refine wpAnyH_ready (rs := [2]) (by kernel_rfl) (by simp) ?_
          refine AllReadyH.cons rfl (fun K hK => ?_) AllReadyH.nil
          rw [if_pos (by rfl)]
          (try simp only [List.getElem_toArray, List.getElem_cons_succ, List.getElem_cons_zero])
          obtain ⟨v8_, w8_, hr8, hrow8, hg8, how8⟩ := run_append_ints ((w3.drew.alloc (.cells #[.int .i32 x] 21)).alloc (.cells #[] 21)) 48 w3.heap.size (.slice (some ⟨w3.heap.size + 1, 0, none⟩) 0 0) [] rowD none 0 0 ([] : List Int) _ (HG.out _ hbD) (by (try simp only [List.length_nil]); omega) hbD.size
          have hb8_ : Below w3.heap.size w3 w8_ := hbD.grown hg8 hbD.size (fun j hj => by have h2 : w3.heap.size + 1 = j := Option.some.inj hj; omega)
          have xi8 := xiD.kept (Kept.grown hg8 (fun b hb e => by
            have h1 : b = w3.heap.size := hb
            have h2 : b = w3.heap.size + 1 := Option.some.inj e
            omega))
          refine wp_append_run (.tmp 32) (.tmp 33) rfl rfl rfl hr8 ?_
          dsimp only [Act.put]
          refine hK.out _ _ (HS.out _ hb8_) (fun hH8 => ?_)
          clear hK
          (try simp only [Act.put])
          refine wpAnyH_ready (rs := [8]) (by kernel_rfl) (by simp) ?_
          refine AllReadyH.cons rfl (fun K hK => ?_) AllReadyH.nil
          rw [if_pos (by rfl)]
          (try simp only [List.getElem_toArray, List.getElem_cons_succ, List.getElem_cons_zero])
          obtain ⟨v9, w9, hr9, hrow9, hg9, how9⟩ := run_append_ints w8_ 48 w3.heap.size v8_ ([] ++ ([] : List Int)) hrow8 (some ⟨w3.heap.size, 0, none⟩) 1 1 [x] _ xi8 (by (try simp only [List.nil_append, List.length_nil, List.length_singleton]); omega) hb8_.size
          have hb9 : Below w3.heap.size w3 w9 := hb8_.grown hg9 hb8_.size (fun j hj => (ownsRow_own hrow8 hj).1)
          refine wp_append_run (.tmp 34) (.tmp 39) rfl rfl rfl hr9 ?_
          dsimp only [Act.put]
          refine hK.out _ _ (HS.out _ hb9) (fun hH9 => ?_)
          clear hK
          (try simp only [Act.put])
          refine wpAnyH_take (i := 9) (v := ?_) rfl (by kernel_rfl) (by kernel_rfl) (by kernel_rfl) (fun _ _ _ h => h) (Or.inl ⟨by rfl, ?_⟩) hH9 ?_; rotate_left 1; (first | (focus (intro w hSw; (try dsimp only at hSw); go_simp; done)) | (focus (intro w hSw; (try dsimp only at hSw); go_simp; with_reducible rfl))); (try simp only [Act.put])
          refine wpAnyH_done (by kernel_rfl) ?_ _
          have HIE : Hid (IntsIn (fun b => w3.heap.size ≤ b) .i32 w9 v9 (([] : List Int) ++ [x])) := by
            show IntsIn _ _ _ _ _
            exact (ints_of_own32 hrow9).mono (fun b hb _ => hb.1)
          have HATE := Lib.hid (HATZ.out.anew hb9 HIE.out)
          have hzz := HATZ.out.below.size
          clear hrow9 hg9 how9 hr9 hH9 hb9 hH
          go_wp2_with fail
          go_roundw
          case rel => exact ⟨k + 1, by go_num, by omega, by rw [HOG.out]; unfold pushStep; rw [if_pos HZ.out.symm]; exact HATE.out, fun h => by omega, fun _ => by rw [HOG.out]; unfold pushStep; rw [if_pos HZ.out.symm]; exact HIE.out.mono (fun b hb _ => by omega)⟩
          case measure => (show n - ((k : Int) + 1).toNat < n - (k : Int).toNat; omega)
      · have g3 : ¬ (z = 0) := hz0
        have g3b : (z == 0) = false := by simpa using hz0
        go_wp2_with fail
        refine wp_region_over (by kernel_rfl) (by kernel_rfl) ?_; (repeat (go_big_quiet_step (((go_at_call 31; exact over_of (HCA.out _)))))); refine wpQuiet_nil ?_; intro w1 hb1
        have HATZ := Lib.hid (HAT.out.under hb1)
        have hbl3 := Nat.lt_of_lt_of_le hbl hb1.size
        have c3 := (hb1.cell (p := ⟨lb, lo + k, none⟩) hbl).trans c0
        clear hb1 c0 d0 d1 HAT
        have HS : Hid (∀ W1, Below w1.heap.size w1 W1 → W1.cell? ⟨lb, lo + k, none⟩ = some (.int .i32 x)) := fun W1 hb => (hb.cell (p := ⟨lb, lo + k, none⟩) hbl3).trans c3
        have HG : Hid (∀ W1, Below w1.heap.size w1 W1 → IntsIn (fun _ => True) .i32 W1 (.slice gp G.length gc) G) := fun W1 hb => (HATZ.out.held.kept (Kept.below hb)).mono (fun _ _ _ => trivial)
        have HDR : Hid (Below w1.heap.size w1 w1.drew) := (Below.refl _ w1).drew
        have hgl : (G).length ≤ 600000 := by (try simp only [List.length_nil]); omega
        have hc3 : w1.drew.cell? ⟨lb, lo + k, none⟩ = some (.int .i32 x) := c3
        go_wp2_with fail
        refine wp_region_held_drew (S := fun u : World => u.cell? ⟨lb, lo + k, none⟩ = some (.int .i32 x)) (by kernel_rfl) hc3 (fun hH => ?_)
        clear c3 hc3
        refine wpAnyH_take (i := 1) (v := ?_) rfl (by kernel_rfl) (by kernel_rfl) (by kernel_rfl) (fun _ _ _ h => h) (Or.inl ⟨by rfl, ?_⟩) hH ?_; rotate_left 1; (first | (focus (intro w hSw; (try dsimp only at hSw); go_simp; done)) | (focus (intro w hSw; (try dsimp only at hSw); go_simp; with_reducible rfl))); (try simp only [Act.put])
        refine wpAnyH_take (i := 3) (v := ?_) rfl (by kernel_rfl) (by kernel_rfl) (by kernel_rfl) (fun _ _ _ h => h) (Or.inl ⟨by rfl, ?_⟩) hH ?_; rotate_left 1; (first | (focus (intro w hSw; (try dsimp only at hSw); go_simp; done)) | (focus (intro w hSw; (try dsimp only at hSw); go_simp; with_reducible rfl))); (try simp only [Act.put])
        refine wpAnyH_take (i := 4) (v := ?_) rfl (by kernel_rfl) (by kernel_rfl) (by kernel_rfl) (fun _ _ _ h => h) (Or.inl ⟨by rfl, ?_⟩) hH ?_; rotate_left 1; (first | (focus (intro w hSw; (try dsimp only at hSw); go_simp; done)) | (focus (intro w hSw; (try dsimp only at hSw); go_simp; with_reducible rfl))); (try simp only [Act.put])
        refine wpAnyH_take (i := 5) (v := ?_) rfl (by kernel_rfl) (by kernel_rfl) (by kernel_rfl) (fun _ _ _ h => h) (Or.inl ⟨by rfl, ?_⟩) hH ?_; rotate_left 1; (first | (focus (intro w hSw; (try dsimp only at hSw); go_simp; done)) | (focus (intro w hSw; (try dsimp only at hSw); go_simp; with_reducible rfl))); (try simp only [Act.put])
        refine wpAnyH_take (i := 6) (v := ?_) rfl (by kernel_rfl) (by kernel_rfl) (by kernel_rfl) (fun _ _ _ h => h) (Or.inl ⟨by rfl, ?_⟩) hH ?_; rotate_left 1; (first | (focus (intro w hSw; (try dsimp only at hSw); go_simp; done)) | (focus (intro w hSw; (try dsimp only at hSw); go_simp; with_reducible rfl))); (try simp only [Act.put])
        refine wpAnyH_ready (rs := [0, 7]) (by kernel_rfl) (by simp) ?_
        refine AllReadyH.cons rfl (fun K hK => ?_) (AllReadyH.cons rfl (fun K hK => ?_) AllReadyH.nil)
        · rw [if_pos (by rfl)]
          go_simp
          have hbA : Below w1.heap.size w1 (w1.drew.alloc (.cells #[] 21)) := HDR.out.alloc (Nat.le_refl _) _
          have rowA := World.ownsRow_lit (base := w1.heap.size) (e := 21) (size := 1) w1.drew #[] 0 (Nat.le_refl _) (by decide) rfl
          have eA : (w1.drew.alloc (.cells #[] 21)).heap.size = w1.heap.size + 1 := by simp
          refine hK.out _ _ (HS.out _ hbA) (fun hHA => ?_)
          clear hK
          (try simp only [Act.put])
          refine wpAnyH_ready (rs := [2, 7]) (by kernel_rfl) (by simp) ?_
          refine AllReadyH.cons rfl (fun K hK => ?_) (AllReadyH.cons rfl (fun K hK => ?_) AllReadyH.nil)
          · rw [if_pos (by rfl)]
            (try simp only [List.getElem_toArray, List.getElem_cons_succ, List.getElem_cons_zero])
            obtain ⟨v2_, w2_, hr2, hrow2, hg2, how2⟩ := run_append_ints (w1.drew.alloc (.cells #[] 21)) 48 w1.heap.size (.slice (some ⟨w1.heap.size, 0, none⟩) 0 0) [] rowA gp _ gc G _ (HG.out _ hbA) (by (try simp only [List.length_nil]); omega) hbA.size
            have hb2_ : Below w1.heap.size w1 w2_ := hbA.grown hg2 hbA.size (fun j hj => by cases hj; exact Nat.le_refl _)
            refine wp_append_run (.tmp 32) (.tmp 33) rfl rfl rfl hr2 ?_
            dsimp only [Act.put]
            refine hK.out _ _ (HS.out _ hb2_) (fun hH2 => ?_)
            clear hK
            (try simp only [Act.put])
            refine wpAnyH_ready (rs := [7]) (by kernel_rfl) (by simp) ?_
            refine AllReadyH.cons rfl (fun K hK => ?_) AllReadyH.nil
            rw [if_pos (by rfl)]
            go_simp
            have hb3_ : Below w1.heap.size w1 (w2_.alloc (.cells #[.int .i32 x] 21)) := hb2_.alloc hb2_.size _
            have row3 := ownsRow_block hrow2 (W' := w2_.alloc (.cells #[.int .i32 x] 21)) (fun j _ hl => Below.heap_alloc _ _ _ hl)
            have xi3 := ints_one (x := x) (World.alloc_heap_new w2_ (.cells #[.int .i32 x] 21))
            refine hK.out _ _ (HS.out _ hb3_) (fun hH3 => ?_)
            clear hK
            (try simp only [Act.put])
            refine wpAnyH_ready (rs := [8]) (by kernel_rfl) (by simp) ?_
            refine AllReadyH.cons rfl (fun K hK => ?_) AllReadyH.nil
            rw [if_pos (by rfl)]
            (try simp only [List.getElem_toArray, List.getElem_cons_succ, List.getElem_cons_zero])
            obtain ⟨v6, w6, hr6, hrow6, hg6, how6⟩ := run_append_ints (w2_.alloc (.cells #[.int .i32 x] 21)) 48 w1.heap.size v2_ ([] ++ G) row3 (some ⟨w2_.heap.size, 0, none⟩) 1 1 [x] _ xi3 (by (try simp only [List.nil_append, List.length_nil, List.length_singleton]); omega) hb3_.size
            have hb6 : Below w1.heap.size w1 w6 := hb3_.grown hg6 hb3_.size (fun j hj => (ownsRow_own row3 hj).1)
            refine wp_append_run (.tmp 34) (.tmp 39) rfl rfl rfl hr6 ?_
            dsimp only [Act.put]
            refine hK.out _ _ (HS.out _ hb6) (fun hH6 => ?_)
            clear hK
            (try simp only [Act.put])
            refine wpAnyH_take (i := 9) (v := ?_) rfl (by kernel_rfl) (by kernel_rfl) (by kernel_rfl) (fun _ _ _ h => h) (Or.inl ⟨by rfl, ?_⟩) hH6 ?_; rotate_left 1; (first | (focus (intro w hSw; (try dsimp only at hSw); go_simp; done)) | (focus (intro w hSw; (try dsimp only at hSw); go_simp; with_reducible rfl))); (try simp only [Act.put])
            refine wpAnyH_done (by kernel_rfl) ?_ _
            have HIE : Hid (IntsIn (fun b => w1.heap.size ≤ b) .i32 w6 v6 (G ++ [x])) := by
              show IntsIn _ _ _ _ _
              exact (ints_of_own32 hrow6).mono (fun b hb _ => hb.1)
            have HATE := Lib.hid (HATZ.out.anew hb6 HIE.out)
            have hzz := HATZ.out.below.size
            clear hrow6 hg6 how6 hr6 hH6 hb6 hH
            go_wp2_with fail
            go_roundw
            case rel => exact ⟨k + 1, by go_num, by omega, by rw [HOG.out]; unfold pushStep; rw [if_neg (fun e => hz0 (HZ.out.trans e))]; exact HATE.out, fun h => by omega, fun _ => by rw [HOG.out]; unfold pushStep; rw [if_neg (fun e => hz0 (HZ.out.trans e))]; exact HIE.out.mono (fun b hb _ => by omega)⟩
            case measure => (show n - ((k : Int) + 1).toNat < n - (k : Int).toNat; omega)
          · rw [if_pos (by rfl)]
            go_simp
            have hb4_ : Below w1.heap.size w1 ((w1.drew.alloc (.cells #[] 21)).alloc (.cells #[.int .i32 x] 21)) := hbA.alloc hbA.size _
            have row4 := ownsRow_block rowA (W' := (w1.drew.alloc (.cells #[] 21)).alloc (.cells #[.int .i32 x] 21)) (fun j _ hl => Below.heap_alloc _ _ _ hl)
            have xi4 := ints_one (x := x) (World.alloc_heap_new (w1.drew.alloc (.cells #[] 21)) (.cells #[.int .i32 x] 21))
            rw [eA] at xi4
            refine hK.out _ _ (HS.out _ hb4_) (fun hH4 => ?_)
            clear hK
            (try simp only [Act.put])
            refine wpAnyH_ready (rs := [2]) (by kernel_rfl) (by simp) ?_
            refine AllReadyH.cons rfl (fun K hK => ?_) AllReadyH.nil
            rw [if_pos (by rfl)]
            (try simp only [List.getElem_toArray, List.getElem_cons_succ, List.getElem_cons_zero])
            obtain ⟨v5_, w5_, hr5, hrow5, hg5, how5⟩ := run_append_ints ((w1.drew.alloc (.cells #[] 21)).alloc (.cells #[.int .i32 x] 21)) 48 w1.heap.size (.slice (some ⟨w1.heap.size, 0, none⟩) 0 0) [] row4 gp _ gc G _ (HG.out _ hb4_) (by (try simp only [List.length_nil]); omega) hb4_.size
            have hb5_ : Below w1.heap.size w1 w5_ := hb4_.grown hg5 hb4_.size (fun j hj => by cases hj; exact Nat.le_refl _)
            have xi5 := xi4.kept (Kept.grown hg5 (fun b hb e => by
              have h1 : b = w1.heap.size + 1 := hb
              have h2 : b = w1.heap.size := Option.some.inj e
              omega))
            refine wp_append_run (.tmp 32) (.tmp 33) rfl rfl rfl hr5 ?_
            dsimp only [Act.put]
            refine hK.out _ _ (HS.out _ hb5_) (fun hH5 => ?_)
            clear hK
            (try simp only [Act.put])
            refine wpAnyH_ready (rs := [8]) (by kernel_rfl) (by simp) ?_
            refine AllReadyH.cons rfl (fun K hK => ?_) AllReadyH.nil
            rw [if_pos (by rfl)]
            (try simp only [List.getElem_toArray, List.getElem_cons_succ, List.getElem_cons_zero])
            obtain ⟨v7, w7, hr7, hrow7, hg7, how7⟩ := run_append_ints w5_ 48 w1.heap.size v5_ ([] ++ G) hrow5 (some ⟨w1.heap.size + 1, 0, none⟩) 1 1 [x] _ xi5 (by (try simp only [List.nil_append, List.length_nil, List.length_singleton]); omega) hb5_.size
            have hb7 : Below w1.heap.size w1 w7 := hb5_.grown hg7 hb5_.size (fun j hj => (ownsRow_own hrow5 hj).1)
            refine wp_append_run (.tmp 34) (.tmp 39) rfl rfl rfl hr7 ?_
            dsimp only [Act.put]
            refine hK.out _ _ (HS.out _ hb7) (fun hH7 => ?_)
            clear hK
            (try simp only [Act.put])
            refine wpAnyH_take (i := 9) (v := ?_) rfl (by kernel_rfl) (by kernel_rfl) (by kernel_rfl) (fun _ _ _ h => h) (Or.inl ⟨by rfl, ?_⟩) hH7 ?_; rotate_left 1; (first | (focus (intro w hSw; (try dsimp only at hSw); go_simp; done)) | (focus (intro w hSw; (try dsimp only at hSw); go_simp; with_reducible rfl))); (try simp only [Act.put])
            refine wpAnyH_done (by kernel_rfl) ?_ _
            have HIE : Hid (IntsIn (fun b => w1.heap.size ≤ b) .i32 w7 v7 (G ++ [x])) := by
              show IntsIn _ _ _ _ _
              exact (ints_of_own32 hrow7).mono (fun b hb _ => hb.1)
            have HATE := Lib.hid (HATZ.out.anew hb7 HIE.out)
            have hzz := HATZ.out.below.size
            clear hrow7 hg7 how7 hr7 hH7 hb7 hH
            go_wp2_with fail
            go_roundw
            case rel => exact ⟨k + 1, by go_num, by omega, by rw [HOG.out]; unfold pushStep; rw [if_neg (fun e => hz0 (HZ.out.trans e))]; exact HATE.out, fun h => by omega, fun _ => by rw [HOG.out]; unfold pushStep; rw [if_neg (fun e => hz0 (HZ.out.trans e))]; exact HIE.out.mono (fun b hb _ => by omega)⟩
            case measure => (show n - ((k : Int) + 1).toNat < n - (k : Int).toNat; omega)
        · rw [if_pos (by rfl)]
          go_simp
          have hbC : Below w1.heap.size w1 (w1.drew.alloc (.cells #[.int .i32 x] 21)) := HDR.out.alloc (Nat.le_refl _) _
          have xiC := ints_one (x := x) (World.alloc_heap_new w1.drew (.cells #[.int .i32 x] 21))
          have eC : (w1.drew.alloc (.cells #[.int .i32 x] 21)).heap.size = w1.heap.size + 1 := by simp
          refine hK.out _ _ (HS.out _ hbC) (fun hHC => ?_)
          clear hK
          (try simp only [Act.put])
          refine wpAnyH_ready (rs := [0]) (by kernel_rfl) (by simp) ?_
          refine AllReadyH.cons rfl (fun K hK => ?_) AllReadyH.nil
          rw [if_pos (by rfl)]
          go_simp
          have hbD : Below w1.heap.size w1 ((w1.drew.alloc (.cells #[.int .i32 x] 21)).alloc (.cells #[] 21)) := hbC.alloc hbC.size _
          have rowD := World.ownsRow_lit (base := w1.heap.size) (e := 21) (size := 1) (w1.drew.alloc (.cells #[.int .i32 x] 21)) #[] 0 hbC.size (by decide) rfl
          rw [eC] at rowD
          have xiD := xiC.kept (Kept.below ((Below.refl _ (w1.drew.alloc (.cells #[.int .i32 x] 21))).alloc (Nat.le_refl _) (.cells #[] 21)))
          refine hK.out _ _ (HS.out _ hbD) (fun hHD => ?_)
          clear hK
          (try simp only [Act.put])
          refine wpAnyH_ready (rs := [2]) (by kernel_rfl) (by simp) ?_
          refine AllReadyH.cons rfl (fun K hK => ?_) AllReadyH.nil
          rw [if_pos (by rfl)]
          (try simp only [List.getElem_toArray, List.getElem_cons_succ, List.getElem_cons_zero])
          obtain ⟨v8_, w8_, hr8, hrow8, hg8, how8⟩ := run_append_ints ((w1.drew.alloc (.cells #[.int .i32 x] 21)).alloc (.cells #[] 21)) 48 w1.heap.size (.slice (some ⟨w1.heap.size + 1, 0, none⟩) 0 0) [] rowD gp _ gc G _ (HG.out _ hbD) (by (try simp only [List.length_nil]); omega) hbD.size
          have hb8_ : Below w1.heap.size w1 w8_ := hbD.grown hg8 hbD.size (fun j hj => by have h2 : w1.heap.size + 1 = j := Option.some.inj hj; omega)
          have xi8 := xiD.kept (Kept.grown hg8 (fun b hb e => by
            have h1 : b = w1.heap.size := hb
            have h2 : b = w1.heap.size + 1 := Option.some.inj e
            omega))
          refine wp_append_run (.tmp 32) (.tmp 33) rfl rfl rfl hr8 ?_
          dsimp only [Act.put]
          refine hK.out _ _ (HS.out _ hb8_) (fun hH8 => ?_)
          clear hK
          (try simp only [Act.put])
          refine wpAnyH_ready (rs := [8]) (by kernel_rfl) (by simp) ?_
          refine AllReadyH.cons rfl (fun K hK => ?_) AllReadyH.nil
          rw [if_pos (by rfl)]
          (try simp only [List.getElem_toArray, List.getElem_cons_succ, List.getElem_cons_zero])
          obtain ⟨v9, w9, hr9, hrow9, hg9, how9⟩ := run_append_ints w8_ 48 w1.heap.size v8_ ([] ++ G) hrow8 (some ⟨w1.heap.size, 0, none⟩) 1 1 [x] _ xi8 (by (try simp only [List.nil_append, List.length_nil, List.length_singleton]); omega) hb8_.size
          have hb9 : Below w1.heap.size w1 w9 := hb8_.grown hg9 hb8_.size (fun j hj => (ownsRow_own hrow8 hj).1)
          refine wp_append_run (.tmp 34) (.tmp 39) rfl rfl rfl hr9 ?_
          dsimp only [Act.put]
          refine hK.out _ _ (HS.out _ hb9) (fun hH9 => ?_)
          clear hK
          (try simp only [Act.put])
          refine wpAnyH_take (i := 9) (v := ?_) rfl (by kernel_rfl) (by kernel_rfl) (by kernel_rfl) (fun _ _ _ h => h) (Or.inl ⟨by rfl, ?_⟩) hH9 ?_; rotate_left 1; (first | (focus (intro w hSw; (try dsimp only at hSw); go_simp; done)) | (focus (intro w hSw; (try dsimp only at hSw); go_simp; with_reducible rfl))); (try simp only [Act.put])
          refine wpAnyH_done (by kernel_rfl) ?_ _
          have HIE : Hid (IntsIn (fun b => w1.heap.size ≤ b) .i32 w9 v9 (G ++ [x])) := by
            show IntsIn _ _ _ _ _
            exact (ints_of_own32 hrow9).mono (fun b hb _ => hb.1)
          have HATE := Lib.hid (HATZ.out.anew hb9 HIE.out)
          have hzz := HATZ.out.below.size
          clear hrow9 hg9 how9 hr9 hH9 hb9 hH
          go_wp2_with fail
          go_roundw
          case rel => exact ⟨k + 1, by go_num, by omega, by rw [HOG.out]; unfold pushStep; rw [if_neg (fun e => hz0 (HZ.out.trans e))]; exact HATE.out, fun h => by omega, fun _ => by rw [HOG.out]; unfold pushStep; rw [if_neg (fun e => hz0 (HZ.out.trans e))]; exact HIE.out.mono (fun b hb _ => by omega)⟩
          case measure => (show n - ((k : Int) + 1).toNat < n - (k : Int).toNat; omega)
    · have g1 : ¬ ((k : Int) < (n : Int)) := by omega
      obtain rfl : k = n := by omega
      have htk : D.take k = D := List.take_of_length_le (by rw [← HNL.out]; exact Nat.le_refl _)
      rw [htk] at HAT hkp
      have HKP := Lib.hid (hkp hdlen.1)
      have hz1 := HAL.out.size
      clear hat hk0 hkp
      obtain ⟨gp, gc, rfl, _, _⟩ := id HKP.out
      go_wp2_with fail
      go_ret2
      have hA : IntsIn (fun b => w.heap.size ≤ b) .i32 wr _ _ := (ints_of_own32 HAT.out.orow).mono (fun b hb _ => by have := hb.1; omega)
      have hB : IntsIn (fun b => w.heap.size ≤ b ∨ Q b) .i32 wr _ _ := HKP.out.mono (fun b hb _ => Or.inl (by omega))
      rw [HDD.out]
      exact ⟨⟨_, _, rfl, hA, hB⟩, HAL.out.trans (HAT.out.below.mono HAL.out.size)⟩
end Go.Proofs.YtlldoofclaokgaaGreat
