/- The law TrieNone, walked. -/
import Derived.Test.YtcifoallahmjbaaTzv
import Derived.Test.YtcifoallahmjbaaTx
import Derived.LoopNIn
import Derived.Shelf.Abstract
namespace Go.Proofs.Ytcifoallahmjbaa
open Go.RowKit
attribute [local go_sem] Oper.semAt_some

def noEs : List Ent := [([97], [(5, 5, 5, false)])]
theorem noOk : ∀ x ∈ noEs, EntOk x := by
  intro x hx
  simp only [noEs, List.mem_cons, List.not_mem_nil, or_false] at hx
  subst hx; exact ⟨by decide, by decide, by decide⟩
theorem noCk : ckE noEs = 0 := by decide
theorem noGot : (idx noEs [97]).isSome = true ∧ elsOf noEs (idx noEs [97]) = [(5, 5, 5, false)] := by decide
theorem ents_no {R : Nat → Prop} {w : World} {b : Nat} {t t1 t2 : TypeId} (h2 : w.heap[b + 2]? = some (.cells #[.slice (some ⟨b, 0, none⟩) 1 1, .slice (some ⟨b + 1, 0, none⟩) 1 1] t (0, 0)))
    (h0 : w.heap[b]? = some (.cells #[.int .i32 97] t1 (0, 0))) (h1 : w.heap[b + 1]? = some (.cells #[.int .i64 5, .int .i64 5, .int .i64 5, .bool false] t2 (0, 0)))
    (hR : ∀ j, j ≤ 2 → R (b + j)) : EntsIn R w (.slice (some ⟨b + 2, 0, none⟩) 1 1) noEs := by
  refine ⟨_, _, rfl, fun i y hy => ?_⟩
  have hl := (Array.getElem?_eq_some_iff.1 h2).1
  match i with
  | 0 =>
    obtain rfl : ([97], [(5, 5, 5, false)]) = y := by simpa [noEs] using hy
    exact ⟨b + 2, 0, .slice (some ⟨b, 0, none⟩) 1 1, .slice (some ⟨b + 1, 0, none⟩) 1 1, rfl, hR 2 (by omega), hl, by simp [World.cell?, h2], by simp [World.cell?, h2], ints_lit [97] h0 (hR 0 (by omega)) (by decide) rfl rfl, els_lit1 _ h1 (hR 1 (by omega))⟩
  | i + 1 => simp [noEs] at hy
section
variable {B : Nat} {W W' : World} {tb root n : Nat} {es fs : List Ent} {S : List (List Int)} {N : NMap} {lv : Value} {asked : Int} {vs : List (Value × Value)}
/-- what lies ahead of the trie is none of it -/
theorem NewAt.setLow (h : NewAt B W tb es fs S N root lv n asked vs) {p : Addr} (hp : p.block < B) (v : Value) : NewAt B (W.setCell p v) tb es fs S N root lv n asked vs :=
  h.same (by simp [World.setCell]) (Below.heap_setCell _ _ _ _ (by have := h.tB; omega)) (fun q nb mb hq => ⟨Below.heap_setCell _ _ _ _ (by have := h.mem.ge q nb mb hq; omega), Below.heap_setCell _ _ _ _ (by have := h.mem.ge q nb mb hq; omega)⟩)
    (h.row.kept (grownBy_setAt W p v) (by
      rcases h.row.2 with ⟨rfl, _⟩ | ⟨g, cap, cur, rfl, hg, hgb, _⟩
      · exact .inl rfl
      · exact .inr (fun e => by simp [Value.ownBlock] at e; omega)))
    (fun b hb => Below.heap_setCell _ _ _ _ (by have := hb.1; omega))
/-- what Get told is none of it -/
theorem NewAt.told {p : Addr} (h : NewAt B W tb es fs S N root lv n asked vs) (h' : NewAt B W' tb es fs S N root lv n (asked + 1) vs) (ho : Only (fun k => k = tb) W W') (hp : W.heap.size ≤ p.block) (v : Value) : NewAt B (W'.setCell p v) tb es fs S N root lv n (asked + 1) vs := by
  have hz : (W'.setCell p v).heap.size = W'.heap.size := by simp [World.setCell]
  have hs : ∀ k, k < W.heap.size → k ≠ tb → (W'.setCell p v).heap[k]? = (W.setCell ⟨tb, 3, none⟩ (.int .i64 (asked + 1))).heap[k]? := fun k hk hne => by
    rw [Below.heap_setCell _ _ _ _ (by omega), Below.heap_setCell _ _ _ _ hne]; exact ho.block k hk hne
  have ha := h.ask (asked + 1)
  refine ha.same ?_ ?_ (fun q nb mb hq => ?_) ?_ (fun b hb => ?_)
  · have := ho.size; rw [hz]; simpa [World.setCell] using this
  · rw [Below.heap_setCell _ _ _ _ (by have := h.tlt; omega)]; exact h'.tcell.trans ha.tcell.symm
  · have hn := h.mem.apart h.tcell (by decide) hq
    exact ⟨hs nb (h.mem.ltN hq) hn.1, hs mb (h.mem.ltM hq) hn.2⟩
  · refine h'.row.kept (grownBy_setAt W' p v) ?_
    rcases h.row.2 with ⟨rfl, _⟩ | ⟨g, cap, cur, rfl, hg, hgb, _⟩
    · exact .inl rfl
    · have := (Array.getElem?_eq_some_iff.1 hgb).1
      exact .inr (fun e => by simp [Value.ownBlock] at e; omega)
  · have hne := lf_apart hb ha.tcell (by decide) (by decide)
    obtain ⟨_, c, t, h3, _⟩ := hb
    have hl := (Array.getElem?_eq_some_iff.1 h3).1
    exact hs b (by simpa [World.setCell] using hl) hne
end

set_option maxHeartbeats 2000000 in
set_option maxRecDepth 100000 in
theorem law_none (codes : List Int) (u : Value) (w : World) (hu : IntsIn (· < w.heap.size) .i32 w u codes) (hcw : ∀ r ∈ codes, (Lit.int .i32 r).wf = true) (hcl : codes.length * 4 ≤ 140737488351232) :
    Calls Try.prog 6 #[u] w fun e w' => e = .returned (.bool true) ∧ Below w.heap.size w w' := by
  have HU := Lib.hid hu
  obtain ⟨q, cq, rfl, _⟩ := hu
  have HCW := Lib.hid hcw
  have hcl1 : codes.length ≤ 35184372087808 := by omega
  clear hcw hcl
  refine callsIn_wide (n := 0) |>.1 ?_
  refine callsIn_of_wp_marks Try.func6 rfl trivial ?_ rfl
  simp only [Try.ntmps6, List.size_toArray, List.length_cons, List.length_nil, Nat.reduceAdd, Nat.reduceSub, Array.replicate_succ, Array.replicate_zero, List.push_toArray, List.append_toArray, List.nil_append, List.cons_append]
  gi_wp2_with fail
  refine ⟨trivial, rfl, (callsIn_wide.2 (awake_any _)).mono ?_⟩
  rintro e w1 ⟨rfl, hb1⟩
  obtain ⟨hc, hf⟩ := bcell hb1
  have HB := Lib.hid hb1
  clear hb1
  by_cases h5 : 500 < codes.length
  · have d1 : decide ((500 : Int) < (codes.length : Int)) = true := decide_eq_true (by omega)
    have d2 : decide (500 < codes.length) = true := decide_eq_true h5
    clear h5
    gi_wp2
    have hz := HB.out.size
    simp only [World.size_alloc] at hz
    refine ⟨.bool true, ?_, rfl, ?_⟩
    · simp [results, Try.results6, go_sem, hc]
    · exact (((Below.refl _ w).alloc (Nat.le_refl _) _).trans (HB.out.mono (by simp))).setCell (by simp) _
  · have d1 : decide ((500 : Int) < (codes.length : Int)) = false := decide_eq_false (by omega)
    have d2 : decide (500 < codes.length) = false := decide_eq_false h5
    gi_wp2_with fail
    refine wpIn_loop_rounds 3 ?_
    rw [roundsIn_succ]
    gi_wp2_with fail
    refine ⟨trivial, rfl, (callsIn_wide.2 (get_not _ _ _ (.inl rfl))).mono ?_⟩
    rintro e w2 ⟨rfl, rfl⟩
    gi_wp2_with fail
    refine ⟨trivial, rfl, (callsIn_wide.2 (longest_not _ _ _ (.inl rfl))).mono ?_⟩
    rintro e w2 ⟨rfl, rfl⟩
    gi_wp2_with fail
    refine ⟨trivial, rfl, (callsIn_wide.2 (begins_not _ _ _ (.inl rfl))).mono ?_⟩
    rintro e w2 ⟨rfl, rfl⟩
    gi_wp2_with fail
    refine ⟨trivial, rfl, (callsIn_wide.2 (len_not _ _ (.inl rfl))).mono ?_⟩
    rintro e w2 ⟨rfl, rfl⟩
    gi_wp2_with fail
    refine ⟨trivial, rfl, (callsIn_wide.2 (asked_not _ _ (.inl rfl))).mono ?_⟩
    rintro e w2 ⟨rfl, rfl⟩
    gi_wp2_with fail
    refine ⟨trivial, rfl, (callsIn_wide.2 (under_any _ _ _ _ _)).mono ?_⟩
    rintro e w2 ⟨rfl, hw2⟩
    gi_wp2_with fail
    have hnf : ∀ (cap : Array Value) (w : World), (binOp .neq 48 (.func (.func 39) #[] cap) .nilFunc).run Try.prog w = .ok (.bool true) w := fun _ _ => by kernel_rfl
    refine wpIn_loop_rounds 2 ?_
    rw [roundsIn_succ]
    gi_wp2_with fail
    generalize hW0 : w2.alloc (.cells #[.func (.func 39) #[] #[.pointer (some ⟨w1.heap.size + 1 + 1, 0, none⟩), .pointer (some ⟨w1.heap.size + 1 + 1 + 1, 0, none⟩)]] 48) = W0
    have hz1 := HB.out.size
    simp only [World.size_alloc] at hz1
    have b1 : Boxed W0 w.heap.size 4 (.bool false) := by
      rw [← hW0, ← hw2]
      exact (((((show Boxed w1 _ _ _ from (HB.out.block w.heap.size (by simp)).trans (Boxed.new w _ _)).alloc _).alloc _).alloc _).alloc _).alloc _
    have hz : W0.heap[w1.heap.size]? = some (.cells #[.int .i64 0, .pointer none, .slice none 0 0, .int .i64 0] 62 (0, 0)) := by
      rw [← hW0, ← hw2]; repeat (first | exact new_at (by simp only [World.size_alloc]) | rw [Below.heap_alloc _ _ _ (by simp only [World.size_alloc]; omega)])
    have hps : W0.heap[w1.heap.size + 1]? = some (.cells #[.pointer none, .pointer (some ⟨w1.heap.size, 0, none⟩)] 25 (0, 0)) := by
      rw [← hW0, ← hw2]; repeat (first | exact new_at (by simp only [World.size_alloc]) | rw [Below.heap_alloc _ _ _ (by simp only [World.size_alloc]; omega)])
    have b2 : Boxed W0 (w1.heap.size + 2) 25 (.pointer none) := by
      show W0.heap[_]? = _
      rw [← hW0, ← hw2]; repeat (first | exact new_at (by simp only [World.size_alloc]) | rw [Below.heap_alloc _ _ _ (by simp only [World.size_alloc]; omega)])
    have HW0 : Hid (Below w.heap.size w W0) := by
      show Below w.heap.size w W0; rw [← hW0, ← hw2]
      refine ((((((Below.refl _ w).alloc (Nat.le_refl _) _).trans (HB.out.mono (by simp))).alloc (by omega) _).alloc (by simp; omega) _).alloc (by simp; omega) _).alloc (by simp; omega) _ |>.alloc (by simp; omega) _
    have HZ1 := Lib.hid hz1
    clear hW0 hw2 hc hf HB d1 d2 h5
    generalize hbe : w1.heap.size = be at *
    clear hbe hz1
    refine wp_range2 4 (gf := 39) (lb := #[.pointer (some ⟨be + 1 + 1, 0, none⟩), .pointer (some ⟨be + 1 + 1 + 1, 0, none⟩)]) rfl (enters_of Try.func39 (by kernel_rfl) rfl) (under1_iter _ _ (.int .i64 0)) (fun _ => rfl)
      (fun _ W => Only (fun _ => False) W0 W) (fun _ => False) (fun _ => False) (fun _ => .only (Nat.le_refl _)) (.const _) (.const _) (fun a A h => ?pre) (Only.refl _ _)
      (fun _ => []) ?assign ?body ?after ?exit ?ret ?bad
    case assign =>
      intro l a W
      simp [roundFrame]
      gi_wp2
      exact ⟨trivial, trivial⟩
    case pre => exact ⟨_, (World.cell?_of_block (w := W0) (a := ⟨be + 2, 0, none⟩) (h.block (be + 2) b2.lt (by simp))).trans b2.cell, .inl rfl⟩
    case body => intro l a W hc; exact hc.elim
    case exit => intro a' W' h; exact h
    case ret => intro D W _ h _; exact h.elim
    case bad => intro D c s W _ h _ _; exact h.elim
    case after =>
      intro D W hD hI hK
      have ho : Only (fun _ => False) W0 W := (by rcases hI with ⟨_, _, h⟩ | h; (· exact h); exact h.elim)
      clear hI
      have d1 : Boxed W w.heap.size 4 (.bool false) := (ho.block _ b1.lt (by simp)).trans b1
      have hz2 : W.heap[be]? = _ := (ho.block _ (Array.getElem?_eq_some_iff.1 hz).1 (by simp)).trans hz
      have hp2 : W.heap[be + 1]? = _ := (ho.block _ (Array.getElem?_eq_some_iff.1 hps).1 (by simp)).trans hps
      have HW1 := Lib.hid (only_below HW0.out (Nat.le_refl _) ho (fun i h => h.elim))
      have HD : Hid (D < W.heap.size ∧ W.heap[D]? = some (.deferred (some [])) ∧ w.heap.size ≤ D) := ⟨(Array.getElem?_eq_some_iff.1 hK).1, hK, (by have := HW0.out.size; omega)⟩
      have hpc : W.cell? ⟨be + 1, 1, none⟩ = some (.pointer (some ⟨be, 0, none⟩)) := by simp [World.cell?, hp2]
      have hpf : W.frozen? ⟨be + 1, 1, none⟩ = false := by simp [World.frozen?, hp2]
      have HZC : Hid (W.cell? ⟨be, 0, none⟩ = some (.int .i64 0)) := by show _ = _; simp [World.cell?, hz2]
      clear ho b1 b2 hz hps hD hK HW0 hz2 hp2
      simp only [marked]
      gi_wp2_with fail
      rw [roundsIn_succ]
      gi_wp2_with fail
      rw [roundsIn_succ]
      gi_wp2_with fail
      refine ⟨trivial, rfl, (callsIn_wide.2 (get_not _ _ _ (.inr ⟨be, rfl, HZC.out⟩))).mono ?_⟩
      rintro e w2 ⟨rfl, rfl⟩
      gi_wp2_with fail
      refine ⟨trivial, rfl, (callsIn_wide.2 (longest_not _ _ _ (.inr ⟨be, rfl, HZC.out⟩))).mono ?_⟩
      rintro e w2 ⟨rfl, rfl⟩
      gi_wp2_with fail
      refine ⟨trivial, rfl, (callsIn_wide.2 (begins_not _ _ _ (.inr ⟨be, rfl, HZC.out⟩))).mono ?_⟩
      rintro e w2 ⟨rfl, rfl⟩
      gi_wp2_with fail
      refine ⟨trivial, rfl, (callsIn_wide.2 (len_not _ _ (.inr ⟨be, rfl, HZC.out⟩))).mono ?_⟩
      rintro e w2 ⟨rfl, rfl⟩
      gi_wp2_with fail
      refine ⟨trivial, rfl, (callsIn_wide.2 (asked_not _ _ (.inr ⟨be, rfl, HZC.out⟩))).mono ?_⟩
      rintro e w2 ⟨rfl, rfl⟩
      gi_wp2_with fail
      refine ⟨trivial, rfl, (callsIn_wide.2 (under_any _ _ _ _ _)).mono ?_⟩
      rintro e w2 ⟨rfl, hw2⟩
      gi_wp2_with fail
      refine wpIn_loop_rounds 2 ?_
      rw [roundsIn_succ]
      gi_wp2_with fail
      generalize hV0 : w2.alloc (.cells #[.func (.func 39) #[] #[.pointer (some ⟨W.heap.size, 0, none⟩), .pointer (some ⟨W.heap.size + 1, 0, none⟩)]] 48) = V0
      have hbl : Below W.heap.size W V0 := by
        rw [← hV0, ← hw2]
        exact (((Below.refl _ W).alloc (Nat.le_refl _) _).alloc (by simp) _).alloc (by simp; omega) _
      have b1 : Boxed V0 w.heap.size 4 (.bool false) := (hbl.block _ d1.lt).trans d1
      have b2 : Boxed V0 W.heap.size 25 (.pointer (some ⟨be, 0, none⟩)) := by
        show V0.heap[_]? = _
        rw [← hV0, ← hw2]; repeat (first | exact new_at (by simp only [World.size_alloc]) | rw [Below.heap_alloc _ _ _ (by simp only [World.size_alloc]; omega)])
      have hzl : be < W.heap.size := World.block_lt_of_cell? _ _ HZC.out
      have b3 : V0.cell? ⟨be, 0, none⟩ = some (.int .i64 0) := (hbl.cell (p := ⟨be, 0, none⟩) hzl).trans HZC.out
      have HV0 : Hid (Below w.heap.size w V0) := HW1.out.trans (hbl.mono HW1.out.size)
      have HD0 : Hid (D < V0.heap.size ∧ V0.heap[D]? = some (.deferred (some [])) ∧ w.heap.size ≤ D) := ⟨Nat.lt_of_lt_of_le HD.out.1 hbl.size, (hbl.block _ HD.out.1).trans HD.out.2.1, HD.out.2.2⟩
      have hbw := HW1.out.size
      clear hV0 hw2 hbl HW1 HD hpc hpf HZC hzl d1
      generalize W.heap.size = bw at *
      refine wp_range2 4 (gf := 39) (lb := #[.pointer (some ⟨bw, 0, none⟩), .pointer (some ⟨bw + 1, 0, none⟩)]) rfl (enters_of Try.func39 (by kernel_rfl) rfl) (under1_iter _ _ (.int .i64 0)) (fun _ => rfl)
        (fun _ W => Only (fun _ => False) V0 W) (fun _ => False) (fun _ => False) (fun _ => .only (Nat.le_refl _)) (.const _) (.const _) (fun a A h => ?pre) (Only.refl _ _)
        (fun _ => []) ?assign ?body ?after ?exit ?ret ?bad
      case assign =>
        intro l a W
        simp [roundFrame]
        gi_wp2
        exact ⟨trivial, trivial⟩
      case pre => exact ⟨_, (World.cell?_of_block (w := V0) (a := ⟨bw, 0, none⟩) (h.block bw b2.lt (by simp))).trans b2.cell, .inr ⟨be, rfl, (World.cell?_of_block (w := V0) (a := ⟨be, 0, none⟩) (h.block be (World.block_lt_of_cell? _ _ b3) (by simp))).trans b3⟩⟩
      case body => intro l a W hc; exact hc.elim
      case exit => intro a' W' h; exact h
      case ret => intro D W _ h _; exact h.elim
      case bad => intro D c s W _ h _ _; exact h.elim
      case after =>
        intro D2 V hD2 hI hK2
        have ho : Only (fun _ => False) V0 V := (by rcases hI with ⟨_, _, h⟩ | h; (· exact h); exact h.elim)
        clear hI
        have e1 : Boxed V w.heap.size 4 (.bool false) := (ho.block _ b1.lt (by simp)).trans b1
        have hsV := ho.size
        have HV : Hid (Below w.heap.size w V) := only_below HV0.out (Nat.le_refl _) ho (fun i h => h.elim)
        have HD1 : Hid (D < V.heap.size ∧ V.heap[D]? = some (.deferred (some [])) ∧ w.heap.size ≤ D) := ⟨Nat.lt_of_lt_of_le HD0.out.1 ho.size, (ho.block _ HD0.out.1 (by simp)).trans HD0.out.2.1, HD0.out.2.2⟩
        have HD2 : Hid (D2 < V.heap.size ∧ V.heap[D2]? = some (.deferred (some [])) ∧ w.heap.size ≤ D2 ∧ D ≠ D2) := ⟨(Array.getElem?_eq_some_iff.1 hK2).1, hK2, (by have := HV0.out.size; omega), (by have := HD0.out.1; omega)⟩
        clear ho b1 b2 b3 HV0 HD0 hD2 hK2 hsV HZ1 hbw
        simp only [marked]
        gi_wp2_with fail
        rw [roundsIn_succ]
        gi_wp2_with fail
        rw [roundsIn_succ]
        gi_wp2_with fail
        generalize hV2 : ((V.alloc (.cells #[.int .i32 97] 21)).alloc (.cells #[.int .i64 5, .int .i64 5, .int .i64 5, .bool false] 66)).alloc (.cells #[.slice (some ⟨V.heap.size, 0, none⟩) 1 1, .slice (some ⟨V.heap.size + 1, 0, none⟩) 1 1] 35) = V2
        have hz2 : V2.heap.size = V.heap.size + 3 := by rw [← hV2]; simp
        have c0 : V2.heap[V.heap.size]? = some (.cells #[.int .i32 97] 21 (0, 0)) := by
          rw [← hV2]; repeat (first | exact new_at (by simp only [World.size_alloc]) | rw [Below.heap_alloc _ _ _ (by simp only [World.size_alloc]; omega)])
        have c1 : V2.heap[V.heap.size + 1]? = some (.cells #[.int .i64 5, .int .i64 5, .int .i64 5, .bool false] 66 (0, 0)) := by
          rw [← hV2]; repeat (first | exact new_at (by simp only [World.size_alloc]) | rw [Below.heap_alloc _ _ _ (by simp only [World.size_alloc]; omega)])
        have c2 : V2.heap[V.heap.size + 2]? = some (.cells #[.slice (some ⟨V.heap.size, 0, none⟩) 1 1, .slice (some ⟨V.heap.size + 1, 0, none⟩) 1 1] 35 (0, 0)) := by
          rw [← hV2]; repeat (first | exact new_at (by simp only [World.size_alloc]) | rw [Below.heap_alloc _ _ _ (by simp only [World.size_alloc]; omega)])
        have hbV : Below V.heap.size V V2 := by rw [← hV2]; exact (((Below.refl _ V).alloc (Nat.le_refl _) _).alloc (by simp) _).alloc (by simp; omega) _
        clear hV2
        refine ⟨trivial, rfl, (callsIn_wide.2 (new_any noEs _ _ (ents_no c2 c0 c1 (fun j hj => by show _ < _; omega)) noOk (by decide))).mono ?_⟩
        rintro e w3 ⟨hb3, h⟩
        obtain ⟨_, tb, N, root, lv, n, vs, rfl, hN⟩ := h.resolve_right (fun h => absurd noCk h.1)
        have f0 : w3.heap[V.heap.size]? = _ := (hb3.block _ (by omega)).trans c0
        have f1 : w3.heap[V.heap.size + 1]? = _ := (hb3.block _ (by omega)).trans c1
        have f2 : w3.heap[V.heap.size + 2]? = _ := (hb3.block _ (by omega)).trans c2
        have p0 : w3.cell? ⟨V.heap.size + 1 + 1, 0, none⟩ = some (.slice (some ⟨V.heap.size, 0, none⟩) 1 1) := by simp [World.cell?, f2]
        have p1 : w3.cell? ⟨V.heap.size + 1 + 1, 1, none⟩ = some (.slice (some ⟨V.heap.size + 1, 0, none⟩) 1 1) := by simp [World.cell?, f2]
        have q0 : w3.cell? ⟨V.heap.size, 0, none⟩ = some (.int .i32 97) := by simp [World.cell?, f0]
        have q1 : w3.cell? ⟨V.heap.size + 1, 0, none⟩ = some (.int .i64 5) := by simp [World.cell?, f1]
        have g0 : w3.frozen? ⟨V.heap.size, 0, none⟩ = false := by simp [World.frozen?, f0]
        have g1 : w3.frozen? ⟨V.heap.size + 1, 0, none⟩ = false := by simp [World.frozen?, f1]
        generalize hw4 : (w3.setCell ⟨V.heap.size, 0, none⟩ (.int .i32 98)).setCell ⟨V.heap.size + 1, 0, none⟩ (.int .i64 9) = w4
        have HN4 := Lib.hid ((hN.setLow (p := ⟨V.heap.size, 0, none⟩) (show V.heap.size < V2.heap.size by omega) (.int .i32 98)).setLow (p := ⟨V.heap.size + 1, 0, none⟩) (show V.heap.size + 1 < V2.heap.size by omega) (.int .i64 9))
        rw [hw4] at HN4
        have HB4 : Hid (Below V.heap.size V w4) := by
          show Below _ _ _; rw [← hw4]
          exact ((hbV.trans (hb3.mono (by omega))).setCell (Nat.le_refl _) _).setCell (show V.heap.size ≤ V.heap.size + 1 by omega) _
        have HTB : Hid (V.heap.size ≤ tb) := by have := hN.tB; show _ ≤ _; omega
        clear hz2 c0 c1 c2 hbV hb3 hN h f0 f1 f2
        gi_wp2_with fail
        clear hw4 p0 p1 q0 q1 g0 g1
        have hal : Below w4.heap.size w4 (w4.alloc (.cells #[.int .i32 97] 21)) := (Below.refl _ w4).alloc (Nat.le_refl _) _
        have hi4 : IntsIn (fun b => b = w4.heap.size) .i32 (w4.alloc (.cells #[.int .i32 97] 21)) (.slice (some ⟨w4.heap.size, 0, none⟩) 1 1) [97] := ints_lit (R := fun b => b = w4.heap.size) (k := .i32) (b := w4.heap.size) (t := 21) (n := 1) (cap := 1) [97] (new_at rfl) rfl (by decide) rfl rfl
        have hN5 := HN4.out.below hal
        have hg := get_any _ [97] _ hN5 (fun b hb => by have := HN4.out.tlt; omega) hi4 (by decide) (by decide) (by decide) (by decide) noOk (by decide)
        rw [noGot.1, noGot.2] at hg
        have HB5 : Hid (Below V.heap.size V (w4.alloc (.cells #[.int .i32 97] 21))) := HB4.out.trans (hal.mono HB4.out.size)
        have HN5 := Lib.hid hN5
        clear hN5 HN4 hi4 hal HB4
        generalize w4.alloc (.cells #[.int .i32 97] 21) = w5 at *
        refine ⟨trivial, rfl, (callsIn_wide.2 hg).mono ?_⟩
        clear hg
        rintro e w6 ⟨u, rfl, ⟨pu, cu, rfl, hu⟩, hN6, hO6⟩
        obtain ⟨b6, o6, rfl, hl6, hs6, ⟨k0, _, _, _⟩⟩ := hu 0 _ rfl
        have k1 : w6.frozen? ⟨b6, o6 + 0 * 4, none⟩ = false := by
          obtain ⟨_, c, t, h3, _⟩ := hl6
          simp [World.frozen?, h3]
        have HB6 : Hid (Below V.heap.size V w6) := only_below HB5.out (Nat.le_refl _) hO6 (fun i hi => by have := HTB.out; omega)
        have HN7 := Lib.hid (HN5.out.told hN6 hO6 (p := ⟨b6, o6 + 0 * 4, none⟩) hl6.1 (.int .i64 9))
        have HB7 : Hid (Below V.heap.size V (w6.setCell ⟨b6, o6 + 0 * 4, none⟩ (.int .i64 9))) := HB6.out.setCell (show V.heap.size ≤ b6 by have := hl6.1; have := HB5.out.size; omega) _
        clear hN6 hO6 hu hl6 hs6 HN5 HB5 HB6
        simp only [Nat.zero_mul, Nat.add_zero] at k0 k1 HN7 HB7
        generalize hw7 : w6.setCell ⟨b6, o6, none⟩ (.int .i64 9) = w7 at *
        gi_wp2_with fail
        clear hw7 k0 k1
        have hal : Below w7.heap.size w7 (w7.alloc (.cells #[.int .i32 97] 21)) := (Below.refl _ w7).alloc (Nat.le_refl _) _
        have hi4 : IntsIn (fun b => b = w7.heap.size) .i32 (w7.alloc (.cells #[.int .i32 97] 21)) (.slice (some ⟨w7.heap.size, 0, none⟩) 1 1) [97] := ints_lit (R := fun b => b = w7.heap.size) (k := .i32) (b := w7.heap.size) (t := 21) (n := 1) (cap := 1) [97] (new_at rfl) rfl (by decide) rfl rfl
        have hN8 := HN7.out.below hal
        have hg := get_any _ [97] _ hN8 (fun b hb => by have := HN7.out.tlt; omega) hi4 (by decide) (by decide) (by decide) (by decide) noOk (by decide)
        rw [noGot.1, noGot.2] at hg
        have HB8 : Hid (Below V.heap.size V (w7.alloc (.cells #[.int .i32 97] 21))) := HB7.out.trans (hal.mono HB7.out.size)
        clear hN8 HN7 hi4 hal HB7
        generalize w7.alloc (.cells #[.int .i32 97] 21) = w8 at *
        refine ⟨trivial, rfl, (callsIn_wide.2 hg).mono ?_⟩
        clear hg
        rintro e w9 ⟨u, rfl, ⟨pu, cu9, rfl, hu⟩, _, hO9⟩
        obtain ⟨b9, o9, rfl, _, _, ⟨k0, _, _, _⟩⟩ := hu 0 _ rfl
        have HB9 : Hid (Below V.heap.size V w9) := only_below HB8.out (Nat.le_refl _) hO9 (fun i hi => by have := HTB.out; omega)
        have HBW9 : Hid (Below w.heap.size w w9) := HV.out.trans (HB9.out.mono HV.out.size)
        have hru := runes_any _ _ codes codes _ _ w9 (HU.out.kept (Kept.below HBW9.out)) (HU.out.kept (Kept.below HBW9.out)) (by unfold maxLen; omega) (by unfold maxLen; omega)
        rw [decide_eq_true (rfl : codes = codes)] at hru
        clear hO9 hu HB8
        simp only [Nat.zero_mul, Nat.add_zero] at k0
        gi_wp2_with fail
        refine ⟨trivial, rfl, (callsIn_wide.2 hru).mono ?_⟩
        rintro e w10 ⟨rfl, hb10⟩
        have HB10 : Hid (Below V.heap.size V w10) := HB9.out.trans (hb10.mono HB9.out.size)
        have e2 : Boxed w10 w.heap.size 4 (.bool false) := (HB10.out.block _ e1.lt).trans e1
        have h1c := e2.cell
        have h1f := e2.frozen
        clear hb10 hru k0
        gi_wp2_with fail
        have hD := HD1.out
        have hD2 := HD2.out
        have hK1 : w10.heap[D]? = some (.deferred (some [])) := (HB10.out.block _ hD.1).trans hD.2.1
        have hK2 : w10.heap[D2]? = some (.deferred (some [])) := (HB10.out.block _ hD2.1).trans hD2.2.1
        have n1 : D ≠ w.heap.size := (fun e => by rw [e] at hK1; rw [show w10.heap[w.heap.size]? = _ from e2] at hK1; cases hK1)
        have n2 : D2 ≠ w.heap.size := (fun e => by rw [e] at hK2; rw [show w10.heap[w.heap.size]? = _ from e2] at hK2; cases hK2)
        have q1 : Boxed (w10.setCell ⟨w.heap.size, 0, none⟩ (.bool true)) w.heap.size 4 (.bool true) := e2.set _
        refine leave_mark2 (v := .bool true) ?_ ?_ hD2.2.2.2 ?_ ⟨rfl, ?_⟩
        · rw [Below.heap_setCell _ _ _ _ n2]; exact hK2
        · rw [Below.heap_setCell _ _ _ _ n1]; exact hK1
        · have q2 := (boxed_putObj (D := D) (boxed_putObj (D := D2) q1 (by omega) (.deferred none)) (by omega) (.deferred none)).cell
          simp [results, Try.results6, go_sem, q2]
        · exact below_putObj (below_putObj ((HV.out.trans (HB10.out.mono HV.out.size)).setCell (Nat.le_refl _) _) hD2.2.2.1 _) hD.2.2 _
end Go.Proofs.Ytcifoallahmjbaa
