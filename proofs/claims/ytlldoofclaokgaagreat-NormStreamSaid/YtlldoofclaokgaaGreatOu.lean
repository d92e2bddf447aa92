/- lecternref06.Order. -/
import Derived.Test.YtlldoofclaokgaaGreatOs
namespace Go.Proofs.YtlldoofclaokgaaGreat
open Go.RowKit

theorem takeWhile_append_all {p : Int → Bool} : ∀ (A B : List Int), (∀ x ∈ A, p x = true) → (∀ x, B.head? = some x → p x = false) → (A ++ B).takeWhile p = A
  | [], B, _, h => by
    cases B with
    | nil => rfl
    | cons x xs => exact List.takeWhile_cons_of_neg (by rw [h x rfl]; simp)
  | a :: A, B, h1, h2 => by
    rw [List.cons_append, List.takeWhile_cons_of_pos (h1 a (by simp)), takeWhile_append_all A B (fun x hx => h1 x (by simp [hx])) h2]
/-- where the search has come to an end -/
theorem insC_at {f : Int → Int} {D : List Int} {x : Int} {k : Nat} (hk : k ≤ D.length) (h0 : f x = 0 → k = D.length) (h1 : ∀ (t : Nat) y, k ≤ t → D[t]? = some y → f x < f y) (h2 : ∀ y, f x ≠ 0 → 0 < k → D[k - 1]? = some y → f y ≤ f x) :
    insC f D x = D.take k ++ x :: D.drop k := by
  by_cases hx : f x = 0
  · rw [insC_zero hx, h0 hx, List.take_length, List.drop_length]
  · have ha : aheadOf f D x = D.length - k := by
      unfold aheadOf
      have e : D.reverse = (D.drop k).reverse ++ (D.take k).reverse := by rw [← List.reverse_append, List.take_append_drop]
      rw [e, takeWhile_append_all]
      · rw [List.length_reverse, List.length_drop]
      · intro y hy
        rw [List.mem_reverse] at hy
        obtain ⟨t, ht⟩ := List.mem_iff_getElem?.1 hy
        rw [List.getElem?_drop] at ht
        have := h1 (k + t) y (by omega) ht
        simpa using this
      · intro y hy
        rw [List.head?_reverse] at hy
        obtain ⟨h3, h4⟩ := last_take hy hk
        have := h2 y hx h3 h4
        simp; omega
    unfold insC
    rw [if_neg hx, ha, show D.length - (D.length - k) = k from by omega]
theorem slice_full32 (w : World) (p : Option Addr) (len cap k : Nat) (hk : k ≤ cap) : (Instr.sliceAt 48 (.slice p len cap) none (some (.int .i64 k)) (some (.int .i64 k))).run Tryz.prog w = .ok (sliced p 0 k k 1) w := by
  have he : Tryz.prog.elem 48 = 21 := by kernel_rfl
  rw [run_sliceAt_slice w 48 _ _ _ _ (by rw [he]; exact Tryz.underlying48), run_slice_hm w 48 p len cap (by rw [he]; exact Tryz.underlying48) .i64 .i64 k k (by omega) (by omega) (by omega), he]
  have hz : (sizeOf 21).run Tryz.prog w = .ok 1 w := by kernel_rfl
  rw [hz]
  simp [Result.andThen]
theorem sliced_zero (p : Option Addr) (k : Nat) : sliced p 0 k k 1 = .slice p k k := by
  unfold sliced
  rw [Nat.zero_mul, Nat.sub_zero]
  split
  · rfl
  · cases p with
    | none => rfl
    | some a => show Value.slice (some (a.add 0)) k k = _; unfold Addr.add; rw [if_pos rfl]
theorem IntsIn.cut0 {R : Nat → Prop} {w : World} {p : Option Addr} {len cap : Nat} {xs : List Int} (h : IntsIn R .i32 w (.slice p len cap) xs) (k : Nat) (hk : k ≤ xs.length) : IntsIn R .i32 w (.slice p k k) (xs.take k) := by
  obtain ⟨p', cap', e, ⟨h1, h2⟩, h3⟩ := h
  injection e with e1 e2 e3
  subst e1
  have hl : (xs.take k).length = k := by rw [List.length_take]; omega
  refine ⟨p, k, by rw [hl], ⟨by omega, by omega⟩, fun i x hx => ?_⟩
  have hik : i < k := by have := (List.getElem?_eq_some_iff.1 hx).1; omega
  rw [List.getElem?_take_of_lt hik] at hx
  exact h3 i x hx
/-- append to a slice that is full: all in new memory -/
theorem run_append_full (w : World) (ty : TypeId) (R Q : Nat → Prop) (p q : Option Addr) (k n c : Nat) (ys xs : List Int) (hy : IntsIn R .i32 w (.slice p k k) ys) (hx : IntsIn Q .i32 w (.slice q n c) xs) (hyl : ys.length = k) (hlen : k + xs.length ≤ 100000000) :
    ∃ v' w', (Builtin.append_ #[48, 48] ty #[.slice p k k, .slice q n c]).run Tryz.prog w = .ok v' w' ∧ IntsIn (fun b => (w.heap.size ≤ b ∨ (xs = [] ∧ R b))) .i32 w' v' (ys ++ xs) ∧ Below w.heap.size w w' := by
  obtain ⟨i0, hi, hz0, hz1, hz2⟩ := info_parts Tryz.infoI32
  by_cases h0 : xs = []
  · subst h0
    have hn0 : n = 0 := by obtain ⟨_, _, e, _⟩ := hx; injection e
    subst hn0
    refine ⟨_, w, run_append_empty (P := Tryz.prog) w 48 ty 21 i0 Tryz.underlying48 hi p q k k c (Nat.le_refl _), ?_, Below.refl _ _⟩
    rw [List.append_nil]
    exact hy.mono (fun b hb _ => .inr ⟨rfl, hb⟩)
  · have hxp : 0 < xs.length := List.length_pos_iff.2 h0
    obtain ⟨g5, o5, c5, e5, _, _, hc5⟩ := hx.place hxp
    injection e5 with e51 e52 e53
    subst e51 e52 e53
    have mk : ∀ (zs : List Int) (pad : Array Value) (m cp : Nat), zs.length = m → m ≤ cp → cp ≤ maxLen → IntsIn (fun b => (w.heap.size ≤ b ∨ (xs = [] ∧ R b))) .i32 (w.drew.alloc (.cells ((zs.map (Value.int .i32)).toArray ++ pad) 21)) (.slice (some ⟨w.heap.size, 0, none⟩) m cp) zs ∧ Below w.heap.size w (w.drew.alloc (.cells ((zs.map (Value.int .i32)).toArray ++ pad) 21)) := by
      intro zs pad m cp hm h1 h2
      subst hm
      refine ⟨?_, ((Below.refl _ w).drew).alloc (Nat.le_refl _) _⟩
      have hb : (w.drew.alloc (.cells ((zs.map (Value.int .i32)).toArray ++ pad) 21)).heap[w.heap.size]? = some (.cells ((zs.map (Value.int .i32)).toArray ++ pad) 21 (0, 0)) := World.alloc_heap_new w.drew _
      generalize w.drew.alloc (.cells ((zs.map (Value.int .i32)).toArray ++ pad) 21) = W' at hb ⊢
      refine ⟨_, cp, rfl, ⟨h1, h2⟩, fun i x hx => ⟨w.heap.size, 0, rfl, .inl (Nat.le_refl _), (Array.getElem?_eq_some_iff.1 hb).1, ?_⟩⟩
      have hi := (List.getElem?_eq_some_iff.1 hx).1
      have hc : ((zs.map (Value.int .i32)).toArray ++ pad)[i]? = some (.int .i32 x) := by
        rw [Array.getElem?_append_left (by simpa using hi)]
        simp [hx]
      unfold World.cell?
      simp only [hb, Nat.zero_add]
      exact hc
    by_cases hk : k = 0
    · subst hk
      have hy0 : ys = [] := List.eq_nil_of_length_eq_zero hyl
      subst hy0
      cases p with
      | none =>
        have hr := run_append_nil (P := Tryz.prog) w 48 ty 21 i0 (.int .i32 0) Tryz.underlying48 hi hz0 ⟨g5, o5, none⟩ xs.length c (xs.map (Value.int .i32)) (by rw [hz1]; simp) (news_of hc5) hxp (by omega) (by rw [hz2]; omega)
        obtain ⟨m1, m2⟩ := mk xs (Builtin.zeroCells (Value.int .i32 0).cells (grownCap w xs.length 0 21 - xs.length)) xs.length (grownCap w xs.length 0 21) rfl (grownCap_ge w _ _ _) (grownCap_le_maxLen w _ _ _ (by unfold maxLen; omega))
        exact ⟨_, _, hr, m1, m2⟩
      | some a =>
        have hr := run_append_grow (P := Tryz.prog) w 48 ty 21 i0 (.int .i32 0) Tryz.underlying48 hi hz0 a 0 0 [] (by simp) (fun j v h => by simp at h) ⟨g5, o5, none⟩ xs.length c (xs.map (Value.int .i32)) (by rw [hz1]; simp) (news_of hc5) (by omega) (by omega) (growslice_fits (by omega) (by rw [hz2]; omega))
        rw [Nat.zero_add, show ([] : List Value).toArray ++ (xs.map (Value.int .i32)).toArray = (xs.map (Value.int .i32)).toArray from by simp] at hr
        obtain ⟨m1, m2⟩ := mk xs (Builtin.zeroCells (Value.int .i32 0).cells (grownCap w xs.length 0 21 - xs.length)) xs.length (grownCap w xs.length 0 21) rfl (grownCap_ge w _ _ _) (grownCap_le_maxLen w _ _ _ (by unfold maxLen; omega))
        exact ⟨_, _, hr, m1, m2⟩
    · obtain ⟨g, o, cc, e, _, _, hcy⟩ := hy.place (by omega)
      injection e with e1 e2 e3
      subst e1
      have hr := run_append_grow (P := Tryz.prog) w 48 ty 21 i0 (.int .i32 0) Tryz.underlying48 hi hz0 ⟨g, o, none⟩ k k (ys.map (Value.int .i32)) (by rw [hz1]; simp [hyl]) (news_of hcy) ⟨g5, o5, none⟩ xs.length c (xs.map (Value.int .i32)) (by rw [hz1]; simp) (news_of hc5) (by omega) (by omega) (growslice_fits (by omega) (by rw [hz2]; omega))
      rw [show (ys.map (Value.int .i32)).toArray ++ (xs.map (Value.int .i32)).toArray = ((ys ++ xs).map (Value.int .i32)).toArray from by simp] at hr
      obtain ⟨m1, m2⟩ := mk (ys ++ xs) (Builtin.zeroCells (Value.int .i32 0).cells (grownCap w (k + xs.length) k 21 - (k + xs.length))) (k + xs.length) (grownCap w (k + xs.length) k 21) (by simp [hyl]) (grownCap_ge w _ _ _) (grownCap_le_maxLen w _ _ _ (by unfold maxLen; omega))
      exact ⟨_, _, hr, m1, m2⟩
end Go.Proofs.YtlldoofclaokgaaGreat
