/- The example of package trie: walked. -/
import Derived.Test.YtcifoallahmjbaaTq
import Derived.Test.YtcifoallahmjbaaTv
namespace Go.Proofs.Ytcifoallahmjbaa
open Go.RowKit

def awEs : List Ent := [([97], []), ([99, 104], [(1, 1, 1, false)]), ([99], [])]
theorem awOk : ∀ x ∈ awEs, EntOk x := by
  intro x hx
  simp only [awEs, List.mem_cons, List.not_mem_nil, or_false] at hx
  rcases hx with rfl | rfl | rfl <;> exact ⟨by decide, by decide, by decide⟩
theorem awCk : ckE awEs = 0 := by decide
theorem ints_lit {R : Nat → Prop} {k : IntKind} {w : World} {b : Nat} {t : TypeId} (xs : List Int) (h : w.heap[b]? = some (.cells (xs.map (Value.int k)).toArray t (0, 0))) (hR : R b) (hl : xs.length ≤ maxLen) {n cap : Nat} (hn : n = xs.length) (hc : cap = xs.length) :
    IntsIn R k w (.slice (some ⟨b, 0, none⟩) n cap) xs := by
  subst hn hc
  refine ⟨_, _, rfl, ⟨Nat.le_refl _, hl⟩, fun i x hx => ⟨b, 0, rfl, hR, (Array.getElem?_eq_some_iff.1 h).1, ?_⟩⟩
  simp [World.cell?, h, hx]
theorem els_lit1 {R : Nat → Prop} {w : World} {b : Nat} {t : TypeId} (x : El) (h : w.heap[b]? = some (.cells (elCells x).toArray t (0, 0))) (hR : R b) {cap : Nat} :
    ElsIn R w (.slice (some ⟨b, 0, none⟩) 1 cap) [x] := by
  refine ⟨_, _, rfl, fun i y hy => ⟨b, 0, rfl, hR, (Array.getElem?_eq_some_iff.1 h).1, ?_⟩⟩
  match i with
  | 0 =>
    simp only [List.getElem?_cons_zero, Option.some.injEq] at hy
    subst hy
    refine ⟨?_, ?_, ?_, ?_⟩ <;> simp [World.cell?, h, elCells]
  | i + 1 => simp at hy
theorem ents_aw {R : Nat → Prop} {w : World} {b : Nat} {t t1 t2 : TypeId} (h4 : w.heap[b + 4]? = some (.cells #[.slice (some ⟨b, 0, none⟩) 1 1, .slice none 0 0, .slice (some ⟨b + 1, 0, none⟩) 2 2, .slice (some ⟨b + 2, 0, none⟩) 1 1, .slice (some ⟨b + 3, 0, none⟩) 1 1, .slice none 0 0] t (0, 0)))
    (h0 : w.heap[b]? = some (.cells #[.int .i32 97] t1 (0, 0))) (h1 : w.heap[b + 1]? = some (.cells #[.int .i32 99, .int .i32 104] t1 (0, 0))) (h2 : w.heap[b + 2]? = some (.cells #[.int .i64 1, .int .i64 1, .int .i64 1, .bool false] t2 (0, 0))) (h3 : w.heap[b + 3]? = some (.cells #[.int .i32 99] t1 (0, 0)))
    (hR : ∀ j, j ≤ 4 → R (b + j)) : EntsIn R w (.slice (some ⟨b + 4, 0, none⟩) 3 3) awEs := by
  refine ⟨_, _, rfl, fun i y hy => ?_⟩
  have hl := (Array.getElem?_eq_some_iff.1 h4).1
  match i with
  | 0 =>
    obtain rfl : ([97], []) = y := by simpa [awEs] using hy
    exact ⟨b + 4, 0, .slice (some ⟨b, 0, none⟩) 1 1, .slice none 0 0, rfl, hR 4 (by omega), hl, by simp [World.cell?, h4], by simp [World.cell?, h4], ints_lit [97] h0 (hR 0 (by omega)) (by decide) rfl rfl, .nil _ _⟩
  | 1 =>
    obtain rfl : ([99, 104], [(1, 1, 1, false)]) = y := by simpa [awEs] using hy
    exact ⟨b + 4, 0, .slice (some ⟨b + 1, 0, none⟩) 2 2, .slice (some ⟨b + 2, 0, none⟩) 1 1, rfl, hR 4 (by omega), hl, by simp [World.cell?, h4], by simp [World.cell?, h4], ints_lit [99, 104] h1 (hR 1 (by omega)) (by decide) rfl rfl, els_lit1 _ h2 (hR 2 (by omega))⟩
  | 2 =>
    obtain rfl : ([99], []) = y := by simpa [awEs] using hy
    exact ⟨b + 4, 0, .slice (some ⟨b + 3, 0, none⟩) 1 1, .slice none 0 0, rfl, hR 4 (by omega), hl, by simp [World.cell?, h4], by simp [World.cell?, h4], ints_lit [99] h3 (hR 3 (by omega)) (by decide) rfl rfl, .nil _ _⟩
  | i + 3 => simp [awEs] at hy
theorem new_at {w : World} {o : Obj} {n : Nat} (h : w.heap.size = n) : (w.alloc o).heap[n]? = some o := h ▸ World.alloc_heap_new w o
theorem only_below {S : Nat → Prop} {n : Nat} {a b c : World} (h : Below n a b) (hn : n ≤ a.heap.size) (k : Only S b c) (hS : ∀ i, S i → n ≤ i) : Below n a c :=
  ⟨k.os.trans h.os, k.tape.trans h.tape, k.output.trans h.output, Nat.le_trans h.size k.size, fun i hi => (k.block i (by have := h.size; omega) (fun e => by have := hS i e; omega)).trans (h.block i hi)⟩
theorem awLong : lenOf awEs (lgo awEs [99, 104, 97] 3) = 2 ∧ elsOf awEs (lgo awEs [99, 104, 97] 3) = [(1, 1, 1, false)] := by decide
theorem awBeg : (awEs.any fun x => decide (([99] : List Int).length < x.1.length) && decide ([99] <+: x.1)) = true := by decide
set_option maxHeartbeats 8000000 in
set_option maxRecDepth 100000 in
theorem awake_any (w : World) :
    Calls Try.prog 7 #[] w fun e w' => e = .returned (.bool true) ∧ Below w.heap.size w w' := by
  obtain ⟨W5, hW5⟩ : ∃ W5, W5 = (((((w.alloc (.cells #[.int .i32 97] 21)).alloc (.cells #[.int .i32 99, .int .i32 104] 21)).alloc (.cells #[.int .i64 1, .int .i64 1, .int .i64 1, .bool false] 66)).alloc (.cells #[.int .i32 99] 21)).alloc (.cells #[.slice (some ⟨w.heap.size, 0, none⟩) 1 1, .slice none 0 0, .slice (some ⟨w.heap.size + 1, 0, none⟩) 2 2, .slice (some ⟨w.heap.size + 2, 0, none⟩) 1 1, .slice (some ⟨w.heap.size + 3, 0, none⟩) 1 1, .slice none 0 0] 35)) := ⟨_, rfl⟩
  have hs : W5.heap.size = w.heap.size + 5 := by rw [hW5]; simp
  have HB5 : Hid (Below w.heap.size w W5) := by
    show Below _ _ _
    rw [hW5]
    exact ((((((Below.refl _ w).alloc (Nat.le_refl _) _).alloc (by simp) _).alloc (by simp; omega) _).alloc (by simp; omega) _).alloc (by simp; omega) _)
  have HE : Hid (EntsIn (· < W5.heap.size) W5 (.slice (some ⟨w.heap.size + 4, 0, none⟩) 3 3) awEs) := by
    refine ents_aw (t := 35) (t1 := 21) (t2 := 66) ?_ ?_ ?_ ?_ ?_ (fun j hj => by show _ < _; omega) <;> (rw [hW5]; repeat (first | exact new_at (by simp only [World.size_alloc]) | rw [Below.heap_alloc _ _ _ (by simp only [World.size_alloc]; omega)]))
  have HS := Lib.hid hs
  clear hs
  go_enter Try.func7, Try.ntmps7
  go_wp2_with fail
  rw [← hW5]
  have hne := new_any awEs _ _ HE.out awOk (by decide)
  refine hne.mono ?_
  clear hne
  rintro e w1 ⟨hb1, h⟩
  obtain ⟨_, tb, N, root, lv, n, vs, rfl, hN⟩ := h.resolve_right (fun h => absurd awCk h.1)
  have HB1 : Hid (Below w.heap.size w w1) := HB5.out.trans (hb1.mono HB5.out.size)
  have HN := Lib.hid hN
  have hc : ∀ o, (W5.alloc o).heap.size = W5.heap.size + 1 := fun o => by simp
  clear hb1 hN hW5 hc
  go_wp2_with fail
  have HB2 : Hid (Below w1.heap.size w1 (w1.alloc (.cells #[.int .i32 99, .int .i32 104, .int .i32 97] 21))) := (Below.refl _ w1).alloc (Nat.le_refl _) _
  have hi3 : IntsIn (fun b => b = w1.heap.size) .i32 (w1.alloc (.cells #[.int .i32 99, .int .i32 104, .int .i32 97] 21)) (.slice (some ⟨w1.heap.size, 0, none⟩) 3 3) [99, 104, 97] := ints_lit (R := fun b => b = w1.heap.size) (k := .i32) (b := w1.heap.size) (t := 21) (n := 3) (cap := 3) [99, 104, 97] (new_at rfl) rfl (by decide) rfl rfl
  have hlg := longest_any _ [99, 104, 97] _ (HN.out.below HB2.out) (fun b hb => by have := HN.out.tlt; omega) hi3 (by decide) (by decide) (by decide) (by decide) awOk (by decide)
  rw [show lenOf awEs (lgo awEs [99, 104, 97] ([99, 104, 97] : List Int).length) = 2 from awLong.1, show elsOf awEs (lgo awEs [99, 104, 97] ([99, 104, 97] : List Int).length) = [(1, 1, 1, false)] from awLong.2] at hlg
  refine hlg.mono ?_
  rintro e w2 ⟨u, rfl, hu, hN2, hO2⟩
  clear hi3 hlg
  have HN2 := Lib.hid hN2
  have HB3 : Hid (Below w.heap.size w w2) := by
    have h1 := HB1.out.trans (HB2.out.mono HB1.out.size)
    exact only_below h1 (Nat.le_refl _) hO2 (fun b hb => by have := HN.out.tB; have := HB5.out.size; omega)
  obtain ⟨pu, cu, rfl, _⟩ := hu
  clear hN2 hO2
  go_wp2_with fail
  have HB4 : Hid (Below w2.heap.size w2 (w2.alloc (.cells #[.int .i32 99] 21))) := (Below.refl _ w2).alloc (Nat.le_refl _) _
  have hi4 : IntsIn (fun b => b = w2.heap.size) .i32 (w2.alloc (.cells #[.int .i32 99] 21)) (.slice (some ⟨w2.heap.size, 0, none⟩) 1 1) [99] := ints_lit (R := fun b => b = w2.heap.size) (k := .i32) (b := w2.heap.size) (t := 21) (n := 1) (cap := 1) [99] (new_at rfl) rfl (by decide) rfl rfl
  have hbg := begins_any _ [99] _ (HN2.out.below HB4.out) hi4 (by decide) (by decide)
  rw [awBeg] at hbg
  refine hbg.mono ?_
  rintro e w3 ⟨rfl, rfl⟩
  clear hi4 hbg
  go_wp2_with fail
  refine (len_any (HN2.out.below HB4.out)).mono ?_
  rintro e w3 ⟨rfl, rfl⟩
  go_wp2_with fail
  refine (asked_any (HN2.out.below HB4.out)).mono ?_
  rintro e w3 ⟨rfl, rfl⟩
  go_wp2_with fail
  go_ret
  exact ⟨rfl, HB3.out.alloc HB3.out.size _⟩
end Go.Proofs.Ytcifoallahmjbaa
