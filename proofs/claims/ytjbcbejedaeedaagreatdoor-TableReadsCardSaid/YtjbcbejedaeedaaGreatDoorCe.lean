/- slices.Clone at elements. -/
import Derived.Test.YtjbcbejedaeedaaGreatDoorBase
import Derived.Lib.SliceRun
import Derived.Maps.AppendAt
namespace Go.Proofs.YtjbcbejedaeedaaGreatDoor
open Go.RowKit

theorem Tryz.infoE : (Tryz.prog.info? 79).map (fun i => (i.zero, i.size, i.bytes)) = some (some (.agg #[.int .i64 0, .int .i64 0, .int .i64 0, .bool false]), 4, 32) := by kernel_rfl
theorem cells_new (w : World) (l : List Value) (t : TypeId) : ∀ (j : Nat) u, l[j]? = some u → (w.alloc (.cells l.toArray t)).cell? ((⟨w.heap.size, 0, none⟩ : Addr).add j) = some u := by
  intro j u hj
  have : ((⟨w.heap.size, 0, none⟩ : Addr).add j) = ⟨w.heap.size, j, none⟩ := by
    unfold Addr.add; split
    · rename_i h; rw [h]
    · simp
  rw [this]
  unfold World.cell?
  rw [World.alloc_heap_new]
  simpa using hj
theorem addr_add (b o j : Nat) : ((⟨b, o, none⟩ : Addr).add j) = ⟨b, o + j, none⟩ := by
  unfold Addr.add; split
  · rename_i h; rw [h, Nat.add_zero]
  · rfl
theorem row_none (w : World) (t : TypeId) (size : Nat) : (w.alloc (.cells #[] t)).ownsRow w.heap.size t size (.slice (some ⟨w.heap.size, 0, none⟩) 0 0) 0 [] :=
  ⟨by simp, .inr ⟨w.heap.size, 0, #[], rfl, Nat.le_refl _, World.alloc_heap_new _ _, Nat.le_refl _, Nat.zero_le _, by simp, by simp⟩⟩
/-- blocks from B on that hold runes or elements, nothing else -/
def Lf (B : Nat) (w : World) (b : Nat) : Prop := B ≤ b ∧ ∃ c t, w.heap[b]? = some (.cells c t (0, 0)) ∧ (t = 21 ∨ t = 79)
theorem Lf.keep {A A' : Nat} {w w' : World} (hk : Kept (Lf A w) w w') (hA : A' ≤ A) {b : Nat} (h : Lf A w b) : Lf A' w' b := by
  have h' := h
  obtain ⟨h1, c, t, h2, h3⟩ := h
  exact ⟨Nat.le_trans hA h1, c, t, (hk.2 b h' (Array.getElem?_eq_some_iff.1 h2).1).trans h2, h3⟩
theorem IntsIn.lf {A A' : Nat} {k : IntKind} {w w' : World} {v : Value} {xs : List Int} (h : IntsIn (Lf A w) k w v xs) (hk : Kept (Lf A w) w w') (hA : A' ≤ A) : IntsIn (Lf A' w') k w' v xs :=
  (h.kept hk).mono fun _ hb _ => hb.keep hk hA
theorem ElsIn.lf {A A' : Nat} {w w' : World} {v : Value} {xs : List El} (h : ElsIn (Lf A w) w v xs) (hk : Kept (Lf A w) w w') (hA : A' ≤ A) : ElsIn (Lf A' w') w' v xs :=
  (h.kept hk).mono fun _ hb _ => hb.keep hk hA
theorem Kept.sub {R S : Nat → Prop} {w w' : World} (h : Kept S w w') (hs : ∀ b, R b → S b) : Kept R w w' := ⟨h.1, fun b hb hl => h.2 b (hs b hb) hl⟩
/-- what a call's own row of numbers reads as -/
theorem intsIn_row {B : Nat} {k : IntKind} {w : World} {v : Value} {xs : List Int} (h : w.ownsRow B 21 1 v xs.length (xs.map (Value.int k))) : IntsIn (Lf B w) k w v xs := by
  have h' := h
  rcases h.2 with ⟨rfl, h0⟩ | ⟨g, cap, cur, rfl, hg, hr, hx1, hx2, hx⟩
  · obtain rfl := List.eq_nil_of_length_eq_zero h0
    exact .nil _ _ _
  · refine ⟨some ⟨g, 0, none⟩, cap, rfl, ⟨hx1, hx2⟩, fun i x hi => ⟨g, 0, rfl, ⟨hg, cur, _, hr, .inl rfl⟩, (Array.getElem?_eq_some_iff.1 hr).1, ?_⟩⟩
    have hil : i < xs.length := (List.getElem?_eq_some_iff.1 hi).1
    have hc := h'.cells (g := g) rfl i (.int k x) (by rw [List.getElem?_map, hi]; rfl)
    rw [addr_add] at hc; exact hc
theorem flat_at {α : Type} (f : α → List Value) (c : Nat) (hf : ∀ x, (f x).length = c) : ∀ (xs : List α) (i j : Nat) (x : α) (u : Value), xs[i]? = some x → (f x)[j]? = some u → (xs.flatMap f)[i * c + j]? = some u := by
  intro xs
  induction xs with
  | nil => intro i j x u h; simp at h
  | cons y ys ih =>
    intro i j x u h hu
    have hj : j < c := by have := (List.getElem?_eq_some_iff.1 hu).1; rw [hf] at this; exact this
    cases i with
    | zero =>
      simp at h; subst h
      rw [List.flatMap_cons, List.getElem?_append_left (by rw [hf]; omega), Nat.zero_mul, Nat.zero_add]; exact hu
    | succ i =>
      simp at h
      rw [List.flatMap_cons, List.getElem?_append_right (by rw [hf, Nat.succ_mul]; omega), hf, show (i + 1) * c + j - c = i * c + j by rw [Nat.succ_mul]; omega]
      exact ih i j x u h hu
theorem tflat_len {α : Type} (f : α → List Value) (c : Nat) (hf : ∀ x, (f x).length = c) (xs : List α) : (xs.flatMap f).length = xs.length * c := by
  induction xs with
  | nil => simp
  | cons y ys ih => rw [List.flatMap_cons, List.length_append, hf, ih, List.length_cons, Nat.succ_mul]; omega
/-- .. of elements -/
theorem elsIn_row {B : Nat} {w : World} {v : Value} {xs : List El} (h : w.ownsRow B 79 4 v xs.length (xs.flatMap elCells)) : ElsIn (Lf B w) w v xs := by
  have h' := h
  rcases h.2 with ⟨rfl, h0⟩ | ⟨g, cap, cur, rfl, hg, hr, hx⟩
  · obtain rfl := List.eq_nil_of_length_eq_zero h0
    exact .nil _ _
  · refine ⟨some ⟨g, 0, none⟩, cap, rfl, fun i x hi => ⟨g, 0, rfl, ⟨hg, cur, _, hr, .inr rfl⟩, (Array.getElem?_eq_some_iff.1 hr).1, ?_⟩⟩
    have at' : ∀ j u, (elCells x)[j]? = some u → w.cell? ⟨g, 0 + (i * 4 + j), none⟩ = some u := fun j u hu => by
      have := h'.cells (g := g) rfl (i * 4 + j) u (flat_at elCells 4 (fun _ => rfl) xs i j x u hi hu)
      rw [addr_add] at this; exact this
    exact ⟨at' 0 _ rfl, at' 1 _ rfl, at' 2 _ rfl, at' 3 _ rfl⟩

set_option maxHeartbeats 1000000 in
set_option maxRecDepth 100000 in
theorem cloneEc_any (R : Nat → Prop) (xs : List El) (v : Value) (w : World) (hv : ElsIn R w v xs) (hx : xs.length * 32 ≤ 140737488351232) :
    Calls Tryz.prog 35 #[v] w fun e w' => ∃ v', e = .returned v' ∧ ElsIn (Lf w.heap.size w') w' v' xs ∧ Below w.heap.size w w' ∧ (∀ p n c, v' = .slice p n c → n ≤ c) := by
  have HV := Lib.hid hv
  obtain ⟨p, cp, rfl, _⟩ := hv
  have HX := Lib.hid hx
  clear hx
  cases p with
  | none =>
    have hn : xs = [] := by
      cases xs with
      | nil => rfl
      | cons x xs => obtain ⟨_, _, e, _⟩ := HV.out.at 0 x rfl; cases e
    subst hn
    simp only [List.length_nil]
    have he : ∀ w, (binOp .eql 42 (.slice none 0 cp) (.slice none 0 0)).run Tryz.prog w = .ok (.bool true) w := fun w => Lib.run_eql_slice_nil w _ _ none 0 cp 0 0 Tryz.underlying42
    go_enter Tryz.func35, Tryz.ntmps35
    go_wp2
    go_ret
    exact ⟨_, rfl, .nil _ _, Below.refl _ _, fun p n c h => by cases h; exact Nat.le_refl _⟩
  | some a =>
    have he : ∀ w, (binOp .eql 42 (.slice (some a) xs.length cp) (.slice none 0 0)).run Tryz.prog w = .ok (.bool false) w := fun w => Lib.run_eql_slice_nil w _ _ (some a) _ cp 0 0 Tryz.underlying42
    obtain ⟨i0, hi, hz0, hz1, hz2⟩ := info_parts Tryz.infoE
    have NW : Hid (∀ (j : Nat) u, (xs.flatMap elCells)[j]? = some u → (w.alloc (.cells #[] 79)).cell? (a.add j) = some u) := by
      intro j u hj
      have hjl := (List.getElem?_eq_some_iff.1 hj).1
      rw [tflat_len elCells 4 (fun _ => rfl)] at hjl
      obtain ⟨x, hx⟩ : ∃ x, xs[j / 4]? = some x := ⟨xs[j / 4]'(by omega), List.getElem?_eq_getElem (by omega)⟩
      obtain ⟨b, o, e, _, hl, h0, h1, h2, h3⟩ := HV.out.at (j / 4) x hx
      cases e
      rw [addr_add, World.cell?_alloc_past _ _ _ hl]
      have key : ∀ (m : Nat) (z : Value), (elCells x)[m]? = some z → j = j / 4 * 4 + m → u = z := fun m z hz hm => by
        have := flat_at elCells 4 (fun _ => rfl) xs (j / 4) m x z hx hz
        rw [← hm, hj] at this; cases this; rfl
      have hd : j % 4 = 0 ∨ j % 4 = 1 ∨ j % 4 = 2 ∨ j % 4 = 3 := by omega
      rcases hd with hd | hd | hd | hd
      · have hj0 : j = j / 4 * 4 := by omega
        rw [key 0 _ rfl (by omega), show o + j = o + j / 4 * 4 by omega]; exact h0
      · rw [key 1 _ rfl (by omega), show o + j = o + j / 4 * 4 + 1 by omega]; exact h1
      · rw [key 2 _ rfl (by omega), show o + j = o + j / 4 * 4 + 2 by omega]; exact h2
      · rw [key 3 _ rfl (by omega), show o + j = o + j / 4 * 4 + 3 by omega]; exact h3
    have hone : ∀ u ∈ xs.flatMap elCells, u.oneCell' = true := by
      intro u hu
      obtain ⟨x, _, hu⟩ := List.mem_flatMap.1 hu
      simp [elCells] at hu
      rcases hu with rfl | rfl | rfl | rfl <;> simp [Value.oneCell']
    have HO := Lib.hid hone
    clear hone
    go_enter Tryz.func35, Tryz.ntmps35
    go_wp2_with (at_builtin; refine wpList_append_own _ rfl _ _ 42 rfl w.heap.size 79 i0 (.agg #[.int .i64 0, .int .i64 0, .int .i64 0, .bool false]) 4 32 Tryz.underlying42 hi hz0 hz1 hz2 rfl (by decide) _ _ _ rfl (row_none _ _ _) a xs.length cp (xs.flatMap elCells) rfl (tflat_len elCells 4 (fun _ => rfl) xs) NW.out HO.out (by unfold maxLen; have := HX.out; omega) (by have := HX.out; omega) (by simp) ?_; intro v' w1 hown' hgrow _)
    have HI := Lib.hid (elsIn_row (by simpa using hown'))
    have HB : Hid (Below w.heap.size w w1) := ((Below.refl _ w).alloc (Nat.le_refl _) _).grown hgrow (by simp) (fun j hj => by cases hj; exact Nat.le_refl _)
    have HCP : Hid (∀ p n c, v' = .slice p n c → n ≤ c) := by
      refine Lib.hid ?_
      intro p n c h
      rcases hown'.2 with ⟨h1, _⟩ | ⟨g, cap, cur, h1, _, _, h2, _⟩
      · rw [h1] at h; cases h; exact Nat.le_refl _
      · rw [h1] at h; cases h; exact h2
    clear hown' hgrow
    obtain ⟨pv, cv, hve, _⟩ := HI.out
    subst hve
    go_wp2
    go_ret
    exact ⟨_, rfl, HI.out, HB.out, HCP.out⟩
theorem cloneE_any (R : Nat → Prop) (xs : List El) (v : Value) (w : World) (hv : ElsIn R w v xs) (hx : xs.length * 32 ≤ 140737488351232) :
    Calls Tryz.prog 35 #[v] w fun e w' => ∃ v', e = .returned v' ∧ ElsIn (Lf w.heap.size w') w' v' xs ∧ Below w.heap.size w w' :=
  (cloneEc_any R xs v w hv hx).mono (by rintro e w' ⟨v', h1, h2, h3, _⟩; exact ⟨v', h1, h2, h3⟩)
end Go.Proofs.YtjbcbejedaeedaaGreatDoor
