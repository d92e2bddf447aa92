/- lecternref06.Parts: a slice of slices that the call makes. lecternref06.Parts. -/
import Derived.Test.YtlldoofclaokgaaGreatQb
import Derived.Test.YtlldoofclaokgaaGreatPa
/-! lecternref06.Parts: a slice of slices that the call makes. -/
namespace Go.Proofs.YtlldoofclaokgaaGreat
open Go.RowKit

/-- a slice of slices of numbers, read -/
def RowsIn (R : Nat → Prop) (w : World) (v : Value) (Ps : List (List Int)) : Prop :=
  ∃ p c, v = .slice p Ps.length c ∧ ∀ (i : Nat) xs, Ps[i]? = some xs → ∃ b o u, p = some ⟨b, o, none⟩ ∧ R b ∧ b < w.heap.size ∧ w.cell? ⟨b, o + i, none⟩ = some u ∧ IntsIn R .i32 w u xs
theorem RowsIn.nil (R : Nat → Prop) (w : World) : RowsIn R w (.slice none 0 0) [] := ⟨none, 0, rfl, fun i x h => by simp at h⟩
theorem RowsIn.kept {R : Nat → Prop} {w w' : World} {v : Value} {Ps : List (List Int)} (h : RowsIn R w v Ps) (hb : Kept R w w') : RowsIn R w' v Ps := by
  obtain ⟨p, c, h1, h2⟩ := h
  refine ⟨p, c, h1, fun i x hx => ?_⟩
  obtain ⟨b, o, u, e1, e2, e3, e4, e5⟩ := h2 i x hx
  exact ⟨b, o, u, e1, e2, Nat.lt_of_lt_of_le e3 hb.1, by rw [World.cell?_of_block (w := w) (a := ⟨b, o + i, none⟩) (hb.2 b e2 e3)]; exact e4, e5.kept hb⟩
theorem RowsIn.mono {R S : Nat → Prop} {w : World} {v : Value} {Ps : List (List Int)} (h : RowsIn R w v Ps) (hm : ∀ b, R b → b < w.heap.size → S b) : RowsIn S w v Ps := by
  obtain ⟨p, c, h1, h2⟩ := h
  refine ⟨p, c, h1, fun i x hx => ?_⟩
  obtain ⟨b, o, u, e1, e2, e3, e4, e5⟩ := h2 i x hx
  exact ⟨b, o, u, e1, hm b e2 e3, e3, e4, e5.mono hm⟩
theorem RowsIn.at {R : Nat → Prop} {w : World} {p : Option Addr} {n c : Nat} {Ps : List (List Int)} (h : RowsIn R w (.slice p n c) Ps) {i : Nat} {xs : List Int} (hx : Ps[i]? = some xs) :
    ∃ b o u, p = some ⟨b, o, none⟩ ∧ R b ∧ b < w.heap.size ∧ w.cell? ⟨b, o + i, none⟩ = some u ∧ IntsIn R .i32 w u xs := by
  obtain ⟨p', c', h1, h2⟩ := h
  cases h1
  exact h2 i xs hx
theorem addr_add (g j : Nat) : ((⟨g, 0, none⟩ : Addr).add j) = ⟨g, j, none⟩ := by
  unfold Addr.add
  split
  · rename_i h; rw [h]
  · rw [Nat.zero_add]
theorem rowq_slice {W : World} {B : Nat} {e : TypeId} {size : Nat} {v : Value} {n : Nat} {xs : List Value} (h : W.ownsRow B e size v n xs) : ∃ p c, v = .slice p n c := by
  rcases h.2 with ⟨rfl, rfl⟩ | ⟨g, cap, cur, rfl, _⟩
  · exact ⟨none, 0, rfl⟩
  · exact ⟨_, _, rfl⟩
theorem ownsRow_len {W : World} {B : Nat} {e : TypeId} {v : Value} {n : Nat} {xs : List Value} (h : W.ownsRow B e 1 v n xs) : xs.length = n := by have := h.1; omega
/-- a cell of a row of our own is stored into -/
theorem ownsRow_put {W : World} {B : Nat} {e : TypeId} {v : Value} {n : Nat} {xs : List Value} {g : Nat} (h : W.ownsRow B e 1 v n xs) (hg : v.ownBlock = some g) {k : Nat} (hk : k < n) (u : Value) :
    (W.setCell ⟨g, k, none⟩ u).ownsRow B e 1 v n (xs.set k u) := by
  obtain ⟨h0, h⟩ := h
  rcases h with ⟨rfl, _⟩ | ⟨g', cap, cur, rfl, hg', hgb, h1, h2, h3, h4⟩
  · cases hg
  · cases hg
    have hlt := (Array.getElem?_eq_some_iff.1 hgb).1
    refine ⟨by rw [List.length_set]; exact h0, .inr ⟨g', cap, cur.setIfInBounds k u, rfl, hg', ?_, h1, h2, by rw [Array.size_setIfInBounds]; exact h3, ?_⟩⟩
    · have heq := (Array.getElem?_eq_some_iff.1 hgb).2
      rw [World.setCell]
      simp only [Array.getElem?_eq_getElem, Array.size_modify, hlt, Array.getElem_modify_self, heq]
      rfl
    · rw [Array.toList_setIfInBounds, List.take_set, h4]
/-- a slice of slices that the call makes -/
structure PAt (B : Nat) (ov : Value) (vs : List Value) (Ps : List (List Int)) (W : World) : Prop where
  row : W.ownsRow B 48 1 ov Ps.length vs
  each : ∀ (i : Nat) v xs, vs[i]? = some v → Ps[i]? = some xs → W.ownsRow B 21 1 v xs.length (xs.map (Value.int .i32))
  apart : ∀ (i : Nat) v j, vs[i]? = some v → v.ownBlock = some j → ov.ownBlock ≠ some j
  apart2 : ∀ (i i' : Nat) v v' j, i ≠ i' → vs[i]? = some v → vs[i']? = some v' → v.ownBlock = some j → v'.ownBlock ≠ some j
section
variable {B : Nat} {ov : Value} {vs : List Value} {Ps : List (List Int)} {W : World}
theorem PAt.nil (B : Nat) (W : World) : PAt B (.slice none 0 0) [] [] W :=
  ⟨⟨rfl, .inl ⟨rfl, rfl⟩⟩, fun i v xs h => by simp at h, fun i v j h => by simp at h, fun i i' v v' j _ h => by simp at h⟩
theorem PAt.has (h : PAt B ov vs Ps W) {i : Nat} {v : Value} (hv : vs[i]? = some v) : ∃ xs, Ps[i]? = some xs := by
  have h1 := (List.getElem?_eq_some_iff.1 hv).1
  rw [ownsRow_len h.row] at h1
  exact ⟨Ps[i], List.getElem?_eq_getElem h1⟩
theorem PAt.hasv (h : PAt B ov vs Ps W) {i : Nat} {xs : List Int} (hv : Ps[i]? = some xs) : ∃ v, vs[i]? = some v := by
  have h1 := (List.getElem?_eq_some_iff.1 hv).1
  rw [← ownsRow_len h.row] at h1
  exact ⟨vs[i], List.getElem?_eq_getElem h1⟩
theorem PAt.low (h : PAt B ov vs Ps W) {i : Nat} {v : Value} (hv : vs[i]? = some v) {j : Nat} (hj : v.ownBlock = some j) : B ≤ j ∧ j < W.heap.size := by
  obtain ⟨xs, hx⟩ := h.has hv
  exact ownsRow_own (h.each i v xs hv hx) hj
/-- no block of it is turned -/
theorem PAt.kept (h : PAt B ov vs Ps W) {W1 : World} (hs : W.heap.size ≤ W1.heap.size) (hb : ∀ j, B ≤ j → j < W.heap.size → W1.heap[j]? = W.heap[j]?) : PAt B ov vs Ps W1 :=
  ⟨ownsRow_block h.row (fun j hj hl => hb j (ownsRow_own h.row hj).1 hl), fun i v xs hv hx => ownsRow_block (h.each i v xs hv hx) (fun j hj hl => hb j (ownsRow_own (h.each i v xs hv hx) hj).1 hl), h.apart, h.apart2⟩
theorem PAt.below (h : PAt B ov vs Ps W) {W1 : World} (hb : Below W.heap.size W W1) : PAt B ov vs Ps W1 := h.kept hb.size (fun j _ hl => hb.block j hl)
theorem PAt.rows (h : PAt B ov vs Ps W) : RowsIn (fun b => B ≤ b) W ov Ps := by
  have key : ∀ {i : Nat} {v : Value} {xs : List Int}, vs[i]? = some v → Ps[i]? = some xs → IntsIn (fun b => B ≤ b) .i32 W v xs := fun hv hx => (ints_of_own32 (h.each _ _ _ hv hx)).mono (fun b hb _ => hb.1)
  have hrow := h.row
  rcases h.row.2 with ⟨e, h0⟩ | ⟨g, cap, cur, e, hg, hgb, h1⟩
  · obtain rfl := List.eq_nil_of_length_eq_zero h0
    rw [e]; exact .nil _ _
  · refine ⟨some ⟨g, 0, none⟩, cap, e, fun i xs hx => ?_⟩
    obtain ⟨v, hv⟩ := h.hasv hx
    have := hrow.cells (g := g) (by rw [e]; rfl) i v hv
    refine ⟨g, 0, v, rfl, hg, (Array.getElem?_eq_some_iff.1 hgb).1, ?_, key hv hx⟩
    rw [addr_add] at this
    rw [Nat.zero_add]; exact this
/-- one row more, a nil one -/
theorem PAt.push (h : PAt B ov vs Ps W) {ov' : Value} {W' : World} (hrow : W'.ownsRow B 48 1 ov' (Ps.length + 1) (vs ++ [.slice none 0 0])) (hg : W.grownBy W' ov.ownBlock)
    (hown : ∀ j, ov'.ownBlock = some j → ov.ownBlock = some j ∨ W.heap.size ≤ j) : PAt B ov' (vs ++ [.slice none 0 0]) (Ps ++ [[]]) W' := by
  have hl := ownsRow_len h.row
  have split : ∀ {i : Nat} {v : Value}, (vs ++ [.slice none 0 0])[i]? = some v → vs[i]? = some v ∨ (i = vs.length ∧ v = .slice none 0 0) := by
    intro i v hv
    rcases Nat.lt_or_ge i vs.length with hi | hi
    · rw [List.getElem?_append_left hi] at hv; exact .inl hv
    · rw [List.getElem?_append_right hi] at hv
      have : i - vs.length = 0 := by have := (List.getElem?_eq_some_iff.1 hv).1; simp at this; omega
      rw [this] at hv
      simp at hv
      exact .inr ⟨by omega, hv.symm⟩
  refine ⟨by rw [List.length_append]; exact hrow, fun i v xs hv hx => ?_, fun i v j hv hj e => ?_, fun i i' v v' j hne hv hv' hj => ?_⟩
  · rcases split hv with h1 | ⟨h1, rfl⟩
    · have hi := (List.getElem?_eq_some_iff.1 h1).1
      rw [List.getElem?_append_left (by omega)] at hx
      exact ownsRow_block (h.each i v xs h1 hx) (fun j hj hl => hg.block j hl (fun e => h.apart i v j h1 hj e.symm))
    · rw [h1, hl, List.getElem?_append_right (Nat.le_refl _)] at hx
      simp at hx; subst hx
      exact ⟨rfl, .inl ⟨rfl, rfl⟩⟩
  · rcases split hv with h1 | ⟨h1, rfl⟩
    · rcases hown j e with h2 | h2
      · exact h.apart i v j h1 hj h2
      · have := (h.low h1 hj).2; omega
    · cases hj
  · rcases split hv with h1 | ⟨_, rfl⟩
    · rcases split hv' with h2 | ⟨_, rfl⟩
      · exact h.apart2 i i' v v' j hne h1 h2 hj
      · intro e; cases e
    · cases hj
/-- a row has grown, and is laid back -/
theorem PAt.put (h : PAt B ov vs Ps W) {k : Nat} {v v' : Value} {xs ys : List Int} (hv : vs[k]? = some v) (hx : Ps[k]? = some xs) {W1 : World} (hrow : W1.ownsRow B 21 1 v' ys.length (ys.map (Value.int .i32))) (hg : W.grownBy W1 v.ownBlock)
    (hown : ∀ j, v'.ownBlock = some j → v.ownBlock = some j ∨ W.heap.size ≤ j) {g : Nat} (hgb : ov.ownBlock = some g) : PAt B ov (vs.set k v') (Ps.set k ys) (W1.setCell ⟨g, k, none⟩ v') := by
  have hk := (List.getElem?_eq_some_iff.1 hx).1
  have hkv := (List.getElem?_eq_some_iff.1 hv).1
  have hgl := ownsRow_own h.row hgb
  have hrow1 : W1.ownsRow B 48 1 ov Ps.length vs := ownsRow_block h.row (fun j hj hl => hg.block j hl (fun e => h.apart k v j hv e.symm hj))
  have get : ∀ {i : Nat} {u : Value}, (vs.set k v')[i]? = some u → (i = k ∧ u = v') ∨ (i ≠ k ∧ vs[i]? = some u) := by
    intro i u hu
    by_cases hi : i = k
    · subst hi
      rw [List.getElem?_set_self hkv] at hu
      cases hu
      exact .inl ⟨rfl, rfl⟩
    · rw [List.getElem?_set_ne (Ne.symm hi)] at hu
      exact .inr ⟨hi, hu⟩
  have hne : v'.ownBlock ≠ some g := fun e => by
    rcases hown g e with h1 | h1
    · exact h.apart k v g hv h1 hgb
    · omega
  refine ⟨by rw [List.length_set]; exact ownsRow_put hrow1 hgb hk _, fun i u zs hu hz => ?_, fun i u j hu hj e => ?_, fun i i' u u' j hii hu hu' hj hj' => ?_⟩
  · rcases get hu with ⟨rfl, rfl⟩ | ⟨hi, h1⟩
    · rw [List.getElem?_set_self hk] at hz
      cases hz
      exact ownsRow_block hrow (fun j hj _ => Below.heap_setCell _ _ _ _ (fun e => hne (by rw [hj]; exact congrArg some e)))
    · rw [List.getElem?_set_ne (Ne.symm hi)] at hz
      refine ownsRow_block (h.each i u zs h1 hz) (fun j hj hl => ?_)
      rw [Below.heap_setCell _ _ _ _ (fun e => h.apart i u j h1 hj (by rw [hgb]; exact congrArg some e.symm))]
      exact hg.block j hl (fun e => h.apart2 i k u v j hi h1 hv hj e.symm)
  · rcases get hu with ⟨rfl, rfl⟩ | ⟨hi, h1⟩
    · rw [hgb] at e; cases e; exact hne hj
    · exact h.apart i u j h1 hj e
  · rcases get hu with ⟨rfl, rfl⟩ | ⟨hi, h1⟩
    · rcases get hu' with ⟨rfl, rfl⟩ | ⟨hi', h2⟩
      · exact hii rfl
      · rcases hown j hj with h3 | h3
        · exact h.apart2 i i' v u' j hii hv h2 h3 hj'
        · have := (h.low h2 hj').2; omega
    · rcases get hu' with ⟨rfl, rfl⟩ | ⟨hi', h2⟩
      · rcases hown j hj' with h3 | h3
        · exact h.apart2 i i' u v j hii h1 hv hj h3
        · have := (h.low h1 hj).2; omega
      · exact h.apart2 i i' u u' j hii h1 h2 hj hj'
end
end Go.Proofs.YtlldoofclaokgaaGreat
/-! lecternref06.Parts. -/
namespace Go.Proofs.YtlldoofclaokgaaGreat
open Go.RowKit

theorem Tryz.infoS32 : (Tryz.prog.info? 48).map (fun i => (i.zero, i.size, i.bytes)) = some (some (.slice none 0 0), 1, 24) := by kernel_rfl
theorem row_free {W : World} {B : Nat} {e : TypeId} {v : Value} {n : Nat} {xs : List Value} {g : Nat} (h : W.ownsRow B e 1 v n xs) (hg : v.ownBlock = some g) (k : Nat) : W.frozen? ⟨g, k, none⟩ = false := by
  rcases h.2 with ⟨rfl, _⟩ | ⟨g', cap, cur, rfl, hg', hgb, _⟩
  · cases hg
  · cases hg
    simp [World.frozen?, hgb]
/-- a block laid ahead of what grows -/
theorem growA {W W' : World} {o : Obj} {row : Option Nat} (h : (W.drew.alloc o).grownBy W' row) : W.grownBy W' row :=
  ⟨h.os, h.tape, h.output, by have := h.size; simp at this; omega, fun k hk hr => (h.block k (by simp; omega) hr).trans (Below.heap_alloc _ _ _ (by simpa using hk))⟩
theorem growB {W W' : World} {o : Obj} {row : Option Nat} (h : (W.alloc o).grownBy W' row) : W.grownBy W' row :=
  ⟨h.os, h.tape, h.output, by have := h.size; simp at this; omega, fun k hk hr => (h.block k (by simp; omega) hr).trans (Below.heap_alloc _ _ _ (by simpa using hk))⟩
theorem parts_take {f : Int → Int} {D : List Int} {k : Nat} {x : Int} (hx : D[k]? = some x) : parts f (D.take (k + 1)) = partStep f (parts f (D.take k)) x := by
  rw [take_snoc hx]; unfold parts; rw [List.foldl_append]; rfl
theorem parts_len (f : Int → Int) : ∀ (D : List Int), (parts f D).length ≤ D.length ∧ ∀ p ∈ parts f D, p.length ≤ D.length := by
  have key : ∀ (D : List Int) (s : List (List Int)) (m : Nat), s.length ≤ m → (∀ p ∈ s, p.length ≤ m) → (D.foldl (partStep f) s).length ≤ m + D.length ∧ ∀ p ∈ D.foldl (partStep f) s, p.length ≤ m + D.length := by
    intro D
    induction D with
    | nil => intro s m h1 h2; exact ⟨h1, h2⟩
    | cons x xs ih =>
      intro s m h1 h2
      have := ih (partStep f s x) (m + 1) ?_ ?_
      · rw [List.foldl_cons, List.length_cons]
        refine ⟨by omega, fun p hp => by have := this.2 p hp; omega⟩
      · unfold partStep
        split
        · simp
        · rename_i p hp
          split
          · simp; omega
          · simp; omega
      · intro p hp
        unfold partStep at hp
        split at hp
        · simp at hp; subst hp; simp
        · rename_i q hq
          have hqm := h2 q (List.mem_of_getLast? hq)
          split at hp
          · rcases List.mem_append.1 hp with h | h
            · have := h2 p h; omega
            · simp at h; subst h; simp
          · rcases List.mem_append.1 hp with h | h
            · have := h2 p (List.dropLast_subset _ h); omega
            · simp at h; subst h; simp; omega
  intro D
  have := key D [] 0 (Nat.le_refl _) (fun p hp => by cases hp)
  unfold parts
  refine ⟨by omega, fun p hp => by have := this.2 p hp; omega⟩
theorem step_push {f : Int → Int} {Ps : List (List Int)} {x : Int} (h : Ps = [] ∨ f x = 0) : (Ps ++ [[]]).set Ps.length ([] ++ [x]) = partStep f Ps x := by
  rcases h with rfl | h
  · rfl
  · rw [partStep_zero h, List.set_append_right _ _ (Nat.le_refl _), Nat.sub_self]; rfl
theorem step_grow {f : Int → Int} {Ps : List (List Int)} {x : Int} {q : Nat} {ys : List Int} (hq : Ps.length = q + 1) (hy : Ps[q]? = some ys) (h : f x ≠ 0) : Ps.set q (ys ++ [x]) = partStep f Ps x := by
  obtain ⟨s, p, rfl⟩ : ∃ s p, Ps = s ++ [p] := by
    have hne : Ps ≠ [] := fun e => by rw [e] at hq; simp at hq
    exact ⟨Ps.dropLast, Ps.getLast hne, (List.dropLast_concat_getLast hne).symm⟩
  have hl : s.length = q := by simp at hq; exact hq
  subst hl
  rw [List.getElem?_append_right (Nat.le_refl _), Nat.sub_self] at hy
  simp at hy; subst hy
  rw [partStep_on h, List.set_append_right _ _ (Nat.le_refl _), Nat.sub_self]; rfl
def RPartsTold (f : Int → Int) (D : List Int) (w : World) (e : Ending) (w' : World) : Prop := (∃ ov, e = .returned ov ∧ RowsIn (fun b => w.heap.size ≤ b) w' ov (parts f D)) ∧ Below w.heap.size w w'
set_option maxHeartbeats 8000000 in
set_option maxRecDepth 1000000 in
theorem rparts_any (R Rd Q : Nat → Prop) (c d : List T3) (u v : Value) (L : List Int) (lv : Value) (w : World) (hu : TrisIn R .i64 w u c) (hv : TrisIn Rd .i32 w v d) (ho : dataOk c d = true) (hL : IntsIn Q .i32 w lv L) (hll : L.length ≤ 1000000000) :
    Calls Tryz.prog 35 #[.agg #[u, v], lv] w (RPartsTold (clsOf c) (nfdOf (clsOf c) (fun r => (deep d 4 r).1) L) w) := by
  obtain ⟨i1, hi1, hy0, hy1, hy2⟩ := info_parts Tryz.infoS32
  have HU := Lib.hid hu
  have HV := Lib.hid hv
  have HO := Lib.hid ho
  have HL := Lib.hid hL
  obtain ⟨qq, cq, rfl, _, _⟩ := hu
  obtain ⟨p, cp, rfl, _, _⟩ := hv
  obtain ⟨lp, lc, rfl, _, _⟩ := hL
  have hal : Below w.heap.size w (w.alloc (.cells #[.slice qq c.length cq, .slice p d.length cp] 57)) := (Below.refl _ w).alloc (Nat.le_refl _) _
  have hxd : (w.alloc (.cells #[.slice qq c.length cq, .slice p d.length cp] 57)).heap[w.heap.size]? = some (.cells #[.slice qq c.length cq, .slice p d.length cp] 57 (0, 0)) := World.alloc_heap_new _ _
  have HAL := Lib.hid hal
  have HXD := Lib.hid hxd
  have hrn := rnfd_any _ _ _ c d _ _ L _ (w.alloc (.cells #[.slice qq c.length cq, .slice p d.length cp] 57)) (HU.out.kept (Kept.below hal)) (HV.out.kept (Kept.below hal)) ho (HL.out.kept (Kept.below hal)) hll
  have HU0 : Hid (TrisIn (fun _ => True) .i64 (w.alloc (.cells #[.slice qq c.length cq, .slice p d.length cp] 57)) (.slice qq c.length cq) c) := (HU.out.kept (Kept.below hal)).mono (fun _ _ _ => trivial)
  clear ho hal
  obtain ⟨c0, c1, _, _⟩ := two_cells hxd
  clear hxd
  obtain ⟨D, hDD⟩ : ∃ D, D = nfdOf (clsOf c) (fun r => (deep d 4 r).1) L := ⟨_, rfl⟩
  rw [← hDD]
  unfold RNfdTold at hrn
  rw [← hDD] at hrn
  have HLEN : Hid (D.length ≤ 100000000) := by
    show D.length ≤ 100000000
    rw [hDD]
    unfold nfdOf
    split
    · rename_i h
      rw [ordL_len]
      have h1 := (flat_len (norm_made 0 c d HO.out).dlen L).2
      have h2 : L.length ≤ 4096 := by unfold nfdE at h; split at h <;> (try split at h) <;> omega
      omega
    · simp
  have HNO : Hid (nfdE L ≠ 0 → D = []) := fun h => by rw [hDD]; unfold nfdOf; rw [if_neg h]
  clear hDD
  generalize nfdE L = ee at *
  go_enter Tryz.func35, Tryz.ntmps35
  go_wp2_with fail
  generalize w.alloc (.cells #[.slice qq c.length cq, .slice p d.length cp] 57) = V0 at *
  obtain ⟨xb, hxb⟩ : ∃ xb, xb = w.heap.size := ⟨_, rfl⟩
  rw [← hxb] at HXD ⊢
  have HXB := Lib.hid hxb
  clear c0 c1 hxb
  with_reducible refine hrn.mono ?_
  rintro e w1 ⟨⟨dv, rfl, hdi⟩, hb1⟩
  have HB1 := Lib.hid hb1
  have HX1 : Hid (w1.heap[xb]? = some (.cells #[.slice qq c.length cq, .slice p d.length cp] 57 (0, 0)) ∧ xb < w1.heap.size) := by
    have hxl := (Array.getElem?_eq_some_iff.1 HXD.out).1
    exact ⟨(hb1.block xb hxl).trans HXD.out, Nat.lt_of_lt_of_le hxl hb1.size⟩
  have HU1 := Lib.hid (HU0.out.kept (Kept.below hb1))
  have HDI : Hid (IntsIn (fun b => b < w1.heap.size) .i32 w1 dv D) := hdi.mono (fun b _ hl => hl)
  obtain ⟨dp, dc, rfl, _, _⟩ := hdi
  obtain ⟨n, hn⟩ : ∃ n, n = D.length := ⟨_, rfl⟩
  rw [← hn] at HDI HLEN ⊢
  have hnl := HLEN.out
  have HNL := Lib.hid hn
  have HBW : Hid (Below w.heap.size w w1) := HAL.out.trans (hb1.mono HAL.out.size)
  clear hrn hb1 hn HLEN
  by_cases he : ee = 0
  · have ge : (ee != 0) = false := by simp [he]
    clear HNO
    go_wp2_with fail
    go_loopw [7, 8] (fun ov iv W => ∃ (k : Nat) (vs : List Value), iv = .int .i64 k ∧ k ≤ n ∧ PAt w1.heap.size ov vs (parts (clsOf c) (D.take k)) W ∧ Below w1.heap.size w1 W) (fun _ iv _ => n - (intOf iv).toNat)
    case atStart => exact ⟨0, [], rfl, Nat.zero_le _, PAt.nil _ _, Below.refl _ _⟩
    case round =>
      obtain ⟨k, vs, rfl, hkn, hat, hbw⟩ := hrel
      have HBR := Lib.hid hbw
      have hpl := parts_len (clsOf c) (D.take k)
      obtain ⟨Ps, hPs⟩ : ∃ Ps, Ps = parts (clsOf c) (D.take k) := ⟨_, rfl⟩
      rw [← hPs] at hat hpl
      have hlt0 : (D.take k).length ≤ k := by rw [List.length_take]; omega
      have HYL0 : Hid (∀ p ∈ Ps, p.length ≤ k) := fun p hp => Nat.le_trans (hpl.2 p hp) hlt0
      obtain ⟨m, hm⟩ : ∃ m, m = Ps.length := ⟨_, rfl⟩
      have hmk : m ≤ k := by rw [hm]; exact Nat.le_trans hpl.1 hlt0
      have HPR := Lib.hid hat
      have HPS := Lib.hid hPs
      obtain ⟨op, oc, hoe⟩ := rowq_slice hat.row
      subst hoe
      have HM : Hid (Ps.length = m) := hm.symm
      rw [HM.out] at HPR ⊢
      clear hpl hPs hm hlt0 hat
      by_cases hlt : k < n
      · have g1 : (k : Int) < (n : Int) := by omega
        obtain ⟨x, hx⟩ : ∃ x, D[k]? = some x := ⟨D[k]'(by rw [← HNL.out]; exact hlt), List.getElem?_eq_getElem _⟩
        obtain ⟨lb, lo, e1, hbl, c0⟩ := (HDI.out.kept (Kept.below hbw)).atC hx
        have hbd : lb < w1.heap.size := by
          obtain ⟨lb', lo', e1', hb', _⟩ := HDI.out.at k (by rw [← HNL.out]; exact hlt)
          rw [e1] at e1'; cases e1'; exact hb'
        subst e1
        have HX := Lib.hid hx
        have HDL := Lib.hid hbd
        have HTK : Hid (parts (clsOf c) (D.take (k + 1)) = partStep (clsOf c) Ps x) := by show _ = _; rw [parts_take hx, HPS.out]
        obtain ⟨d0, d1, _, _⟩ := two_cells ((hbw.block xb HX1.out.2).trans HX1.out.1)
        have hxl2 : xb < wr.heap.size := Nat.lt_of_lt_of_le HX1.out.2 hbw.size
        have hca : ∀ u', Calls Tryz.prog 31 #[.agg #[.slice qq c.length cq, .slice p d.length cp], .int .i32 x] (over wr u') fun e w' => e = .returned (.int .i64 (clsOf c x)) ∧ Below (over wr u').heap.size (over wr u') w' :=
          fun u' => dclass_any _ c _ p d.length cp x _ ((HU1.out.kept (Kept.below hbw)).kept (Kept.below (below_over wr u'))) (data_parts HO.out).1
        obtain ⟨z, hz⟩ : ∃ z, z = clsOf c x := ⟨_, rfl⟩
        rw [← hz] at hca
        have HCA := Lib.hid hca
        have HZ := Lib.hid hz
        clear hx hbw hca hz hbd
        by_cases hm0 : m = 0
        · have gm : ((m : Int) == 0) = true := by simp; omega
          have HST0 : Hid (Ps = [] ∨ clsOf c x = 0) := .inl (List.eq_nil_of_length_eq_zero (by rw [HM.out]; exact hm0))
          clear hm0
          go_wp2_with fail
          refine wp_region_over (by kernel_rfl) (by kernel_rfl) ?_; (repeat (go_big_quiet_step (((fail))))); refine wpQuiet_nil ?_; intro w2 hb2
          have HB2 : Hid (Below w1.heap.size w1 w2) := HBR.out.trans (hb2.mono HBR.out.size)
          have HP2 : Hid (PAt w1.heap.size (.slice op m oc) vs Ps w2) := HPR.out.below hb2
          clear hb2 c0 d0 d1 HCA HPR HBR hxl2 hbl
          go_wp2_with (at_builtin; refine app_stop ⟨_, _, rfl⟩ ?_)
          refine Lib.hid ?_
          have hza4 : w1.heap.size ≤ (w2.alloc (.cells #[.slice none 0 0] 48)).heap.size := by have := HB2.out.size; simp; omega
          have hmle : m ≤ 100000000 := by omega
          refine wpList_append_own_at _ rfl _ _ 85 rfl w1.heap.size 48 i1 (.slice none 0 0) 1 24 Tryz.underlying85 hi1 hy0 hy1 hy2 rfl (by decide) _ m vs rfl ((HM.out ▸ HP2.out.row).alloc _) ⟨w2.heap.size, 0, none⟩ 1 1 [.slice none 0 0] rfl rfl (row_new w2 [.slice none 0 0] _) (by simp [Value.oneCell']) (by unfold maxLen; omega) (by omega) hza4 ?_
          intro v3 w3 hrow3 hg3 _ how3
          obtain ⟨op3, oc3, he3⟩ := rowq_slice hrow3
          subst he3
          generalize hm1 : m + 1 = m1 at hrow3 how3 ⊢
          have HPA : Hid (PAt w1.heap.size (.slice op3 m1 oc3) (vs ++ [.slice none 0 0]) (Ps ++ [[]]) w3) := by
            refine HP2.out.push (by rw [HM.out, hm1]; exact hrow3) (growB hg3) ?_
            intro j hj
            rcases how3 with e | e
            · exact .inl (e.symm.trans hj)
            · rw [e] at hj; refine .inr ?_; cases hj; simp
          have HBA : Hid (Below w1.heap.size w1 w3) := below_grown (HB2.out.alloc HB2.out.size _) hg3 hza4 (fun j hj => (ownsRow_own HP2.out.row hj).1)
          obtain ⟨q, hq⟩ : ∃ q, q = m := ⟨_, rfl⟩
          have HMK : Hid (m1 ≤ n + 1) := by show _ ≤ _; omega
          have HM1 : Hid ((Ps ++ [[]]).length = m1 ∧ m1 = q + 1) := ⟨by rw [List.length_append, HM.out]; exact hm1, by omega⟩
          have HYL : Hid (∀ p ∈ Ps ++ [[]], p.length ≤ k) := fun p hp => by
            rcases List.mem_append.1 hp with h | h
            · exact HYL0.out p h
            · simp at h; subst h; exact Nat.zero_le _
          have HST : Hid (∀ ys, (Ps ++ [[]])[q]? = some ys → (Ps ++ [[]]).set q (ys ++ [x]) = partStep (clsOf c) Ps x) := fun ys h => by
            have hql : q = Ps.length := by rw [hq, HM.out]
            rw [hql, List.getElem?_append_right (Nat.le_refl _), Nat.sub_self] at h
            simp at h; subst h
            rw [hql]; exact step_push HST0.out
          clear hrow3 hg3 how3 hza4 HP2 HB2 hm1 hq hmle
          obtain ⟨g, hog, hgb⟩ : ∃ g, op3 = some ⟨g, 0, none⟩ ∧ (Value.slice (some ⟨g, 0, none⟩) m1 oc3).ownBlock = some g := by
            rcases HPA.out.row.2 with ⟨_, h0⟩ | ⟨g, cap, cur, e, _⟩
            · exfalso; have := HM1.out; omega
            · injection e with e1 _ _; exact ⟨g, e1, rfl⟩
          subst hog
          have HGB := Lib.hid hgb
          have hq1 : q < m1 := by have := HM1.out; omega
          have g3 : (q : Int) < (m1 : Int) := by omega
          have hqb : q ≤ 100000000 := by have := HMK.out; have := HM1.out.2; omega
          obtain ⟨ys, hys⟩ : ∃ ys, (Ps ++ [[]])[q]? = some ys := ⟨_, List.getElem?_eq_getElem (by rw [HM1.out.1]; exact hq1)⟩
          obtain ⟨yv, hyv⟩ := HPA.out.hasv hys
          have hyr0 := HPA.out.each q yv ys hyv hys
          obtain ⟨yp, yc, hye⟩ := rowq_slice hyr0
          subst hye
          have hzw := HBA.out.size
          have hgl0 := (ownsRow_own HPA.out.row hgb).2
          have HYR : Hid ((w3.drew.alloc (.cells #[.int .i32 x] 21)).ownsRow w1.heap.size 21 1 (.slice yp ys.length yc) ys.length (ys.map (Value.int .i32))) := (ownsRow_block (W' := w3.drew) hyr0 (fun _ _ _ => rfl)).alloc _
          have HXI : Hid (IntsIn (fun b => b = w3.heap.size) .i32 (w3.drew.alloc (.cells #[.int .i32 x] 21)) (.slice (some ⟨w3.heap.size, 0, none⟩) 1 1) [x]) := ints_one (World.alloc_heap_new w3.drew _)
          have HZA : Hid (w1.heap.size ≤ (w3.drew.alloc (.cells #[.int .i32 x] 21)).heap.size) := by show _ ≤ _; simp; omega
          have hoc := HPA.out.row.cells hgb q _ hyv
          have hoc1 : w3.cell? ⟨g, q, none⟩ = some (.slice yp ys.length yc) := by rw [addr_add] at hoc; exact hoc
          have hof1 : w3.frozen? ⟨g, q, none⟩ = false := row_free HPA.out.row hgb q
          have halB : Below w3.heap.size w3 (w3.drew.alloc (.cells #[.int .i32 x] 21)) := ((Below.refl _ w3).drew).alloc (Nat.le_refl _) _
          have HOC : Hid ((w3.drew.alloc (.cells #[.int .i32 x] 21)).cell? ⟨g, q, none⟩ = some (.slice yp ys.length yc)) := (halB.cell (p := ⟨g, q, none⟩) hgl0).trans hoc1
          have HOF : Hid ((w3.drew.alloc (.cells #[.int .i32 x] 21)).frozen? ⟨g, q, none⟩ = false) := (halB.frozen (p := ⟨g, q, none⟩) hgl0).trans hof1
          have HGL : Hid (g < (w3.drew.alloc (.cells #[.int .i32 x] 21)).heap.size) := by show _ < _; simp; omega
          have HNE : Hid (some g ≠ (Value.slice yp ys.length yc).ownBlock) := fun e => HPA.out.apart q _ g hyv e.symm hgb
          have HVQ := Lib.hid hyv
          have HPQ := Lib.hid hys
          have hyl : ys.length ≤ k := HYL.out ys (List.mem_of_getElem? hys)
          obtain ⟨lb', lo', el', hbl', cd⟩ := (HDI.out.kept (Kept.below HBA.out)).atC HX.out
          cases el'
          have HSD : Hid (∀ W1, (w3.drew.alloc (.cells #[.int .i32 x] 21)).grownBy W1 (Value.slice yp ys.length yc).ownBlock → W1.cell? ⟨lb, lo + k, none⟩ = some (.int .i32 x)) := fun W1 hgw => hgw.cell ((halB.cell (p := ⟨lb, lo + k, none⟩) hbl').trans cd) (fun e => by
            exact Nat.not_le_of_lt HDL.out (ownsRow_own hyr0 e.symm).1)
          have HSE : Hid (∀ W1 u, (w3.drew.alloc (.cells #[.int .i32 x] 21)).grownBy W1 (Value.slice yp ys.length yc).ownBlock → (W1.setCell ⟨g, q, none⟩ u).cell? ⟨lb, lo + k, none⟩ = some (.int .i32 x)) := fun W1 u hgw => by
            rw [World.cell?_setCell_other _ _ _ _ (by intro e; injection e with e1 _ _; exact Nat.not_le_of_lt HDL.out (e1 ▸ (ownsRow_own HPA.out.row HGB.out).1))]
            exact HSD.out W1 hgw
          have hxa0 : (w3.drew.alloc (.cells #[.int .i32 x] 21)).cell? ⟨lb, lo + k, none⟩ = some (.int .i32 x) := (halB.cell (p := ⟨lb, lo + k, none⟩) hbl').trans cd
          have HXA := Lib.hid hxa0
          have hxd1 : w3.drew.cell? ⟨lb, lo + k, none⟩ = some (.int .i32 x) := cd
          have HXE := Lib.hid hxd1
          have hoc2 : w3.drew.cell? ⟨g, q, none⟩ = some (.slice yp ys.length yc) := hoc1
          have HOC2 := Lib.hid hoc2
          have HRE : Hid (∀ V W, PAt w1.heap.size (.slice (some ⟨g, 0, none⟩) m1 oc3) V ((Ps ++ [[]]).set q (ys ++ [x])) W → PAt w1.heap.size (.slice (some ⟨g, 0, none⟩) m1 oc3) V (partStep (clsOf c) Ps x) W) := fun V W h => by
            rw [HST.out ys HPQ.out] at h; exact h
          have e9 : (m1 : Int) - 1 = (q : Int) := by have := HM1.out.2; omega
          clear hys hyv hyr0 hgb hoc hoc1 hof1 hgl0 hxa0 hoc2 cd hbl' halB hxd1 HYL HM1 HST
          go_wp2_with fail
          have hxd0 := HXE.out
          clear e9
          refine wp_region_held_drew (S := fun u : World => u.cell? ⟨lb, lo + k, none⟩ = some (.int .i32 x)) (by kernel_rfl) hxd0 (fun hH => ?_)
          clear hxd0
          refine wpAnyH_take (i := 0) (v := ?_) rfl (by kernel_rfl) (by kernel_rfl) (by kernel_rfl) (fun _ _ _ h => h) (Or.inl ⟨by first | kernel_rfl | rfl, ?_⟩) hH ?_; rotate_left 1; (first | (focus (intro w hSw; (try dsimp only at hSw); go_simp; done)) | (focus (intro w hSw; (try dsimp only at hSw); go_simp; with_reducible rfl))); (try simp only [Act.put])
          refine wpAnyH_take (i := 1) (v := ?_) rfl (by kernel_rfl) (by kernel_rfl) (by kernel_rfl) (fun _ _ _ h => h) (Or.inl ⟨by first | kernel_rfl | rfl, ?_⟩) hH ?_; rotate_left 1; (first | (focus (intro w hSw; (try dsimp only at hSw); go_simp; done)) | (focus (intro w hSw; (try dsimp only at hSw); go_simp; with_reducible rfl))); (try simp only [Act.put])
          refine wpAnyH_take (i := 2) (v := ?_) rfl (by kernel_rfl) (by kernel_rfl) (by kernel_rfl) (fun _ _ _ h => h) (Or.inl ⟨by first | kernel_rfl | rfl, ?_⟩) hH ?_; rotate_left 1; (first | (focus (intro w hSw; (try dsimp only at hSw); go_simp; done)) | (focus (intro w hSw; (try dsimp only at hSw); go_simp; with_reducible rfl))); (try simp only [Act.put])
          refine wpAnyH_take (i := 3) (v := ?_) rfl (by kernel_rfl) (by kernel_rfl) (by kernel_rfl) (fun _ _ _ h => h) (Or.inl ⟨by first | kernel_rfl | rfl, ?_⟩) hH ?_; rotate_left 1; (first | (focus (intro w hSw; (try dsimp only at hSw); go_simp; done)) | (focus (intro w hSw; (try dsimp only at hSw); go_simp; with_reducible rfl))); (try simp only [Act.put])
          refine wpAnyH_take (i := 4) (v := ?_) rfl (by kernel_rfl) (by kernel_rfl) (by kernel_rfl) (fun _ _ _ h => h) (Or.inl ⟨by first | kernel_rfl | rfl, ?_⟩) hH ?_; rotate_left 1; (first | (focus (intro w hSw; (try dsimp only at hSw); go_simp; done)) | (focus (intro w hSw; (try dsimp only at hSw); go_simp; with_reducible rfl))); (try simp only [Act.put])
          refine wpAnyH_take (i := 6) (v := ?_) rfl (by kernel_rfl) (by kernel_rfl) (by kernel_rfl) (fun _ _ _ h => h) (Or.inl ⟨by first | kernel_rfl | rfl, ?_⟩) hH ?_; rotate_left 1; (first | (focus (intro w hSw; (try dsimp only at hSw); go_simp; done)) | (focus (intro w hSw; (try dsimp only at hSw); go_simp; with_reducible rfl))); (try simp only [Act.put])
          refine wpAnyH_take (i := 7) (v := ?_) rfl (by kernel_rfl) (by kernel_rfl) (by kernel_rfl) (fun _ _ _ h => h) (Or.inl ⟨by first | kernel_rfl | rfl, ?_⟩) hH ?_; rotate_left 1; (first | (focus (intro w hSw; (try dsimp only at hSw); go_simp; done)) | (focus (intro w hSw; (try dsimp only at hSw); go_simp; with_reducible rfl))); (try simp only [Act.put])
          refine wpAnyH_take (i := 8) (v := ?_) rfl (by kernel_rfl) (by kernel_rfl) (by kernel_rfl) (fun _ _ _ h => h) (Or.inl ⟨by first | kernel_rfl | rfl, ?_⟩) hH ?_; rotate_left 1; (first | (focus (intro w hSw; (try dsimp only at hSw); go_simp; done)) | (focus (intro w hSw; (try dsimp only at hSw); go_simp; with_reducible rfl))); (try simp only [Act.put])
          refine wpAnyH_take (i := 9) (v := ?_) rfl (by kernel_rfl) (by kernel_rfl) (by kernel_rfl) (fun _ _ _ h => h) (Or.inl ⟨by first | kernel_rfl | rfl, ?_⟩) hH ?_; rotate_left 1; (first | (focus (intro w hSw; (try dsimp only at hSw); go_simp; done)) | (focus (intro w hSw; (try dsimp only at hSw); go_simp; with_reducible rfl))); (try simp only [Act.put])
          refine wpAnyH_ready (rs := [5, 10]) (by kernel_rfl) (by simp) ?_
          refine AllReadyH.cons rfl (fun K hK => ?_) (AllReadyH.cons rfl (fun K hK => ?_) AllReadyH.nil)
          · rw [if_pos (by first | kernel_rfl | rfl)]
            have hoc2 := HOC2.out
            go_simp
            refine hK.out _ _ hH (fun hH5 => ?_)
            clear hK hH
            (try simp only [Act.put])
            refine wpAnyH_ready (rs := [10]) (by kernel_rfl) (by simp) ?_
            refine AllReadyH.cons rfl (fun K hK => ?_) AllReadyH.nil
            rw [if_pos (by first | kernel_rfl | rfl)]
            go_simp
            refine hK.out _ _ HXA.out (fun hH6 => ?_)
            clear hK hH5 hoc2
            (try simp only [Act.put])
            refine wpAnyH_ready (rs := [11]) (by kernel_rfl) (by simp) ?_
            refine AllReadyH.cons rfl (fun K hK => ?_) AllReadyH.nil
            rw [if_pos (by first | kernel_rfl | rfl)]
            (try simp only [List.getElem_toArray, List.getElem_cons_succ, List.getElem_cons_zero])
            obtain ⟨v8, w8, hr8, hrow8, hg8, how8⟩ := run_append_ints (w3.drew.alloc (.cells #[.int .i32 x] 21)) 48 w1.heap.size (.slice yp ys.length yc) ys HYR.out (some ⟨w3.heap.size, 0, none⟩) 1 1 [x] _ HXI.out (by (try simp only [List.length_singleton]); omega) HZA.out
            obtain ⟨v8p, v8n, v8c, hv8⟩ : ∃ p n c, v8 = .slice p n c := by obtain ⟨p, c, h⟩ := rowq_slice hrow8; exact ⟨p, _, c, h⟩
            subst hv8
            refine wp_append_run (.tmp 47) (.tmp 52) rfl rfl rfl hr8 ?_
            dsimp only [Act.put]
            have hc8 : w8.cell? ⟨g, q, none⟩ = some (.slice yp ys.length yc) := hg8.cell HOC.out HNE.out
            have hf8 : w8.frozen? ⟨g, q, none⟩ = false := (World.frozen?_of_block (w := w3.drew.alloc (.cells #[.int .i32 x] 21)) (a := ⟨g, q, none⟩) (hg8.block g HGL.out HNE.out)).trans HOF.out
            refine hK.out _ _ (HSD.out _ hg8) (fun hH8 => ?_)
            clear hK
            (try simp only [Act.put])
            refine wpAnyH_ready (rs := [12]) (by kernel_rfl) (by simp) ?_
            refine AllReadyH.cons rfl (fun K hK => ?_) AllReadyH.nil
            rw [if_pos (by first | kernel_rfl | rfl)]
            go_simp
            refine hK.out _ _ hH8 (fun hH8' => ?_)
            clear hK
            (try simp only [Act.put])
            refine wpAnyH_ready (rs := [13]) (by kernel_rfl) (by simp) ?_
            refine AllReadyH.cons rfl (fun K hK => ?_) AllReadyH.nil
            rw [if_pos (by first | kernel_rfl | rfl)]
            go_simp
            refine hK.out _ _ (HSE.out _ _ hg8) (fun hH9 => ?_)
            clear hK
            refine wpAnyH_done (by kernel_rfl) ?_ _
            have HP9 := Lib.hid (HPA.out.put (ys := ys ++ [x]) HVQ.out HPQ.out hrow8 (growA hg8) (fun j hj => by
              rcases how8 j hj with e | e
              · exact .inl e
              · refine .inr (Nat.le_trans ?_ e); simp) HGB.out)
            have HB9 : Hid (Below w1.heap.size w1 (w8.setCell ⟨g, q, none⟩ (.slice v8p v8n v8c))) := (below_grown (HBA.out.drew.alloc HBA.out.size _) hg8 HZA.out (fun j hj => (ownsRow_own HYR.out hj).1)).setCell (ownsRow_own HPA.out.row HGB.out).1 _
            clear hrow8 hg8 how8 hr8 hH8 hH8' hH9 hc8 hf8
            go_wp2_with fail
            go_roundw
            case rel => exact ⟨k + 1, _, by go_num, by omega, by rw [HTK.out]; exact HRE.out _ _ HP9.out, HB9.out⟩
            case measure => (show n - ((k : Int) + 1).toNat < n - (k : Int).toNat; omega)
          · rw [if_pos (by first | kernel_rfl | rfl)]
            go_simp
            refine hK.out _ _ HXA.out (fun hH5 => ?_)
            clear hK hH
            (try simp only [Act.put])
            refine wpAnyH_ready (rs := [5]) (by kernel_rfl) (by simp) ?_
            refine AllReadyH.cons rfl (fun K hK => ?_) AllReadyH.nil
            rw [if_pos (by first | kernel_rfl | rfl)]
            have hoc3 : (w3.alloc (.cells #[.int .i32 x] 21)).cell? ⟨g, q, none⟩ = some (.slice yp ys.length yc) := HOC.out
            go_simp
            refine hK.out _ _ HXA.out (fun hH6 => ?_)
            clear hK hH5 hoc3
            (try simp only [Act.put])
            refine wpAnyH_ready (rs := [11]) (by kernel_rfl) (by simp) ?_
            refine AllReadyH.cons rfl (fun K hK => ?_) AllReadyH.nil
            rw [if_pos (by first | kernel_rfl | rfl)]
            (try simp only [List.getElem_toArray, List.getElem_cons_succ, List.getElem_cons_zero])
            obtain ⟨v8, w8, hr8, hrow8, hg8, how8⟩ := run_append_ints (w3.drew.alloc (.cells #[.int .i32 x] 21)) 48 w1.heap.size (.slice yp ys.length yc) ys HYR.out (some ⟨w3.heap.size, 0, none⟩) 1 1 [x] _ HXI.out (by (try simp only [List.length_singleton]); omega) HZA.out
            obtain ⟨v8p, v8n, v8c, hv8⟩ : ∃ p n c, v8 = .slice p n c := by obtain ⟨p, c, h⟩ := rowq_slice hrow8; exact ⟨p, _, c, h⟩
            subst hv8
            refine wp_append_run (.tmp 47) (.tmp 52) rfl rfl rfl hr8 ?_
            dsimp only [Act.put]
            have hc8 : w8.cell? ⟨g, q, none⟩ = some (.slice yp ys.length yc) := hg8.cell HOC.out HNE.out
            have hf8 : w8.frozen? ⟨g, q, none⟩ = false := (World.frozen?_of_block (w := w3.drew.alloc (.cells #[.int .i32 x] 21)) (a := ⟨g, q, none⟩) (hg8.block g HGL.out HNE.out)).trans HOF.out
            refine hK.out _ _ (HSD.out _ hg8) (fun hH8 => ?_)
            clear hK
            (try simp only [Act.put])
            refine wpAnyH_ready (rs := [12]) (by kernel_rfl) (by simp) ?_
            refine AllReadyH.cons rfl (fun K hK => ?_) AllReadyH.nil
            rw [if_pos (by first | kernel_rfl | rfl)]
            go_simp
            refine hK.out _ _ hH8 (fun hH8' => ?_)
            clear hK
            (try simp only [Act.put])
            refine wpAnyH_ready (rs := [13]) (by kernel_rfl) (by simp) ?_
            refine AllReadyH.cons rfl (fun K hK => ?_) AllReadyH.nil
            rw [if_pos (by first | kernel_rfl | rfl)]
            go_simp
            refine hK.out _ _ (HSE.out _ _ hg8) (fun hH9 => ?_)
            clear hK
            refine wpAnyH_done (by kernel_rfl) ?_ _
            have HP9 := Lib.hid (HPA.out.put (ys := ys ++ [x]) HVQ.out HPQ.out hrow8 (growA hg8) (fun j hj => by
              rcases how8 j hj with e | e
              · exact .inl e
              · refine .inr (Nat.le_trans ?_ e); simp) HGB.out)
            have HB9 : Hid (Below w1.heap.size w1 (w8.setCell ⟨g, q, none⟩ (.slice v8p v8n v8c))) := (below_grown (HBA.out.drew.alloc HBA.out.size _) hg8 HZA.out (fun j hj => (ownsRow_own HYR.out hj).1)).setCell (ownsRow_own HPA.out.row HGB.out).1 _
            clear hrow8 hg8 how8 hr8 hH8 hH8' hH9 hc8 hf8
            go_wp2_with fail
            go_roundw
            case rel => exact ⟨k + 1, _, by go_num, by omega, by rw [HTK.out]; exact HRE.out _ _ HP9.out, HB9.out⟩
            case measure => (show n - ((k : Int) + 1).toNat < n - (k : Int).toNat; omega)
        · have gm : ((m : Int) == 0) = false := by simp; omega
          by_cases hz0 : z = 0
          · have gz : (z == 0) = true := by simp [hz0]
            have HST0 : Hid (Ps = [] ∨ clsOf c x = 0) := .inr (by rw [← HZ.out]; exact hz0)
            go_wp2_with fail
            refine wp_region_over (by kernel_rfl) (by kernel_rfl) ?_; (repeat (go_big_quiet_step (((go_at_call 31; exact over_of (HCA.out _)))))); refine wpQuiet_nil ?_; intro w2 hb2
            have HB2 : Hid (Below w1.heap.size w1 w2) := HBR.out.trans (hb2.mono HBR.out.size)
            have HP2 : Hid (PAt w1.heap.size (.slice op m oc) vs Ps w2) := HPR.out.below hb2
            clear hb2 c0 d0 d1 HCA HPR HBR hxl2 hbl
            go_wp2_with (at_builtin; refine app_stop ⟨_, _, rfl⟩ ?_)
            refine Lib.hid ?_
            have hza4 : w1.heap.size ≤ (w2.alloc (.cells #[.slice none 0 0] 48)).heap.size := by have := HB2.out.size; simp; omega
            have hmle : m ≤ 100000000 := by omega
            refine wpList_append_own_at _ rfl _ _ 85 rfl w1.heap.size 48 i1 (.slice none 0 0) 1 24 Tryz.underlying85 hi1 hy0 hy1 hy2 rfl (by decide) _ m vs rfl ((HM.out ▸ HP2.out.row).alloc _) ⟨w2.heap.size, 0, none⟩ 1 1 [.slice none 0 0] rfl rfl (row_new w2 [.slice none 0 0] _) (by simp [Value.oneCell']) (by unfold maxLen; omega) (by omega) hza4 ?_
            intro v3 w3 hrow3 hg3 _ how3
            obtain ⟨op3, oc3, he3⟩ := rowq_slice hrow3
            subst he3
            generalize hm1 : m + 1 = m1 at hrow3 how3 ⊢
            have HPA : Hid (PAt w1.heap.size (.slice op3 m1 oc3) (vs ++ [.slice none 0 0]) (Ps ++ [[]]) w3) := by
              refine HP2.out.push (by rw [HM.out, hm1]; exact hrow3) (growB hg3) ?_
              intro j hj
              rcases how3 with e | e
              · exact .inl (e.symm.trans hj)
              · rw [e] at hj; refine .inr ?_; cases hj; simp
            have HBA : Hid (Below w1.heap.size w1 w3) := below_grown (HB2.out.alloc HB2.out.size _) hg3 hza4 (fun j hj => (ownsRow_own HP2.out.row hj).1)
            obtain ⟨q, hq⟩ : ∃ q, q = m := ⟨_, rfl⟩
            have HMK : Hid (m1 ≤ n + 1) := by show _ ≤ _; omega
            have HM1 : Hid ((Ps ++ [[]]).length = m1 ∧ m1 = q + 1) := ⟨by rw [List.length_append, HM.out]; exact hm1, by omega⟩
            have HYL : Hid (∀ p ∈ Ps ++ [[]], p.length ≤ k) := fun p hp => by
              rcases List.mem_append.1 hp with h | h
              · exact HYL0.out p h
              · simp at h; subst h; exact Nat.zero_le _
            have HST : Hid (∀ ys, (Ps ++ [[]])[q]? = some ys → (Ps ++ [[]]).set q (ys ++ [x]) = partStep (clsOf c) Ps x) := fun ys h => by
              have hql : q = Ps.length := by rw [hq, HM.out]
              rw [hql, List.getElem?_append_right (Nat.le_refl _), Nat.sub_self] at h
              simp at h; subst h
              rw [hql]; exact step_push HST0.out
            clear hrow3 hg3 how3 hza4 HP2 HB2 hm1 hq hmle
            obtain ⟨g, hog, hgb⟩ : ∃ g, op3 = some ⟨g, 0, none⟩ ∧ (Value.slice (some ⟨g, 0, none⟩) m1 oc3).ownBlock = some g := by
              rcases HPA.out.row.2 with ⟨_, h0⟩ | ⟨g, cap, cur, e, _⟩
              · exfalso; have := HM1.out; omega
              · injection e with e1 _ _; exact ⟨g, e1, rfl⟩
            subst hog
            have HGB := Lib.hid hgb
            have hq1 : q < m1 := by have := HM1.out; omega
            have g3 : (q : Int) < (m1 : Int) := by omega
            have hqb : q ≤ 100000000 := by have := HMK.out; have := HM1.out.2; omega
            obtain ⟨ys, hys⟩ : ∃ ys, (Ps ++ [[]])[q]? = some ys := ⟨_, List.getElem?_eq_getElem (by rw [HM1.out.1]; exact hq1)⟩
            obtain ⟨yv, hyv⟩ := HPA.out.hasv hys
            have hyr0 := HPA.out.each q yv ys hyv hys
            obtain ⟨yp, yc, hye⟩ := rowq_slice hyr0
            subst hye
            have hzw := HBA.out.size
            have hgl0 := (ownsRow_own HPA.out.row hgb).2
            have HYR : Hid ((w3.drew.alloc (.cells #[.int .i32 x] 21)).ownsRow w1.heap.size 21 1 (.slice yp ys.length yc) ys.length (ys.map (Value.int .i32))) := (ownsRow_block (W' := w3.drew) hyr0 (fun _ _ _ => rfl)).alloc _
            have HXI : Hid (IntsIn (fun b => b = w3.heap.size) .i32 (w3.drew.alloc (.cells #[.int .i32 x] 21)) (.slice (some ⟨w3.heap.size, 0, none⟩) 1 1) [x]) := ints_one (World.alloc_heap_new w3.drew _)
            have HZA : Hid (w1.heap.size ≤ (w3.drew.alloc (.cells #[.int .i32 x] 21)).heap.size) := by show _ ≤ _; simp; omega
            have hoc := HPA.out.row.cells hgb q _ hyv
            have hoc1 : w3.cell? ⟨g, q, none⟩ = some (.slice yp ys.length yc) := by rw [addr_add] at hoc; exact hoc
            have hof1 : w3.frozen? ⟨g, q, none⟩ = false := row_free HPA.out.row hgb q
            have halB : Below w3.heap.size w3 (w3.drew.alloc (.cells #[.int .i32 x] 21)) := ((Below.refl _ w3).drew).alloc (Nat.le_refl _) _
            have HOC : Hid ((w3.drew.alloc (.cells #[.int .i32 x] 21)).cell? ⟨g, q, none⟩ = some (.slice yp ys.length yc)) := (halB.cell (p := ⟨g, q, none⟩) hgl0).trans hoc1
            have HOF : Hid ((w3.drew.alloc (.cells #[.int .i32 x] 21)).frozen? ⟨g, q, none⟩ = false) := (halB.frozen (p := ⟨g, q, none⟩) hgl0).trans hof1
            have HGL : Hid (g < (w3.drew.alloc (.cells #[.int .i32 x] 21)).heap.size) := by show _ < _; simp; omega
            have HNE : Hid (some g ≠ (Value.slice yp ys.length yc).ownBlock) := fun e => HPA.out.apart q _ g hyv e.symm hgb
            have HVQ := Lib.hid hyv
            have HPQ := Lib.hid hys
            have hyl : ys.length ≤ k := HYL.out ys (List.mem_of_getElem? hys)
            obtain ⟨lb', lo', el', hbl', cd⟩ := (HDI.out.kept (Kept.below HBA.out)).atC HX.out
            cases el'
            have HSD : Hid (∀ W1, (w3.drew.alloc (.cells #[.int .i32 x] 21)).grownBy W1 (Value.slice yp ys.length yc).ownBlock → W1.cell? ⟨lb, lo + k, none⟩ = some (.int .i32 x)) := fun W1 hgw => hgw.cell ((halB.cell (p := ⟨lb, lo + k, none⟩) hbl').trans cd) (fun e => by
              exact Nat.not_le_of_lt HDL.out (ownsRow_own hyr0 e.symm).1)
            have HSE : Hid (∀ W1 u, (w3.drew.alloc (.cells #[.int .i32 x] 21)).grownBy W1 (Value.slice yp ys.length yc).ownBlock → (W1.setCell ⟨g, q, none⟩ u).cell? ⟨lb, lo + k, none⟩ = some (.int .i32 x)) := fun W1 u hgw => by
              rw [World.cell?_setCell_other _ _ _ _ (by intro e; injection e with e1 _ _; exact Nat.not_le_of_lt HDL.out (e1 ▸ (ownsRow_own HPA.out.row HGB.out).1))]
              exact HSD.out W1 hgw
            have hxa0 : (w3.drew.alloc (.cells #[.int .i32 x] 21)).cell? ⟨lb, lo + k, none⟩ = some (.int .i32 x) := (halB.cell (p := ⟨lb, lo + k, none⟩) hbl').trans cd
            have HXA := Lib.hid hxa0
            have hxd1 : w3.drew.cell? ⟨lb, lo + k, none⟩ = some (.int .i32 x) := cd
            have HXE := Lib.hid hxd1
            have hoc2 : w3.drew.cell? ⟨g, q, none⟩ = some (.slice yp ys.length yc) := hoc1
            have HOC2 := Lib.hid hoc2
            have HRE : Hid (∀ V W, PAt w1.heap.size (.slice (some ⟨g, 0, none⟩) m1 oc3) V ((Ps ++ [[]]).set q (ys ++ [x])) W → PAt w1.heap.size (.slice (some ⟨g, 0, none⟩) m1 oc3) V (partStep (clsOf c) Ps x) W) := fun V W h => by
              rw [HST.out ys HPQ.out] at h; exact h
            have e9 : (m1 : Int) - 1 = (q : Int) := by have := HM1.out.2; omega
            clear hys hyv hyr0 hgb hoc hoc1 hof1 hgl0 hxa0 hoc2 cd hbl' halB hxd1 HYL HM1 HST
            go_wp2_with fail
            have hxd0 := HXE.out
            clear e9
            refine wp_region_held_drew (S := fun u : World => u.cell? ⟨lb, lo + k, none⟩ = some (.int .i32 x)) (by kernel_rfl) hxd0 (fun hH => ?_)
            clear hxd0
            refine wpAnyH_take (i := 0) (v := ?_) rfl (by kernel_rfl) (by kernel_rfl) (by kernel_rfl) (fun _ _ _ h => h) (Or.inl ⟨by first | kernel_rfl | rfl, ?_⟩) hH ?_; rotate_left 1; (first | (focus (intro w hSw; (try dsimp only at hSw); go_simp; done)) | (focus (intro w hSw; (try dsimp only at hSw); go_simp; with_reducible rfl))); (try simp only [Act.put])
            refine wpAnyH_take (i := 1) (v := ?_) rfl (by kernel_rfl) (by kernel_rfl) (by kernel_rfl) (fun _ _ _ h => h) (Or.inl ⟨by first | kernel_rfl | rfl, ?_⟩) hH ?_; rotate_left 1; (first | (focus (intro w hSw; (try dsimp only at hSw); go_simp; done)) | (focus (intro w hSw; (try dsimp only at hSw); go_simp; with_reducible rfl))); (try simp only [Act.put])
            refine wpAnyH_take (i := 2) (v := ?_) rfl (by kernel_rfl) (by kernel_rfl) (by kernel_rfl) (fun _ _ _ h => h) (Or.inl ⟨by first | kernel_rfl | rfl, ?_⟩) hH ?_; rotate_left 1; (first | (focus (intro w hSw; (try dsimp only at hSw); go_simp; done)) | (focus (intro w hSw; (try dsimp only at hSw); go_simp; with_reducible rfl))); (try simp only [Act.put])
            refine wpAnyH_take (i := 3) (v := ?_) rfl (by kernel_rfl) (by kernel_rfl) (by kernel_rfl) (fun _ _ _ h => h) (Or.inl ⟨by first | kernel_rfl | rfl, ?_⟩) hH ?_; rotate_left 1; (first | (focus (intro w hSw; (try dsimp only at hSw); go_simp; done)) | (focus (intro w hSw; (try dsimp only at hSw); go_simp; with_reducible rfl))); (try simp only [Act.put])
            refine wpAnyH_take (i := 4) (v := ?_) rfl (by kernel_rfl) (by kernel_rfl) (by kernel_rfl) (fun _ _ _ h => h) (Or.inl ⟨by first | kernel_rfl | rfl, ?_⟩) hH ?_; rotate_left 1; (first | (focus (intro w hSw; (try dsimp only at hSw); go_simp; done)) | (focus (intro w hSw; (try dsimp only at hSw); go_simp; with_reducible rfl))); (try simp only [Act.put])
            refine wpAnyH_take (i := 6) (v := ?_) rfl (by kernel_rfl) (by kernel_rfl) (by kernel_rfl) (fun _ _ _ h => h) (Or.inl ⟨by first | kernel_rfl | rfl, ?_⟩) hH ?_; rotate_left 1; (first | (focus (intro w hSw; (try dsimp only at hSw); go_simp; done)) | (focus (intro w hSw; (try dsimp only at hSw); go_simp; with_reducible rfl))); (try simp only [Act.put])
            refine wpAnyH_take (i := 7) (v := ?_) rfl (by kernel_rfl) (by kernel_rfl) (by kernel_rfl) (fun _ _ _ h => h) (Or.inl ⟨by first | kernel_rfl | rfl, ?_⟩) hH ?_; rotate_left 1; (first | (focus (intro w hSw; (try dsimp only at hSw); go_simp; done)) | (focus (intro w hSw; (try dsimp only at hSw); go_simp; with_reducible rfl))); (try simp only [Act.put])
            refine wpAnyH_take (i := 8) (v := ?_) rfl (by kernel_rfl) (by kernel_rfl) (by kernel_rfl) (fun _ _ _ h => h) (Or.inl ⟨by first | kernel_rfl | rfl, ?_⟩) hH ?_; rotate_left 1; (first | (focus (intro w hSw; (try dsimp only at hSw); go_simp; done)) | (focus (intro w hSw; (try dsimp only at hSw); go_simp; with_reducible rfl))); (try simp only [Act.put])
            refine wpAnyH_take (i := 9) (v := ?_) rfl (by kernel_rfl) (by kernel_rfl) (by kernel_rfl) (fun _ _ _ h => h) (Or.inl ⟨by first | kernel_rfl | rfl, ?_⟩) hH ?_; rotate_left 1; (first | (focus (intro w hSw; (try dsimp only at hSw); go_simp; done)) | (focus (intro w hSw; (try dsimp only at hSw); go_simp; with_reducible rfl))); (try simp only [Act.put])
            refine wpAnyH_ready (rs := [5, 10]) (by kernel_rfl) (by simp) ?_
            refine AllReadyH.cons rfl (fun K hK => ?_) (AllReadyH.cons rfl (fun K hK => ?_) AllReadyH.nil)
            · rw [if_pos (by first | kernel_rfl | rfl)]
              have hoc2 := HOC2.out
              go_simp
              refine hK.out _ _ hH (fun hH5 => ?_)
              clear hK hH
              (try simp only [Act.put])
              refine wpAnyH_ready (rs := [10]) (by kernel_rfl) (by simp) ?_
              refine AllReadyH.cons rfl (fun K hK => ?_) AllReadyH.nil
              rw [if_pos (by first | kernel_rfl | rfl)]
              go_simp
              refine hK.out _ _ HXA.out (fun hH6 => ?_)
              clear hK hH5 hoc2
              (try simp only [Act.put])
              refine wpAnyH_ready (rs := [11]) (by kernel_rfl) (by simp) ?_
              refine AllReadyH.cons rfl (fun K hK => ?_) AllReadyH.nil
              rw [if_pos (by first | kernel_rfl | rfl)]
              (try simp only [List.getElem_toArray, List.getElem_cons_succ, List.getElem_cons_zero])
              obtain ⟨v8, w8, hr8, hrow8, hg8, how8⟩ := run_append_ints (w3.drew.alloc (.cells #[.int .i32 x] 21)) 48 w1.heap.size (.slice yp ys.length yc) ys HYR.out (some ⟨w3.heap.size, 0, none⟩) 1 1 [x] _ HXI.out (by (try simp only [List.length_singleton]); omega) HZA.out
              obtain ⟨v8p, v8n, v8c, hv8⟩ : ∃ p n c, v8 = .slice p n c := by obtain ⟨p, c, h⟩ := rowq_slice hrow8; exact ⟨p, _, c, h⟩
              subst hv8
              refine wp_append_run (.tmp 47) (.tmp 52) rfl rfl rfl hr8 ?_
              dsimp only [Act.put]
              have hc8 : w8.cell? ⟨g, q, none⟩ = some (.slice yp ys.length yc) := hg8.cell HOC.out HNE.out
              have hf8 : w8.frozen? ⟨g, q, none⟩ = false := (World.frozen?_of_block (w := w3.drew.alloc (.cells #[.int .i32 x] 21)) (a := ⟨g, q, none⟩) (hg8.block g HGL.out HNE.out)).trans HOF.out
              refine hK.out _ _ (HSD.out _ hg8) (fun hH8 => ?_)
              clear hK
              (try simp only [Act.put])
              refine wpAnyH_ready (rs := [12]) (by kernel_rfl) (by simp) ?_
              refine AllReadyH.cons rfl (fun K hK => ?_) AllReadyH.nil
              rw [if_pos (by first | kernel_rfl | rfl)]
              go_simp
              refine hK.out _ _ hH8 (fun hH8' => ?_)
              clear hK
              (try simp only [Act.put])
              refine wpAnyH_ready (rs := [13]) (by kernel_rfl) (by simp) ?_
              refine AllReadyH.cons rfl (fun K hK => ?_) AllReadyH.nil
              rw [if_pos (by first | kernel_rfl | rfl)]
              go_simp
              refine hK.out _ _ (HSE.out _ _ hg8) (fun hH9 => ?_)
              clear hK
              refine wpAnyH_done (by kernel_rfl) ?_ _
              have HP9 := Lib.hid (HPA.out.put (ys := ys ++ [x]) HVQ.out HPQ.out hrow8 (growA hg8) (fun j hj => by
                rcases how8 j hj with e | e
                · exact .inl e
                · refine .inr (Nat.le_trans ?_ e); simp) HGB.out)
              have HB9 : Hid (Below w1.heap.size w1 (w8.setCell ⟨g, q, none⟩ (.slice v8p v8n v8c))) := (below_grown (HBA.out.drew.alloc HBA.out.size _) hg8 HZA.out (fun j hj => (ownsRow_own HYR.out hj).1)).setCell (ownsRow_own HPA.out.row HGB.out).1 _
              clear hrow8 hg8 how8 hr8 hH8 hH8' hH9 hc8 hf8
              go_wp2_with fail
              go_roundw
              case rel => exact ⟨k + 1, _, by go_num, by omega, by rw [HTK.out]; exact HRE.out _ _ HP9.out, HB9.out⟩
              case measure => (show n - ((k : Int) + 1).toNat < n - (k : Int).toNat; omega)
            · rw [if_pos (by first | kernel_rfl | rfl)]
              go_simp
              refine hK.out _ _ HXA.out (fun hH5 => ?_)
              clear hK hH
              (try simp only [Act.put])
              refine wpAnyH_ready (rs := [5]) (by kernel_rfl) (by simp) ?_
              refine AllReadyH.cons rfl (fun K hK => ?_) AllReadyH.nil
              rw [if_pos (by first | kernel_rfl | rfl)]
              have hoc3 : (w3.alloc (.cells #[.int .i32 x] 21)).cell? ⟨g, q, none⟩ = some (.slice yp ys.length yc) := HOC.out
              go_simp
              refine hK.out _ _ HXA.out (fun hH6 => ?_)
              clear hK hH5 hoc3
              (try simp only [Act.put])
              refine wpAnyH_ready (rs := [11]) (by kernel_rfl) (by simp) ?_
              refine AllReadyH.cons rfl (fun K hK => ?_) AllReadyH.nil
              rw [if_pos (by first | kernel_rfl | rfl)]
              (try simp only [List.getElem_toArray, List.getElem_cons_succ, List.getElem_cons_zero])
              obtain ⟨v8, w8, hr8, hrow8, hg8, how8⟩ := run_append_ints (w3.drew.alloc (.cells #[.int .i32 x] 21)) 48 w1.heap.size (.slice yp ys.length yc) ys HYR.out (some ⟨w3.heap.size, 0, none⟩) 1 1 [x] _ HXI.out (by (try simp only [List.length_singleton]); omega) HZA.out
              obtain ⟨v8p, v8n, v8c, hv8⟩ : ∃ p n c, v8 = .slice p n c := by obtain ⟨p, c, h⟩ := rowq_slice hrow8; exact ⟨p, _, c, h⟩
              subst hv8
              refine wp_append_run (.tmp 47) (.tmp 52) rfl rfl rfl hr8 ?_
              dsimp only [Act.put]
              have hc8 : w8.cell? ⟨g, q, none⟩ = some (.slice yp ys.length yc) := hg8.cell HOC.out HNE.out
              have hf8 : w8.frozen? ⟨g, q, none⟩ = false := (World.frozen?_of_block (w := w3.drew.alloc (.cells #[.int .i32 x] 21)) (a := ⟨g, q, none⟩) (hg8.block g HGL.out HNE.out)).trans HOF.out
              refine hK.out _ _ (HSD.out _ hg8) (fun hH8 => ?_)
              clear hK
              (try simp only [Act.put])
              refine wpAnyH_ready (rs := [12]) (by kernel_rfl) (by simp) ?_
              refine AllReadyH.cons rfl (fun K hK => ?_) AllReadyH.nil
              rw [if_pos (by first | kernel_rfl | rfl)]
              go_simp
              refine hK.out _ _ hH8 (fun hH8' => ?_)
              clear hK
              (try simp only [Act.put])
              refine wpAnyH_ready (rs := [13]) (by kernel_rfl) (by simp) ?_
              refine AllReadyH.cons rfl (fun K hK => ?_) AllReadyH.nil
              rw [if_pos (by first | kernel_rfl | rfl)]
              go_simp
              refine hK.out _ _ (HSE.out _ _ hg8) (fun hH9 => ?_)
              clear hK
              refine wpAnyH_done (by kernel_rfl) ?_ _
              have HP9 := Lib.hid (HPA.out.put (ys := ys ++ [x]) HVQ.out HPQ.out hrow8 (growA hg8) (fun j hj => by
                rcases how8 j hj with e | e
                · exact .inl e
                · refine .inr (Nat.le_trans ?_ e); simp) HGB.out)
              have HB9 : Hid (Below w1.heap.size w1 (w8.setCell ⟨g, q, none⟩ (.slice v8p v8n v8c))) := (below_grown (HBA.out.drew.alloc HBA.out.size _) hg8 HZA.out (fun j hj => (ownsRow_own HYR.out hj).1)).setCell (ownsRow_own HPA.out.row HGB.out).1 _
              clear hrow8 hg8 how8 hr8 hH8 hH8' hH9 hc8 hf8
              go_wp2_with fail
              go_roundw
              case rel => exact ⟨k + 1, _, by go_num, by omega, by rw [HTK.out]; exact HRE.out _ _ HP9.out, HB9.out⟩
              case measure => (show n - ((k : Int) + 1).toNat < n - (k : Int).toNat; omega)
          · have gz : (z == 0) = false := by simp [hz0]
            have HCZ : Hid (clsOf c x ≠ 0) := by show _ ≠ _; rw [← HZ.out]; exact hz0
            go_wp2_with fail
            refine wp_region_over (by kernel_rfl) (by kernel_rfl) ?_; (repeat (go_big_quiet_step (((go_at_call 31; exact over_of (HCA.out _)))))); refine wpQuiet_nil ?_; intro w2 hb2
            have HB2 : Hid (Below w1.heap.size w1 w2) := HBR.out.trans (hb2.mono HBR.out.size)
            have HP2 : Hid (PAt w1.heap.size (.slice op m oc) vs Ps w2) := HPR.out.below hb2
            clear hb2 c0 d0 d1 HCA HPR HBR hxl2 hbl
            obtain ⟨m1, hm1⟩ : ∃ m1, m1 = m := ⟨_, rfl⟩
            obtain ⟨q, hq⟩ : ∃ q, q = m - 1 := ⟨_, rfl⟩
            have HMK : Hid (m1 ≤ n + 1) := by show _ ≤ _; omega
            have HM1 : Hid (Ps.length = m1 ∧ m1 = q + 1) := ⟨by rw [HM.out]; exact hm1.symm, by omega⟩
            have HYL := HYL0
            have HST : Hid (∀ ys, Ps[q]? = some ys → Ps.set q (ys ++ [x]) = partStep (clsOf c) Ps x) := fun ys h => step_grow (HM1.out.1.trans HM1.out.2) h HCZ.out
            have HPA := HP2
            have HBA := HB2
            rw [← hm1] at HPA ⊢
            clear hq hm1 HP2 HB2
            obtain ⟨g, hog, hgb⟩ : ∃ g, op = some ⟨g, 0, none⟩ ∧ (Value.slice (some ⟨g, 0, none⟩) m1 oc).ownBlock = some g := by
              rcases HPA.out.row.2 with ⟨_, h0⟩ | ⟨g, cap, cur, e, _⟩
              · exfalso; have := HM1.out; omega
              · injection e with e1 _ _; exact ⟨g, e1, rfl⟩
            subst hog
            have HGB := Lib.hid hgb
            have hq1 : q < m1 := by have := HM1.out; omega
            have g3 : (q : Int) < (m1 : Int) := by omega
            have hqb : q ≤ 100000000 := by have := HMK.out; have := HM1.out.2; omega
            obtain ⟨ys, hys⟩ : ∃ ys, (Ps)[q]? = some ys := ⟨_, List.getElem?_eq_getElem (by rw [HM1.out.1]; exact hq1)⟩
            obtain ⟨yv, hyv⟩ := HPA.out.hasv hys
            have hyr0 := HPA.out.each q yv ys hyv hys
            obtain ⟨yp, yc, hye⟩ := rowq_slice hyr0
            subst hye
            have hzw := HBA.out.size
            have hgl0 := (ownsRow_own HPA.out.row hgb).2
            have HYR : Hid ((w2.drew.alloc (.cells #[.int .i32 x] 21)).ownsRow w1.heap.size 21 1 (.slice yp ys.length yc) ys.length (ys.map (Value.int .i32))) := (ownsRow_block (W' := w2.drew) hyr0 (fun _ _ _ => rfl)).alloc _
            have HXI : Hid (IntsIn (fun b => b = w2.heap.size) .i32 (w2.drew.alloc (.cells #[.int .i32 x] 21)) (.slice (some ⟨w2.heap.size, 0, none⟩) 1 1) [x]) := ints_one (World.alloc_heap_new w2.drew _)
            have HZA : Hid (w1.heap.size ≤ (w2.drew.alloc (.cells #[.int .i32 x] 21)).heap.size) := by show _ ≤ _; simp; omega
            have hoc := HPA.out.row.cells hgb q _ hyv
            have hoc1 : w2.cell? ⟨g, q, none⟩ = some (.slice yp ys.length yc) := by rw [addr_add] at hoc; exact hoc
            have hof1 : w2.frozen? ⟨g, q, none⟩ = false := row_free HPA.out.row hgb q
            have halB : Below w2.heap.size w2 (w2.drew.alloc (.cells #[.int .i32 x] 21)) := ((Below.refl _ w2).drew).alloc (Nat.le_refl _) _
            have HOC : Hid ((w2.drew.alloc (.cells #[.int .i32 x] 21)).cell? ⟨g, q, none⟩ = some (.slice yp ys.length yc)) := (halB.cell (p := ⟨g, q, none⟩) hgl0).trans hoc1
            have HOF : Hid ((w2.drew.alloc (.cells #[.int .i32 x] 21)).frozen? ⟨g, q, none⟩ = false) := (halB.frozen (p := ⟨g, q, none⟩) hgl0).trans hof1
            have HGL : Hid (g < (w2.drew.alloc (.cells #[.int .i32 x] 21)).heap.size) := by show _ < _; simp; omega
            have HNE : Hid (some g ≠ (Value.slice yp ys.length yc).ownBlock) := fun e => HPA.out.apart q _ g hyv e.symm hgb
            have HVQ := Lib.hid hyv
            have HPQ := Lib.hid hys
            have hyl : ys.length ≤ k := HYL.out ys (List.mem_of_getElem? hys)
            obtain ⟨lb', lo', el', hbl', cd⟩ := (HDI.out.kept (Kept.below HBA.out)).atC HX.out
            cases el'
            have HSD : Hid (∀ W1, (w2.drew.alloc (.cells #[.int .i32 x] 21)).grownBy W1 (Value.slice yp ys.length yc).ownBlock → W1.cell? ⟨lb, lo + k, none⟩ = some (.int .i32 x)) := fun W1 hgw => hgw.cell ((halB.cell (p := ⟨lb, lo + k, none⟩) hbl').trans cd) (fun e => by
              exact Nat.not_le_of_lt HDL.out (ownsRow_own hyr0 e.symm).1)
            have HSE : Hid (∀ W1 u, (w2.drew.alloc (.cells #[.int .i32 x] 21)).grownBy W1 (Value.slice yp ys.length yc).ownBlock → (W1.setCell ⟨g, q, none⟩ u).cell? ⟨lb, lo + k, none⟩ = some (.int .i32 x)) := fun W1 u hgw => by
              rw [World.cell?_setCell_other _ _ _ _ (by intro e; injection e with e1 _ _; exact Nat.not_le_of_lt HDL.out (e1 ▸ (ownsRow_own HPA.out.row HGB.out).1))]
              exact HSD.out W1 hgw
            have hxa0 : (w2.drew.alloc (.cells #[.int .i32 x] 21)).cell? ⟨lb, lo + k, none⟩ = some (.int .i32 x) := (halB.cell (p := ⟨lb, lo + k, none⟩) hbl').trans cd
            have HXA := Lib.hid hxa0
            have hxd1 : w2.drew.cell? ⟨lb, lo + k, none⟩ = some (.int .i32 x) := cd
            have HXE := Lib.hid hxd1
            have hoc2 : w2.drew.cell? ⟨g, q, none⟩ = some (.slice yp ys.length yc) := hoc1
            have HOC2 := Lib.hid hoc2
            have HRE : Hid (∀ V W, PAt w1.heap.size (.slice (some ⟨g, 0, none⟩) m1 oc) V ((Ps).set q (ys ++ [x])) W → PAt w1.heap.size (.slice (some ⟨g, 0, none⟩) m1 oc) V (partStep (clsOf c) Ps x) W) := fun V W h => by
              rw [HST.out ys HPQ.out] at h; exact h
            have e9 : (m1 : Int) - 1 = (q : Int) := by have := HM1.out.2; omega
            clear hys hyv hyr0 hgb hoc hoc1 hof1 hgl0 hxa0 hoc2 cd hbl' halB hxd1 HYL HM1 HST
            go_wp2_with fail
            have hxd0 := HXE.out
            clear e9
            refine wp_region_held_drew (S := fun u : World => u.cell? ⟨lb, lo + k, none⟩ = some (.int .i32 x)) (by kernel_rfl) hxd0 (fun hH => ?_)
            clear hxd0
            refine wpAnyH_take (i := 0) (v := ?_) rfl (by kernel_rfl) (by kernel_rfl) (by kernel_rfl) (fun _ _ _ h => h) (Or.inl ⟨by first | kernel_rfl | rfl, ?_⟩) hH ?_; rotate_left 1; (first | (focus (intro w hSw; (try dsimp only at hSw); go_simp; done)) | (focus (intro w hSw; (try dsimp only at hSw); go_simp; with_reducible rfl))); (try simp only [Act.put])
            refine wpAnyH_take (i := 1) (v := ?_) rfl (by kernel_rfl) (by kernel_rfl) (by kernel_rfl) (fun _ _ _ h => h) (Or.inl ⟨by first | kernel_rfl | rfl, ?_⟩) hH ?_; rotate_left 1; (first | (focus (intro w hSw; (try dsimp only at hSw); go_simp; done)) | (focus (intro w hSw; (try dsimp only at hSw); go_simp; with_reducible rfl))); (try simp only [Act.put])
            refine wpAnyH_take (i := 2) (v := ?_) rfl (by kernel_rfl) (by kernel_rfl) (by kernel_rfl) (fun _ _ _ h => h) (Or.inl ⟨by first | kernel_rfl | rfl, ?_⟩) hH ?_; rotate_left 1; (first | (focus (intro w hSw; (try dsimp only at hSw); go_simp; done)) | (focus (intro w hSw; (try dsimp only at hSw); go_simp; with_reducible rfl))); (try simp only [Act.put])
            refine wpAnyH_take (i := 3) (v := ?_) rfl (by kernel_rfl) (by kernel_rfl) (by kernel_rfl) (fun _ _ _ h => h) (Or.inl ⟨by first | kernel_rfl | rfl, ?_⟩) hH ?_; rotate_left 1; (first | (focus (intro w hSw; (try dsimp only at hSw); go_simp; done)) | (focus (intro w hSw; (try dsimp only at hSw); go_simp; with_reducible rfl))); (try simp only [Act.put])
            refine wpAnyH_take (i := 4) (v := ?_) rfl (by kernel_rfl) (by kernel_rfl) (by kernel_rfl) (fun _ _ _ h => h) (Or.inl ⟨by first | kernel_rfl | rfl, ?_⟩) hH ?_; rotate_left 1; (first | (focus (intro w hSw; (try dsimp only at hSw); go_simp; done)) | (focus (intro w hSw; (try dsimp only at hSw); go_simp; with_reducible rfl))); (try simp only [Act.put])
            refine wpAnyH_take (i := 6) (v := ?_) rfl (by kernel_rfl) (by kernel_rfl) (by kernel_rfl) (fun _ _ _ h => h) (Or.inl ⟨by first | kernel_rfl | rfl, ?_⟩) hH ?_; rotate_left 1; (first | (focus (intro w hSw; (try dsimp only at hSw); go_simp; done)) | (focus (intro w hSw; (try dsimp only at hSw); go_simp; with_reducible rfl))); (try simp only [Act.put])
            refine wpAnyH_take (i := 7) (v := ?_) rfl (by kernel_rfl) (by kernel_rfl) (by kernel_rfl) (fun _ _ _ h => h) (Or.inl ⟨by first | kernel_rfl | rfl, ?_⟩) hH ?_; rotate_left 1; (first | (focus (intro w hSw; (try dsimp only at hSw); go_simp; done)) | (focus (intro w hSw; (try dsimp only at hSw); go_simp; with_reducible rfl))); (try simp only [Act.put])
            refine wpAnyH_take (i := 8) (v := ?_) rfl (by kernel_rfl) (by kernel_rfl) (by kernel_rfl) (fun _ _ _ h => h) (Or.inl ⟨by first | kernel_rfl | rfl, ?_⟩) hH ?_; rotate_left 1; (first | (focus (intro w hSw; (try dsimp only at hSw); go_simp; done)) | (focus (intro w hSw; (try dsimp only at hSw); go_simp; with_reducible rfl))); (try simp only [Act.put])
            refine wpAnyH_take (i := 9) (v := ?_) rfl (by kernel_rfl) (by kernel_rfl) (by kernel_rfl) (fun _ _ _ h => h) (Or.inl ⟨by first | kernel_rfl | rfl, ?_⟩) hH ?_; rotate_left 1; (first | (focus (intro w hSw; (try dsimp only at hSw); go_simp; done)) | (focus (intro w hSw; (try dsimp only at hSw); go_simp; with_reducible rfl))); (try simp only [Act.put])
            refine wpAnyH_ready (rs := [5, 10]) (by kernel_rfl) (by simp) ?_
            refine AllReadyH.cons rfl (fun K hK => ?_) (AllReadyH.cons rfl (fun K hK => ?_) AllReadyH.nil)
            · rw [if_pos (by first | kernel_rfl | rfl)]
              have hoc2 := HOC2.out
              go_simp
              refine hK.out _ _ hH (fun hH5 => ?_)
              clear hK hH
              (try simp only [Act.put])
              refine wpAnyH_ready (rs := [10]) (by kernel_rfl) (by simp) ?_
              refine AllReadyH.cons rfl (fun K hK => ?_) AllReadyH.nil
              rw [if_pos (by first | kernel_rfl | rfl)]
              go_simp
              refine hK.out _ _ HXA.out (fun hH6 => ?_)
              clear hK hH5 hoc2
              (try simp only [Act.put])
              refine wpAnyH_ready (rs := [11]) (by kernel_rfl) (by simp) ?_
              refine AllReadyH.cons rfl (fun K hK => ?_) AllReadyH.nil
              rw [if_pos (by first | kernel_rfl | rfl)]
              (try simp only [List.getElem_toArray, List.getElem_cons_succ, List.getElem_cons_zero])
              obtain ⟨v8, w8, hr8, hrow8, hg8, how8⟩ := run_append_ints (w2.drew.alloc (.cells #[.int .i32 x] 21)) 48 w1.heap.size (.slice yp ys.length yc) ys HYR.out (some ⟨w2.heap.size, 0, none⟩) 1 1 [x] _ HXI.out (by (try simp only [List.length_singleton]); omega) HZA.out
              obtain ⟨v8p, v8n, v8c, hv8⟩ : ∃ p n c, v8 = .slice p n c := by obtain ⟨p, c, h⟩ := rowq_slice hrow8; exact ⟨p, _, c, h⟩
              subst hv8
              refine wp_append_run (.tmp 47) (.tmp 52) rfl rfl rfl hr8 ?_
              dsimp only [Act.put]
              have hc8 : w8.cell? ⟨g, q, none⟩ = some (.slice yp ys.length yc) := hg8.cell HOC.out HNE.out
              have hf8 : w8.frozen? ⟨g, q, none⟩ = false := (World.frozen?_of_block (w := w2.drew.alloc (.cells #[.int .i32 x] 21)) (a := ⟨g, q, none⟩) (hg8.block g HGL.out HNE.out)).trans HOF.out
              refine hK.out _ _ (HSD.out _ hg8) (fun hH8 => ?_)
              clear hK
              (try simp only [Act.put])
              refine wpAnyH_ready (rs := [12]) (by kernel_rfl) (by simp) ?_
              refine AllReadyH.cons rfl (fun K hK => ?_) AllReadyH.nil
              rw [if_pos (by first | kernel_rfl | rfl)]
              go_simp
              refine hK.out _ _ hH8 (fun hH8' => ?_)
              clear hK
              (try simp only [Act.put])
              refine wpAnyH_ready (rs := [13]) (by kernel_rfl) (by simp) ?_
              refine AllReadyH.cons rfl (fun K hK => ?_) AllReadyH.nil
              rw [if_pos (by first | kernel_rfl | rfl)]
              go_simp
              refine hK.out _ _ (HSE.out _ _ hg8) (fun hH9 => ?_)
              clear hK
              refine wpAnyH_done (by kernel_rfl) ?_ _
              have HP9 := Lib.hid (HPA.out.put (ys := ys ++ [x]) HVQ.out HPQ.out hrow8 (growA hg8) (fun j hj => by
                rcases how8 j hj with e | e
                · exact .inl e
                · refine .inr (Nat.le_trans ?_ e); simp) HGB.out)
              have HB9 : Hid (Below w1.heap.size w1 (w8.setCell ⟨g, q, none⟩ (.slice v8p v8n v8c))) := (below_grown (HBA.out.drew.alloc HBA.out.size _) hg8 HZA.out (fun j hj => (ownsRow_own HYR.out hj).1)).setCell (ownsRow_own HPA.out.row HGB.out).1 _
              clear hrow8 hg8 how8 hr8 hH8 hH8' hH9 hc8 hf8
              go_wp2_with fail
              go_roundw
              case rel => exact ⟨k + 1, _, by go_num, by omega, by rw [HTK.out]; exact HRE.out _ _ HP9.out, HB9.out⟩
              case measure => (show n - ((k : Int) + 1).toNat < n - (k : Int).toNat; omega)
            · rw [if_pos (by first | kernel_rfl | rfl)]
              go_simp
              refine hK.out _ _ HXA.out (fun hH5 => ?_)
              clear hK hH
              (try simp only [Act.put])
              refine wpAnyH_ready (rs := [5]) (by kernel_rfl) (by simp) ?_
              refine AllReadyH.cons rfl (fun K hK => ?_) AllReadyH.nil
              rw [if_pos (by first | kernel_rfl | rfl)]
              have hoc3 : (w2.alloc (.cells #[.int .i32 x] 21)).cell? ⟨g, q, none⟩ = some (.slice yp ys.length yc) := HOC.out
              go_simp
              refine hK.out _ _ HXA.out (fun hH6 => ?_)
              clear hK hH5 hoc3
              (try simp only [Act.put])
              refine wpAnyH_ready (rs := [11]) (by kernel_rfl) (by simp) ?_
              refine AllReadyH.cons rfl (fun K hK => ?_) AllReadyH.nil
              rw [if_pos (by first | kernel_rfl | rfl)]
              (try simp only [List.getElem_toArray, List.getElem_cons_succ, List.getElem_cons_zero])
              obtain ⟨v8, w8, hr8, hrow8, hg8, how8⟩ := run_append_ints (w2.drew.alloc (.cells #[.int .i32 x] 21)) 48 w1.heap.size (.slice yp ys.length yc) ys HYR.out (some ⟨w2.heap.size, 0, none⟩) 1 1 [x] _ HXI.out (by (try simp only [List.length_singleton]); omega) HZA.out
              obtain ⟨v8p, v8n, v8c, hv8⟩ : ∃ p n c, v8 = .slice p n c := by obtain ⟨p, c, h⟩ := rowq_slice hrow8; exact ⟨p, _, c, h⟩
              subst hv8
              refine wp_append_run (.tmp 47) (.tmp 52) rfl rfl rfl hr8 ?_
              dsimp only [Act.put]
              have hc8 : w8.cell? ⟨g, q, none⟩ = some (.slice yp ys.length yc) := hg8.cell HOC.out HNE.out
              have hf8 : w8.frozen? ⟨g, q, none⟩ = false := (World.frozen?_of_block (w := w2.drew.alloc (.cells #[.int .i32 x] 21)) (a := ⟨g, q, none⟩) (hg8.block g HGL.out HNE.out)).trans HOF.out
              refine hK.out _ _ (HSD.out _ hg8) (fun hH8 => ?_)
              clear hK
              (try simp only [Act.put])
              refine wpAnyH_ready (rs := [12]) (by kernel_rfl) (by simp) ?_
              refine AllReadyH.cons rfl (fun K hK => ?_) AllReadyH.nil
              rw [if_pos (by first | kernel_rfl | rfl)]
              go_simp
              refine hK.out _ _ hH8 (fun hH8' => ?_)
              clear hK
              (try simp only [Act.put])
              refine wpAnyH_ready (rs := [13]) (by kernel_rfl) (by simp) ?_
              refine AllReadyH.cons rfl (fun K hK => ?_) AllReadyH.nil
              rw [if_pos (by first | kernel_rfl | rfl)]
              go_simp
              refine hK.out _ _ (HSE.out _ _ hg8) (fun hH9 => ?_)
              clear hK
              refine wpAnyH_done (by kernel_rfl) ?_ _
              have HP9 := Lib.hid (HPA.out.put (ys := ys ++ [x]) HVQ.out HPQ.out hrow8 (growA hg8) (fun j hj => by
                rcases how8 j hj with e | e
                · exact .inl e
                · refine .inr (Nat.le_trans ?_ e); simp) HGB.out)
              have HB9 : Hid (Below w1.heap.size w1 (w8.setCell ⟨g, q, none⟩ (.slice v8p v8n v8c))) := (below_grown (HBA.out.drew.alloc HBA.out.size _) hg8 HZA.out (fun j hj => (ownsRow_own HYR.out hj).1)).setCell (ownsRow_own HPA.out.row HGB.out).1 _
              clear hrow8 hg8 how8 hr8 hH8 hH8' hH9 hc8 hf8
              go_wp2_with fail
              go_roundw
              case rel => exact ⟨k + 1, _, by go_num, by omega, by rw [HTK.out]; exact HRE.out _ _ HP9.out, HB9.out⟩
              case measure => (show n - ((k : Int) + 1).toNat < n - (k : Int).toNat; omega)
      · have g1 : ¬ ((k : Int) < (n : Int)) := by omega
        obtain rfl : k = n := by omega
        have HPF : Hid (RowsIn (fun b => w1.heap.size ≤ b) wr (.slice op m oc) (parts (clsOf c) D)) := by
          have := HPR.out.rows
          rwa [HPS.out, List.take_of_length_le (by rw [← HNL.out]; omega)] at this
        go_wp2_with fail
        go_ret
        exact ⟨⟨_, rfl, HPF.out.mono (fun b hb _ => Nat.le_trans HBW.out.size hb)⟩, HBW.out.trans (HBR.out.mono HBW.out.size)⟩
  · have ge : (ee != 0) = true := by simp [he]
    have hD0 := HNO.out he
    subst hD0
    go_wp2_with fail
    go_ret
    exact ⟨⟨_, rfl, .nil _ _⟩, HBW.out⟩
end Go.Proofs.YtlldoofclaokgaaGreat
