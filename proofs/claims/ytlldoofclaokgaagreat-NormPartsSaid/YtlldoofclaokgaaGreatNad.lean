/- Package norms: what Load makes, in memory. -/
import Derived.Test.YtlldoofclaokgaaGreatNw
import Derived.Test.YtlldoofclaokgaaGreatNv
namespace Go.Proofs.YtlldoofclaokgaaGreat
open Go.RowKit

def triVs (kc : IntKind) (xs : List T3) : List Value := xs.flatMap fun x => [.int .i32 x.1, .int .i32 x.2.1, .int kc x.2.2]
theorem triVs_len (kc : IntKind) (xs : List T3) : (triVs kc xs).length = xs.length * 3 := by
  induction xs with
  | nil => rfl
  | cons x xs ih => unfold triVs at *; simp only [List.flatMap_cons, List.length_append, List.length_cons, List.length_nil, ih]; omega
theorem triVs_snoc (kc : IntKind) (xs : List T3) (x : T3) : triVs kc (xs ++ [x]) = triVs kc xs ++ [.int .i32 x.1, .int .i32 x.2.1, .int kc x.2.2] := by unfold triVs; simp
theorem triVs_at (kc : IntKind) : ∀ (xs : List T3) (i : Nat) (x : T3), xs[i]? = some x → (triVs kc xs)[i * 3]? = some (.int .i32 x.1) ∧ (triVs kc xs)[i * 3 + 1]? = some (.int .i32 x.2.1) ∧ (triVs kc xs)[i * 3 + 2]? = some (.int kc x.2.2)
  | [], i, x, h => by simp at h
  | y :: ys, 0, x, h => by simp at h; subst h; exact ⟨rfl, rfl, rfl⟩
  | y :: ys, i + 1, x, h => by
    have := triVs_at kc ys i x (by simpa using h)
    rw [show (i + 1) * 3 = i * 3 + 3 by omega]
    exact this
theorem ownsRow_type {base : Nat} {e : TypeId} {size n : Nat} {v : Value} {xs : List Value} {w w' : World} (h : w.ownsRow base e size v n xs) (hk : ∀ g cur fr, base ≤ g → w.heap[g]? = some (.cells cur e fr) → w'.heap[g]? = w.heap[g]?) : w'.ownsRow base e size v n xs := by
  refine ⟨h.1, ?_⟩
  rcases h.2 with h' | ⟨g, cap, cur, rfl, hg, hgb, hr⟩
  · exact .inl h'
  · exact .inr ⟨g, cap, cur, rfl, hg, (hk g cur _ hg hgb).trans hgb, hr⟩
theorem ownsRow_apart {base k : Nat} {e t : TypeId} {size n : Nat} {v : Value} {xs : List Value} {w : World} {c : Array Value} {fr : Nat × Nat} (h : w.ownsRow base e size v n xs) (hk : w.heap[k]? = some (.cells c t fr)) (ht : t ≠ e) : some k ≠ v.ownBlock := by
  rcases h.2 with ⟨rfl, _⟩ | ⟨g, cap, cur, rfl, hg, hgb, hr⟩
  · simp [Value.ownBlock]
  · intro e'
    obtain rfl : k = g := by simpa [Value.ownBlock] using e'
    rw [hk] at hgb
    injection hgb with h1; injection h1 with h1 h2; exact ht h2
theorem tris_of_own {B : Nat} {e : TypeId} {kc : IntKind} {w : World} {v : Value} {xs : List T3} (h : w.ownsRow B e 3 v xs.length (triVs kc xs)) : TrisIn (fun b => B ≤ b) kc w v xs := by
  rcases h.2 with ⟨rfl, h0⟩ | ⟨g, cap, cur, rfl, hg, hgb, h1, h2, h3, h4⟩
  · obtain rfl := List.eq_nil_of_length_eq_zero h0
    exact ⟨none, 0, rfl, ⟨Nat.le_refl _, Nat.zero_le _⟩, fun i x h => by simp at h⟩
  · refine ⟨_, _, rfl, ⟨h1, h2⟩, fun i x hx => ⟨g, 0, rfl, hg, (Array.getElem?_eq_some_iff.1 hgb).1, ?_⟩⟩
    have hi : i < xs.length := (List.getElem?_eq_some_iff.1 hx).1
    obtain ⟨a1, a2, a3⟩ := triVs_at kc xs i x hx
    rw [← h4, List.getElem?_take, if_pos (by omega)] at a1 a2 a3
    simp only [Tri, Nat.zero_add]
    refine ⟨?_, ?_, ?_⟩ <;> simp only [World.cell?, hgb, Option.bind_some] <;> simp <;> (first | simpa using a1 | simpa using a2 | simpa using a3)
/-- the Norms in memory -/
def NoAt (W : World) (pb : Nat) (cv dv : Value) (done mu : Int) (full : Value) : Prop := W.heap[pb]? = some (.cells #[.int .i64 1, cv, dv, .int .u32 done, .int .i32 mu, .int .u32 0, full] 46 (0, 0))
theorem Tryz.infoCls : (Tryz.prog.info? 102).map (fun i => (i.zero, i.size, i.bytes)) = some (some (.agg #[.int .i32 0, .int .i32 0, .int .i64 0]), 3, 16) := by kernel_rfl
theorem Tryz.infoDec : (Tryz.prog.info? 104).map (fun i => (i.zero, i.size, i.bytes)) = some (some (.agg #[.int .i32 0, .int .i32 0, .int .i32 0]), 3, 12) := by kernel_rfl
/-- the state of Load's loops -/
structure LdAt (B : Nat) (W : World) (nb rb pb : Nat) (bs : List Int) (k : Nat) (cv dv : Value) (cs ds : List T3) (full : Value) : Prop where
  rd : RdAt W rb bs k
  nr : NrAt W nb rb
  no : NoAt W pb cv dv 0 0 full
  cls : W.ownsRow B 102 3 cv cs.length (triVs .i64 cs)
  dec : W.ownsRow B 104 3 dv ds.length (triVs .i32 ds)
  hr : rb < B
  hp : rb < pb
theorem RdAt.blk {W : World} {rb k : Nat} {bs : List Int} (h : RdAt W rb bs k) : ∃ cs, W.heap[rb]? = some (.cells cs 184 (0, 0)) := by obtain ⟨q, cap, h, _⟩ := h; exact ⟨_, h⟩
/-- behind a number -/
theorem LdAt.step {B : Nat} {W W' : World} {nb rb pb : Nat} {bs : List Int} {k k' : Nat} {cv dv full : Value} {cs ds : List T3} (h : LdAt B W nb rb pb bs k cv dv cs ds full) (hr : RdAt W' rb bs k') (ho : Only (fun j => j = rb) W W') : LdAt B W' nb rb pb bs k' cv dv cs ds full :=
  ⟨hr, h.nr.only h.rd ho, (ho.block pb (Array.getElem?_eq_some_iff.1 h.no).1 (fun e => by have := h.hp; omega)).trans h.no, ownsRow_only h.cls ho (fun b hb e => by have := h.hr; omega), ownsRow_only h.dec ho (fun b hb e => by have := h.hr; omega), h.hr, h.hp⟩
theorem LdAt.below {B : Nat} {W W' : World} {nb rb pb : Nat} {bs : List Int} {k : Nat} {cv dv full : Value} {cs ds : List T3} (h : LdAt B W nb rb pb bs k cv dv cs ds full) (hb : Below W.heap.size W W') : LdAt B W' nb rb pb bs k cv dv cs ds full :=
  ⟨h.rd.below hb, (hb.block _ (Array.getElem?_eq_some_iff.1 h.nr).1).trans h.nr, (hb.block _ (Array.getElem?_eq_some_iff.1 h.no).1).trans h.no, ownsRow_below h.cls hb, ownsRow_below h.dec hb, h.hr, h.hp⟩
theorem LdAt.cells {B : Nat} {W : World} {nb rb pb : Nat} {bs : List Int} {k : Nat} {cv dv full : Value} {cs ds : List T3} (h : LdAt B W nb rb pb bs k cv dv cs ds full) :
    W.cell? ⟨pb, 1, none⟩ = some cv ∧ W.cell? ⟨pb, 2, none⟩ = some dv ∧ W.frozen? ⟨pb, 1, none⟩ = false ∧ W.frozen? ⟨pb, 2, none⟩ = false ∧ W.cell? ⟨nb, 0, none⟩ = some (.pointer (some ⟨rb, 0, none⟩)) ∧ pb < W.heap.size := by
  have h1 := h.no
  have h2 := h.nr
  unfold NoAt at h1
  unfold NrAt at h2
  refine ⟨?_, ?_, ?_, ?_, ?_, (Array.getElem?_eq_some_iff.1 h1).1⟩ <;> simp [World.cell?, World.frozen?, h1, h2]
/-- other blocks behind an append and a store -/
theorem push_blk {W W6 : World} {pb o b : Nat} {u : Value} {row : Option Nat} (hg : W.grownBy W6 row) (hb : b < W.heap.size) (hn : b ≠ pb) (hr : some b ≠ row) : (W6.setCell ⟨pb, o, none⟩ u).heap[b]? = W.heap[b]? :=
  (Below.heap_setCell _ ⟨pb, o, none⟩ _ _ hn).trans (hg.block b hb hr)
theorem LdAt.rest {B : Nat} {W W6 : World} {nb rb pb o : Nat} {bs : List Int} {k : Nat} {cv dv full u : Value} {cs ds : List T3} (h : LdAt B W nb rb pb bs k cv dv cs ds full) {row : Option Nat} (hrow : ∀ j, row = some j → B ≤ j) (hg : W.grownBy W6 row) (hnn : some nb ≠ row) :
    RdAt (W6.setCell ⟨pb, o, none⟩ u) rb bs k ∧ NrAt (W6.setCell ⟨pb, o, none⟩ u) nb rb := by
  have hB := h.hr
  have hP := h.hp
  have lo : ∀ b, b < B → some b ≠ row := fun b hb e => by have := hrow b e.symm; omega
  have en : nb ≠ pb := by
    rintro rfl
    have := h.nr.symm.trans h.no
    injection this with h1; injection h1 with h1 h2; exact absurd h2 (by decide)
  refine ⟨?_, (push_blk hg (Array.getElem?_eq_some_iff.1 h.nr).1 en hnn).trans h.nr⟩
  obtain ⟨q, cap, h1, h2⟩ := h.rd
  refine ⟨q, cap, (push_blk hg (Array.getElem?_eq_some_iff.1 h1).1 (by omega) (lo rb hB)).trans h1, h2.kept ⟨?_, fun b hb hl => push_blk hg hl (by omega) (lo b (by omega))⟩⟩
  have := hg.size
  simpa [World.setCell] using this
theorem LdAt.pushC {B : Nat} {W W6 : World} {nb rb pb : Nat} {bs : List Int} {k g6 cap6 : Nat} {cv dv full : Value} {cs ds : List T3} {x : T3} (h : LdAt B W nb rb pb bs k cv dv cs ds full)
    (ho : W6.ownsRow B 102 3 (.slice (some ⟨g6, 0, none⟩) (cs.length + 1) cap6) (cs.length + 1) (triVs .i64 cs ++ [.int .i32 x.1, .int .i32 x.2.1, .int .i64 x.2.2])) (hg : W.grownBy W6 cv.ownBlock) :
    LdAt B (W6.setCell ⟨pb, 1, none⟩ (.slice (some ⟨g6, 0, none⟩) (cs.length + 1) cap6)) nb rb pb bs k (.slice (some ⟨g6, 0, none⟩) (cs.length + 1) cap6) dv (cs ++ [x]) ds full := by
  have hlt : ∀ j, cv.ownBlock = some j → B ≤ j := fun j hj => (h.cls.lt j hj).1
  have np : some pb ≠ cv.ownBlock := ownsRow_apart h.cls h.no (by decide)
  have hp6 := (hg.block pb (Array.getElem?_eq_some_iff.1 h.no).1 np).trans h.no
  obtain ⟨h1, h2⟩ := h.rest (o := 1) (u := .slice (some ⟨g6, 0, none⟩) (cs.length + 1) cap6) hlt hg (ownsRow_apart h.cls h.nr (by decide))
  refine ⟨h1, h2, ?_, ?_, ?_, h.hr, h.hp⟩
  · unfold NoAt; unfold World.setCell
    simp [Array.getElem?_modify, hp6]
  · rw [List.length_append, triVs_snoc]
    exact ownsRow_type ho (fun g cur fr hb hgb => Below.heap_setCell _ ⟨pb, 1, none⟩ _ _ (by rintro rfl; rw [hp6] at hgb; injection hgb with h1; injection h1 with h1 h2; exact absurd h2 (by decide)))
  · exact ownsRow_type h.dec (fun g cur fr hb hgb => push_blk hg (Array.getElem?_eq_some_iff.1 hgb).1 (by rintro rfl; rw [h.no] at hgb; injection hgb with h1; injection h1 with h1 h2; exact absurd h2 (by decide)) (ownsRow_apart h.cls hgb (by decide)))
theorem LdAt.pushD {B : Nat} {W W6 : World} {nb rb pb : Nat} {bs : List Int} {k g6 cap6 : Nat} {cv dv full : Value} {cs ds : List T3} {x : T3} (h : LdAt B W nb rb pb bs k cv dv cs ds full)
    (ho : W6.ownsRow B 104 3 (.slice (some ⟨g6, 0, none⟩) (ds.length + 1) cap6) (ds.length + 1) (triVs .i32 ds ++ [.int .i32 x.1, .int .i32 x.2.1, .int .i32 x.2.2])) (hg : W.grownBy W6 dv.ownBlock) :
    LdAt B (W6.setCell ⟨pb, 2, none⟩ (.slice (some ⟨g6, 0, none⟩) (ds.length + 1) cap6)) nb rb pb bs k cv (.slice (some ⟨g6, 0, none⟩) (ds.length + 1) cap6) cs (ds ++ [x]) full := by
  have hlt : ∀ j, dv.ownBlock = some j → B ≤ j := fun j hj => (h.dec.lt j hj).1
  have np : some pb ≠ dv.ownBlock := ownsRow_apart h.dec h.no (by decide)
  have hp6 := (hg.block pb (Array.getElem?_eq_some_iff.1 h.no).1 np).trans h.no
  obtain ⟨h1, h2⟩ := h.rest (o := 2) (u := .slice (some ⟨g6, 0, none⟩) (ds.length + 1) cap6) hlt hg (ownsRow_apart h.dec h.nr (by decide))
  refine ⟨h1, h2, ?_, ?_, ?_, h.hr, h.hp⟩
  · unfold NoAt; unfold World.setCell
    simp [Array.getElem?_modify, hp6]
  · exact ownsRow_type h.cls (fun g cur fr hb hgb => push_blk hg (Array.getElem?_eq_some_iff.1 hgb).1 (by rintro rfl; rw [h.no] at hgb; injection hgb with h1; injection h1 with h1 h2; exact absurd h2 (by decide)) (ownsRow_apart h.dec hgb (by decide)))
  · rw [List.length_append, triVs_snoc]
    exact ownsRow_type ho (fun g cur fr hb hgb => Below.heap_setCell _ ⟨pb, 2, none⟩ _ _ (by rintro rfl; rw [hp6] at hgb; injection hgb with h1; injection h1 with h1 h2; exact absurd h2 (by decide)))
end Go.Proofs.YtlldoofclaokgaaGreat
