/- Package tailor: behind, in plain words. -/
import Derived.Test.YtchjjfjjcdjjcaaDoorIf
namespace Go.Proofs.YtchjjfjjcdjjcaaDoor
open Go.RowKit

/-- does an element count at a level? -/
def cntT (lv : Int) (x : El) : Bool := decide (1 ≤ lvlT x) && decide (lvlT x ≤ lv)
/-- the last element that counts, of the first so many -/
def bAtF (e : List El) (lv : Int) : Nat → Option Nat
  | 0 => none
  | k + 1 => match e[k]? with | some x => if cntT lv x = true then some k else bAtF e lv k | none => bAtF e lv k
def bAtI (e : List El) (lv : Int) (k : Nat) : Int := match bAtF e lv k with | none => -1 | some a => a
theorem bAtF_lt (e : List El) (lv : Int) : ∀ (k a : Nat), bAtF e lv k = some a → a < k ∧ ∃ x, e[a]? = some x
  | 0, a, h => by cases h
  | k + 1, a, h => by
    rw [bAtF] at h
    split at h
    · rename_i x hx
      split at h
      · cases h; exact ⟨by omega, x, hx⟩
      · have := bAtF_lt e lv k a h; exact ⟨by omega, this.2⟩
    · have := bAtF_lt e lv k a h; exact ⟨by omega, this.2⟩
theorem bAtI_step {e : List El} {lv : Int} {k : Nat} {x : El} (h : e[k]? = some x) : bAtI e lv (k + 1) = if cntT lv x = true then (k : Int) else bAtI e lv k := by
  unfold bAtI
  rw [bAtF, h]
  by_cases hc : cntT lv x = true
  · simp only [if_pos hc]
  · simp only [if_neg hc]
def nextT (lv : Int) (x : El) : Option El :=
  if lv = 1 then (if x.1 + 1 < 64256 then some (x.1 + 1, 32, 2, x.2.2.2) else none)
  else if lv = 2 then (if x.2.1 < 511 then some (x.1, x.2.1 + 1, 2, x.2.2.2) else none)
  else (if x.2.2.1 < 63 then some (x.1, x.2.1, x.2.2.1 + 1, x.2.2.2) else none)
def okB (f : El → Option El) (es : List Ent) (e : List El) : Bool := (es.all fun x => x.2.all fun y => (f y).isSome) && e.all fun y => (f y).isSome
theorem okB_iff (f : El → Option El) (es : List Ent) (e : List El) : okB f es e = true ↔ okAll f es e := by
  unfold okB okAll
  simp only [Bool.and_eq_true, List.all_eq_true]
/-- where the next one stands, what it stands behind, what it is; or the error -/
def behR (es : List Ent) (e : List El) (lv : Int) : (Nat × El × El) ⊕ Int :=
  if 1 ≤ lv ∧ lv ≤ 3 then
    match bAtF e lv e.length with
    | none => .inr 101
    | some a => match e[a]? with
      | none => .inr 101
      | some x => if x.1 < 64256 then (match nextT lv x with | none => .inr 102 | some nx => if okB (upT lv x) es e = true then .inl (a, x, nx) else .inr 102) else .inr 101
  else .inr 101
/-- how behind ends -/
def BhEnd (es : List Ent) (e : List El) (lv : Int) (ver : ByteArray) (n : Nat) (w : World) (e' : Ending) (w' : World) : Prop :=
  Below w.heap.size w w' ∧
    ((∃ a x nx p c v ts cs ov, behR es e lv = .inl (a, x, nx) ∧ e' = .returned (.tuple #[.agg #[.string ver, .slice p n c, v], ov]) ∧ EntsOwnC w.heap.size w' v (es.map (raiE (upU (upT lv x)))) ts cs ∧ ElsIn (fun b => w.heap.size ≤ b) w' ov ((e.take a).map (upU (upT lv x)) ++ [nx])) ∨
      (∃ z, behR es e lv = .inr z ∧ e' = .panicked (chainT 0 z)))
theorem Tryd.infoEl : (Tryd.prog.info? 42).map (fun i => (i.zero, i.size, i.bytes)) = some (some (.agg #[.int .i64 0, .int .i64 0, .int .i64 0, .bool false]), 4, 32) := by kernel_rfl
/-- the cells of elements -/
theorem els_cells {R : Nat → Prop} {w : World} {q o len cap : Nat} {xs : List El} (h : ElsIn R w (.slice (some ⟨q, o, none⟩) len cap) xs) : ∀ (j : Nat) u, (xs.flatMap elCells)[j]? = some u → w.cell? ((⟨q, o, none⟩ : Addr).add j) = some u := by
  intro j u hj
  have hjl := (List.getElem?_eq_some_iff.1 hj).1
  rw [tflat_len elCells 4 (fun _ => rfl)] at hjl
  obtain ⟨x, hx⟩ : ∃ x, xs[j / 4]? = some x := ⟨xs[j / 4]'(by omega), List.getElem?_eq_getElem (by omega)⟩
  obtain ⟨b, o', e, _, hl, h0, h1, h2, h3⟩ := h.at (j / 4) x hx
  cases e
  rw [addr_add]
  have key : ∀ (m : Nat) (z : Value), (elCells x)[m]? = some z → j = j / 4 * 4 + m → u = z := fun m z hz hm => by
    have := flat_at elCells 4 (fun _ => rfl) xs (j / 4) m x z hx hz
    rw [← hm, hj] at this; cases this; rfl
  have hd : j % 4 = 0 ∨ j % 4 = 1 ∨ j % 4 = 2 ∨ j % 4 = 3 := by omega
  rcases hd with hd | hd | hd | hd
  · rw [key 0 _ rfl (by omega), show o + j = o + j / 4 * 4 by omega]; exact h0
  · rw [key 1 _ rfl (by omega), show o + j = o + j / 4 * 4 + 1 by omega]; exact h1
  · rw [key 2 _ rfl (by omega), show o + j = o + j / 4 * 4 + 2 by omega]; exact h2
  · rw [key 3 _ rfl (by omega), show o + j = o + j / 4 * 4 + 3 by omega]; exact h3
theorem run_append_els {R : Nat → Prop} (w : World) (ty : TypeId) (q o len cap a : Nat) (xs : List El) (h : ElsIn R w (.slice (some ⟨q, o, none⟩) len cap) xs) (ha : a ≤ xs.length) (hx : xs.length ≤ 1000000000) (nb : Nat) (y : El)
    (hy : ∀ (j : Nat) u, (elCells y)[j]? = some u → w.cell? ((⟨nb, 0, none⟩ : Addr).add j) = some u) :
    ∃ p n c w', (Builtin.append_ #[35, 35] ty #[.slice (some ⟨q, o, none⟩) a a, .slice (some ⟨nb, 0, none⟩) 1 1]).run Tryd.prog w = .ok (.slice p n c) w' ∧ ElsIn (fun b => w.heap.size ≤ b) w' (.slice p n c) (xs.take a ++ [y]) ∧ Below w.heap.size w w' := by
  obtain ⟨i0, hi, hz0, hz1, hz2⟩ := info_parts Tryd.infoEl
  have htl : (xs.take a).length = a := by rw [List.length_take]; omega
  have htk : ElsIn R w (.slice (some ⟨q, o, none⟩) (xs.take a).length cap) (xs.take a) := by
    refine ⟨_, _, rfl, fun i x hx => ?_⟩
    have h1 : xs[i]? = some x := by
      have hil := (List.getElem?_eq_some_iff.1 hx).1
      rw [List.getElem?_take] at hx
      split at hx
      · exact hx
      · cases hx
    exact h.at i x h1
  have hr := run_append_grow (P := Tryd.prog) w 35 ty 42 i0 (.agg #[.int .i64 0, .int .i64 0, .int .i64 0, .bool false]) Tryd.underlying35 hi hz0 ⟨q, o, none⟩ a a ((xs.take a).flatMap elCells) (by rw [hz1, tflat_len elCells 4 (fun _ => rfl), htl]) (els_cells htk) ⟨nb, 0, none⟩ 1 1 (elCells y) (by rw [hz1]; rfl) hy (by omega) (by omega) (growslice_fits (by omega) (by rw [hz2]; omega))
  have hcs : ((xs.take a).flatMap elCells).toArray ++ (elCells y).toArray = ((xs.take a ++ [y]).flatMap elCells).toArray := by simp
  rw [hcs] at hr
  refine ⟨_, _, _, _, hr, ?_, ((Below.refl _ w).drew).alloc (Nat.le_refl _) _⟩
  have hbk : (w.drew.alloc (.cells (((xs.take a ++ [y]).flatMap elCells).toArray ++ Builtin.zeroCells (Value.agg #[.int .i64 0, .int .i64 0, .int .i64 0, .bool false]).cells (grownCap w (a + 1) a 42 - (a + 1))) 42)).heap[w.heap.size]? = some (.cells (((xs.take a ++ [y]).flatMap elCells).toArray ++ Builtin.zeroCells (Value.agg #[.int .i64 0, .int .i64 0, .int .i64 0, .bool false]).cells (grownCap w (a + 1) a 42 - (a + 1))) 42 (0, 0)) := World.alloc_heap_new w.drew _
  have hn : (xs.take a ++ [y]).length = a + 1 := by rw [List.length_append, htl]; rfl
  generalize w.drew.alloc (.cells (((xs.take a ++ [y]).flatMap elCells).toArray ++ Builtin.zeroCells (Value.agg #[.int .i64 0, .int .i64 0, .int .i64 0, .bool false]).cells (grownCap w (a + 1) a 42 - (a + 1))) 42) = W' at *
  refine ⟨_, _, by rw [hn], fun i x hx => ⟨w.heap.size, 0, rfl, Nat.le_refl _, (Array.getElem?_eq_some_iff.1 hbk).1, ?_⟩⟩
  have at' : ∀ j u, (elCells x)[j]? = some u → W'.cell? ⟨w.heap.size, 0 + i * 4 + j, none⟩ = some u := fun j u hu => by
    have h1 := flat_at elCells 4 (fun _ => rfl) (xs.take a ++ [y]) i j x u hx hu
    have h2 := (List.getElem?_eq_some_iff.1 h1).1
    unfold World.cell?
    simp only [hbk, Nat.zero_add]
    rw [Array.getElem?_append_left (by simpa using h2)]
    simpa using h1
  exact ⟨at' 0 _ rfl, at' 1 _ rfl, at' 2 _ rfl, at' 3 _ rfl⟩
theorem wp_append_els {R : Nat → Prop} (w : World) {o : Oper} {a : Act} {K : Act → World → Prop} {Q : Exit → Act → World → Prop} (s x : Operand)
    (ho : o.op = .call { callee := .builtin .append, args := #[s, x], argTypes := #[35, 35] })
    (q f len cap m : Nat) (xs : List El) (nb : Nat) (y : El) (hs : a.eval s = .slice (some ⟨q, f, none⟩) m m) (hx : a.eval x = .slice (some ⟨nb, 0, none⟩) 1 1)
    (h : ElsIn R w (.slice (some ⟨q, f, none⟩) len cap) xs) (ha : m ≤ xs.length) (hxl : xs.length ≤ 1000000000)
    (hy : ∀ (j : Nat) u, (elCells y)[j]? = some u → w.cell? ((⟨nb, 0, none⟩ : Addr).add j) = some u)
    (hk : ∀ p n c w', ElsIn (fun b => w.heap.size ≤ b) w' (.slice p n c) (xs.take m ++ [y]) → Below w.heap.size w w' → K (a.put o.dst (.slice p n c)) w') : o.wp Tryd.prog a w K Q := by
  obtain ⟨p, n, c, w', hr, h1, h2⟩ := run_append_els w o.type q f len cap m xs h ha hxl nb y hy
  unfold Oper.wp execOp
  simp only [ho, Go.resolve, Go.invoke, Go.builtin, Sem.run_bind, Sem.run_pure, Result.andThen_ok, List.map_toArray, List.map_cons, List.map_nil, hs, hx, hr]
  exact hk p n c w' h1 h2
theorem slice_cut (q f len cap a : Nat) (h : a ≤ cap) (W : World) : (Instr.slice 35 (.slice (some ⟨q, f, none⟩) len cap) none (some (.int .i64 (a : Int))) (some (.int .i64 (a : Int)))).run Tryd.prog W = .ok (.slice (some ⟨q, f, none⟩) a a) W := by
  rw [run_slice_hm (w := W) 35 (some ⟨q, f, none⟩) len cap (by simp [Program.elem, Tryd.underlying35]) .i64 .i64 a a (by omega) (by omega) (by omega)]
  simp [go_sem, sliced]
end Go.Proofs.YtchjjfjjcdjjcaaDoor
