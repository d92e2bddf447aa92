/- Small laws of my own over any program: a quiet callee, worlds with marked rows, bits. -/
import Derived.Test.YtlldoofclaokgaaGreatRows
import Derived.WalkKit
import Derived.WalkSpells
import Derived.WalkLawsBesides
import Derived.Handy
import Derived.Deep.QuietTactic
import Derived.BigQuiet
import Derived.Lib.Hide
import Derived.PlainAid
import Derived.StillTailTactics
import Derived.Lib.SlBytesConst
namespace Go.Proofs.YtlldoofclaokgaaGreat
open Go.RowKit

/-- a callee that leaves the world as it was, met in a region that draws its order -/
theorem quiet_same {P : Program} {f : FuncId} {args : Array Value} {w : World} {n : Nat} {v : Value}
    (h : Calls P f args (w.drewN n) fun e w' => e = .returned v ∧ w.drewN n = w') : Calls P f args (w.drewN n) fun e w'' => e = .returned v ∧ ∃ m, w'' = w.drewN m :=
  h.mono fun _ _ ⟨he, hm⟩ => ⟨he, n, hm.symm⟩

theorem wraps_i64 (n : Int) (h₀ : 0 ≤ n) (h₁ : n < 2 ^ 63) : IntKind.i64.wrap n = n := by rw [IntKind.wrap_i64]; omega
theorem and_i64 (i : Nat) (hi : i ≤ 63) (x : Int) (h₀ : 0 ≤ x) (h₁ : x ≤ 9223372036854775807) : bits .and .i64 x (2 ^ i - 1) = x % 2 ^ i :=
  bits_mask .i64 63 (by decide) wraps_i64 i hi x h₀ (by omega)
theorem and_i32 (i : Nat) (hi : i ≤ 31) (x : Int) (h₀ : 0 ≤ x) (h₁ : x ≤ 2147483647) : bits .and .i32 x (2 ^ i - 1) = x % 2 ^ i :=
  bits_mask .i32 31 (by decide) wraps_i32 i hi x h₀ (by omega)
theorem i64_and15 (x : Int) (h₀ : 0 ≤ x) (h₁ : x ≤ 9223372036854775807) : bits .and .i64 x 15 = x % 16 := and_i64 4 (by decide) x h₀ h₁

@[go_sem] theorem setCell_alloc_mark {w : World} (c : Array Value) (t : TypeId) (fr : Nat × Nat) (n i : Nat) (v : Value) (hn : n = w.heap.size) :
    (w.alloc (.cells c t fr)).setCell ⟨n, i, none⟩ v = w.alloc (.cells (c.setIfInBounds i v) t fr) := by
  subst hn
  unfold World.setCell World.alloc
  congr 1
  apply Array.ext_getElem?
  intro k
  simp only [Array.getElem?_modify, Array.getElem?_push]
  by_cases hk : k = w.heap.size
  · subst hk; simp
  · simp [hk]; intro h; exact absurd h.symm hk
@[go_sem] theorem cell?_alloc_markAt {w : World} (c : Array Value) (t : TypeId) (fr : Nat × Nat) (n i : Nat) (hn : n = w.heap.size) : (w.alloc (.cells c t fr)).cell? ⟨n, i, none⟩ = c[i]? := by
  subst hn; exact World.cell?_alloc_mark w c t fr i
@[go_sem] theorem frozen?_alloc_markAt {w : World} (c : Array Value) (t : TypeId) (lo hi n i : Nat) (hn : n = w.heap.size) : (w.alloc (.cells c t (lo, hi))).frozen? ⟨n, i, none⟩ = (decide (lo ≤ i) && decide (i < hi)) := by
  subst hn; exact World.frozen?_alloc_mark w c t lo hi i

theorem wp_tail {P : Program} {id : Nat} {Q : Exit → Act → World → Prop} {a : Act} {w : World} {l : List Oper} (n : Nat) (hm : P.follows .mixedOrders = true) (hB : Region.lexTailB .any l.toArray n = true)
    (h : wpStill P l.toArray w.drew (fun a' => wpList P l.toArray Q (l.drop n) a' w.drew) (l.take n) a) : (Code.region id l.toArray true).wp P Q a w :=
  wp_region_still_tail n hm hB h

/-! ### Strings given by their numbers. -/
@[go_sem] theorem strOfNums_app (l r : List Int) : strOfNums l ++ strOfNums r = strOfNums (l ++ r) := by
  simp [strOfNums]; rfl
@[go_sem] theorem empty_app (s : ByteArray) : (⟨#[]⟩ : ByteArray) ++ s = s := by
  have := ByteArray.empty_append (b := s); exact this
@[go_sem] theorem strOfNums_len (xs : List Int) : (strOfNums xs).size = xs.length := strOfNums_size xs
theorem byte_app (b : UInt8) (l : List Int) : (⟨#[b]⟩ : ByteArray) ++ strOfNums l = strOfNums ((b.toNat : Int) :: l) := by
  have h : (⟨#[b]⟩ : ByteArray) = strOfNums [(b.toNat : Int)] := by simp [strOfNums]
  rw [h, strOfNums_app]; rfl
theorem app_byte (b : UInt8) (l : List Int) : strOfNums l ++ (⟨#[b]⟩ : ByteArray) = strOfNums (l ++ [(b.toNat : Int)]) := by
  have h : (⟨#[b]⟩ : ByteArray) = strOfNums [(b.toNat : Int)] := by simp [strOfNums]
  rw [h, strOfNums_app]

theorem byte_byte (b c : UInt8) : (⟨#[b]⟩ : ByteArray) ++ (⟨#[c]⟩ : ByteArray) = strOfNums [(b.toNat : Int), (c.toNat : Int)] := by
  have h : (⟨#[c]⟩ : ByteArray) = strOfNums [(c.toNat : Int)] := by simp [strOfNums]
  rw [h, byte_app]

theorem byte2_app (b c : UInt8) (l : List Int) : (⟨#[b, c]⟩ : ByteArray) ++ strOfNums l = strOfNums ((b.toNat : Int) :: (c.toNat : Int) :: l) := by
  have h : (⟨#[b, c]⟩ : ByteArray) = strOfNums [(b.toNat : Int), (c.toNat : Int)] := by simp [strOfNums]
  rw [h, strOfNums_app]; rfl

/-- '[]byte(s)': a new row that holds the bytes -/
theorem bytes_of {P : Program} (w : World) (src dst e : TypeId) (s : ByteArray) (hs : P.underlying src = some .string) (hd : P.underlying dst = some (.slice e)) (he : P.underlying e = some (.int .u8)) :
    ∃ cap w1, (convert src dst (.string s)).run P w = .ok (.slice (some ⟨w.heap.size, 0, none⟩) s.size cap) w1 ∧
      (∀ i, i < s.size → w1.cell? ⟨w.heap.size, i, none⟩ = some (.int .u8 (PlainAid.bt s i))) ∧ Below w.heap.size w w1 ∧ w.heap.size < w1.heap.size := by
  refine ⟨_, _, run_bytes_of_string w src dst e s hs hd he, ?_, ?_, ?_⟩
  · intro i hi
    have e1 := World.cell?_alloc_mark w.drew (bytesRow s (grownCap w s.size 0 e)) e ((bytesRow s (grownCap w s.size 0 e)).size, (bytesRow s (grownCap w s.size 0 e)).size + 1) i
    have e2 := bytesRow_at s (grownCap w s.size 0 e) i hi
    have e3 : PlainAid.bt s i = ((s.data[i]'hi).toNat : Int) := by unfold PlainAid.bt; rw [dif_pos hi]; rfl
    rw [e3, ← e2]
    exact e1
  · exact ((Below.refl _ _).drew).alloc (Nat.le_refl _) _
  · simp

/-! ### Worlds that are as w below block number B: the class for a region whose callees make memory. -/
/-- w below its size, u from there on. -/
def over (w : World) (u : World) : World :=
  { heap := w.heap.extract 0 w.heap.size ++ u.heap.extract w.heap.size u.heap.size, tape := w.tape, drawn := u.drawn, os := w.os, output := w.output }
theorem over_block (w u : World) (k : Nat) (hk : k < w.heap.size) : (over w u).heap[k]? = w.heap[k]? := by
  unfold over
  simp only
  rw [Array.getElem?_append_left (by simp; omega)]
  rw [Array.getElem?_extract, if_pos (by omega)]
  congr 1; omega
theorem below_over (w u : World) : Below w.heap.size w (over w u) := by
  refine ⟨rfl, rfl, rfl, ?_, fun k hk => over_block w u k hk⟩
  simp [over]
theorem below_eq_over {w w' : World} (h : Below w.heap.size w w') : w' = over w w' := by
  have hs := h.size
  obtain ⟨heap', tape', drawn', os', output'⟩ := w'
  have h1 := h.os; have h2 := h.tape; have h3 := h.output
  simp only at h1 h2 h3 hs
  subst h1; subst h2; subst h3
  unfold over
  simp only [World.mk.injEq, and_true]
  apply Array.ext_getElem?
  intro k
  rcases Nat.lt_or_ge k w.heap.size with hk | hk
  · rw [Array.getElem?_append_left (by simp; omega), Array.getElem?_extract]
    have := h.block k hk
    simp only at this
    rw [this, if_pos (by omega)]; congr 1; omega
  · rw [Array.getElem?_append_right (by simp; omega), Array.getElem?_extract]
    simp only [Array.size_extract]
    rcases Nat.lt_or_ge k heap'.size with h' | h'
    · rw [if_pos (by omega)]; congr 1; omega
    · rw [if_neg (by omega), Array.getElem?_eq_none h']
@[go_sem] theorem cell?_over (w u : World) (b o : Nat) (h : b < w.heap.size) : (over w u).cell? ⟨b, o, none⟩ = w.cell? ⟨b, o, none⟩ :=
  (below_over w u).cell (p := ⟨b, o, none⟩) h
@[go_sem] theorem frozen?_over (w u : World) (b o : Nat) (h : b < w.heap.size) : (over w u).frozen? ⟨b, o, none⟩ = w.frozen? ⟨b, o, none⟩ :=
  (below_over w u).frozen (p := ⟨b, o, none⟩) h
/-- the region law: callees may make memory, what they yield is one value -/
theorem wp_region_over {P : Program} {id : Nat} {Q : Exit → Act → World → Prop} {a : Act} {w : World} {l : List Oper} (hm : P.follows .mixedOrders = true) (hB : Region.lexB .any l.toArray = true)
    (h : wpQuiet P l.toArray (fun w' => ∃ u, w' = over w u) (fun a' => ∀ w', Below w.heap.size w w' → Q .normal a' w') l a) : (Code.region id l.toArray true).wp P Q a w := by
  refine wp_region_quiet (C := fun w' => ∃ u, w' = over w u) hm hB ⟨_, below_eq_over ?_⟩ ?_
  · exact ⟨rfl, rfl, rfl, Nat.le_refl _, fun _ _ => rfl⟩
  · have : ∀ (l' : List Oper) (a' : Act), wpQuiet P l.toArray (fun w' => ∃ u, w' = over w u) (fun a' => ∀ w', Below w.heap.size w w' → Q .normal a' w') l' a' →
        wpQuiet P l.toArray (fun w' => ∃ u, w' = over w u) (fun a' => ∀ w', (∃ u, w' = over w u) → Q .normal a' w') l' a' := by
      intro l'
      induction l' with
      | nil => intro a' h' w' ⟨u, hu⟩; exact h' w' (by rw [hu]; exact below_over w u)
      | cons o r ih =>
        intro a' h'
        unfold wpQuiet at h' ⊢
        split
        · rename_i hw; rw [if_pos hw] at h'
          exact Oper.quiet_mono ih h'
        · rename_i hw; rw [if_neg hw] at h'
          exact ih _ h'
    simpa using this l a h
/-- a callee that makes memory, met in such a region -/
theorem over_of {P : Program} {f : FuncId} {args : Array Value} {w u : World} {v : Value}
    (h : Calls P f args (over w u) fun e w' => e = .returned v ∧ Below (over w u).heap.size (over w u) w') :
    Calls P f args (over w u) fun e w'' => e = .returned v ∧ ∃ u', w'' = over w u' :=
  h.mono fun _ w' ⟨he, hb⟩ => ⟨he, _, below_eq_over ((below_over w u).trans (hb.mono (below_over w u).size))⟩
theorem over_same {P : Program} {f : FuncId} {args : Array Value} {w u : World} {v : Value}
    (h : Calls P f args (over w u) fun e w' => e = .returned v ∧ over w u = w') :
    Calls P f args (over w u) fun e w'' => e = .returned v ∧ ∃ u', w'' = over w u' :=
  h.mono fun _ _ ⟨he, hb⟩ => ⟨he, u, hb.symm⟩
/-- what a world above a world keeps of its cells, laid as rules -/
theorem bcell {W w1 : World} {B : Nat} (hb : Below B W w1) : (∀ b o, b < B → w1.cell? ⟨b, o, none⟩ = W.cell? ⟨b, o, none⟩) ∧ (∀ b o, b < B → w1.frozen? ⟨b, o, none⟩ = W.frozen? ⟨b, o, none⟩) :=
  ⟨fun b o h => hb.cell (p := ⟨b, o, none⟩) h, fun b o h => hb.frozen (p := ⟨b, o, none⟩) h⟩
end Go.Proofs.YtlldoofclaokgaaGreat
