/- Classes and decompositions: plain; and slices of triples in memory, over any program. -/
import Derived.Test.YtnglhgogkemgbaaGreatDoorG01
namespace Go.Proofs.YtnglhgogkemgbaaGreatDoor
open Go.RowKit

abbrev T3 := Int × Int × Int
theorem pt_bd {r : Int} (h : pt r = true) : 0 ≤ r ∧ r ≤ 1114111 := by
  unfold pt at h; simp at h; exact h.1
/-- classes that may be -/
def clsOne (x : T3) : Bool := pt x.1 && pt x.2.1 && decide (x.1 ≤ x.2.1) && decide (1 ≤ x.2.2) && decide (x.2.2 ≤ 254)
def clsFrom : Option T3 → List T3 → Bool
  | _, [] => true
  | p, x :: xs => clsOne x && (match p with | none => true | some y => decide (y.2.1 < x.1)) && clsFrom (some x) xs
/-- the class of a code point -/
def clsOf (c : List T3) (r : Int) : Int := match c.find? (fun x => decide (x.1 ≤ r) && decide (r ≤ x.2.1)) with | some x => x.2.2 | none => 0
/-- a Hangul syllable's -/
def hang (r : Int) : List Int :=
  if r < 44032 ∨ 55203 < r then [] else
  [4352 + (r - 44032) / 588, 4449 + (r - 44032) % 588 / 28] ++ (if (r - 44032) % 28 = 0 then [] else [4519 + (r - 44032) % 28])
def told (r : Int) : Bool := (decide (4352 ≤ r) && decide (r ≤ 4370)) || (decide (4449 ≤ r) && decide (r ≤ 4469)) || (decide (4520 ≤ r) && decide (r ≤ 4546))
/-- by one step -/
def dOne (d : List T3) (r : Int) : Option T3 := d.find? (fun x => x.1 == r)
def deep (d : List T3) : Nat → Int → List Int × Bool
  | most, r => if hang r ≠ [] then (hang r, true) else
    match dOne d r with
    | none => ([r], true)
    | some x => match most with
      | 0 => ([], false)
      | m + 1 => ((deep d m x.2.1).1 ++ (if x.2.2 = 0 then [] else [x.2.2]), (deep d m x.2.1).2)
def decOne (x : T3) : Bool := pt x.1 && pt x.2.1 && pt x.2.2 && decide (x.2.1 ≠ 0) && !(decide (44032 ≤ x.1) && decide (x.1 ≤ 55203)) && !told x.1
def decFrom : Option T3 → List T3 → Bool
  | _, [] => true
  | p, x :: xs => decOne x && (match p with | none => true | some y => decide (y.1 < x.1)) && decFrom (some x) xs
def decTwo (c d : List T3) (x : T3) : Bool :=
  (x.2.2 == 0 || ((dOne d x.2.2).isNone && decide (hang x.2.2 = []))) && (deep d 4 x.1).2 && (clsOf c x.1 == 0 || clsOf c ((deep d 4 x.1).1.getD 0 0) != 0)
def dataOk (c d : List T3) : Bool := decide (c.length ≤ 4000) && decide (d.length ≤ 8000) && clsFrom none c && decFrom none d && d.all (decTwo c d)

theorem clsFrom_at : ∀ (c : List T3) (p : Option T3), clsFrom p c = true → ∀ (i : Nat) (x : T3), c[i]? = some x → clsOne x = true ∧ ∀ (y : T3), (match i with | 0 => p | j + 1 => c[j]?) = some y → y.2.1 < x.1
  | [], _, _, i, x, hx => by simp at hx
  | z :: zs, p, h, i, x, hx => by
    simp only [clsFrom, Bool.and_eq_true] at h
    match i with
    | 0 =>
      simp only [List.getElem?_cons_zero, Option.some.injEq] at hx
      subst hx
      refine ⟨h.1.1, fun y hy => ?_⟩
      simp only at hy
      have h2 := h.1.2
      rw [hy] at h2; simpa using h2
    | j + 1 =>
      simp only [List.getElem?_cons_succ] at hx
      obtain ⟨h1, h2⟩ := clsFrom_at zs (some z) h.2 j x hx
      refine ⟨h1, fun y hy => h2 y ?_⟩
      match j with
      | 0 => simpa using hy
      | k + 1 => simpa using hy
theorem decFrom_at : ∀ (c : List T3) (p : Option T3), decFrom p c = true → ∀ (i : Nat) (x : T3), c[i]? = some x → decOne x = true ∧ ∀ (y : T3), (match i with | 0 => p | j + 1 => c[j]?) = some y → y.1 < x.1
  | [], _, _, i, x, hx => by simp at hx
  | z :: zs, p, h, i, x, hx => by
    simp only [decFrom, Bool.and_eq_true] at h
    match i with
    | 0 =>
      simp only [List.getElem?_cons_zero, Option.some.injEq] at hx
      subst hx
      refine ⟨h.1.1, fun y hy => ?_⟩
      simp only at hy
      have h2 := h.1.2
      rw [hy] at h2; simpa using h2
    | j + 1 =>
      simp only [List.getElem?_cons_succ] at hx
      obtain ⟨h1, h2⟩ := decFrom_at zs (some z) h.2 j x hx
      refine ⟨h1, fun y hy => h2 y ?_⟩
      match j with
      | 0 => simpa using hy
      | k + 1 => simpa using hy
/-- the classes' order, of any two -/
theorem cls_lt {c : List T3} (h : clsFrom none c = true) {i j : Nat} {x y : T3} (hij : i < j) (hx : c[i]? = some x) (hy : c[j]? = some y) : x.2.1 < y.1 := by
  induction j generalizing y with
  | zero => omega
  | succ j ih =>
    obtain ⟨h1, h2⟩ := clsFrom_at c none h (j + 1) y hy
    have hj : j < c.length := by have := (List.getElem?_eq_some_iff.1 hy).1; omega
    have hz : c[j]? = some c[j] := List.getElem?_eq_getElem hj
    have h3 := h2 c[j] hz
    rcases Nat.lt_or_ge i j with h' | h'
    · have h4 := ih h' hz
      have h5 := (clsFrom_at c none h j _ hz).1
      unfold clsOne at h5; simp at h5; omega
    · obtain rfl : i = j := by omega
      rw [hx] at hz; cases hz; exact h3
theorem dec_lt {c : List T3} (h : decFrom none c = true) {i j : Nat} {x y : T3} (hij : i < j) (hx : c[i]? = some x) (hy : c[j]? = some y) : x.1 < y.1 := by
  induction j generalizing y with
  | zero => omega
  | succ j ih =>
    obtain ⟨h1, h2⟩ := decFrom_at c none h (j + 1) y hy
    have hj : j < c.length := by have := (List.getElem?_eq_some_iff.1 hy).1; omega
    have hz : c[j]? = some c[j] := List.getElem?_eq_getElem hj
    have h3 := h2 c[j] hz
    rcases Nat.lt_or_ge i j with h' | h'
    · have h4 := ih h' hz; omega
    · obtain rfl : i = j := by omega
      rw [hx] at hz; cases hz; exact h3

/-! ### Slices of triples in memory -/
def Tri (kc : IntKind) (w : World) (b o : Nat) (x : T3) : Prop :=
  w.cell? ⟨b, o, none⟩ = some (.int .i32 x.1) ∧ w.cell? ⟨b, o + 1, none⟩ = some (.int .i32 x.2.1) ∧ w.cell? ⟨b, o + 2, none⟩ = some (.int kc x.2.2)
theorem Tri.of {kc : IntKind} {w w' : World} {b o : Nat} {x : T3} (h : Tri kc w b o x) (hb : w'.heap[b]? = w.heap[b]?) : Tri kc w' b o x := by
  have e : ∀ o', w'.cell? ⟨b, o', none⟩ = w.cell? ⟨b, o', none⟩ := fun o' => World.cell?_of_block (w := w) (a := ⟨b, o', none⟩) hb
  exact ⟨(e _).trans h.1, (e _).trans h.2.1, (e _).trans h.2.2⟩
def TrisIn (R : Nat → Prop) (kc : IntKind) (w : World) (v : Value) (xs : List T3) : Prop :=
  ∃ p cap, v = .slice p xs.length cap ∧ (xs.length ≤ cap ∧ cap ≤ maxLen) ∧ ∀ (i : Nat) (x : T3), xs[i]? = some x → ∃ b o, p = some ⟨b, o, none⟩ ∧ R b ∧ b < w.heap.size ∧ Tri kc w b (o + i * 3) x
theorem TrisIn.nil (R : Nat → Prop) (kc : IntKind) (w : World) : TrisIn R kc w (.slice none 0 0) [] := ⟨none, 0, rfl, ⟨Nat.le_refl _, Nat.zero_le _⟩, fun i x h => by simp at h⟩
theorem TrisIn.kept {R : Nat → Prop} {kc : IntKind} {w w' : World} {v : Value} {xs : List T3} (h : TrisIn R kc w v xs) (hb : Kept R w w') : TrisIn R kc w' v xs := by
  obtain ⟨p, cap, h1, h0, h2⟩ := h
  refine ⟨p, cap, h1, h0, fun i x hx => ?_⟩
  obtain ⟨b, o, e1, e2, e3, e4⟩ := h2 i x hx
  exact ⟨b, o, e1, e2, Nat.lt_of_lt_of_le e3 hb.1, e4.of (hb.2 b e2 e3)⟩
theorem TrisIn.mono {R S : Nat → Prop} {kc : IntKind} {w : World} {v : Value} {xs : List T3} (h : TrisIn R kc w v xs) (hm : ∀ b, R b → b < w.heap.size → S b) : TrisIn S kc w v xs := by
  obtain ⟨p, cap, h1, h0, h2⟩ := h
  refine ⟨p, cap, h1, h0, fun i x hx => ?_⟩
  obtain ⟨b, o, e1, e2, e3, e4⟩ := h2 i x hx
  exact ⟨b, o, e1, hm b e2 e3, e3, e4⟩
theorem TrisIn.at {R : Nat → Prop} {kc : IntKind} {w : World} {p : Option Addr} {len cap : Nat} {xs : List T3} (h : TrisIn R kc w (.slice p len cap) xs) (i : Nat) (x : T3) (hi : xs[i]? = some x) :
    ∃ b o, p = some ⟨b, o, none⟩ ∧ R b ∧ b < w.heap.size ∧ Tri kc w b (o + i * 3) x := by
  obtain ⟨p', cap', h1, _, h2⟩ := h
  cases h1
  exact h2 i x hi
end Go.Proofs.YtnglhgogkemgbaaGreatDoor
