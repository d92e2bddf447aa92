/- Package tailor: must; the signs. -/
import Derived.Test.YtchjjfjjcdjjcaaDoorGb
import Derived.Maps.OwnOps
import Derived.Maps.OwnSet
namespace Go.Proofs.YtchjjfjjcdjjcaaDoor
open Go.RowKit
open PlainAid (bt)
open Go.WideShapes Go.MapKept

/-- what is thrown -/
def chainT (a e : Int) : List PanicEntry := [{ v := .iface 73 (.agg #[.int .i64 a, .int .i64 e]), recovered := false }]
theorem must_ok (a e : Int) (w : World) : Calls Tryd.prog 36 #[.bool true, .int .i64 a, .int .i64 e] w fun x w' => x = .returned (.tuple #[]) ∧ w = w' := by
  go_enter Tryd.func36, Tryd.ntmps36
  go_wp2
  go_end0
  exact ⟨rfl, rfl⟩
theorem must_no (a e : Int) (w : World) : Calls Tryd.prog 36 #[.bool false, .int .i64 a, .int .i64 e] w fun x w' => x = .panicked (chainT a e) ∧ w = w' := by
  go_enter Tryd.func36, Tryd.ntmps36
  go_wp2
  exact ⟨rfl, rfl, rfl⟩
/-- a sign's kind -/
def signK (t : List UInt8) : Option Int :=
  if t = [38] then some 0 else if t = [60] then some 1 else if t = [60, 60] then some 2 else if t = [60, 60, 60] then some 3 else if t = [61] then some 4 else none
def kindsD : DataW Unit := .map [(.string [38], .lit (.int .i64 0)), (.string [60], .lit (.int .i64 1)), (.string [60, 60], .lit (.int .i64 2)), (.string [60, 60, 60], .lit (.int .i64 3)), (.string [61], .lit (.int .i64 4))]
theorem kinds_has (t : List UInt8) : Maps.has kindsD (.string t) = (signK t).isSome ∧ kindsD.atKey (.string t) (.lit (.int .i64 0)) = .lit (.int .i64 ((signK t).getD 0)) := by
  unfold kindsD signK
  by_cases h1 : t = [38]
  · subst h1; exact ⟨rfl, rfl⟩
  by_cases h2 : t = [60]
  · subst h2; exact ⟨rfl, rfl⟩
  by_cases h3 : t = [60, 60]
  · subst h3; exact ⟨rfl, rfl⟩
  by_cases h4 : t = [60, 60, 60]
  · subst h4; exact ⟨rfl, rfl⟩
  by_cases h5 : t = [61]
  · subst h5; exact ⟨rfl, rfl⟩
  rw [if_neg h1, if_neg h2, if_neg h3, if_neg h4, if_neg h5]
  have k1 : ((Lit.string [38]).sameKey (.string t)) = false := by simpa [Lit.sameKey] using fun h => h1 h.symm
  have k2 : ((Lit.string [60]).sameKey (.string t)) = false := by simpa [Lit.sameKey] using fun h => h2 h.symm
  have k3 : ((Lit.string [60, 60]).sameKey (.string t)) = false := by simpa [Lit.sameKey] using fun h => h3 h.symm
  have k4 : ((Lit.string [60, 60, 60]).sameKey (.string t)) = false := by simpa [Lit.sameKey] using fun h => h4 h.symm
  have k5 : ((Lit.string [61]).sameKey (.string t)) = false := by simpa [Lit.sameKey] using fun h => h5 h.symm
  constructor
  · simp [Maps.has_eq, k1, k2, k3, k4, k5]
  · simp [DataW.atKey, k1, k2, k3, k4, k5]
/-- the map of signs -/
def KindsAt (b : Nat) (W : World) : Prop := W.ownsMap Tryd.prog 9 (plainElem (H := Unit) Tryd.prog 3) b 5 kindsD
theorem KindsAt.look {b : Nat} {W : World} (h : KindsAt b W) (t : ByteArray) (ht : t.size ≤ maxLen) :
    (Instr.lookup 96 (.map (some b)) (.string t) true).run Tryd.prog W = .ok (.tuple #[.int .i64 ((signK t.data.toList).getD 0), .bool (signK t.data.toList).isSome]) W := by
  obtain ⟨v, ps, hr, hv⟩ := h.look_ok (Maps.string_keyed Tryd.underlying9) Tryd.underlying96 (z := .int .i64 0) (by kernel_rfl) (plainElem_int Tryd.underlying3 (by decide)) (WideMaps.keyOf_string_mk Tryd.underlying9 ht)
  rw [(kinds_has _).1] at hr
  rw [(kinds_has _).2] at hv
  obtain ⟨a, rfl, hz, _⟩ := plainElem_int_inv Tryd.underlying3 hv
  simp only [Prod.mk.injEq, DataW.lit.injEq, Lit.int.injEq, true_and] at hz
  rw [hr, ← hz.1]
set_option maxRecDepth 100000 in
theorem kinds_any (w : World) : Calls Tryd.prog 54 #[] w fun x w' => x = .returned (.map (some w.heap.size)) ∧ KindsAt w.heap.size w' ∧ Below w.heap.size w w' := by
  have hmm := @run_makeMap Tryd.prog
  have K := Maps.string_keyed Tryd.underlying9
  have ks : ∀ t : ByteArray, t.size ≤ maxLen → keyOf Tryd.prog 9 (.string t) = some (.string t.data.toList) := fun t h => WideMaps.keyOf_string_mk Tryd.underlying9 h
  have ei : ∀ a : Int, (Lit.int .i64 a).wf = true → plainElem (H := Unit) Tryd.prog 3 (.int .i64 a) = some (.lit (.int .i64 a), []) := fun a h => plainElem_int Tryd.underlying3 h
  obtain ⟨w1, r1, o1, g1⟩ := (World.ownsMap_made w Tryd.prog 9 (plainElem (H := Unit) Tryd.prog 3)).update K Tryd.underlying96 (by decide) (ks ⟨#[38]⟩ (by decide)) (ei 0 (by decide))
  obtain ⟨w2, r2, o2, g2⟩ := o1.update K Tryd.underlying96 (by decide) (ks ⟨#[60]⟩ (by decide)) (ei 1 (by decide))
  obtain ⟨w3, r3, o3, g3⟩ := o2.update K Tryd.underlying96 (by decide) (ks ⟨#[60, 60]⟩ (by decide)) (ei 2 (by decide))
  obtain ⟨w4, r4, o4, g4⟩ := o3.update K Tryd.underlying96 (by decide) (ks ⟨#[60, 60, 60]⟩ (by decide)) (ei 3 (by decide))
  obtain ⟨w5, r5, o5, g5⟩ := o4.update K Tryd.underlying96 (by decide) (ks ⟨#[61]⟩ (by decide)) (ei 4 (by decide))
  have HB : Hid (Below w.heap.size w w5) := by
    have hz1 := g1.size; have hz2 := g2.size; have hz3 := g3.size; have hz4 := g4.size
    simp only [World.size_alloc] at hz1
    exact ((((((Below.refl _ w).alloc (Nat.le_refl _) _).grown g1 (by simp) (fun k e => by cases e; exact Nat.le_refl _)).grown g2 (by omega) (fun k e => by cases e; exact Nat.le_refl _)).grown g3 (by omega) (fun k e => by cases e; exact Nat.le_refl _)).grown g4 (by omega) (fun k e => by cases e; exact Nat.le_refl _)).grown g5 (by omega) (fun k e => by cases e; exact Nat.le_refl _)
  have HK : Hid (KindsAt w.heap.size w5) := o5
  clear K ks ei o1 o2 o3 o4 o5 g1 g2 g3 g4 g5
  go_enter Tryd.func54, Tryd.ntmps54
  go_wp2
  go_ret
  exact ⟨rfl, HK.out, HB.out⟩
end Go.Proofs.YtchjjfjjcdjjcaaDoor
