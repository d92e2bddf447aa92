/- TailorRoom: the law, walked. -/
import Derived.Test.YtchjjfjjcdjjcaaDoorRb
import Derived.Test.YtchjjfjjcdjjcaaDoorIk
import Derived.Deep.RegionHeld
namespace Go.Proofs.YtchjjfjjcdjjcaaDoor
open Go.RowKit

theorem cmp4_any (p s t : Int) (v : Bool) (q r u : Int) (z : Bool) (w : World) : Calls Tryd.prog 13 #[.agg #[.int .i64 p, .int .i64 s, .int .i64 t, .bool v], .agg #[.int .i64 q, .int .i64 r, .int .i64 u, .bool z]] w fun e w' => e = .returned (.int .i64 (cmpC (p, s, t, v) (q, r, u, z))) ∧ Below w.heap.size w w' :=
  tcompare_any (p, s, t, v) (q, r, u, z) w
theorem run_append_zero {P : Program} {w : World} (base : Nat) (t ty e : TypeId) (i : TypeInfo) (size : Nat) (ht : P.underlying t = some (.slice e)) (hi : P.info? e = some i)
    (v : Value) (n : Nat) (xs : List Value) (hown : w.ownsRow base e size v n xs) (p : Option Addr) (c : Nat) :
    (Builtin.append_ #[t, t] ty #[v, .slice p 0 c]).run P w = .ok v w := by
  have hl : ∀ a : Addr, (loadCellsFrom a 0 0 #[]).run P w = .ok #[] w := fun a => by unfold loadCellsFrom; rfl
  rcases hown.2 with ⟨rfl, rfl⟩ | ⟨g, cap, cur, rfl, _, _, hnc, _⟩
  · cases p <;> simp [Builtin.append_, run_underlying ht, sizeOf, typeInfo, hi, Builtin.lenOf, Builtin.firstCells, loadCells, hl, Result.andThen]
  · cases p <;> simp [Builtin.append_, run_underlying ht, sizeOf, typeInfo, hi, Builtin.lenOf, Builtin.firstCells, hnc, storeCells, loadCells, hl, Result.andThen]
/-- elements are put behind a row of ours -/
theorem wpList_append_elsQ {ops : Array Oper} {rest : List Oper} {o : Oper} {a : Act} {w : World} {Q : Exit → Act → World → Prop} (hgd : o.guard = none) (s x : Operand)
    (ho : o.op = .call { callee := .builtin .append, args := #[s, x], argTypes := #[35, 35] })
    (B : Nat) (v u : Value) (xs ys : List El) (hs : a.eval s = v) (hown : w.ownsRow B 42 4 v xs.length (xs.flatMap elCells)) {R : Nat → Prop} (hx : a.eval x = u) (hu : ElsIn R w u ys)
    (hl : xs.length + ys.length ≤ 1000000000) (hbase : B ≤ w.heap.size)
    (h : ∀ v' w', w'.ownsRow B 42 4 v' (xs ++ ys).length ((xs ++ ys).flatMap elCells) → w.grownBy w' v.ownBlock → (v'.ownBlock = v.ownBlock ∨ v'.ownBlock = some w.heap.size) → wpList Tryd.prog ops Q rest (a.put o.dst v') w') : wpList Tryd.prog ops Q (o :: rest) a w := by
  obtain ⟨i0, hi, hz0, hz1, hz2⟩ := info_parts Tryd.infoEl
  obtain ⟨p, c, rfl, hc⟩ := hu
  cases ys with
  | nil =>
    refine wpList_plain hgd fun K hK => ?_
    have hrun := run_append_zero (P := Tryd.prog) (w := w) B 35 o.type 42 i0 4 Tryd.underlying35 hi v xs.length (xs.flatMap elCells) hown p c
    unfold Oper.wp
    simp [execOp, ho, resolve, invoke, builtin, hs, hx, hrun, Result.andThen]
    exact hK _ _ (h v w (by simpa using hown) ⟨rfl, rfl, rfl, Nat.le_refl _, fun _ _ _ => rfl⟩ (.inl rfl))
  | cons y ys =>
    obtain ⟨b, o', rfl, _, hb, _⟩ := hc 0 y rfl
    have hel : ElsIn R w (.slice (some ⟨b, o', none⟩) (y :: ys).length c) (y :: ys) := ⟨_, c, rfl, hc⟩
    refine wpList_append_own_at w hgd s x 35 ho B 42 i0 (.agg #[.int .i64 0, .int .i64 0, .int .i64 0, .bool false]) 4 32 Tryd.underlying35 hi hz0 hz1 hz2 rfl (by decide) v xs.length (xs.flatMap elCells) hs hown ⟨b, o', none⟩ (y :: ys).length c ((y :: ys).flatMap elCells) hx (tflat_len elCells 4 (fun _ => rfl) _) (els_cells hel) (fun z hz => ?_) (by unfold maxLen; omega) (by omega) hbase ?_
    · obtain ⟨e, _, he⟩ := List.mem_flatMap.1 hz
      simp only [elCells, List.mem_cons, List.not_mem_nil, or_false] at he
      rcases he with rfl | rfl | rfl | rfl <;> rfl
    · intro v' w' h1 h2 _ h4
      exact h v' w' (by rw [List.length_append, List.flatMap_append]; exact h1) h2 h4
end Go.Proofs.YtchjjfjjcdjjcaaDoor
