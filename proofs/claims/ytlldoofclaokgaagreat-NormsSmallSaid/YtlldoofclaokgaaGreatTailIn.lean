/- A region that draws its order, its operations without a call, its last ones a tail: inside a fence (a round of a range over a function), over any program. -/
import Derived.Test.YtlldoofclaokgaaGreatRange
import Derived.StillTail
import Derived.OrdersIn
namespace Go.Proofs.YtlldoofclaokgaaGreat

/-- an operation that neither calls nor defers nor waits -/
def plainOp : Op → Bool
  | .move _ | .assign _ | .pick .. | .alloc _ | .box .. | .load .. | .store .. | .nilCheck _ | .binOp .. | .unOp .. | .convert .. | .fieldAddr .. | .field .. | .indexAddr .. | .index .. => true
  | _ => false
def plainNext : Next → Prop
  | .value _ | .skip => True
  | _ => False
def Plainly (P : Program) (s : Sem Next) : Prop := ∀ w w' x, s.run P w = .ok x w' → plainNext x
theorem Plainly.pure {P : Program} {x : Next} (h : plainNext x) : Plainly P (pure x) := by
  intro w w' y e
  rw [Sem.run_pure] at e
  cases e; exact h
theorem Plainly.bind {P : Program} {α : Type} {s : Sem α} {f : α → Sem Next} (h : ∀ a, Plainly P (f a)) : Plainly P (s >>= f) := by
  intro w w' x e
  rw [Sem.run_bind] at e
  cases hs : s.run P w with
  | ok v u => rw [hs] at e; exact h v u w' x e
  | halt c u => rw [hs] at e; cases e
theorem Plainly.panic {P : Program} : Plainly P (runtimePanic .nilDeref) := by
  unfold runtimePanic
  refine .bind fun p => ?_
  intro w w' x h
  cases h
theorem plain_exec {P : Program} {o : Oper} {ρ : Operand → Value} (hp : plainOp o.op = true) : Plainly P (execOp ρ o) := by
  unfold execOp
  cases ho : o.op <;> rw [ho] at hp <;> simp only [plainOp, Bool.false_eq_true] at hp <;> simp only
  case nilCheck y =>
    split
    · exact .panic
    · exact .panic
    · exact .panic
    · split
      · exact .panic
      · refine .bind fun p => .bind fun b => ?_
        split
        · exact .bind fun _ => .pure (x := .value _) trivial
        · exact .pure (x := .value _) trivial
      · exact .pure (x := .value _) trivial
    · exact .pure (x := .value _) trivial
  all_goals first
    | exact Plainly.pure (x := .value _) trivial
    | exact Plainly.bind fun _ => Plainly.pure (x := .value _) trivial
    | exact Plainly.bind fun _ => Plainly.pure (x := .skip) trivial
    | skip
theorem plain_about {P : Program} {o : Oper} {ρ : Operand → Value} {w : World} (hp : plainOp o.op = true) : o.about P w ρ = none := by
  unfold Oper.about
  cases ho : o.op <;> rw [ho] at hp <;> simp only [plainOp, Bool.false_eq_true] at hp <;> rfl
theorem plain_semAt {o : Oper} {ρ : Operand → Value} (hp : plainOp o.op = true) (r : Option Nat) : o.semAt r ρ = execOp ρ o := by
  refine Oper.semAt_eq r ρ o fun c hc => ?_
  rw [hc] at hp; cases hp
theorem plain_wpIn {F : Fence} {n : Nat} {P : Program} {o : Oper} {a : Act} {w : World} {K : Act → World → Prop} {Q : Exit → Act → World → Prop} (hp : plainOp o.op = true) (h : o.wp P a w K Q) : o.wpIn F n P a w K Q := by
  refine ⟨fun f hf => (by rw [plain_about hp] at hf; cases hf), ?_⟩
  rw [plain_semAt hp]
  unfold Oper.wp at h
  have hx := plain_exec (P := P) (ρ := a.eval) hp w
  generalize (execOp a.eval o).run P w = r at *
  cases r with
  | ok x w' =>
    have := hx w' x rfl
    cases x <;> first | exact h | exact this.elim
  | halt c w' => cases c <;> exact h

section
variable {F : Fence} {n : Nat} {P : Program} {ops : Array Oper} {Q : Exit → Act → World → Prop} {md : Region.Mode}
theorem plain_wpOpIn {i : Nat} {K K' : Act → World → Prop} {a : Act} {w : World} (hp : ∀ (j : Nat) o, ops[j]? = some o → plainOp o.op = true) (hQ : ¬ LetsOut Q) (hK : ∀ a w, K a w → K' a w) (h : wpOp P ops Q i K a w) : wpOpIn F n P ops Q i K' a w := by
  unfold wpOp at h
  unfold wpOpIn
  cases ho : ops[i]? with
  | none => rw [ho] at h; exact hK _ _ h
  | some o =>
    rw [ho] at h
    simp only at h ⊢
    split
    · rename_i hw
      rw [if_pos hw] at h
      rcases h with h | h
      · exact plain_wpIn (hp i o ho) (Oper.wp_mono hK h)
      · exact absurd h.2 hQ
    · rename_i hw
      rw [if_neg hw] at h
      exact ⟨fun f hf => (by rw [plain_about (hp i o ho)] at hf; cases hf), hK _ _ h⟩
theorem plain_wpAnyIn (hp : ∀ (j : Nat) o, ops[j]? = some o → plainOp o.op = true) (hQ : ¬ LetsOut Q) : ∀ (fuel : Nat) (listed : Array Bool) (a : Act) (w : World), wpAny P md ops Q fuel listed a w → wpAnyIn F n P md ops Q fuel listed a w := by
  intro fuel
  induction fuel with
  | zero => intro listed a w h; exact h
  | succ fuel ih => intro listed a w h; exact ⟨h.1, fun i hi => plain_wpOpIn hp hQ (fun a w => ih _ a w) (h.2 i hi)⟩
end
theorem wpAny_still_tail {P : Program} {Q : Exit → Act → World → Prop} {a : Act} {w : World} {l : List Oper} (n : Nat) (hB : Region.lexTailB .any l.toArray n = true)
    (h : wpStill P l.toArray { w with drawn := w.drawn + 1 } (fun a' => wpList P l.toArray Q (l.drop n) a' { w with drawn := w.drawn + 1 }) (l.take n) a) :
    wpAny P .any l.toArray Q l.toArray.size (Array.replicate l.toArray.size false) a { w with drawn := w.drawn + 1 } := by
  simp only [Region.lexTailB, Bool.and_eq_true, decide_eq_true_eq] at hB
  obtain ⟨⟨⟨⟨hsel, hn⟩, hs⟩, hc⟩, hlex⟩ := hB
  have hn' : n < l.length := by simpa using hn
  have htl : (l.take n).length = n := by simp; omega
  have hdl : (l.drop n).length = l.toArray.size - n := by simp
  have inv0 : HeadInv .any l.toArray n (Array.replicate l.toArray.size false) :=
    ⟨by simp, fun j oj _ hl => (by rw [getD_replicate_false] at hl; cases hl), fun t _ ht => getD_in (by simpa using ht) (getD_replicate_false _ _)⟩
  have H := wpAnyL_lex (md := .any) (g := l.toArray.size - n) hsel hs hc hn (l.take n) 0 _ a (fun j hj => by
    have hj' : j < n := by rw [htl] at hj; exact hj
    simp [hj']) (by simpa using htl) inv0 (by rw [htl]; exact hlex) h
  have := wpAny_of_head (Q' := Q) (g := l.toArray.size - n) (fun listed a' hL => by
    have := wpAny_of_seq (md := .any) (Q' := Q) (l.drop n) n listed a' { w with drawn := w.drawn + 1 } (fun j => by simp [List.getElem?_drop]) (by rw [hdl]; exact hL.1) hL.2
    rwa [hdl] at this) _ _ _ H
  rw [htl, show n + (l.toArray.size - n) = l.toArray.size by omega] at this
  exact this
theorem wpIn_region_tail {F : Fence} {m : Nat} {P : Program} {id : Nat} {Q : Exit → Act → World → Prop} {a : Act} {w : World} {l : List Oper} (n : Nat) (hm : P.follows .mixedOrders = true) (hB : Region.lexTailB .any l.toArray n = true) (hp : l.all (fun o => plainOp o.op) = true) (hQ : ¬ LetsOut Q)
    (h : wpStill P l.toArray w.drew (fun a' => wpList P l.toArray Q (l.drop n) a' w.drew) (l.take n) a) : (Code.region id l.toArray true).wpIn F m P Q a w :=
  wpIn_region_any hm (plain_wpAnyIn (fun j o ho => List.all_eq_true.1 hp o (List.mem_of_getElem? (by simpa using ho))) hQ _ _ _ _ (wpAny_still_tail n hB h))
end Go.Proofs.YtlldoofclaokgaaGreat
