/- A trie's walk: what lies below a node is told in order. -/
import Derived.Test.YtcifoallahmjbaaKc
import Derived.Test.YtcifoallahmjbaaKd
import Derived.Test.YtcifoallahmjbaaKe
import Derived.Test.YtcifoallahmjbaaTq
namespace Go.Proofs.Ytcifoallahmjbaa
open Go.RowKit

/-- blocks from M on are as they were -/
def AboveM (M : Nat) (A B : World) : Prop := A.heap.size ≤ B.heap.size ∧ ∀ k, M ≤ k → k < A.heap.size → B.heap[k]? = A.heap[k]?
theorem AboveM.refl (M : Nat) (A : World) : AboveM M A A := ⟨Nat.le_refl _, fun _ _ _ => rfl⟩
theorem AboveM.trans {M : Nat} {A B C : World} (h : AboveM M A B) (k : AboveM M B C) : AboveM M A C := ⟨Nat.le_trans h.1 k.1, fun i h1 h2 => (k.2 i h1 (Nat.lt_of_lt_of_le h2 h.1)).trans (h.2 i h1 h2)⟩
theorem AboveM.below {M : Nat} {A B : World} (h : Below A.heap.size A B) : AboveM M A B := ⟨h.size, fun k _ h2 => h.block k h2⟩
theorem AboveM.cell {M : Nat} {A B : World} (h : AboveM M A B) {b o : Nat} {v : Value} (hb : M ≤ b) (hc : A.cell? ⟨b, o, none⟩ = some v) : B.cell? ⟨b, o, none⟩ = some v := by
  have hl := World.block_lt_of_cell? A _ hc
  have e := h.2 b hb hl
  unfold World.cell? at *
  rw [show (⟨b, o, none⟩ : Addr).block = b from rfl] at *
  rw [e]; exact hc
/-- what one round is told: the next number, and the entry in new memory -/
def stepE (es : List Ent) (L : List Nat) (M : Nat) (s : Nat) (A : World) (vs : Array Value) (s' : Nat) : Prop :=
  ∃ i x c u, L[s]? = some i ∧ es[i]? = some x ∧ vs = #[.int .i64 (i : Nat), .agg #[c, u]] ∧ IntsIn (fun b => M ≤ b) .i32 A c x.1 ∧ ElsIn (fun b => M ≤ b) A u x.2 ∧ s' = s + 1
/-- where a trie lies, and what is told of it to whom -/
structure Wk where
  B : Nat
  tb : Nat
  es : List Ent
  N : NMap
  root : Nat
  lv : Value
  n : Nat
  asked : Int
  vs : List (Value × Value)
  T : List Nat
  L : List Nat
  M : Nat
  l : Nat
  J : Nat → World → Prop
  Jx : World → Prop
structure Wk.Ok (k : Wk) : Prop where
  turn : ∀ s A B, k.J s A → Below k.M A B → k.J s B
  turnX : ∀ A B, k.Jx A → Below k.M A B → k.Jx B
  pre : ∀ s A, k.J s A → NewAt k.B A k.tb k.es k.es (k.es.map (·.1)) k.N k.root k.lv k.n k.asked k.vs
  preX : ∀ A, k.Jx A → NewAt k.B A k.tb k.es k.es (k.es.map (·.1)) k.N k.root k.lv k.n k.asked k.vs
  tell : YieldsTo Try.prog k.l (AboveM k.M) (stepE k.es k.L k.M) k.J k.Jx
  ord : IsOrd k.es k.T
  apart : Apart k.es
  ok : ∀ x ∈ k.es, EntOk x
  short : ∀ x ∈ k.es, x.1.length ≤ 8
  few : k.n < 1000000000
/-- a walk's word, from s numbers told on -/
def Wk.Res (k : Wk) (s : Nat) (p : List Int) (W : World) (b : Bool) (B : World) : Prop :=
  AboveM k.M W B ∧ (b = true → k.J (s + (subT k.es k.T p).length) B) ∧ (b = false → k.Jx B)
def Wk.Word (k : Wk) (s : Nat) (p : List Int) (W : World) (e : Ending) (B : World) : Prop :=
  ∃ b, e = .returned (.bool b) ∧ k.Res s p W b B
abbrev Wk.At (k : Wk) (A : World) : Prop := NewAt k.B A k.tb k.es k.es (k.es.map (·.1)) k.N k.root k.lv k.n k.asked k.vs
theorem Wk.Res.at' {k : Wk} (O : k.Ok) {s : Nat} {p : List Int} {W B : World} {b : Bool} (h : k.Res s p W b B) : k.At B := by
  cases b with
  | true => exact O.pre _ _ (h.2.1 rfl)
  | false => exact O.preX _ (h.2.2 rfl)
/-- the walk below the nodes p ++ [r] -/
def Wk.Kids (k : Wk) (p : List Int) : Prop :=
  ∀ (r : Int) (nb mb s : Nat) (W : World), k.N (p ++ [r]) = some (nb, mb) → subT k.es k.T (p ++ [r]) <+: k.L.drop s → k.M ≤ W.heap.size → k.J s W →
    Calls Try.prog 38 #[.pointer (some ⟨k.tb, 0, none⟩), .pointer (some ⟨nb, 0, none⟩), .func (.yield k.l) #[] #[]] W (k.Word s (p ++ [r]) W)

set_option maxHeartbeats 4000000 in
set_option maxRecDepth 1000000 in
/-- the closure that goes deeper -/
theorem deeper_any (k : Wk) (O : k.Ok) (p : List Int) (hK : k.Kids p) (r : Int) (hwr : (Lit.int .i32 r).wf = true) (nb mb nb' mb' s b0 : Nat) (W : World) (hp : k.N p = some (nb, mb)) (hr : k.N (p ++ [r]) = some (nb', mb')) (hpre : subT k.es k.T (p ++ [r]) <+: k.L.drop s)
    (hM : k.M ≤ W.heap.size) (hJ : k.J s W) (hb0 : k.M ≤ b0) (c0 : W.cell? ⟨b0, 0, none⟩ = some (.pointer (some ⟨k.tb, 0, none⟩))) (c1 : W.cell? ⟨b0 + 1, 0, none⟩ = some (.pointer (some ⟨nb, 0, none⟩))) (c2 : W.cell? ⟨b0 + 2, 0, none⟩ = some (.func (.yield k.l) #[] #[])) :
    Calls Try.prog 48 #[.int .i32 r, .pointer (some ⟨b0, 0, none⟩), .pointer (some ⟨b0 + 1, 0, none⟩), .pointer (some ⟨b0 + 2, 0, none⟩)] W (k.Word s (p ++ [r]) W) := by
  have hN := O.pre s W hJ
  have c3 := hN.mem.cell0 hp
  have hmp := hN.mem.map p nb mb hp
  have hlk : ∀ V : World, V.heap[mb]? = W.heap[mb]? → (Instr.lookup 70 (.map (some mb)) (.int .i32 r) false).run Try.prog V = .ok (.pointer (some ⟨nb', 0, none⟩)) V := fun V hV => by
    have h1 := (hmp.same hV).lookup Try.underlying21 Try.underlying70 (by intro w; kernel_rfl) r hwr
    rw [h1, hr]; rfl
  have hcall := hK r nb' mb' s W.drew hr hpre (by exact hM) (O.turn s W _ hJ (Below.refl _ W).drew)
  have HC := Lib.hid hcall
  clear hN hmp hcall hK
  have hml : mb < W.heap.size := (O.pre s W hJ).mem.ltM hp
  clear hJ
  have hlk1 := hlk W.drew rfl
  clear hlk
  go_enter Try.func48, Try.ntmps48
  go_wp2_with fail
  have HS : Hid (∀ b B, k.Res s (p ++ [r]) W.drew b B → B.cell? ⟨b0, 0, none⟩ = some (.pointer (some ⟨k.tb, 0, none⟩)) ∧ B.cell? ⟨b0 + 1, 0, none⟩ = some (.pointer (some ⟨nb, 0, none⟩)) ∧ B.cell? ⟨b0 + 2, 0, none⟩ = some (.func (.yield k.l) #[] #[]) ∧ B.cell? ⟨nb, 0, none⟩ = some (.map (some mb))) := by
    intro b B h
    exact ⟨h.1.cell hb0 (by exact c0), h.1.cell (by omega) (by exact c1), h.1.cell (by omega) (by exact c2), (h.at' O).mem.cell0 hp⟩
  go_region_held (fun V : World => V.cell? ⟨b0, 0, none⟩ = some (.pointer (some ⟨k.tb, 0, none⟩)) ∧ V.cell? ⟨b0 + 1, 0, none⟩ = some (.pointer (some ⟨nb, 0, none⟩)) ∧ V.cell? ⟨b0 + 2, 0, none⟩ = some (.func (.yield k.l) #[] #[]) ∧ V.cell? ⟨nb, 0, none⟩ = some (.map (some mb))) (first | exact ⟨c0, c1, c2, c3⟩ | assumption | exact HS.out _ _ (by assumption)) ((refine HC.out.mono ?_; rintro e w5 ⟨b, rfl, hw5⟩))
  go_wp2
  go_ret
  exact ⟨b, rfl, hw5⟩
end Go.Proofs.Ytcifoallahmjbaa
