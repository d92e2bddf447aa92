/- What a trie tells of all its entries, and of those below a node. -/
import Derived.Test.YtcifoallahmjbaaKg
namespace Go.Proofs.Ytcifoallahmjbaa
open Go.RowKit

theorem each_fn (p : Option Addr) (w : World) : Calls Try.prog 20 #[.pointer p] w fun e w' =>
    e = .returned (.func (.func 37) #[] #[.pointer (some ⟨w.heap.size, 0, none⟩)]) ∧ w.alloc (.cells #[.pointer p] 25) = w' := by
  have hmf : ∀ (fn : Fn) (first cap : Array Value) (w : World), (Instr.makeFunc fn first cap).run Try.prog w = .ok (.func fn first cap) w := fun _ _ _ _ => rfl
  go_enter Try.func20, Try.ntmps20
  go_wp2
  go_ret
  exact ⟨rfl, rfl⟩
theorem below_fn (p q : Option Addr) (w : World) : Calls Try.prog 40 #[.pointer p, .pointer q] w fun e w' =>
    e = .returned (.func (.func 51) #[] #[.pointer (some ⟨w.heap.size, 0, none⟩), .pointer (some ⟨w.heap.size + 1, 0, none⟩)]) ∧ (w.alloc (.cells #[.pointer p] 25)).alloc (.cells #[.pointer q] 55) = w' := by
  have hmf : ∀ (fn : Fn) (first cap : Array Value) (w : World), (Instr.makeFunc fn first cap).run Try.prog w = .ok (.func fn first cap) w := fun _ _ _ _ => rfl
  go_enter Try.func40, Try.ntmps40
  go_wp2
  go_ret
  exact ⟨rfl, rfl⟩
/-- a trie as it lies, and what is told of it -/
structure Tr where
  B : Nat
  tb : Nat
  es : List Ent
  N : NMap
  root : Nat
  lv : Value
  n : Nat
  asked : Int
  vs : List (Value × Value)
  T : List Nat
abbrev Tr.At (k : Tr) (A : World) : Prop := NewAt k.B A k.tb k.es k.es (k.es.map (·.1)) k.N k.root k.lv k.n k.asked k.vs
structure Tr.Ok (k : Tr) : Prop where
  ord : IsOrd k.es k.T
  apart : Apart k.es
  ok : ∀ x ∈ k.es, EntOk x
  short : ∀ x ∈ k.es, x.1.length ≤ 8
  few : k.n < 1000000000
def Tr.wk (k : Tr) (L : List Nat) (M l : Nat) (J : Nat → World → Prop) (Jx : World → Prop) : Wk := ⟨k.B, k.tb, k.es, k.N, k.root, k.lv, k.n, k.asked, k.vs, k.T, L, M, l, J, Jx⟩
theorem Tr.Ok.wk {k : Tr} (O : k.Ok) {L : List Nat} {M l : Nat} {J : Nat → World → Prop} {Jx : World → Prop} (h1 : ∀ s A B, J s A → Below M A B → J s B) (h2 : ∀ A B, Jx A → Below M A B → Jx B)
    (h3 : ∀ s A, J s A → k.At A) (h4 : ∀ A, Jx A → k.At A) (h5 : YieldsTo Try.prog l (AboveM M) (stepE k.es L M) J Jx) : (k.wk L M l J Jx).Ok := ⟨h1, h2, h3, h4, h5, O.ord, O.apart, O.ok, O.short, O.few⟩
set_option maxHeartbeats 4000000 in
set_option maxRecDepth 1000000 in
theorem each_iter (k : Tr) (O : k.Ok) (b M : Nat) :
    IterR Try.prog 37 #[.pointer (some ⟨b, 0, none⟩)] M (AboveM M) (Below M) (stepE k.es k.T M) (fun s => s = k.T.length) 0
      (fun A => A.cell? ⟨b, 0, none⟩ = some (.pointer (some ⟨k.tb, 0, none⟩)) ∧ k.At A) := by
  intro l J Jx W hM hJ hJx hPre hPreX hY h0
  have O' := O.wk (L := k.T) hJ hJx (fun s A h => (hPre s A h).2) (fun A h => (hPreX A h).2) hY
  obtain ⟨c0, hN⟩ := hPre 0 W h0
  obtain ⟨rm, hrm⟩ := hN.rootN
  have hi := is_yes (tb := k.tb) W hN.cells.1
  have t1 := hN.cells.2.1
  have hW : Calls Try.prog 38 #[.pointer (some ⟨k.tb, 0, none⟩), .pointer (some ⟨k.root, 0, none⟩), .func (.yield l) #[] #[]] W.drew ((k.wk k.T M l J Jx).Word 0 [] W.drew) := walk_any _ O' 9 [] k.root rm 0 W.drew rfl hrm (by rw [subT_nil]; exact List.prefix_refl _) (by exact hM) (hJ 0 W _ h0 (Below.refl _ W).drew)
  have HW := Lib.hid hW
  have HPRE := Lib.hid hPre
  have HPREX := Lib.hid hPreX
  clear hW O' hN hPre hPreX hJ hJx hY
  go_enter Try.func37, Try.ntmps37
  go_wp2_with (go_at_call 31; refine hi.mono ?_; rintro e w' ⟨rfl, rfl⟩)
  have HS : Hid (∀ (e : Ending) (B : World), (k.wk k.T M l J Jx).Word 0 [] W.drew e B → B.cell? ⟨b, 0, none⟩ = some (.pointer (some ⟨k.tb, 0, none⟩)) ∧ B.cell? ⟨k.tb, 1, none⟩ = some (.pointer (some ⟨k.root, 0, none⟩))) := by
    rintro e B ⟨r, _, h⟩
    have h1 : B.cell? ⟨b, 0, none⟩ = some (.pointer (some ⟨k.tb, 0, none⟩)) ∧ k.At B := by
      cases r with
      | true => exact HPRE.out _ _ (h.2.1 rfl)
      | false => exact HPREX.out _ (h.2.2 rfl)
    exact ⟨h1.1, h1.2.cells.2.1⟩
  go_region_held (fun V : World => V.cell? ⟨b, 0, none⟩ = some (.pointer (some ⟨k.tb, 0, none⟩)) ∧ V.cell? ⟨k.tb, 1, none⟩ = some (.pointer (some ⟨k.root, 0, none⟩))) (first | exact ⟨c0, t1⟩ | exact HS.out _ _ (by assumption) | assumption) ((refine HW.out.mono ?_; rintro e w5 hw5; have hw6 := hw5; obtain ⟨r, rfl, hr⟩ := hw5))
  go_wp2
  go_end0
  refine ⟨⟨_, rfl⟩, hr.1, ?_⟩
  cases r with
  | true =>
    left
    refine ⟨_, ?_, hr.2.1 rfl⟩
    show 0 + (subT k.es k.T []).length = _
    rw [subT_nil, Nat.zero_add]
  | false => exact .inr (hr.2.2 rfl)
set_option maxHeartbeats 4000000 in
set_option maxRecDepth 1000000 in
theorem below_iter (k : Tr) (O : k.Ok) (p : List Int) (nb mb : Nat) (hp : k.N p = some (nb, mb)) (hl : p.length ≤ 9) (b c M : Nat) :
    IterR Try.prog 51 #[.pointer (some ⟨b, 0, none⟩), .pointer (some ⟨c, 0, none⟩)] M (AboveM M) (Below M) (stepE k.es (subT k.es k.T p) M) (fun s => s = (subT k.es k.T p).length) 0
      (fun A => A.cell? ⟨b, 0, none⟩ = some (.pointer (some ⟨k.tb, 0, none⟩)) ∧ A.cell? ⟨c, 0, none⟩ = some (.pointer (some ⟨nb, 0, none⟩)) ∧ k.At A) := by
  intro l J Jx W hM hJ hJx hPre hPreX hY h0
  have O' := O.wk (L := subT k.es k.T p) hJ hJx (fun s A h => (hPre s A h).2.2) (fun A h => (hPreX A h).2.2) hY
  obtain ⟨c0, c1, hN⟩ := hPre 0 W h0
  have hW : Calls Try.prog 38 #[.pointer (some ⟨k.tb, 0, none⟩), .pointer (some ⟨nb, 0, none⟩), .func (.yield l) #[] #[]] W ((k.wk (subT k.es k.T p) M l J Jx).Word 0 p W) :=
    walk_any _ O' (9 - p.length) p nb mb 0 W (by omega) hp (List.prefix_refl _) hM h0
  have HW := Lib.hid hW
  clear hW O' hN hPre hPreX hJ hJx hY h0
  go_enter Try.func51, Try.ntmps51
  go_wp2_with (go_at_call 38; refine HW.out.mono ?_; rintro e w5 ⟨r, rfl, hr⟩)
  go_end0
  refine ⟨⟨_, rfl⟩, hr.1, ?_⟩
  cases r with
  | true =>
    left
    refine ⟨_, ?_, hr.2.1 rfl⟩
    show 0 + (subT k.es k.T p).length = _
    rw [Nat.zero_add]
  | false => exact .inr (hr.2.2 rfl)
end Go.Proofs.Ytcifoallahmjbaa
