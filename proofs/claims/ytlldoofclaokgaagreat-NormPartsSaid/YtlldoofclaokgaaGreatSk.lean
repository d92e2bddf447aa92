/- norm.sorted, slices.SortStableFunc at []rune. norm.sorted of nothing. -/
import Derived.Test.YtlldoofclaokgaaGreatSj
import Derived.Test.YtlldoofclaokgaaGreatSg
import Derived.Test.YtlldoofclaokgaaGreatSi
/-! norm.sorted, slices.SortStableFunc at []rune. -/
namespace Go.Proofs.YtlldoofclaokgaaGreat
open Go.RowKit

/-- a number of each code point that the method Class of rv tells, in worlds of I, which lasts where only one block from B on is turned -/
structure Num (f : Int → Int) (rv : Value) (B : Nat) (I : World → Prop) : Prop where
  lo : ∀ r, 0 ≤ f r
  hi : ∀ r, f r ≤ 255
  call : ∀ r W, I W → Calls Tryz.prog 15 #[rv, .int .i32 r] W fun e w' => e = .returned (.int .i64 (f r)) ∧ Below W.heap.size W w'
  keep : ∀ g W W', B ≤ g → I W → Only (fun k => k = g) W W' → I W'
theorem Num.below {f : Int → Int} {rv : Value} {B : Nat} {I : World → Prop} (h : Num f rv B I) {W W' : World} (hi : I W) (hb : Below W.heap.size W W') : I W' := h.keep B W W' (Nat.le_refl _) hi ((Only.refl _ W).below hb)
set_option maxHeartbeats 1000000 in
set_option maxRecDepth 100000 in
theorem sortStable_any (f : Int → Int) (J : World → Prop) (nb g off cap n : Nat) (S : List Int) (w : World) (hC : CmpBy f g nb J) (hs : SeqAt w g off S) (hj : J w) (hn : S.length = n) (hl : n ≤ 1000000000) :
    Calls Tryz.prog 92 #[.slice (some ⟨g, off, none⟩) n cap, .func (.func 93) #[] #[.pointer (some ⟨nb, 0, none⟩)]] w fun e w' =>
      e = .returned (.tuple #[]) ∧ (∃ M, Stab f S M ∧ SeqAt w' g off M) ∧ Frm g off n w w' := by
  have hst := stable_any f J nb g off cap n S w hC hs hj hn hl (symMerge_any f J nb g off cap n hC hl _)
  clear hC hs hj hn
  go_enter Tryz.func92, Tryz.ntmps92
  go_wp2_with fail
  with_reducible refine hst.mono ?_
  rintro e w1 ⟨rfl, h1, h2⟩
  have H1 := Lib.hid h1
  have H2 := Lib.hid h2
  clear hst h1 h2
  go_wp2_with fail
  go_end0
  exact ⟨rfl, H1.out, H2.out⟩
set_option maxHeartbeats 1000000 in
set_option maxRecDepth 100000 in
theorem sorted_any (f : Int → Int) (rv : Value) (B : Nat) (I : World → Prop) (g off cap n : Nat) (S : List Int) (w : World) (hN : Num f rv B I) (hg : B ≤ g) (hs : SeqAt w g off S) (hi : I w) (hn : S.length = n) (hl : n ≤ 1000000000) :
    Calls Tryz.prog 59 #[.slice (some ⟨g, off, none⟩) n cap, .func (.func 15) #[rv] #[]] w fun e w' =>
      e = .returned (.tuple #[]) ∧ (∃ M, Stab f S M ∧ SeqAt w' g off M) ∧ Frm g off n w w' := by
  have hmf : ∀ (fn : Fn) (first cap : Array Value) (w : World), (Instr.makeFunc fn first cap).run Tryz.prog w = .ok (.func fn first cap) w := fun _ _ _ _ => rfl
  have hal : Below w.heap.size w (w.alloc (.cells #[.func (.func 15) #[rv] #[]] 50)) := (Below.refl _ _).alloc (Nat.le_refl _) _
  have hss := sortStable_any f _ w.heap.size g off cap n S (w.alloc (.cells #[.func (.func 15) #[rv] #[]] 50))
    (cmp_num f g w.heap.size rv I (fun r => ⟨hN.lo r, hN.hi r⟩) hN.call (fun W W' => hN.keep g W W' hg) (by have := hs.1; omega)) (hs.kept hal) ⟨hN.below hi hal, by unfold World.cell?; rw [World.alloc_heap_new]; rfl⟩ hn hl
  have HAL := Lib.hid hal
  clear hN hs hi hal
  go_enter Tryz.func59, Tryz.ntmps59
  go_wp2_with fail
  with_reducible refine hss.mono ?_
  rintro e w1 ⟨rfl, h1, h2⟩
  have H1 := Lib.hid h1
  have H2 : Hid (Frm g off n w w1) := (Frm.of_below HAL.out).trans h2
  clear hss h1 h2
  go_wp2_with fail
  go_end0
  exact ⟨rfl, H1.out, H2.out⟩
end Go.Proofs.YtlldoofclaokgaaGreat
/-! norm.sorted of nothing. -/
namespace Go.Proofs.YtlldoofclaokgaaGreat
open Go.RowKit

set_option maxHeartbeats 1000000 in
set_option maxRecDepth 100000 in
theorem insertion_nil (cv : Value) (w : World) : Calls Tryz.prog 143 #[.slice none 0 0, .int .i64 0, .int .i64 0, cv] w fun e w' => e = .returned (.tuple #[]) ∧ Below w.heap.size w w' := by
  go_enter Tryz.func143, Tryz.ntmps143
  go_wp2
  go_loopw [8] (fun iv wr => iv = .int .i64 1 ∧ Below w.heap.size w wr) (fun iv _ => 0)
  case atStart => exact ⟨rfl, Below.refl _ _⟩
  case round =>
    obtain ⟨rfl, hb⟩ := hrel
    go_wp2
    go_end0
    exact ⟨rfl, hb⟩
set_option maxHeartbeats 1000000 in
set_option maxRecDepth 100000 in
theorem stable_nil (cv : Value) (w : World) : Calls Tryz.prog 120 #[.slice none 0 0, .int .i64 0, cv] w fun e w' => e = .returned (.tuple #[]) ∧ Below w.heap.size w w' := by
  go_enter Tryz.func120, Tryz.ntmps120
  go_wp2
  go_loopw [7, 8] (fun av bv wr => av = .int .i64 0 ∧ bv = .int .i64 20 ∧ Below w.heap.size w wr) (fun _ _ _ => 0)
  case atStart => exact ⟨rfl, rfl, Below.refl _ _⟩
  case round =>
    obtain ⟨rfl, rfl, hb⟩ := hrel
    have HB := Lib.hid hb
    clear hb
    go_wp2_with fail
    refine (insertion_nil _ _).mono ?_
    rintro e w1 ⟨rfl, hb1⟩
    have HB1 := Lib.hid (HB.out.trans (hb1.mono HB.out.size))
    clear hb1
    go_wp2_with fail
    go_loopw [6] (fun sv wr => sv = .int .i64 20 ∧ Below w.heap.size w wr) (fun _ _ => 0)
    case atStart => exact ⟨rfl, HB1.out⟩
    case round =>
      obtain ⟨rfl, hb⟩ := hrel
      go_wp2
      go_end0
      exact ⟨rfl, hb⟩
set_option maxHeartbeats 1000000 in
set_option maxRecDepth 100000 in
theorem sorted_nil (rv : Value) (w : World) :
    Calls Tryz.prog 59 #[.slice none 0 0, .func (.func 15) #[rv] #[]] w fun e w' => e = .returned (.tuple #[]) ∧ Below w.heap.size w w' := by
  have hmf : ∀ (fn : Fn) (first cap : Array Value) (w : World), (Instr.makeFunc fn first cap).run Tryz.prog w = .ok (.func fn first cap) w := fun _ _ _ _ => rfl
  have hss : ∀ cv W, Calls Tryz.prog 92 #[.slice none 0 0, cv] W fun e w' => e = .returned (.tuple #[]) ∧ Below W.heap.size W w' := by
    intro cv W
    have hst := stable_nil cv W
    go_enter Tryz.func92, Tryz.ntmps92
    go_wp2_with fail
    refine hst.mono ?_
    rintro e w1 ⟨rfl, hb⟩
    clear hst
    go_wp2_with fail
    go_end0
    exact ⟨rfl, hb⟩
  have hal : Below w.heap.size w (w.alloc (.cells #[.func (.func 15) #[rv] #[]] 50)) := (Below.refl _ _).alloc (Nat.le_refl _) _
  have HAL := Lib.hid hal
  have HSS := Lib.hid hss
  clear hal hss
  go_enter Tryz.func59, Tryz.ntmps59
  go_wp2_with fail
  refine (HSS.out _ _).mono ?_
  rintro e w1 ⟨rfl, hb⟩
  have hb' := HAL.out.trans (hb.mono HAL.out.size)
  clear hb
  go_wp2_with fail
  go_end0
  exact ⟨rfl, hb'⟩
end Go.Proofs.YtlldoofclaokgaaGreat
