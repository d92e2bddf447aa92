/- Decode of package utf. -/
import Derived.Test.YtafocgnhmdhemaaUm
namespace Go.Proofs.Ytafocgnhmdhemaa
open Go.RowKit
open PlainAid (bt)

/-- a slice of runes in memory from block n on, or nil -/
def Runes (n : Nat) (w : World) (v : Value) (xs : List Int) : Prop :=
  (v = .slice none 0 0 ∧ xs = []) ∨ ∃ b cap, n ≤ b ∧ b < w.heap.size ∧ v = .slice (some ⟨b, 0, none⟩) xs.length cap ∧ ∀ (i : Nat) (x : Int), xs[i]? = some x → w.cell? ⟨b, i, none⟩ = some (.int .i32 x)
theorem Runes.below {n : Nat} {w w' : World} {v : Value} {xs : List Int} (h : Runes n w v xs) (hb : Below w.heap.size w w') : Runes n w' v xs := by
  rcases h with h | ⟨b, cap, h1, h2, h3, h4⟩
  · exact .inl h
  · exact .inr ⟨b, cap, h1, Nat.lt_of_lt_of_le h2 hb.size, h3, fun i x hx => by rw [hb.cell (p := ⟨b, i, none⟩) h2]; exact h4 i x hx⟩
theorem Runes.mono {n m : Nat} {w : World} {v : Value} {xs : List Int} (h : Runes n w v xs) (hm : m ≤ n) : Runes m w v xs := by
  rcases h with h | ⟨b, cap, h1, h2⟩
  · exact .inl h
  · exact .inr ⟨b, cap, Nat.le_trans hm h1, h2⟩
theorem Runes.only {n : Nat} {S : Nat → Prop} {w w' : World} {v : Value} {xs : List Int} (h : Runes n w v xs) (ho : Only S w w') (hS : ∀ k, S k → k < n) : Runes n w' v xs := by
  rcases h with h | ⟨b, cap, h1, h2, h3, h4⟩
  · exact .inl h
  · refine .inr ⟨b, cap, h1, Nat.lt_of_lt_of_le h2 ho.size, h3, fun i x hx => ?_⟩
    have := ho.block b h2 (fun hs => by have := hS b hs; omega)
    rw [World.cell?_of_block (w := w) (a := ⟨b, i, none⟩) this]; exact h4 i x hx
theorem runes_of_row {n : Nat} {w : World} {e : TypeId} {v : Value} {xs : List Int} (h : w.ownsRow n e 1 v xs.length (xs.map (Value.int .i32))) : Runes n w v xs := by
  rcases h.2 with ⟨rfl, h0⟩ | ⟨g, cap, cur, rfl, hg, hr, hx⟩
  · exact .inl ⟨rfl, List.eq_nil_of_length_eq_zero h0⟩
  · refine .inr ⟨g, cap, hg, (Array.getElem?_eq_some_iff.1 hr).1, rfl, fun i x hi => ?_⟩
    have hil : i < xs.length := (List.getElem?_eq_some_iff.1 hi).1
    have hc := h.cellAt i (by simpa using hil)
    rw [hc, List.getElem?_map, hi]; rfl
def dcV (s : ByteArray) : List Int := match BD s 0 with | none => DC s 0 | some _ => []
def DecPost (s : ByteArray) (w : World) (e : Ending) (w' : World) : Prop :=
  ∃ v, e = .returned (.tuple #[v, .int .i64 (bdA s), .int .i64 (bdE s)]) ∧ Runes w.heap.size w' v (dcV s) ∧ Below w.heap.size w w'

set_option maxHeartbeats 1000000 in
set_option maxRecDepth 100000 in
theorem uDecode_any (s : ByteArray) (w : World) (hs : s.size ≤ 35184372088000) :
    Calls Try.prog 20 #[.string s] w (DecPost s w) := by
  have hmf : ∀ (fn : Fn) (first cap : Array Value) (w : World), (Instr.makeFunc fn first cap).run Try.prog w = .ok (.func fn first cap) w := fun _ _ _ _ => rfl
  have HS := Lib.hid hs
  clear hs
  go_enter Try.func20, Try.ntmps20
  go_wp2_with fail
  have hbox : Boxed ((((w.alloc (.cells #[.string s] 9)).alloc (.cells #[.slice none 0 0] 38)).alloc (.cells #[.int .i64 0] 3)).alloc (.cells #[.int .i64 0] 23)) (w.heap.size + 1) 38 (.slice none 0 0) := by
    have := Boxed.new (w.alloc (.cells #[.string s] 9)) 38 (.slice none 0 0)
    rw [World.size_alloc] at this
    exact (this.alloc _).alloc _
  refine (guarded_any 38 #[.pointer (some ⟨w.heap.size, 0, none⟩), .pointer (some ⟨w.heap.size + 1, 0, none⟩)] (DecEnd s (w.heap.size + 1) ((((w.alloc (.cells #[.string s] 9)).alloc (.cells #[.slice none 0 0] 38)).alloc (.cells #[.int .i64 0] 3)).alloc (.cells #[.int .i64 0] 23))) ((w.alloc (.cells #[.string s] 9)).alloc (.cells #[.slice none 0 0] 38))
    (enters_of Try.func38 (by kernel_rfl) rfl) (dec1_any s w.heap.size (w.heap.size + 1) _ HS.out (by simp [go_sem]) hbox) ?_).mono ?_
  · intro e w' ⟨ho, hend⟩
    have h1 := ho.block (w.heap.size + 2) (by simp) (by simp)
    have h2 := ho.block (w.heap.size + 3) (by simp) (by simp)
    have hz := ho.size
    simp only [World.size_alloc] at h1 h2 hz ⊢
    refine ⟨?_, by omega, ?_, ?_, ?_, ?_⟩
    · rcases hend with ⟨_, rfl, _⟩ | ⟨a, _, rfl⟩
      · exact .inl rfl
      · exact .inr ⟨a, rfl⟩
    · rw [World.cell?_of_block (w := (((w.alloc (.cells #[.string s] 9)).alloc (.cells #[.slice none 0 0] 38)).alloc (.cells #[.int .i64 0] 3)).alloc (.cells #[.int .i64 0] 23)) (a := ⟨w.heap.size + 1 + 1, 0, none⟩) h1]; simp [go_sem]
    · rw [World.cell?_of_block (w := (((w.alloc (.cells #[.string s] 9)).alloc (.cells #[.slice none 0 0] 38)).alloc (.cells #[.int .i64 0] 3)).alloc (.cells #[.int .i64 0] 23)) (a := ⟨w.heap.size + 1 + 1 + 1, 0, none⟩) h2]; simp [go_sem]
    · rw [World.frozen?_of_block (w := (((w.alloc (.cells #[.string s] 9)).alloc (.cells #[.slice none 0 0] 38)).alloc (.cells #[.int .i64 0] 3)).alloc (.cells #[.int .i64 0] 23)) (a := ⟨w.heap.size + 1 + 1, 0, none⟩) h1]; simp [go_sem]
    · rw [World.frozen?_of_block (w := (((w.alloc (.cells #[.string s] 9)).alloc (.cells #[.slice none 0 0] 38)).alloc (.cells #[.int .i64 0] 3)).alloc (.cells #[.int .i64 0] 23)) (a := ⟨w.heap.size + 1 + 1 + 1, 0, none⟩) h2]; simp [go_sem]
  rintro e w2 ⟨e1, w1, ⟨ho1, hend⟩, ho, hq⟩
  have hz1 := ho1.size
  simp only [World.size_alloc] at hz1 ho
  have hb : Below w.heap.size w w2 := by
    refine Only.toBelow (a := w) (b := w1) ?_ (Nat.le_refl _) ho (fun i hi => by omega)
    refine Only.toBelow (a := w) (b := _) ?_ (Nat.le_refl _) ho1 (fun i hi => by omega)
    (repeat' (first | (with_reducible exact Below.refl _ _) | (with_reducible assumption) | (with_reducible refine Below.alloc ?_ ?_ _) | (with_reducible refine Below.drew ?_) | (with_reducible refine below_drewN ?_ _) | (with_reducible refine Below.setCell ?_ ?_ _) | (with_reducible refine Below.trans ?_ (Below.mono (by assumption) ?_)) | go_size))
  have HB := Lib.hid hb
  rcases hend with ⟨h3, h4, v, hv, hrow⟩ | ⟨b, h3, h4⟩
  · rcases hq with ⟨_, h2⟩ | ⟨a, h1, _⟩
    · have hru : Runes w.heap.size w2 v (dcV s) := by
        have e1 : dcV s = DC s 0 := by unfold dcV; rw [h3]
        rw [e1]
        simp only [World.size_alloc] at hrow
        exact ((runes_of_row hrow).only ho (fun k hk => by omega)).mono (by omega)
      have hbx := ho.block (w.heap.size + 1) (by omega) (by omega)
      have hc : w2.cell? ⟨w.heap.size + 1, 0, none⟩ = some v := by
        rw [World.cell?_of_block (w := w1) (a := ⟨w.heap.size + 1, 0, none⟩) hbx]; exact hv.cell
      have HV : Hid (bdA s = 0 ∧ bdE s = 0) := bd_none h3
      have HU := Lib.hid hru
      have hvf : ∃ a n c, v = .slice a n c := by
        rcases hru with ⟨e, _⟩ | ⟨b, cap, _, _, e, _⟩
        · exact ⟨_, _, _, e⟩
        · exact ⟨_, _, _, e⟩
      obtain ⟨va, vn, vc, hve⟩ := hvf
      rw [hve] at hc HU
      clear hb ho ho1 hrow hv hru hbx h3 h4 hve hz1 hbox
      subst h2
      go_wp2_with fail
      go_ret3
      exact ⟨_, by rw [HV.out.1, HV.out.2]; rfl, HU.out, HB.out⟩
    · rw [h1] at h4; cases h4
  · rcases hq with ⟨h1, _⟩ | ⟨a, h1, h2⟩
    · rw [h1] at h4; cases h4
    · rw [h1] at h4
      have hab : a = b := by
        simp only [Ending.panicked.injEq, chainU, List.cons.injEq, PanicEntry.mk.injEq, Value.iface.injEq, Value.agg.injEq, Array.mk.injEq, Value.int.injEq] at h4
        have := h4.1.1.2.1.2; omega
      have HV : Hid (bdA s = b ∧ bdE s = 40) := bd_some h3
      have HN : Hid (dcV s = []) := by show _ = _; unfold dcV; rw [h3]
      subst hab
      clear hb ho ho1 h3 h4 hz1 hbox h1
      subst h2
      go_wp2_with fail
      go_ret3
      exact ⟨_, by rw [HV.out.1, HV.out.2]; rfl, .inl ⟨rfl, HN.out⟩, HB.out⟩
end Go.Proofs.Ytafocgnhmdhemaa
