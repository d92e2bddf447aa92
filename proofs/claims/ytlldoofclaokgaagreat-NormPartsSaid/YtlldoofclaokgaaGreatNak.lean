/- Package norms: data in memory, and their decompositions told. -/
import Derived.Test.YtlldoofclaokgaaGreatNaj
import Derived.Test.YtlldoofclaokgaaGreatSm
import Derived.Test.YtlldoofclaokgaaGreatHeldIn
namespace Go.Proofs.YtlldoofclaokgaaGreat
open Go.RowKit
attribute [local go_sem] Oper.semAt_some

/-- all that decompose, to the end, in a map -/
def FullAt (Q : Nat → Prop) (W : World) (mb : Nat) (d ds : List T3) : Prop :=
  ∃ n f, SMap Tryz.prog 21 W mb n f ∧ n ≤ ds.length ∧ ∀ r, (f r = none ∧ ∀ x ∈ ds, x.1 ≠ r) ∨ (∃ g cap, f r = some (g, (deep d 4 r).1.length, cap) ∧ (∃ x ∈ ds, x.1 = r) ∧ IntsIn Q .i32 W (.slice (some ⟨g, 0, none⟩) (deep d 4 r).1.length cap) (deep d 4 r).1)
theorem FullAt.kept {Q : Nat → Prop} {W W' : World} {mb : Nat} {d ds : List T3} (h : FullAt Q W mb d ds) (hk : Kept Q W W') (hm : W'.heap[mb]? = W.heap[mb]?) : FullAt Q W' mb d ds := by
  obtain ⟨n, f, h1, hn, h2⟩ := h
  refine ⟨n, f, h1.same hm, hn, fun r => ?_⟩
  rcases h2 r with h | ⟨g, cap, e, hx, hi⟩
  · exact .inl h
  · exact .inr ⟨g, cap, e, hx, hi.kept hk⟩
/-- the data that Load made: in the blocks of R -/
def Nrm (R : Nat → Prop) (W : World) (pb : Nat) (c d : List T3) : Prop :=
  R pb ∧ dataOk c d = true ∧ ∃ cv dv, TrisIn (fun b => R b ∧ b ≠ pb) .i64 W cv c ∧ TrisIn (fun b => R b ∧ b ≠ pb) .i32 W dv d ∧
    (NoAt W pb cv dv 0 0 (.map none) ∨ ∃ mb, NoAt W pb cv dv 1 0 (.map (some mb)) ∧ R mb ∧ mb ≠ pb ∧ mb < W.heap.size ∧ FullAt (fun b => R b ∧ b ≠ pb) W mb d d)
theorem NoAt.lt {W : World} {pb : Nat} {cv dv full : Value} {dn mu : Int} (h : NoAt W pb cv dv dn mu full) : pb < W.heap.size := (Array.getElem?_eq_some_iff.1 h).1
theorem NoAt.cells {W : World} {pb : Nat} {cv dv full : Value} {dn mu : Int} (h : NoAt W pb cv dv dn mu full) :
    W.cell? ⟨pb, 0, none⟩ = some (.int .i64 1) ∧ W.cell? ⟨pb, 1, none⟩ = some cv ∧ W.cell? ⟨pb, 2, none⟩ = some dv ∧ W.cell? ⟨pb, 3, none⟩ = some (.int .u32 dn) ∧ W.cell? ⟨pb, 4, none⟩ = some (.int .i32 mu) ∧ W.cell? ⟨pb, 6, none⟩ = some full ∧ ∀ o, W.frozen? ⟨pb, o, none⟩ = false := by
  unfold NoAt at h
  refine ⟨?_, ?_, ?_, ?_, ?_, ?_, fun o => ?_⟩ <;> simp [World.cell?, World.frozen?, h]
theorem Nrm.lt {R : Nat → Prop} {W : World} {pb : Nat} {c d : List T3} (h : Nrm R W pb c d) : pb < W.heap.size := by
  obtain ⟨_, _, cv, dv, _, _, h | ⟨mb, h, _⟩⟩ := h <;> exact h.lt
theorem Nrm.kept {R : Nat → Prop} {W W' : World} {pb : Nat} {c d : List T3} (h : Nrm R W pb c d) (hk : Kept R W W') : Nrm R W' pb c d := by
  obtain ⟨hr, ho, cv, dv, h1, h2, h3⟩ := h
  have hk' : Kept (fun b => R b ∧ b ≠ pb) W W' := ⟨hk.1, fun b hb hl => hk.2 b hb.1 hl⟩
  refine ⟨hr, ho, cv, dv, h1.kept hk', h2.kept hk', ?_⟩
  rcases h3 with h | ⟨mb, h, hm, hne, hml, hf⟩
  · exact .inl ((hk.2 pb hr h.lt).trans h)
  · exact .inr ⟨mb, (hk.2 pb hr h.lt).trans h, hm, hne, Nat.lt_of_lt_of_le hml hk.1, hf.kept hk' (hk.2 mb hm hml)⟩
theorem Nrm.below {R : Nat → Prop} {W W' : World} {pb : Nat} {c d : List T3} (h : Nrm R W pb c d) (hb : Below W.heap.size W W') : Nrm R W' pb c d := h.kept (Kept.below hb)
theorem tris_apart {B pb : Nat} {e t : TypeId} {kc : IntKind} {w : World} {v : Value} {xs : List T3} {cs : Array Value} {fr : Nat × Nat} (h : w.ownsRow B e 3 v xs.length (triVs kc xs)) (hp : w.heap[pb]? = some (.cells cs t fr)) (ht : t ≠ e) : TrisIn (fun b => B ≤ b ∧ b ≠ pb) kc w v xs := by
  have h1 := tris_of_own h
  have h2 := ownsRow_apart h hp ht
  obtain ⟨p, cap, e1, h0, h3⟩ := h1
  refine ⟨p, cap, e1, h0, fun i x hx => ?_⟩
  obtain ⟨b, o, e2, hb, hl, hc⟩ := h3 i x hx
  refine ⟨b, o, e2, ⟨hb, fun e => ?_⟩, hl, hc⟩
  subst e
  rw [e1, e2] at h2
  simp [Value.ownBlock] at h2
/-- Load's own -/
theorem load_nrm (Q : Nat → Prop) (c d : List T3) (v : Value) (w : World) (hv : IntsIn Q .u8 w v (frameOf (normBytes c d))) (h : dataOk c d = true) :
    Calls Tryz.prog 41 #[v] w fun e w' => ∃ pb, e = .returned (.tuple #[.pointer (some ⟨pb, 0, none⟩), .int .i64 0]) ∧ Nrm (fun b => w.heap.size ≤ b) w' pb c d ∧ w.heap.size ≤ pb ∧ Below w.heap.size w w' :=
  (load_ok Q c d v w hv h).mono fun e w' ⟨pb, cv, dv, he, hn, hc, hd, hp, hb⟩ => ⟨pb, he, ⟨hp, h, cv, dv, tris_apart hc hn (by decide), tris_apart hd hn (by decide), .inl hn⟩, hp, hb⟩
theorem Nrm.mono {R S : Nat → Prop} {W : World} {pb : Nat} {c d : List T3} (h : Nrm R W pb c d) (hm : ∀ b, R b → S b) : Nrm S W pb c d := by
  obtain ⟨hr, ho, cv, dv, h1, h2, h3⟩ := h
  have hq : ∀ b, (R b ∧ b ≠ pb) → (S b ∧ b ≠ pb) := fun b hb => ⟨hm b hb.1, hb.2⟩
  refine ⟨hm _ hr, ho, cv, dv, h1.mono (fun b hb _ => hq b hb), h2.mono (fun b hb _ => hq b hb), ?_⟩
  rcases h3 with h | ⟨mb, h, hmm, hne, hml, n, f, hs, hn, hf⟩
  · exact .inl h
  · refine .inr ⟨mb, h, hm _ hmm, hne, hml, n, f, hs, hn, fun r => ?_⟩
    rcases hf r with h | ⟨g, cap, e, hx, hi⟩
    · exact .inl h
    · exact .inr ⟨g, cap, e, hx, hi.mono (fun b hb _ => hq b hb)⟩

set_option maxHeartbeats 1000000 in
set_option maxRecDepth 100000 in
theorem nIs_any (pb : Nat) (w : World) (h : w.cell? ⟨pb, 0, none⟩ = some (.int .i64 1)) :
    Calls Tryz.prog 47 #[.pointer (some ⟨pb, 0, none⟩)] w fun e w' => e = .returned (.bool true) ∧ w = w' := by
  go_enter Tryz.func47, Tryz.ntmps47
  go_wp2
  go_ret
  exact ⟨rfl, rfl⟩
theorem nDecomps_any (p : Option Addr) (w : World) : Calls Tryz.prog 18 #[.pointer p] w fun e w' =>
    e = .returned (.func (.func 54) #[] #[.pointer (some ⟨w.heap.size, 0, none⟩)]) ∧ w.alloc (.cells #[.pointer p] 31) = w' := by
  have hmf : ∀ (fn : Fn) (first cap : Array Value) (w : World), (Instr.makeFunc fn first cap).run Tryz.prog w = .ok (.func fn first cap) w := fun _ _ _ _ => rfl
  go_enter Tryz.func18, Tryz.ntmps18
  go_wp2
  go_ret
  exact ⟨rfl, rfl⟩
set_option maxHeartbeats 2000000 in
set_option maxRecDepth 100000 in
theorem decs_iter (R : Nat → Prop) (d : List T3) (p : Option Addr) (cp B pb : Nat) (hl : d.length ≤ 8000) :
    IterC Tryz.prog 54 #[.pointer (some ⟨B, 0, none⟩)] (fun i : Nat => #[triAgg (d.getD i (0, 0, 0))]) (fun i => i + 1) (fun i => i < d.length) (fun i => d.length ≤ i) (fun _ _ => False) 0
      (fun W => W.cell? ⟨B, 0, none⟩ = some (.pointer (some ⟨pb, 0, none⟩)) ∧ W.cell? ⟨pb, 0, none⟩ = some (.int .i64 1) ∧ W.cell? ⟨pb, 2, none⟩ = some (.slice p d.length cp) ∧ TrisIn R .i32 W (.slice p d.length cp) d) := by
  intro l J Jx W hJ hJx hPre hY h0
  obtain ⟨hc, hp0, hp2, _⟩ := hPre _ _ h0
  have HIS := Lib.hid (nIs_any pb W hp0)
  refine callsIn_wide (n := 0) |>.1 ?_
  refine callsIn_of_wp Tryz.func54 rfl trivial ?_ rfl
  simp only [Tryz.ntmps54, List.size_toArray, List.length_cons, List.length_nil, Nat.reduceAdd, Nat.reduceSub, Array.replicate_succ, Array.replicate_zero, List.push_toArray, List.append_toArray, List.nil_append, List.cons_append]
  gi_wp2_with fail
  refine ⟨trivial, rfl, (callsIn_wide.2 HIS.out).mono ?_⟩
  rintro e w1 ⟨rfl, rfl⟩
  clear HIS
  gi_wp2_with fail
  gi_loopw [13] (fun iv wr => ∃ a : Nat, iv = .int .i64 a ∧ a ≤ d.length ∧ J a wr) (fun iv _ => d.length - (intOf iv).toNat)
  case atStart => exact ⟨0, rfl, Nat.zero_le _, h0⟩
  case round =>
    obtain ⟨a, rfl, ha, hj⟩ := hrel
    have hv := (hPre _ _ hj).2.2.2
    have HJ := Lib.hid hj
    by_cases hlt : a < d.length
    · have d1 : decide ((a : Int) < (d.length : Int)) = true := decide_eq_true (by omega)
      have d2 : decide (a < d.length) = true := decide_eq_true hlt
      have hx : d[a]? = some (d.getD a (0, 0, 0)) := by rw [List.getD_eq_getElem?_getD, List.getElem?_eq_getElem hlt]; rfl
      obtain ⟨b, o, rfl, _, hbl, q0, q1, q2⟩ := hv.at a _ hx
      have hj2 : J a (wr.alloc (.cells #[.int .i32 (d.getD a (0, 0, 0)).1, .int .i32 (d.getD a (0, 0, 0)).2.1, .int .i32 (d.getD a (0, 0, 0)).2.2] 104)) := hJ a _ _ hj ((Below.refl _ wr).alloc (Nat.le_refl _) _)
      obtain ⟨fn, tmps, assign, body, hy, hR⟩ := hY a _ hj2 hlt
      have HL := Lib.hid hlt
      unfold triAgg at hy
      generalize d.getD a (0, 0, 0) = x at *
      clear hv hlt hj hx hj2
      gi_wp2
      refine ⟨rfl, hR.mono ?_⟩
      rintro e w2 (⟨rfl, hj2⟩ | ⟨rfl, hjx⟩)
      · gi_wp2
        go_roundw
        case rel => exact ⟨a + 1, by go_num, HL.out, hj2⟩
        case measure => (have hp := HL.out; simp [intOf]; omega)
      · gi_wp2
        refine bodyPost_ret (results_none rfl _ _ _) rfl ?_
        exact .inr (.inl ⟨⟨_, rfl⟩, hjx⟩)
    · have d1 : decide ((a : Int) < (d.length : Int)) = false := decide_eq_false (by omega)
      have d2 : decide (a < d.length) = false := decide_eq_false hlt
      have hge : d.length ≤ a := by omega
      clear hlt hv hj
      gi_wp2
      go_end0
      exact .inl ⟨⟨_, rfl⟩, a, hge, HJ.out⟩
end Go.Proofs.YtlldoofclaokgaaGreat
