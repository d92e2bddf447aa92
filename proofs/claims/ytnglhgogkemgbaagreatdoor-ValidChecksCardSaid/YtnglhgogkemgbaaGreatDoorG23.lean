/- Maps from runes to slices that the call itself makes: a word for what they hold, over any program. Package norms: data in memory, and their decompositions told. -/
import Derived.Test.YtnglhgogkemgbaaGreatDoorG01
import Derived.Test.YtnglhgogkemgbaaGreatDoorG22
import Derived.Test.YtnglhgogkemgbaaGreatDoorG05
import Derived.Maps.OwnOps
import Derived.Maps.OwnSet
import Derived.Maps.Views
namespace Go.Proofs.YtnglhgogkemgbaaGreatDoor
open Go.RowKit
open Go.Maps (Keyed)

/-- how a slice in a map reads -/
def Rs : Value → Option (DataW Unit × List MemPlace)
  | .slice none 0 0 => some (.nil, [])
  | .slice (some ⟨b, 0, none⟩) n c => some (.agg [.lit (.int .i64 b), .lit (.int .i64 n), .lit (.int .i64 c)], [])
  | _ => none
def slD : Option (Nat × Nat × Nat) → DataW Unit
  | none => .nil
  | some x => .agg [.lit (.int .i64 x.1), .lit (.int .i64 x.2.1), .lit (.int .i64 x.2.2)]
def slV : Option (Nat × Nat × Nat) → Value
  | none => .slice none 0 0
  | some x => .slice (some ⟨x.1, 0, none⟩) x.2.1 x.2.2
theorem sl_of {v : Value} {o : Option (Nat × Nat × Nat)} {ps : List MemPlace} (h : Rs v = some (slD o, ps)) : v = slV o := by
  unfold Rs at h
  split at h
  · cases o with
    | none => rfl
    | some x => simp [slD] at h
  · cases o with
    | none => simp [slD] at h
    | some x =>
      obtain ⟨x1, x2, x3⟩ := x
      simp only [slD, Option.some.injEq, Prod.mk.injEq, DataW.agg.injEq, List.cons.injEq, DataW.lit.injEq, Lit.int.injEq, true_and, and_true] at h
      obtain ⟨⟨h1, h2, h3⟩, _⟩ := h
      obtain rfl := Int.ofNat.inj h1
      obtain rfl := Int.ofNat.inj h2
      obtain rfl := Int.ofNat.inj h3
      rfl
  · cases h

variable {P : Program} {k : TypeId}
/-- block b is a map that tells f of each rune; at most n keys -/
def SMap (P : Program) (k : TypeId) (w : World) (b n : Nat) (f : Int → Option (Nat × Nat × Nat)) : Prop :=
  ∃ L : List (Lit × DataW Unit), w.ownsMap P k Rs b n (.map L) ∧ (∀ r, (DataW.map L).atKey (.int .i32 r) .nil = slD (f r)) ∧ (∀ r, Maps.has (DataW.map L) (.int .i32 r) = (f r).isSome)
theorem SMap.made (w : World) : SMap P k (w.alloc (.map #[] 0)) w.heap.size 0 (fun _ => none) := ⟨[], World.ownsMap_made w P k Rs, fun _ => rfl, fun _ => rfl⟩
theorem SMap.kept {w w' : World} {row : Option Nat} {b n : Nat} {f : Int → Option (Nat × Nat × Nat)} (h : SMap P k w b n f) (hg : w.grownBy w' row) (hne : some b ≠ row) : SMap P k w' b n f := by
  obtain ⟨L, h1, h2⟩ := h; exact ⟨L, h1.kept hg hne, h2⟩
theorem SMap.lt {w : World} {b n : Nat} {f : Int → Option (Nat × Nat × Nat)} (h : SMap P k w b n f) : b < w.heap.size := by
  obtain ⟨L, h1, _⟩ := h; exact h1.lt
theorem SMap.same {w w' : World} {b n : Nat} {f : Int → Option (Nat × Nat × Nat)} (h : SMap P k w b n f) (hb : w'.heap[b]? = w.heap[b]?) : SMap P k w' b n f := by
  obtain ⟨L, ⟨es, c, h1, h2⟩, h3⟩ := h
  exact ⟨L, ⟨es, c, hb.trans h1, h2⟩, h3⟩
theorem SMap.lookup {w : World} {b n : Nat} {f : Int → Option (Nat × Nat × Nat)} {t e : TypeId} (h : SMap P k w b n f) (hk : P.underlying k = some (.int .i32)) (ht : P.underlying t = some (.map k e)) (hz : ∀ w, (zeroValue e).run P w = .ok (.slice none 0 0) w)
    (r : Int) (hr : (Lit.int .i32 r).wf = true) : (Instr.lookup t (.map (some b)) (.int .i32 r) true).run P w = .ok (.tuple #[slV (f r), .bool (f r).isSome]) w := by
  obtain ⟨L, h1, h2, h3⟩ := h
  obtain ⟨v, ps, hrun, hv⟩ := h1.look_ok (Maps.int_keyed hk) ht (hz w) (zd := .nil) (zp := []) rfl (key := .int .i32 r) (kl := .int .i32 r) (Maps.keyOf_int_mk hk hr)
  rw [h2 r] at hv
  rw [hrun, sl_of hv, h3 r]
theorem SMap.update {w : World} {b n : Nat} {f : Int → Option (Nat × Nat × Nat)} {t e : TypeId} (h : SMap P k w b n f) (hk : P.underlying k = some (.int .i32)) (ht : P.underlying t = some (.map k e)) (hn : n < maxLen) (r : Int) (hr : (Lit.int .i32 r).wf = true) (g len cap : Nat) :
    ∃ w', (Instr.mapUpdate t (.map (some b)) (.int .i32 r) (.slice (some ⟨g, 0, none⟩) len cap)).run P w = .ok () w' ∧ SMap P k w' b (n + 1) (fun q => if q = r then some (g, len, cap) else f q) ∧ w.grownBy w' (some b) := by
  obtain ⟨L, h1, h2, h3⟩ := h
  obtain ⟨w', hrun, hown, hg⟩ := h1.update (Maps.int_keyed hk) ht hn (key := .int .i32 r) (kl := .int .i32 r) (d := slD (some (g, len, cap))) (ps := []) (Maps.keyOf_int_mk hk hr) (val := .slice (some ⟨g, 0, none⟩) len cap) rfl
  refine ⟨w', hrun, ⟨_, hown, fun q => ?_, fun q => ?_⟩, hg⟩
  · by_cases e : q = r
    · subst e
      simp only [if_true]
      exact Maps.atKey_put_same ⟨L, rfl⟩ (by simp [WideAt.IsKeyLit]) _ _
    · have h4 := Maps.atKey_put_other (D := DataW.map L) (k' := .int .i32 q) (k := .int .i32 r) (by intro h; cases h; exact e rfl) (slD (some (g, len, cap))) .nil
      simp only [if_neg e]
      exact h4.trans (h2 q)
  · by_cases e : q = r
    · subst e
      simp only [if_true]
      exact Maps.has_put_same ⟨L, rfl⟩ (by simp [WideAt.IsKeyLit]) _
    · have h4 := Maps.has_put_other (D := DataW.map L) (k' := .int .i32 q) (k := .int .i32 r) (by intro h; cases h; exact e rfl) (slD (some (g, len, cap)))
      simp only [if_neg e]
      exact h4.trans (h3 q)
end Go.Proofs.YtnglhgogkemgbaaGreatDoor
namespace Go.Proofs.YtnglhgogkemgbaaGreatDoor
open Go.RowKit
attribute [local go_sem] Oper.semAt_some

/-- all that decompose, to the end, in a map -/
def FullAt (Q : Nat → Prop) (W : World) (mb : Nat) (d ds : List T3) : Prop :=
  ∃ n f, SMap Tryz.prog 21 W mb n f ∧ n ≤ ds.length ∧ ∀ r, (f r = none ∧ ∀ x ∈ ds, x.1 ≠ r) ∨ (∃ g cap, f r = some (g, (deep d 4 r).1.length, cap) ∧ (∃ x ∈ ds, x.1 = r) ∧ IntsIn Q .i32 W (.slice (some ⟨g, 0, none⟩) (deep d 4 r).1.length cap) (deep d 4 r).1)
theorem FullAt.kept {Q : Nat → Prop} {W W' : World} {mb : Nat} {d ds : List T3} (h : FullAt Q W mb d ds) (hk : Kept Q W W') (hm : W'.heap[mb]? = W.heap[mb]?) : FullAt Q W' mb d ds := by
  obtain ⟨n, f, h1, hn, h2⟩ := h
  refine ⟨n, f, h1.same hm, hn, fun r => ?_⟩
  rcases h2 r with h | ⟨g, cap, e, hx, hi⟩
  · exact .inl h
  · exact .inr ⟨g, cap, e, hx, hi.kept hk⟩
/-- the data that Load made: in the blocks of R -/
def Nrm (R : Nat → Prop) (W : World) (pb : Nat) (c d : List T3) : Prop :=
  R pb ∧ dataOk c d = true ∧ ∃ cv dv, TrisIn (fun b => R b ∧ b ≠ pb) .i64 W cv c ∧ TrisIn (fun b => R b ∧ b ≠ pb) .i32 W dv d ∧
    (NoAt W pb cv dv 0 0 (.map none) ∨ ∃ mb, NoAt W pb cv dv 1 0 (.map (some mb)) ∧ R mb ∧ mb ≠ pb ∧ mb < W.heap.size ∧ FullAt (fun b => R b ∧ b ≠ pb) W mb d d)
theorem NoAt.lt {W : World} {pb : Nat} {cv dv full : Value} {dn mu : Int} (h : NoAt W pb cv dv dn mu full) : pb < W.heap.size := (Array.getElem?_eq_some_iff.1 h).1
theorem NoAt.cells {W : World} {pb : Nat} {cv dv full : Value} {dn mu : Int} (h : NoAt W pb cv dv dn mu full) :
    W.cell? ⟨pb, 0, none⟩ = some (.int .i64 1) ∧ W.cell? ⟨pb, 1, none⟩ = some cv ∧ W.cell? ⟨pb, 2, none⟩ = some dv ∧ W.cell? ⟨pb, 3, none⟩ = some (.int .u32 dn) ∧ W.cell? ⟨pb, 4, none⟩ = some (.int .i32 mu) ∧ W.cell? ⟨pb, 6, none⟩ = some full ∧ ∀ o, W.frozen? ⟨pb, o, none⟩ = false := by
  unfold NoAt at h
  refine ⟨?_, ?_, ?_, ?_, ?_, ?_, fun o => ?_⟩ <;> simp [World.cell?, World.frozen?, h]
theorem Nrm.lt {R : Nat → Prop} {W : World} {pb : Nat} {c d : List T3} (h : Nrm R W pb c d) : pb < W.heap.size := by
  obtain ⟨_, _, cv, dv, _, _, h | ⟨mb, h, _⟩⟩ := h <;> exact h.lt
theorem Nrm.kept {R : Nat → Prop} {W W' : World} {pb : Nat} {c d : List T3} (h : Nrm R W pb c d) (hk : Kept R W W') : Nrm R W' pb c d := by
  obtain ⟨hr, ho, cv, dv, h1, h2, h3⟩ := h
  have hk' : Kept (fun b => R b ∧ b ≠ pb) W W' := ⟨hk.1, fun b hb hl => hk.2 b hb.1 hl⟩
  refine ⟨hr, ho, cv, dv, h1.kept hk', h2.kept hk', ?_⟩
  rcases h3 with h | ⟨mb, h, hm, hne, hml, hf⟩
  · exact .inl ((hk.2 pb hr h.lt).trans h)
  · exact .inr ⟨mb, (hk.2 pb hr h.lt).trans h, hm, hne, Nat.lt_of_lt_of_le hml hk.1, hf.kept hk' (hk.2 mb hm hml)⟩
theorem Nrm.below {R : Nat → Prop} {W W' : World} {pb : Nat} {c d : List T3} (h : Nrm R W pb c d) (hb : Below W.heap.size W W') : Nrm R W' pb c d := h.kept (Kept.below hb)
theorem tris_apart {B pb : Nat} {e t : TypeId} {kc : IntKind} {w : World} {v : Value} {xs : List T3} {cs : Array Value} {fr : Nat × Nat} (h : w.ownsRow B e 3 v xs.length (triVs kc xs)) (hp : w.heap[pb]? = some (.cells cs t fr)) (ht : t ≠ e) : TrisIn (fun b => B ≤ b ∧ b ≠ pb) kc w v xs := by
  have h1 := tris_of_own h
  have h2 := ownsRow_apart h hp ht
  obtain ⟨p, cap, e1, h0, h3⟩ := h1
  refine ⟨p, cap, e1, h0, fun i x hx => ?_⟩
  obtain ⟨b, o, e2, hb, hl, hc⟩ := h3 i x hx
  refine ⟨b, o, e2, ⟨hb, fun e => ?_⟩, hl, hc⟩
  subst e
  rw [e1, e2] at h2
  simp [Value.ownBlock] at h2
/-- Load's own -/
theorem load_nrm (Q : Nat → Prop) (c d : List T3) (v : Value) (w : World) (hv : IntsIn Q .u8 w v (frameOf (normBytes c d))) (h : dataOk c d = true) :
    Calls Tryz.prog 15 #[v] w fun e w' => ∃ pb, e = .returned (.tuple #[.pointer (some ⟨pb, 0, none⟩), .int .i64 0]) ∧ Nrm (fun b => w.heap.size ≤ b) w' pb c d ∧ w.heap.size ≤ pb ∧ Below w.heap.size w w' :=
  (load_ok Q c d v w hv h).mono fun e w' ⟨pb, cv, dv, he, hn, hc, hd, hp, hb⟩ => ⟨pb, he, ⟨hp, h, cv, dv, tris_apart hc hn (by decide), tris_apart hd hn (by decide), .inl hn⟩, hp, hb⟩
theorem Nrm.mono {R S : Nat → Prop} {W : World} {pb : Nat} {c d : List T3} (h : Nrm R W pb c d) (hm : ∀ b, R b → S b) : Nrm S W pb c d := by
  obtain ⟨hr, ho, cv, dv, h1, h2, h3⟩ := h
  have hq : ∀ b, (R b ∧ b ≠ pb) → (S b ∧ b ≠ pb) := fun b hb => ⟨hm b hb.1, hb.2⟩
  refine ⟨hm _ hr, ho, cv, dv, h1.mono (fun b hb _ => hq b hb), h2.mono (fun b hb _ => hq b hb), ?_⟩
  rcases h3 with h | ⟨mb, h, hmm, hne, hml, n, f, hs, hn, hf⟩
  · exact .inl h
  · refine .inr ⟨mb, h, hm _ hmm, hne, hml, n, f, hs, hn, fun r => ?_⟩
    rcases hf r with h | ⟨g, cap, e, hx, hi⟩
    · exact .inl h
    · exact .inr ⟨g, cap, e, hx, hi.mono (fun b hb _ => hq b hb)⟩

set_option maxHeartbeats 1000000 in
set_option maxRecDepth 100000 in
theorem nIs_any (pb : Nat) (w : World) (h : w.cell? ⟨pb, 0, none⟩ = some (.int .i64 1)) :
    Calls Tryz.prog 141 #[.pointer (some ⟨pb, 0, none⟩)] w fun e w' => e = .returned (.bool true) ∧ w = w' := by
  go_enter Tryz.func141, Tryz.ntmps141
  go_wp2
  go_ret
  exact ⟨rfl, rfl⟩
theorem nDecomps_any (p : Option Addr) (w : World) : Calls Tryz.prog 183 #[.pointer p] w fun e w' =>
    e = .returned (.func (.func 192) #[] #[.pointer (some ⟨w.heap.size, 0, none⟩)]) ∧ w.alloc (.cells #[.pointer p] 28) = w' := by
  have hmf : ∀ (fn : Fn) (first cap : Array Value) (w : World), (Instr.makeFunc fn first cap).run Tryz.prog w = .ok (.func fn first cap) w := fun _ _ _ _ => rfl
  go_enter Tryz.func183, Tryz.ntmps183
  go_wp2
  go_ret
  exact ⟨rfl, rfl⟩
set_option maxHeartbeats 2000000 in
set_option maxRecDepth 100000 in
theorem decs_iter (R : Nat → Prop) (d : List T3) (p : Option Addr) (cp B pb : Nat) (hl : d.length ≤ 8000) :
    IterC Tryz.prog 192 #[.pointer (some ⟨B, 0, none⟩)] (fun i : Nat => #[triAgg (d.getD i (0, 0, 0))]) (fun i => i + 1) (fun i => i < d.length) (fun i => d.length ≤ i) (fun _ _ => False) 0
      (fun W => W.cell? ⟨B, 0, none⟩ = some (.pointer (some ⟨pb, 0, none⟩)) ∧ W.cell? ⟨pb, 0, none⟩ = some (.int .i64 1) ∧ W.cell? ⟨pb, 2, none⟩ = some (.slice p d.length cp) ∧ TrisIn R .i32 W (.slice p d.length cp) d) := by
  intro l J Jx W hJ hJx hPre hY h0
  obtain ⟨hc, hp0, hp2, _⟩ := hPre _ _ h0
  have HIS := Lib.hid (nIs_any pb W hp0)
  refine callsIn_wide (n := 0) |>.1 ?_
  refine callsIn_of_wp Tryz.func192 rfl trivial ?_ rfl
  simp only [Tryz.ntmps192, List.size_toArray, List.length_cons, List.length_nil, Nat.reduceAdd, Nat.reduceSub, Array.replicate_succ, Array.replicate_zero, List.push_toArray, List.append_toArray, List.nil_append, List.cons_append]
  gi_wp2_with fail
  refine ⟨trivial, rfl, (callsIn_wide.2 HIS.out).mono ?_⟩
  rintro e w1 ⟨rfl, rfl⟩
  clear HIS
  gi_wp2_with fail
  gi_loopw [13] (fun iv wr => ∃ a : Nat, iv = .int .i64 a ∧ a ≤ d.length ∧ J a wr) (fun iv _ => d.length - (intOf iv).toNat)
  case atStart => exact ⟨0, rfl, Nat.zero_le _, h0⟩
  case round =>
    obtain ⟨a, rfl, ha, hj⟩ := hrel
    have hv := (hPre _ _ hj).2.2.2
    have HJ := Lib.hid hj
    by_cases hlt : a < d.length
    · have d1 : decide ((a : Int) < (d.length : Int)) = true := decide_eq_true (by omega)
      have d2 : decide (a < d.length) = true := decide_eq_true hlt
      have hx : d[a]? = some (d.getD a (0, 0, 0)) := by rw [List.getD_eq_getElem?_getD, List.getElem?_eq_getElem hlt]; rfl
      obtain ⟨b, o, rfl, _, hbl, q0, q1, q2⟩ := hv.at a _ hx
      have hj2 : J a (wr.alloc (.cells #[.int .i32 (d.getD a (0, 0, 0)).1, .int .i32 (d.getD a (0, 0, 0)).2.1, .int .i32 (d.getD a (0, 0, 0)).2.2] 94)) := hJ a _ _ hj ((Below.refl _ wr).alloc (Nat.le_refl _) _)
      obtain ⟨fn, tmps, assign, body, hy, hR⟩ := hY a _ hj2 hlt
      have HL := Lib.hid hlt
      unfold triAgg at hy
      generalize d.getD a (0, 0, 0) = x at *
      clear hv hlt hj hx hj2
      gi_wp2
      refine ⟨rfl, hR.mono ?_⟩
      rintro e w2 (⟨rfl, hj2⟩ | ⟨rfl, hjx⟩)
      · gi_wp2
        go_roundw
        case rel => exact ⟨a + 1, by go_num, HL.out, hj2⟩
        case measure => (have hp := HL.out; simp [intOf]; omega)
      · gi_wp2
        refine bodyPost_ret (results_none rfl _ _ _) rfl ?_
        exact .inr (.inl ⟨⟨_, rfl⟩, hjx⟩)
    · have d1 : decide ((a : Int) < (d.length : Int)) = false := decide_eq_false (by omega)
      have d2 : decide (a < d.length) = false := decide_eq_false hlt
      have hge : d.length ≤ a := by omega
      clear hlt hv hj
      gi_wp2
      go_end0
      exact .inl ⟨⟨_, rfl⟩, a, hge, HJ.out⟩
end Go.Proofs.YtnglhgogkemgbaaGreatDoor
