/- Chapter 11: the small table is well formed, with one entry more it is not: in plain words. Chapter 11: whether a source is small enough; its laws' examples: walked. lecternref11.greatest: walked. -/
import Derived.Test.YtnglhgogkemgbaaGreatDoorG06
import Derived.Test.YtnglhgogkemgbaaGreatDoorG31
import Derived.Test.YtnglhgogkemgbaaGreatDoorG42
import Derived.Test.YtnglhgogkemgbaaGreatDoorG16
import Derived.Test.YtnglhgogkemgbaaGreatDoorG41
namespace Go.Proofs.YtnglhgogkemgbaaGreatDoor
open Go.RowKit

def uniR : List Rng := [(13312, 19893, 64384, false), (19968, 40917, 64320, false), (94208, 100332, 64256, true), (131072, 173782, 64384, false)]
def sVer : ByteArray := ⟨#[115, 109, 97, 108, 108, 45, 49]⟩
set_option maxRecDepth 1000000 in
theorem small_len : smallE.length = 101 := by decide +kernel
set_option maxRecDepth 1000000 in
theorem small_res : vres smallC smallD sVer uniR smallE = (0, 0) := by decide +kernel
set_option maxRecDepth 1000000 in
theorem small_res2 : vres smallC smallD sVer uniR (smallE ++ [([233], [])]) = (101, 113) := by decide +kernel
end Go.Proofs.YtnglhgogkemgbaaGreatDoor
namespace Go.Proofs.YtnglhgogkemgbaaGreatDoor
open Go.RowKit
open PlainAid (bt)

set_option maxHeartbeats 4000000 in
set_option maxRecDepth 100000 in
theorem few11_any (R : Nat → Prop) (es : List Ent) (ver : ByteArray) (n c1 : Nat) (p1 : Option Addr) (v : Value) (w : World) (hv : EntsIn R w v es) (hok : ∀ x ∈ es, EntOk x) (hl : es.length ≤ 140737488351232) (hn : n ≤ 140737488351232) :
    Calls Tryz.prog 7 #[.agg #[.string ver, .slice p1 n c1, v]] w fun e w' => (∃ q, e = .returned (.bool q)) ∧ Below w.heap.size w w' := by
  have HV := Lib.hid hv
  obtain ⟨p, cp, rfl, _⟩ := hv
  have HOK := Lib.hid hok
  clear hok
  go_enter Tryz.func7, Tryz.ntmps7
  go_wp2
  go_loopw [3, 16] (fun nv i wr => ∃ (k : Nat) (z : Int), i = .int .i64 k ∧ k ≤ es.length ∧ nv = .int .i64 z ∧ Below w.heap.size w wr) (fun _ i _ => es.length - (intOf i).toNat)
  case atStart => exact ⟨0, _, rfl, Nat.zero_le _, rfl, by (repeat' (first | (with_reducible exact Below.refl _ _) | (with_reducible assumption) | (with_reducible refine Below.alloc ?_ ?_ _) | (with_reducible refine Below.drew ?_) | (with_reducible refine below_drewN ?_ _) | (with_reducible refine Below.setCell ?_ ?_ _) | (with_reducible refine Below.trans ?_ (Below.mono (by assumption) ?_)) | go_size))⟩
  case round =>
    obtain ⟨k, z, rfl, hk, rfl, hbr⟩ := hrel
    have HB := Lib.hid hbr
    by_cases hlt : k < es.length
    · have hlt' : decide (k < es.length) = true := decide_eq_true hlt
      obtain ⟨x, hx⟩ : ∃ x, es[k]? = some x := ⟨es[k], List.getElem?_eq_getElem hlt⟩
      obtain ⟨b, o, c, el, rfl, hbR, hbl, hc0, hc1, hci, hue⟩ := (HV.out.kept (Kept.below hbr)).at k x hx
      obtain ⟨pc, cc, rfl, _⟩ := hci
      obtain ⟨pu, cu, rfl, _⟩ := hue
      have HL := Lib.hid hlt
      have hox := HOK.out x (List.mem_of_getElem? hx)
      have hx1 : x.1.length ≤ 140737488351232 := by have := hox.1; omega
      have hx2 : x.2.length ≤ 140737488351232 := by have := hox.2.1; omega
      clear hx hlt hbr hox
      go_wp2
      go_roundw
      case rel => exact ⟨k + 1, _, by go_num, HL.out, rfl, HB.out.trans (((Below.refl _ wr).alloc (Nat.le_refl _) _).mono HB.out.size)⟩
      case measure => (have hq := HL.out; simp [intOf]; omega)
    · have hlt' : decide (k < es.length) = false := decide_eq_false hlt
      clear hlt hbr
      go_wp2
      go_ret
      exact ⟨⟨_, rfl⟩, HB.out⟩
/-- blocks of an entry list of the call's own -/
def CbV (B : Nat) (w : World) (b : Nat) : Prop := B ≤ b ∧ ∃ c t, w.heap[b]? = some (.cells c t (0, 0)) ∧ (t = 21 ∨ t = 73 ∨ t = 45)
theorem ents_rowV {B : Nat} {w : World} {v : Value} {es : List Ent} {vs : List (Value × Value)} (h : w.ownsRow B 45 2 v es.length (flatVs vs)) (hvl : vs.length = es.length)
    (hvals : ∀ (j : Nat) x, es[j]? = some x → ∃ c u, vs[j]? = some (c, u) ∧ IntsIn (Lf B w) .i32 w c x.1 ∧ ElsIn (Lf B w) w u x.2) : EntsIn (CbV B w) w v es := by
  have h' := h
  rcases h.2 with ⟨rfl, h0⟩ | ⟨g, cap, cur, rfl, hg, hr, hx⟩
  · obtain rfl := List.eq_nil_of_length_eq_zero h0
    exact ⟨none, 0, rfl, fun i x h => by simp at h⟩
  · refine ⟨some ⟨g, 0, none⟩, cap, rfl, fun i x hi => ?_⟩
    obtain ⟨c, u, g1, g2, g3⟩ := hvals i x hi
    have at' : ∀ j z, [c, u][j]? = some z → w.cell? ⟨g, 0 + (i * 2 + j), none⟩ = some z := fun j z hz => by
      have := h'.cells (g := g) rfl (i * 2 + j) z (flat_at (fun x : Value × Value => [x.1, x.2]) 2 (fun _ => rfl) vs i j (c, u) z g1 hz)
      rw [addr_add] at this; exact this
    have hm : ∀ b, Lf B w b → b < w.heap.size → CbV B w b := fun b ⟨e1, c, t, e2, e3⟩ _ => ⟨e1, c, t, e2, by rcases e3 with e3 | e3; exact .inl e3; exact .inr (.inl e3)⟩
    exact ⟨g, 0, c, u, rfl, ⟨hg, cur, _, hr, .inr (.inr rfl)⟩, (Array.getElem?_eq_some_iff.1 hr).1, at' 0 _ rfl, at' 1 _ rfl, g2.mono hm, g3.mono hm⟩
theorem uni_in {w : World} {b : Nat} (h : w.heap[b]? = some (.cells uniCells 136 (0, 0))) : RngsIn (fun k => k = b) w (.slice (some ⟨b, 0, none⟩) 4 4) uniR := by
  have hl := (Array.getElem?_eq_some_iff.1 h).1
  refine ⟨some ⟨b, 0, none⟩, 4, rfl, fun i x hi => ⟨b, 0, rfl, rfl, hl, ?_⟩⟩
  have hc : ∀ o, w.cell? ⟨b, o, none⟩ = uniCells[o]? := fun o => by simp [World.cell?, h]
  have hi4 : i < 4 := (List.getElem?_eq_some_iff.1 hi).1
  unfold Rg4
  rw [hc, hc, hc, hc]
  match i, hi4, hi with
  | 0, _, hi => cases hi; exact ⟨rfl, rfl, rfl, rfl⟩
  | 1, _, hi => cases hi; exact ⟨rfl, rfl, rfl, rfl⟩
  | 2, _, hi => cases hi; exact ⟨rfl, rfl, rfl, rfl⟩
  | 3, _, hi => cases hi; exact ⟨rfl, rfl, rfl, rfl⟩
def entOkB (x : Ent) : Bool := decide (x.1.length * 4 ≤ 140737488351232) && decide (x.2.length * 32 ≤ 140737488351232) && x.1.all (fun r => (Lit.int .i32 r).wf)
set_option maxRecDepth 1000000 in
theorem small_okB : smallE.all entOkB = true := by decide +kernel
theorem entOk_of {x : Ent} (h : entOkB x = true) : EntOk x := by
  unfold entOkB at h
  simp only [Bool.and_eq_true, decide_eq_true_eq] at h
  exact ⟨h.1.1, h.1.2, fun r hr => List.all_eq_true.1 h.2 r hr⟩
theorem small_okE : ∀ x ∈ smallE, EntOk x := fun x hx => entOk_of (List.all_eq_true.1 small_okB x hx)
theorem small_ok2 : ∀ x ∈ smallE ++ [([233], [])], EntOk x := fun x hx => by
  rcases List.mem_append.1 hx with h | h
  · exact small_okE x h
  · rw [List.mem_singleton] at h; subst h; exact entOk_of (by decide +kernel)
set_option maxHeartbeats 4000000 in
set_option maxRecDepth 1000000 in
theorem awake11_any (w : World) (hm : MS w) : Calls Tryz.prog 6 #[] w fun e w' => e = .returned (.bool true) ∧ Below w.heap.size w w' := by
  have HM := Lib.hid hm
  clear hm
  obtain ⟨i2, hi2, hx0, hx1, hx2⟩ := info_parts Tryz.infoN
  go_enter Tryz.func6, Tryz.ntmps6
  go_wp2_with fail
  refine (data11_any _).mono ?_
  rintro e w1 ⟨pb, u, v, rfl, hn1, hu, hv, hb1⟩
  obtain ⟨pu, cu, rfl, _⟩ := id hu
  obtain ⟨pv, cv, rfl, _⟩ := id hv
  have HPW : Hid (w.heap.size ≤ pb) := hn1.1
  have HN1 := Lib.hid hn1
  have HB1 := Lib.hid hb1
  clear hn1 hb1 hu hv
  go_wp2_with fail
  have hal1 : Below w1.heap.size w1 (w1.alloc (.cells #[.slice pu smallC.length cu, .slice pv smallD.length cv] 32)) := (Below.refl _ _).alloc (Nat.le_refl _) _
  generalize w1.alloc (.cells #[.slice pu smallC.length cu, .slice pv smallD.length cv] 32) = w2 at *
  have HN2 := Lib.hid (HN1.out.below hal1)
  have HB2 := Lib.hid (HB1.out.trans (hal1.mono HB1.out.size))
  clear hal1 HN1 HB1
  refine (small_any _ (HM.out.below HB2.out)).mono ?_
  rintro e w3 ⟨hb3, rv, ev, rfl, huc, rfl, sb, hsb, hsm, hev, hsl⟩
  obtain ⟨ev', vs, h1, hrow, hvl, hvals⟩ := hsm
  have hev2 : ev' = ev := by simp [World.cell?, h1] at hev; exact hev
  subst hev2
  obtain ⟨ep, ec, rfl⟩ : ∃ p c, ev' = .slice p smallE.length c := by
    rcases hrow.2 with ⟨rfl, h0⟩ | ⟨g, cap, cur, rfl, _⟩
    · rw [h0]; exact ⟨_, _, rfl⟩
    · exact ⟨_, _, rfl⟩
  obtain ⟨B, hB⟩ : ∃ B, B = w2.heap.size + 6 := ⟨_, rfl⟩
  rw [← hB] at hrow hvals
  have HBB := Lib.hid hB
  have HROW := Lib.hid hrow
  have HVS := Lib.hid (And.intro hvl hvals)
  have HUC := Lib.hid huc
  have HN3 := Lib.hid (HN2.out.bound.below hb3)
  have HRL : Hid (∀ k, (Value.slice ep smallE.length ec).ownBlock = some k → B ≤ k ∧ k < w3.heap.size) := fun k hk => hrow.lt k hk
  have HB3 := Lib.hid hb3
  have HPB := Lib.hid HN2.out.lt
  have hsl := small_len
  generalize hnn : smallE.length = n at *
  have HNN := Lib.hid hnn
  subst hsl
  unfold uniRv srcV
  clear hb3 hrow hvl hvals huc h1 hev hB hsb hnn HN2
  go_wp2_with fail
  obtain ⟨W4, hW4⟩ : ∃ W4, w3.alloc (.cells #[.string ⟨#[115, 109, 97, 108, 108, 45, 49]⟩, .slice (some ⟨w2.heap.size + 1, 0, none⟩) 4 4, .slice ep 101 ec] 25) = W4 := ⟨_, rfl⟩
  have hal3 : Below w3.heap.size w3 W4 := by rw [← hW4]; exact (Below.refl _ _).alloc (Nat.le_refl _) _
  have hbox : W4.heap[w3.heap.size]? = some (.cells #[.string ⟨#[115, 109, 97, 108, 108, 45, 49]⟩, .slice (some ⟨w2.heap.size + 1, 0, none⟩) 4 4, .slice ep 101 ec] 25 (0, 0)) := by rw [← hW4]; exact World.alloc_heap_new _ _
  rw [hW4]
  have hsz4 : W4.heap.size = w3.heap.size + 1 := by rw [← hW4]; simp
  have hpb := HPB.out
  have hB := HBB.out
  have h23 := HB3.out.size
  have hrow4 : W4.ownsRow B 45 2 (.slice ep 101 ec) smallE.length (flatVs vs) := by rw [HNN.out]; exact ownsRow_grow' HROW.out hal3
  have hk4 : Kept (Lf B w3) w3 W4 := Kept.below hal3
  have hvals4 : ∀ (j : Nat) x, smallE[j]? = some x → ∃ c u, vs[j]? = some (c, u) ∧ IntsIn (Lf B W4) .i32 W4 c x.1 ∧ ElsIn (Lf B W4) W4 u x.2 := fun j x hx => by
    obtain ⟨c, u, g1, g2, g3⟩ := HVS.out.2 j x hx
    exact ⟨c, u, g1, g2.lf hk4 (Nat.le_refl _), g3.lf hk4 (Nat.le_refl _)⟩
  have hen4 := ents_rowV hrow4 (by rw [HNN.out]; exact HVS.out.1) hvals4
  have hun4 : W4.heap[w2.heap.size + 1]? = some (.cells uniCells 136 (0, 0)) := (hal3.block _ (Array.getElem?_eq_some_iff.1 HUC.out).1).trans HUC.out
  have hn4 : Nrm (fun b => b < w2.heap.size ∨ w3.heap.size + 1 ≤ b) W4 pb smallC smallD := (HN3.out.kept (Kept.below hal3)).mono (fun b hb => by have := hb.2; omega)
  have hv1 : Calls Tryz.prog 9 #[.pointer (some ⟨pb, 0, none⟩), .agg #[.string ⟨#[115, 109, 97, 108, 108, 45, 49]⟩, .slice (some ⟨w2.heap.size + 1, 0, none⟩) 4 4, .slice ep 101 ec]] W4 fun e w' =>
      e = .returned (.tuple #[.int .i64 0, .int .i64 0]) ∧ Nrm (fun b => b < w2.heap.size ∨ w3.heap.size + 1 ≤ b) w' pb smallC smallD ∧ Only (fun i => i = pb) W4 w' := by
    have h := vcheck_any _ _ pb _ smallC smallD uniR smallE sVer _ _ W4 hn4 (fun b hb => by omega) (uni_in hun4) (fun b hb => by omega) hen4 (fun b hb => by have := hb.1; omega) small_okE (by decide) (by rw [HNN.out]; decide) (by decide) small_ok
    rw [small_res] at h
    exact h
  have HV1 := Lib.hid hv1
  have HB4 := Lib.hid (HB3.out.trans (hal3.mono (by omega)))
  have HROW4 := Lib.hid hrow4
  have HVAL4 := Lib.hid hvals4
  have HUN4 := Lib.hid hun4
  have HBX4 := Lib.hid hbox
  have HSZ4 := Lib.hid hsz4
  clear hal3 hbox hsz4 hpb hB h23 hrow4 hk4 hvals4 hen4 hun4 hn4 hv1 hW4 HROW HN3 HUC
  refine HV1.out.mono ?_
  rintro e W5 ⟨rfl, hn5, ho5⟩
  have h23 := HB3.out.size
  have hpb := HPB.out
  have hB := HBB.out
  have hsz := HSZ4.out
  have hbx5 : W5.heap[w3.heap.size]? = some (.cells #[.string ⟨#[115, 109, 97, 108, 108, 45, 49]⟩, .slice (some ⟨w2.heap.size + 1, 0, none⟩) 4 4, .slice ep 101 ec] 25 (0, 0)) := (ho5.block _ (by omega) (by omega)).trans HBX4.out
  have hun5 : W5.heap[w2.heap.size + 1]? = some (.cells uniCells 136 (0, 0)) := (ho5.block _ (Array.getElem?_eq_some_iff.1 HUN4.out).1 (by omega)).trans HUN4.out
  have hk5 : Kept (Lf B W4) W4 W5 := Kept.only ho5 (fun b hb => by have := hb.1; omega)
  have hrow5 : W5.ownsRow B 45 2 (.slice ep 101 ec) 101 (flatVs vs) := by
    have h := HROW4.out
    rw [HNN.out] at h
    obtain ⟨g1, g2⟩ := h
    refine ⟨g1, g2.imp id ?_⟩
    rintro ⟨g, cap, cur, e1, e2, e3, e4⟩
    exact ⟨g, cap, cur, e1, e2, (ho5.block g (Array.getElem?_eq_some_iff.1 e3).1 (by omega)).trans e3, e4⟩
  have hvals5 : ∀ (j : Nat) x, smallE[j]? = some x → ∃ c u, vs[j]? = some (c, u) ∧ IntsIn (Lf B W5) .i32 W5 c x.1 ∧ ElsIn (Lf B W5) W5 u x.2 := fun j x hx => by
    obtain ⟨c, u, g1, g2, g3⟩ := HVAL4.out j x hx
    exact ⟨c, u, g1, g2.lf hk5 (Nat.le_refl _), g3.lf hk5 (Nat.le_refl _)⟩
  have c0 : W5.cell? ⟨w3.heap.size, 0, none⟩ = some (.string ⟨#[115, 109, 97, 108, 108, 45, 49]⟩) := by simp [World.cell?, hbx5]
  have c1 : W5.cell? ⟨w3.heap.size, 1, none⟩ = some (.slice (some ⟨w2.heap.size + 1, 0, none⟩) 4 4) := by simp [World.cell?, hbx5]
  have c2 : W5.cell? ⟨w3.heap.size, 2, none⟩ = some (.slice ep 101 ec) := by simp [World.cell?, hbx5]
  have cf2 : W5.frozen? ⟨w3.heap.size, 2, none⟩ = false := by simp [World.frozen?, hbx5]
  have hz5 : w3.heap.size < W5.heap.size := by have := ho5.size; omega
  have hent : ∀ k, (Value.slice ep 101 ec).ownBlock = some k → ∃ cur, W5.heap[k]? = some (.cells cur 45 (0, 0)) := fun k hk => by
    rcases hrow5.2 with ⟨h, _⟩ | ⟨g, cap, cur, h, _, e3, _⟩
    · rw [h] at hk; cases hk
    · rw [h] at hk; cases hk; exact ⟨cur, e3⟩
  have HN5 := Lib.hid hn5
  have HO5 := Lib.hid ho5
  have HR5 := Lib.hid hrow5
  have HV5 := Lib.hid hvals5
  have HU5 := Lib.hid hun5
  have HX5 := Lib.hid hbx5
  have HE5 := Lib.hid hent
  have HZ5 : Hid (B ≤ W5.heap.size) := by
    show _ ≤ _
    rcases hrow5.2 with ⟨_, h⟩ | ⟨g, cap, cur, h, e2, e3, _⟩
    · omega
    · have := (Array.getElem?_eq_some_iff.1 e3).1; omega
  clear hn5 ho5 hrow5 hvals5 hun5 hbx5 hent hk5 h23 hpb hB hsz HV1 HROW4 HVAL4 HUN4 HBX4
  go_wp2_with (at_builtin; refine wpList_append_own _ rfl _ _ 23 rfl B 45 i2 (.agg #[.slice none 0 0, .slice none 0 0]) 2 48 Tryz.underlying23 hi2 hx0 hx1 hx2 rfl (by decide) _ _ _ rfl ((HR5.out.alloc _).alloc _) ⟨W5.heap.size + 1, 0, none⟩ 1 1 [.slice (some ⟨W5.heap.size, 0, none⟩) 1 1, .slice none 0 0] rfl rfl (by have h := cells_new (W5.alloc (.cells #[.int .i32 233] 21)) [.slice (some ⟨W5.heap.size, 0, none⟩) 1 1, .slice none 0 0] 45; rw [World.size_alloc] at h; exact h) (by simp [Value.oneCell']) (by decide) (by omega) (by simp; have := HZ5.out; omega) ?_; intro v' W6 hown' hgrow _; obtain ⟨g', cap', _, rfl, _⟩ := hown'.2.resolve_left (fun h => by have := h.2; omega); have hk6 : W6.heap[w3.heap.size]? = W5.heap[w3.heap.size]? := (hgrow.block _ (by simp; omega) (fun e => by obtain ⟨cur, h⟩ := HE5.out _ e.symm; rw [HX5.out] at h; cases h)).trans ((Below.heap_alloc _ _ _ (by simp; omega)).trans (Below.heap_alloc _ _ _ hz5)); have q0 : W6.cell? ⟨w3.heap.size, 0, none⟩ = some (.string ⟨#[115, 109, 97, 108, 108, 45, 49]⟩) := (World.cell?_of_block (w := W5) (a := ⟨w3.heap.size, 0, none⟩) hk6).trans c0; have q1 : W6.cell? ⟨w3.heap.size, 1, none⟩ = some (.slice (some ⟨w2.heap.size + 1, 0, none⟩) 4 4) := (World.cell?_of_block (w := W5) (a := ⟨w3.heap.size, 1, none⟩) hk6).trans c1; have q2 : W6.cell? ⟨w3.heap.size, 2, none⟩ = some (.slice ep 101 ec) := (World.cell?_of_block (w := W5) (a := ⟨w3.heap.size, 2, none⟩) hk6).trans c2; have qf : W6.frozen? ⟨w3.heap.size, 2, none⟩ = false := by { simp [World.frozen?, hk6, HX5.out] }; have hz6 : w3.heap.size < W6.heap.size := by { have := hgrow.size; simp at this; omega }; have HGR := Lib.hid hgrow; have HOWN := Lib.hid hown'; have HK6 := Lib.hid hk6; clear hown' hgrow hk6 c0 c1 c2 cf2)
  obtain ⟨W7, hW7⟩ : ∃ W7, W6.setCell ⟨w3.heap.size, 2, none⟩ (.slice (some ⟨g', 0, none⟩) 102 cap') = W7 := ⟨_, rfl⟩
  rw [hW7]
  have hpb := HPB.out
  have hB := HBB.out
  have h23 := HB3.out.size
  have hal5 : Below W5.heap.size W5 (W5.alloc (.cells #[.int .i32 233] 21)) := (Below.refl _ _).alloc (Nat.le_refl _) _
  have hbx5 := (hal5.block _ hz5).trans HX5.out
  have hc33 : IntsIn (Lf B (W5.alloc (.cells #[.int .i32 233] 21))) .i32 (W5.alloc (.cells #[.int .i32 233] 21)) (.slice (some ⟨W5.heap.size, 0, none⟩) 1 1) [233] := by
    refine ⟨some ⟨W5.heap.size, 0, none⟩, 1, rfl, ⟨by decide, by decide⟩, fun i x hi => ⟨W5.heap.size, 0, rfl, ⟨HZ5.out, _, _, World.alloc_heap_new _ _, .inl rfl⟩, by simp, ?_⟩⟩
    have hi1 : i < 1 := (List.getElem?_eq_some_iff.1 hi).1
    obtain rfl : i = 0 := by omega
    cases hi
    have h := cells_new W5 [.int .i32 233] 21 0 _ rfl
    rw [addr_add] at h
    exact h
  have hk5 : Kept (Lf B W5) W5 (W5.alloc (.cells #[.int .i32 233] 21)) := Kept.below hal5
  have hpush := SmW.push (es := smallE) (x := ([233], [])) (vs := vs) (c := .slice (some ⟨W5.heap.size, 0, none⟩) 1 1) (u := .slice none 0 0) (v' := .slice (some ⟨g', 0, none⟩) 102 cap') hbx5 (by rw [HNN.out]; exact HR5.out.alloc _) (by rw [HNN.out]; exact HVS.out.1)
    (fun j x hx => by obtain ⟨c, u, g1, g2, g3⟩ := HV5.out j x hx; exact ⟨c, u, g1, g2.lf hk5 (Nat.le_refl _), g3.lf hk5 (Nat.le_refl _)⟩) hc33 (.nil _ _) (by rw [HNN.out]; exact HOWN.out) HGR.out
  rw [hW7] at hpush
  obtain ⟨hsm7, ho7⟩ := hpush
  obtain ⟨ev7, vs7, hb7, hrow7, hvl7, hvals7⟩ := hsm7
  have hbx7 : W7.cell? ⟨w3.heap.size, 2, none⟩ = some (.slice (some ⟨g', 0, none⟩) 102 cap') := by
    rw [← hW7]
    exact World.cell?_setCell_same _ _ _ q2
  have hev7 : ev7 = .slice (some ⟨g', 0, none⟩) 102 cap' := by
    simp [World.cell?, hb7] at hbx7; exact hbx7
  subst hev7
  have hen7 := ents_rowV hrow7 hvl7 hvals7
  have hkN : Kept (fun b => b < w2.heap.size ∨ w3.heap.size + 1 ≤ b) W5 W7 := (Kept.below hal5).trans (Kept.only ho7 (fun b hb hs => by
    rcases hs with hs | hs
    · omega
    · have h := HRL.out b hs
      omega))
  have hn7 := HN5.out.kept hkN
  have hun7 : W7.heap[w2.heap.size + 1]? = some (.cells uniCells 136 (0, 0)) := by
    have hlt := (Array.getElem?_eq_some_iff.1 HU5.out).1
    refine (ho7.block _ (Nat.lt_of_lt_of_le hlt hal5.size) (fun hs => ?_)).trans ((hal5.block _ hlt).trans HU5.out)
    rcases hs with hs | hs
    · have h := HU5.out
      rw [hs, HX5.out] at h; cases h
    · have h := HRL.out _ hs
      omega
  have h7z : w3.heap.size + 1 ≤ W7.heap.size := by have h1 := ho7.size; have h2 := hal5.size; omega
  have hv2 : Calls Tryz.prog 9 #[.pointer (some ⟨pb, 0, none⟩), .agg #[.string ⟨#[115, 109, 97, 108, 108, 45, 49]⟩, .slice (some ⟨w2.heap.size + 1, 0, none⟩) 4 4, .slice (some ⟨g', 0, none⟩) 102 cap']] W7 fun e w' =>
      e = .returned (.tuple #[.int .i64 101, .int .i64 113]) ∧ Nrm (fun b => b < w2.heap.size ∨ w3.heap.size + 1 ≤ b) w' pb smallC smallD ∧ Only (fun i => i = pb) W7 w' := by
    have h := vcheck_any _ _ pb _ smallC smallD uniR (smallE ++ [([233], [])]) sVer _ _ W7 hn7 (fun b hb => by omega) (uni_in hun7) (fun b hb => by omega) hen7 (fun b hb => by have := hb.1; omega) small_ok2 (by decide) (by rw [List.length_append, HNN.out]; decide) (by decide) small_ok
    rw [small_res2] at h
    exact h
  have HBW7 : Hid (Below w.heap.size w W7) := by
    have h1 := HB2.out.trans (HB4.out.mono HB2.out.size)
    have h2 := HPW.out
    have h3 := HO5.out
    have h4 := HB2.out.size
    exact ⟨ho7.os.trans (hal5.os.trans (h3.os.trans h1.os)), ho7.tape.trans (hal5.tape.trans (h3.tape.trans h1.tape)), ho7.output.trans (hal5.output.trans (h3.output.trans h1.output)), Nat.le_trans h1.size (Nat.le_trans h3.size (Nat.le_trans hal5.size ho7.size)), fun k hk =>
      (ho7.block k (by have := h1.size; have := h3.size; have := hal5.size; omega) (fun hs => by
        rcases hs with hs | hs
        · omega
        · have h := HRL.out _ hs; omega)).trans ((hal5.block k (by have := h1.size; have := h3.size; omega)).trans ((h3.block k (by have := h1.size; omega) (by omega)).trans (h1.block k hk)))⟩
  have hb7l := (Array.getElem?_eq_some_iff.1 hb7).1
  have HB7 := Lib.hid hb7
  have HV2 := Lib.hid hv2
  clear hpb hB h23 hal5 hbx5 hc33 hk5 ho7 hrow7 hvl7 hvals7 hen7 hkN hn7 hun7 hv2 hW7 q0 q1 q2 qf hbx7 h7z hz5 hz6 hb7
  refine HV2.out.mono ?_
  rintro e W8 ⟨rfl, _, ho8⟩
  have hb8 : W8.heap[w3.heap.size]? = W7.heap[w3.heap.size]? := ho8.block _ hb7l (by have := HPB.out; have := HB3.out.size; omega)
  have c2 : W8.cell? ⟨w3.heap.size, 2, none⟩ = some (.slice (some ⟨g', 0, none⟩) 102 cap') := by simp [World.cell?, hb8, HB7.out]
  have HO8 := Lib.hid ho8
  clear ho8 hb8
  go_wp2_with fail
  go_ret
  refine ⟨rfl, ?_⟩
  have h1 := HBW7.out
  have h2 := HO8.out
  have h3 := HPW.out
  exact ⟨h2.os.trans h1.os, h2.tape.trans h1.tape, h2.output.trans h1.output, Nat.le_trans h1.size h2.size, fun k hk => (h2.block k (by have := h1.size; omega) (by omega)).trans (h1.block k hk)⟩
end Go.Proofs.YtnglhgogkemgbaaGreatDoor
namespace Go.Proofs.YtnglhgogkemgbaaGreatDoor
open Go.RowKit

theorem gst_p1 {s t p : Int} {y : El} {lv : Int} (h : lvE y = lv) (h1 : lv = 1) (hv : y.2.2.2 = true) : (gst (s, t, p) y).2.2 = p := by
  unfold gst; rw [h, h1, hv]; simp
theorem gst_p2 {s t p : Int} {y : El} {lv : Int} (h : lvE y = lv) (h1 : lv = 1) (hv : y.2.2.2 = false) : (gst (s, t, p) y).2.2 = min p y.1 := by
  unfold gst; rw [h, h1, hv]; simp only [true_and]
  split <;> omega
theorem gst_p0 {s t p : Int} {y : El} {lv : Int} (h : lvE y = lv) (h1 : lv ≠ 1) : (gst (s, t, p) y).2.2 = p := by
  unfold gst; rw [h]; simp [h1]
set_option maxHeartbeats 8000000 in
set_option maxRecDepth 100000 in
theorem rgreatest_any (R : Nat → Prop) (es : List Ent) (ev : Value) (w : World) (hv : EntsIn R w ev es) (hl : es.length ≤ 4000) (he : ∀ x ∈ es, x.2.length ≤ 16) :
    Calls Tryz.prog 29 #[ev, .bool true] w fun e w' => e = .returned (.tuple #[.int .i64 (greatV 1073741824 es).1, .int .i64 (greatV 1073741824 es).2.1, .int .i64 (greatV 1073741824 es).2.2]) ∧ Below w.heap.size w w' := by
  have HV := Lib.hid hv
  obtain ⟨p, cp, rfl, _⟩ := hv
  obtain ⟨n, hn⟩ : ∃ n, n = es.length := ⟨_, rfl⟩
  rw [← hn] at HV hl ⊢
  have HNN := Lib.hid hn
  have HE := Lib.hid he
  clear he hn
  go_enter Tryz.func29, Tryz.ntmps29
  go_wp2_with fail
  go_loopw [7, 8, 9, 18] (fun sv tv pv iv wr => ∃ k : Nat, iv = .int .i64 k ∧ k ≤ n ∧ sv = .int .i64 (greatV 1073741824 (es.take k)).1 ∧ tv = .int .i64 (greatV 1073741824 (es.take k)).2.1 ∧ pv = .int .i64 (greatV 1073741824 (es.take k)).2.2 ∧ Below w.heap.size w wr) (fun _ _ _ iv _ => n - (intOf iv).toNat)
  case atStart => exact ⟨0, rfl, Nat.zero_le _, rfl, rfl, rfl, Below.refl _ _⟩
  case round =>
    obtain ⟨k, rfl, hk, rfl, rfl, rfl, hb⟩ := hrel
    have HB := Lib.hid hb
    by_cases hlt : k < n
    · have q1 : (k : Int) < (n : Int) := by omega
      obtain ⟨x, hx⟩ : ∃ x, es[k]? = some x := ⟨_, List.getElem?_eq_getElem (by have := HNN.out; omega)⟩
      obtain ⟨b, o, cv, uv, rfl, _, hbl, d0, d1, hci, hui⟩ := (HV.out.kept (Kept.below hb)).at k x hx
      have HU := Lib.hid hui
      have hm16 := HE.out x (List.mem_of_getElem? hx)
      have HG := Lib.hid (greatV_take (p0 := 1073741824) hx)
      obtain ⟨pc, cc, rfl, _⟩ := hci
      obtain ⟨pu, cu, rfl, _⟩ := hui
      obtain ⟨m, hm⟩ : ∃ m, m = x.2.length := ⟨_, rfl⟩
      rw [← hm] at hm16 d1 HU
      have HMM := Lib.hid hm
      have HLT := Lib.hid hlt
      obtain ⟨l, hcl⟩ : ∃ l, l = x.1.length := ⟨_, rfl⟩
      rw [← hcl] at d0
      generalize greatV 1073741824 (es.take k) = g0 at *
      obtain ⟨s0, t0, r0⟩ := g0
      dsimp only
      clear hx hb hlt hk hm hcl
      go_wp2_with fail
      have hbx : Below w.heap.size w (wr.alloc (.cells #[.slice pc l cc, .slice pu m cu] 45)) := HB.out.alloc HB.out.size _
      have HB0 := Lib.hid hbx
      have HU0 := Lib.hid (HU.out.kept (Kept.below ((Below.refl _ wr).alloc (Nat.le_refl _) (.cells #[.slice pc l cc, .slice pu m cu] 45))))
      generalize wr.alloc (.cells #[.slice pc l cc, .slice pu m cu] 45) = W0 at *
      clear hbx
      go_loopw [7, 8, 9, 25] (fun sv tv pv jv wr => ∃ j : Nat, jv = .int .i64 j ∧ j ≤ m ∧ sv = .int .i64 ((x.2.take j).foldl gst (s0, t0, r0)).1 ∧ tv = .int .i64 ((x.2.take j).foldl gst (s0, t0, r0)).2.1 ∧ pv = .int .i64 ((x.2.take j).foldl gst (s0, t0, r0)).2.2 ∧ Below W0.heap.size W0 wr) (fun _ _ _ jv _ => m - (intOf jv).toNat)
      case atStart => exact ⟨0, rfl, Nat.zero_le _, rfl, rfl, rfl, Below.refl _ _⟩
      case round =>
        obtain ⟨j, rfl, hj, rfl, rfl, rfl, hbj⟩ := hrel
        have HBJ := Lib.hid hbj
        by_cases hjt : j < m
        · have q2 : (j : Int) < (m : Int) := by omega
          obtain ⟨y, hy⟩ : ∃ y, x.2[j]? = some y := ⟨_, List.getElem?_eq_getElem (by have := HMM.out; omega)⟩
          obtain ⟨b2, o2, rfl, _, hbl2, e0, e1, e2, e3⟩ := (HU0.out.kept (Kept.below hbj)).at j y hy
          have HGY := Lib.hid (gst_take (g := (s0, t0, r0)) hy)
          have HJT := Lib.hid hjt
          generalize (x.2.take j).foldl gst (s0, t0, r0) = g1 at *
          obtain ⟨s1, t1, r1⟩ := g1
          obtain ⟨y1, y2, y3, y4⟩ := y
          dsimp only at e0 e1 e2 e3 ⊢
          have HLV := Lib.hid (fun w => rlevel_any y1 y2 y3 y4 w)
          obtain ⟨lv, hlv⟩ : ∃ lv, lvl y1 y2 y3 = lv := ⟨_, rfl⟩
          have HL : Hid (lvE (y1, y2, y3, y4) = lv) := hlv
          rw [hlv] at HLV
          clear hy hlv hbj hjt hj
          go_wp2_with fail
          have hx0 : ∀ i v, #[Value.int .i64 y1, .int .i64 y2, .int .i64 y3, .bool y4][i]? = some v → (wr.alloc (.cells #[.int .i64 y1, .int .i64 y2, .int .i64 y3, .bool y4] 73)).cell? ⟨wr.heap.size, i, none⟩ = some v := fun i v hi => by
            rw [World.cell?_alloc_at _ _ _ _ rfl]; exact hi
          have hzz : wr.heap.size < (wr.alloc (.cells #[.int .i64 y1, .int .i64 y2, .int .i64 y3, .bool y4] 73)).heap.size := by simp
          have hb1 : Below W0.heap.size W0 (wr.alloc (.cells #[.int .i64 y1, .int .i64 y2, .int .i64 y3, .bool y4] 73)) := HBJ.out.alloc HBJ.out.size _
          have HB1 := Lib.hid hb1
          generalize wr.alloc (.cells #[.int .i64 y1, .int .i64 y2, .int .i64 y3, .bool y4] 73) = W1 at *
          have x0 := hx0 0 (.int .i64 y1) rfl
          have x1 := hx0 1 (.int .i64 y2) rfl
          have x2 := hx0 2 (.int .i64 y3) rfl
          have x3 := hx0 3 (.bool y4) rfl
          clear hx0 hb1
          refine (HLV.out _).mono ?_
          rintro e w2 ⟨rfl, hb2⟩
          have f0 := (hb2.cell (p := ⟨wr.heap.size, 0, none⟩) hzz).trans x0
          have f1 := (hb2.cell (p := ⟨wr.heap.size, 1, none⟩) hzz).trans x1
          have f2 := (hb2.cell (p := ⟨wr.heap.size, 2, none⟩) hzz).trans x2
          have f3 := (hb2.cell (p := ⟨wr.heap.size, 3, none⟩) hzz).trans x3
          have hz2 : wr.heap.size < w2.heap.size := Nat.lt_of_lt_of_le hzz hb2.size
          have HB2 := Lib.hid (HB1.out.trans (hb2.mono HB1.out.size))
          clear hb2 x0 x1 x2 x3 hzz HLV e0 e1 e2 e3
          have HRD : Hid (∀ (s2 t2 r2 : Int), (gst (s1, t1, r1) (y1, y2, y3, y4)).1 = s2 → (gst (s1, t1, r1) (y1, y2, y3, y4)).2.1 = t2 → (gst (s1, t1, r1) (y1, y2, y3, y4)).2.2 = r2 → ∃ j' : Nat, Value.int .i64 ((j : Int) + 1) = .int .i64 j' ∧ j' ≤ m ∧ Value.int .i64 s2 = .int .i64 ((x.2.take j').foldl gst (s0, t0, r0)).1 ∧ Value.int .i64 t2 = .int .i64 ((x.2.take j').foldl gst (s0, t0, r0)).2.1 ∧ Value.int .i64 r2 = .int .i64 ((x.2.take j').foldl gst (s0, t0, r0)).2.2 ∧ Below W0.heap.size W0 w2) := by
            show ∀ s2 t2 r2, _
            rintro s2 t2 r2 rfl rfl rfl
            exact ⟨j + 1, by simp, HJT.out, by rw [HGY.out], by rw [HGY.out], by rw [HGY.out], HB2.out⟩
          clear HGY HB1
          by_cases hl1 : lv = 1
          · have HL1 := Lib.hid (gst_1 (s := s1) (t := t1) (p := r1) HL.out hl1)
            have HLP := Lib.hid (gst_p1 (s := s1) (t := t1) (p := r1) HL.out hl1)
            have HLQ := Lib.hid (gst_p2 (s := s1) (t := t1) (p := r1) HL.out hl1)
            subst hl1
            clear HL
            rcases Int.lt_or_le s1 y2 with k1 | k1 <;> rcases Int.lt_or_le t1 y3 with k2 | k2
            all_goals (
              cases y4 with
              | true =>
                have HP := Lib.hid (HLP.out rfl)
                have HK := Lib.hid (And.intro k1 k2)
                clear HLP HLQ
                go_wp2_with fail
                go_roundw
                case rel => exact HRD.out _ _ _ (by rw [HL1.out.1]; have := HK.out; omega) (by rw [HL1.out.2]; have := HK.out; omega) HP.out
                case measure => (have := HJT.out; simp [intOf]; omega)
              | false =>
                have HP := Lib.hid (HLQ.out rfl)
                clear HLP HLQ
                rcases Int.lt_or_le y1 r1 with k3 | k3
                all_goals (
                  have HK := Lib.hid (And.intro k1 (And.intro k2 k3))
                  go_wp2_with fail
                  go_roundw
                  case rel => exact HRD.out _ _ _ (by rw [HL1.out.1]; have := HK.out; omega) (by rw [HL1.out.2]; have := HK.out; omega) (by rw [HP.out]; have := HK.out; omega)
                  case measure => (have := HJT.out; simp [intOf]; omega)))
          · have HL3 := Lib.hid (gst_p0 (s := s1) (t := t1) (p := r1) HL.out hl1)
            by_cases hl2 : lv = 2
            · have HL2 := Lib.hid (gst_2 (s := s1) (t := t1) (p := r1) HL.out hl2)
              subst hl2
              clear HL hl1
              rcases Int.lt_or_le t1 y3 with k2 | k2
              all_goals (
                have HK := Lib.hid k2
                go_wp2_with fail
                go_roundw
                case rel => exact HRD.out _ _ _ HL2.out.1 (by rw [HL2.out.2]; have := HK.out; omega) HL3.out
                case measure => (have := HJT.out; simp [intOf]; omega))
            · have HL0 := Lib.hid (gst_0 (s := s1) (t := t1) (p := r1) HL.out hl1 hl2)
              have g1 : (lv == 1) = false := beq_eq_false_iff_ne.2 hl1
              have g2 : (lv == 2) = false := beq_eq_false_iff_ne.2 hl2
              clear hl1 hl2 HL
              go_wp2_with fail
              go_roundw
              case rel => exact HRD.out _ _ _ HL0.out.1 HL0.out.2 HL3.out
              case measure => (have := HJT.out; simp [intOf]; omega)
        · have q2 : ¬ (j : Int) < (m : Int) := by omega
          have HJE : Hid (x.2.take j = x.2) := List.take_of_length_le (by have := HMM.out; omega)
          have HRO : Hid (∃ k' : Nat, Value.int .i64 ((k : Int) + 1) = .int .i64 k' ∧ k' ≤ n ∧ Value.int .i64 ((x.2.take j).foldl gst (s0, t0, r0)).1 = .int .i64 (greatV 1073741824 (es.take k')).1 ∧ Value.int .i64 ((x.2.take j).foldl gst (s0, t0, r0)).2.1 = .int .i64 (greatV 1073741824 (es.take k')).2.1 ∧ Value.int .i64 ((x.2.take j).foldl gst (s0, t0, r0)).2.2 = .int .i64 (greatV 1073741824 (es.take k')).2.2 ∧ Below w.heap.size w wr) := by
            refine ⟨k + 1, by simp, HLT.out, ?_, ?_, ?_, HB0.out.trans (HBJ.out.mono HB0.out.size)⟩
            · rw [HG.out, HJE.out]
            · rw [HG.out, HJE.out]
            · rw [HG.out, HJE.out]
          generalize ((x.2.take j).foldl gst (s0, t0, r0)).1 = s2 at *
          generalize ((x.2.take j).foldl gst (s0, t0, r0)).2.1 = t2 at *
          generalize ((x.2.take j).foldl gst (s0, t0, r0)).2.2 = r2 at *
          clear hj hjt hbj HJE
          go_wp2_with fail
          go_roundw
          case rel => exact HRO.out
          case measure => (have := HLT.out; simp [intOf]; omega)
    · have q1 : ¬ (k : Int) < (n : Int) := by omega
      have HEE : Hid (es.take k = es) := List.take_of_length_le (by have := HNN.out; omega)
      clear hlt hk hb
      go_wp2_with fail
      go_ret3
      exact ⟨by rw [HEE.out] <;> rfl, HB.out⟩
end Go.Proofs.YtnglhgogkemgbaaGreatDoor
