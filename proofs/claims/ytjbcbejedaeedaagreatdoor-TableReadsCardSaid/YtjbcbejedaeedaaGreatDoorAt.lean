/- Package table: version: walked; what the parser holds. Package table: what the parser holds; name: walked. Package table: ranged, implicit, unified: walked. -/
import Derived.Test.YtjbcbejedaeedaaGreatDoorAr
import Derived.Test.YtjbcbejedaeedaaGreatDoorAe
import Derived.Test.YtjbcbejedaeedaaGreatDoorAh
import Derived.Test.YtjbcbejedaeedaaGreatDoorAd
/-! Package table: version: walked; what the parser holds. -/
namespace Go.Proofs.YtjbcbejedaeedaaGreatDoor
open Go.RowKit
open PlainAid (bt)

theorem all_bt (s : ByteArray) (p : UInt8 → Bool) : s.data.toList.all p = true ↔ ∀ (j : Nat) b, s.data.toList[j]? = some b → p b = true := by
  rw [List.all_eq_true]
  constructor
  · intro h j b hj; exact h b (List.mem_of_getElem? hj)
  · intro h b hb
    obtain ⟨j, hj⟩ := List.mem_iff_getElem?.1 hb
    exact h j b hj
/-- why a version's name may not be -/
def verI (l : Bs) : Int := if verB l then 0 else 114
theorem verI_no {l : Bs} (h : verB l = false) : verI l = 114 := by unfold verI; rw [h]; rfl
theorem verI_yes {l : Bs} (h : verB l = true) : verI l = 0 := by unfold verI; rw [h]; rfl
def vchB (b : UInt8) : Bool := decide (33 ≤ b.toNat) && decide (b.toNat ≤ 126)
set_option maxHeartbeats 2000000 in
set_option maxRecDepth 100000 in
theorem version_any (s : ByteArray) (w : World) (hs : s.size ≤ 1000000000) :
    Calls Tryz.prog 67 #[.string s] w fun e w' => e = .returned (.int .i64 (verI s.data.toList)) ∧ w = w' := by
  have hbt := PlainAid.get_bt s
  have HSZ : Hid (s.data.toList.length = s.size) := size_data s
  by_cases h0 : s.size < 1 ∨ 32 < s.size
  · have e0 : verB s.data.toList = false := by
      unfold verB
      rcases h0 with h | h
      · rw [decide_eq_false (by rw [HSZ.out]; omega)]; simp
      · rw [decide_eq_false (p := s.data.toList.length ≤ 32) (by rw [HSZ.out]; omega)]; simp
    rw [verI_no e0]
    clear e0
    rcases h0 with h | h
    · have g1 : (s.size : Int) < 1 := by omega
      go_enter Tryz.func67, Tryz.ntmps67
      go_wp2
      go_ret
      exact ⟨rfl, rfl⟩
    · have g1 : ¬ (s.size : Int) < 1 := by omega
      have g2 : (s.size : Int) > 32 := by omega
      go_enter Tryz.func67, Tryz.ntmps67
      go_wp2
      go_ret
      exact ⟨rfl, rfl⟩
  · have g1 : ¬ (s.size : Int) < 1 := by omega
    have g2 : ¬ (s.size : Int) > 32 := by omega
    have HV : Hid (verB s.data.toList = s.data.toList.all vchB) := by
      show _ = _
      unfold verB
      rw [decide_eq_true (by rw [HSZ.out]; omega), decide_eq_true (p := s.data.toList.length ≤ 32) (by rw [HSZ.out]; omega)]
      rfl
    clear h0
    go_enter Tryz.func67, Tryz.ntmps67
    go_wp2_with fail
    go_loop [14] (fun i => ∃ k : Nat, k ≤ s.size ∧ i = .int .i64 (k : Nat) ∧ ∀ j b, j < k → s.data.toList[j]? = some b → vchB b = true) (fun i => s.size - (intOf i).toNat)
    case atStart => exact ⟨0, Nat.zero_le _, rfl, fun j b hj => absurd hj (Nat.not_lt_zero _)⟩
    case round =>
      obtain ⟨k, hk, rfl, hd⟩ := hrel
      have HD := Lib.hid hd
      clear hd
      by_cases hlt : k < s.size
      · have b0 := PlainAid.bt_nonneg s k
        have b1 := PlainAid.bt_le s k
        have q1 : (k : Int) < (s.size : Int) := by omega
        obtain ⟨c, hc1, hc2⟩ := at_bt s k hlt
        have HB : Hid (vchB c = (decide (33 ≤ bt s k) && decide (bt s k ≤ 126))) := by
          show _ = _
          unfold vchB; rw [hc2]
          rw [Bool.eq_iff_iff]; simp; omega
        have HC := Lib.hid hc1
        clear hc1 hc2
        have HNO : Hid (vchB c = false → verB s.data.toList = false) := by
          show _ → _
          intro h
          rw [HV.out, Bool.eq_false_iff]
          intro hall
          rw [(all_bt s vchB).1 hall k c HC.out] at h
          cases h
        by_cases d0 : bt s k < 33
        · have HE : Hid (verI s.data.toList = 114) := verI_no (HNO.out (by rw [HB.out]; simp; omega))
          go_wp2_with fail
          go_ret
          exact ⟨by rw [HE.out] <;> rfl, rfl⟩
        · by_cases d1 : 126 < bt s k
          · have HE : Hid (verI s.data.toList = 114) := verI_no (HNO.out (by rw [HB.out]; simp; omega))
            go_wp2_with fail
            go_ret
            exact ⟨by rw [HE.out] <;> rfl, rfl⟩
          · have HE : Hid (vchB c = true) := by show _ = _; rw [HB.out]; simp; omega
            go_wp2_with fail
            go_round
            case rel =>
              refine ⟨k + 1, by omega, by go_num, fun j b hj hb => ?_⟩
              rcases Nat.lt_succ_iff_lt_or_eq.1 hj with h | h
              · exact HD.out j b h hb
              · subst h; rw [HC.out] at hb; cases hb; exact HE.out
            case measure => simp [intOf]; omega
      · have q1 : ¬ (k : Int) < (s.size : Int) := by omega
        have HE : Hid (verI s.data.toList = 0) := by
          show _ = _
          refine verI_yes ?_
          rw [HV.out, all_bt]
          intro j b hb
          exact HD.out j b (by have := (List.getElem?_eq_some_iff.1 hb).1; rw [HSZ.out] at this; omega) hb
        go_wp2_with fail
        go_ret
        exact ⟨by rw [HE.out] <;> rfl, rfl⟩
end Go.Proofs.YtjbcbejedaeedaaGreatDoor
/-! Package table: what the parser holds; name: walked. -/
namespace Go.Proofs.YtjbcbejedaeedaaGreatDoor
open Go.RowKit
open PlainAid (bt)

/-- what the parser's block is -/
def ParAt (W : World) (pb mb : Nat) (ver : Bs) (rv ev : Value) (told : Int) : Prop :=
  W.heap[pb]? = some (.cells #[.string (mkB ver), rv, ev, .map (some mb), .int .i64 told] 53 (0, 0))
theorem ParAt.cells {W : World} {pb mb : Nat} {ver : Bs} {rv ev : Value} {told : Int} (h : ParAt W pb mb ver rv ev told) :
    W.cell? ⟨pb, 0, none⟩ = some (.string (mkB ver)) ∧ W.cell? ⟨pb, 1, none⟩ = some rv ∧ W.cell? ⟨pb, 2, none⟩ = some ev ∧ W.cell? ⟨pb, 3, none⟩ = some (.map (some mb)) ∧ W.cell? ⟨pb, 4, none⟩ = some (.int .i64 told) ∧ (∀ o, W.frozen? ⟨pb, o, none⟩ = false) ∧ pb < W.heap.size := by
  unfold ParAt at h
  refine ⟨?_, ?_, ?_, ?_, ?_, fun o => ?_, (Array.getElem?_eq_some_iff.1 h).1⟩ <;> simp [World.cell?, World.frozen?, h]
theorem ParAt.put0 {W : World} {pb mb : Nat} {ver : Bs} {rv ev : Value} {told : Int} (h : ParAt W pb mb ver rv ev told) (x : Bs) : ParAt (W.setCell ⟨pb, 0, none⟩ (.string (mkB x))) pb mb x rv ev told := by
  unfold ParAt at *
  unfold World.setCell
  simp [Array.getElem?_modify, h]
theorem ParAt.put1 {W : World} {pb mb : Nat} {ver : Bs} {rv ev : Value} {told : Int} (h : ParAt W pb mb ver rv ev told) (x : Value) : ParAt (W.setCell ⟨pb, 1, none⟩ x) pb mb ver x ev told := by
  unfold ParAt at *
  unfold World.setCell
  simp [Array.getElem?_modify, h]
theorem ParAt.put2 {W : World} {pb mb : Nat} {ver : Bs} {rv ev : Value} {told : Int} (h : ParAt W pb mb ver rv ev told) (x : Value) : ParAt (W.setCell ⟨pb, 2, none⟩ x) pb mb ver rv x told := by
  unfold ParAt at *
  unfold World.setCell
  simp [Array.getElem?_modify, h]
theorem ParAt.put4 {W : World} {pb mb : Nat} {ver : Bs} {rv ev : Value} {told : Int} (h : ParAt W pb mb ver rv ev told) (x : Int) : ParAt (W.setCell ⟨pb, 4, none⟩ (.int .i64 x)) pb mb ver rv ev x := by
  unfold ParAt at *
  unfold World.setCell
  simp [Array.getElem?_modify, h]
/-- the values of a row of entries -/
def EVs (B : Nat) (W : World) (es : List Ent) (vs : List (Value × Value)) : Prop :=
  vs.length = es.length ∧ ∀ (i : Nat) x cu, es[i]? = some x → vs[i]? = some cu → IntsIn (Lf B W) .i32 W cu.1 x.1 ∧ ElsIn (Lf B W) W cu.2 x.2
theorem EVs.kept {B : Nat} {W W' : World} {es : List Ent} {vs : List (Value × Value)} (h : EVs B W es vs) (hk : Kept (Lf B W) W W') : EVs B W' es vs :=
  ⟨h.1, fun i x cu hx hc => ⟨(h.2 i x cu hx hc).1.lf hk (Nat.le_refl _), (h.2 i x cu hx hc).2.lf hk (Nat.le_refl _)⟩⟩
def evCells (cu : Value × Value) : List Value := [cu.1, cu.2]
/-- how often a text has been seen -/
def seenF (es : List Ent) (k : Bs) : Int := if k ∈ es.map (fun x => showW x.1) then 1 else 0
def toldO : Option Bs → Int
  | none => 0
  | some _ => 1
/-- the parser, what it has read, in blocks from B on -/
def Prs (B : Nat) (W : World) (pb mb : Nat) (st : TSt) : Prop :=
  ∃ rv ev vs, ParAt W pb mb (st.1.getD []) rv ev (toldO st.1) ∧ W.ownsRow B 61 4 rv st.2.1.length (st.2.1.flatMap rgCells) ∧ W.ownsRow B 45 2 ev st.2.2.length (vs.flatMap evCells) ∧
    EVs B W st.2.2 vs ∧ SMp W mb st.2.2.length (seenF st.2.2) ∧ (∀ x ∈ st.2.2, x.1.all pt = true) ∧ (st.2.1.length ≤ 5000000 ∧ st.2.2.length ≤ 4000)
/-- what a step may turn of what was there: the parser, its map, rows of ranges and of entries -/
def PKeep (pb mb : Nat) (W W' : World) : Prop :=
  W.heap.size ≤ W'.heap.size ∧ ∀ (k : Nat) o, W.heap[k]? = some o → k ≠ pb → k ≠ mb → (∀ c fr, o ≠ .cells c 61 fr) → (∀ c fr, o ≠ .cells c 45 fr) → W'.heap[k]? = some o
theorem PKeep.refl (pb mb : Nat) (W : World) : PKeep pb mb W W := ⟨Nat.le_refl _, fun _ _ h _ _ _ _ => h⟩
theorem PKeep.trans {pb mb : Nat} {a b c : World} (h : PKeep pb mb a b) (k : PKeep pb mb b c) : PKeep pb mb a c :=
  ⟨Nat.le_trans h.1 k.1, fun i o h1 h2 h3 h4 h5 => k.2 i o (h.2 i o h1 h2 h3 h4 h5) h2 h3 h4 h5⟩
theorem PKeep.of_below {pb mb : Nat} {a b : World} (h : Below a.heap.size a b) : PKeep pb mb a b :=
  ⟨h.size, fun i o h1 _ _ _ _ => (h.block i (Array.getElem?_eq_some_iff.1 h1).1).trans h1⟩
theorem PKeep.of_only {pb mb : Nat} {S : Nat → Prop} {a b : World} (h : Only S a b) (hs : ∀ k, S k → k = pb ∨ k = mb) : PKeep pb mb a b :=
  ⟨h.size, fun i o h1 h2 h3 _ _ => (h.block i (Array.getElem?_eq_some_iff.1 h1).1 (fun hc => (hs i hc).elim h2 h3)).trans h1⟩
theorem PKeep.set {pb mb : Nat} {a : World} (o : Nat) (v : Value) : PKeep pb mb a (a.setCell ⟨pb, o, none⟩ v) := .of_only (S := fun k => k = pb) ((Only.refl (fun k => k = pb) a).setCell (p := ⟨pb, o, none⟩) rfl v) (fun _ h => .inl h)
/-- blocks that a step may turn -/
def PS (B pb mb : Nat) (k : Nat) : Prop := k = pb ∨ k = mb ∨ B ≤ k
theorem ps_below {B pb mb : Nat} {a b : World} (h : Below a.heap.size a b) : Only (PS B pb mb) a b := (Only.refl _ a).below h
theorem ps_only {B pb mb : Nat} {S : Nat → Prop} {a b : World} (h : Only S a b) (hs : ∀ k, S k → PS B pb mb k) : Only (PS B pb mb) a b := ⟨h.os, h.tape, h.output, h.size, fun i hi hn => h.block i hi (fun hS => hn (hs i hS))⟩
theorem ps_grown {S : Nat → Prop} {a b c : World} {row : Option Nat} (h : Only S a b) (hg : b.grownBy c row) (hr : ∀ j, row = some j → S j) : Only S a c :=
  ⟨hg.os.trans h.os, hg.tape.trans h.tape, hg.output.trans h.output, Nat.le_trans h.size hg.size, fun k hk hn => (hg.block k (Nat.lt_of_lt_of_le hk h.size) (fun e => hn (hr k e.symm))).trans (h.block k hk hn)⟩
/-- how a step ends -/
def StepEnd (B pb mb : Nat) (r : Except Int TSt) (w : World) (e : Ending) (w' : World) : Prop :=
  Only (PS B pb mb) w w' ∧ PKeep pb mb w w' ∧ ((∃ st', r = .ok st' ∧ e = .returned (.tuple #[]) ∧ Prs B w' pb mb st') ∨ ∃ z, r = .error z ∧ e = .panicked (chainE z))
theorem Prs.lt {B : Nat} {W : World} {pb mb : Nat} {st : TSt} (h : Prs B W pb mb st) (hB : B ≤ W.heap.size) : pb < W.heap.size ∧ mb < W.heap.size ∧ B ≤ W.heap.size := by
  obtain ⟨rv, ev, vs, h3, _, _, _, h4, _⟩ := h
  exact ⟨h3.cells.2.2.2.2.2.2, h4.lt, hB⟩
theorem Prs.below {B : Nat} {W W' : World} {pb mb : Nat} {st : TSt} (h : Prs B W pb mb st) (hb : Below W.heap.size W W') : Prs B W' pb mb st := by
  obtain ⟨rv, ev, vs, h3, h4, h5, h6, h7, h8⟩ := h
  exact ⟨rv, ev, vs, (hb.block pb h3.cells.2.2.2.2.2.2).trans h3, ownsRow_growT h4 hb, ownsRow_growT h5 hb, h6.kept (Kept.below hb), h7.same (hb.block mb h7.lt), h8⟩
/-- what name makes of what has been read -/
def nameW (st : TSt) (arg : Bs) : Except Int TSt :=
  if arg ≠ [] ∧ st.1 = none ∧ Lib.containsAny arg [32, 9] = false then (if verB arg = true then .ok (some arg, st.2) else .error 114) else .error 80
theorem row_set {B pb o : Nat} {W : World} {e : TypeId} {k : Nat} {v u : Value} {n : Nat} {xs : List Value} {c : Array Value} {t : TypeId} (h : W.ownsRow B e k v n xs) (hp : W.heap[pb]? = some (.cells c t (0, 0))) (ht : t ≠ e) : (W.setCell ⟨pb, o, none⟩ u).ownsRow B e k v n xs := by
  obtain ⟨h1, h2⟩ := h
  refine ⟨h1, h2.imp id ?_⟩
  rintro ⟨g, cap, cur, e1, e2, e3, e4⟩
  refine ⟨g, cap, cur, e1, e2, ?_, e4⟩
  rw [Below.heap_setCell _ _ _ _ (fun hc => ?_)]; exact e3
  subst hc
  rw [hp] at e3
  injection e3 with e3
  injection e3 with _ e3 _
  exact ht e3
theorem lf_set {B pb o : Nat} {W : World} {u : Value} {c : Array Value} {t : TypeId} (hp : W.heap[pb]? = some (.cells c t (0, 0))) (h1 : t ≠ 21) (h2 : t ≠ 79) : Kept (Lf B W) W (W.setCell ⟨pb, o, none⟩ u) := by
  refine ⟨by simp, fun k hk hl => ?_⟩
  obtain ⟨_, c', t', h3, h4⟩ := hk
  refine Below.heap_setCell _ _ _ _ (fun hc => ?_)
  subst hc
  rw [hp] at h3
  injection h3 with h3
  injection h3 with _ h3 _
  rcases h4 with h4 | h4
  · exact h1 (h3.trans h4)
  · exact h2 (h3.trans h4)
theorem smp_set {W : World} {pb o mb n : Nat} {u : Value} {f : Bs → Int} (h : SMp W mb n f) (hp : mb ≠ pb) : SMp (W.setCell ⟨pb, o, none⟩ u) mb n f := h.same (Below.heap_setCell _ _ _ _ hp)
theorem prs_mb {W : World} {pb mb : Nat} {ver : Bs} {rv ev : Value} {told : Int} {n : Nat} {f : Bs → Int} (h3 : ParAt W pb mb ver rv ev told) (h7 : SMp W mb n f) : mb ≠ pb := by
  obtain ⟨L, ⟨es, c, h1, _⟩, _⟩ := h7
  intro hc
  subst hc
  unfold ParAt at h3
  rw [h3] at h1
  cases h1
theorem Prs.named {B : Nat} {W : World} {pb mb : Nat} {st : TSt} (h : Prs B W pb mb st) (x : Bs) : Prs B ((W.setCell ⟨pb, 0, none⟩ (.string (mkB x))).setCell ⟨pb, 4, none⟩ (.int .i64 1)) pb mb (some x, st.2) := by
  obtain ⟨rv, ev, vs, h3, h4, h5, h6, h7, h8⟩ := h
  have h3' := h3.put0 x
  have hne := prs_mb h3 h7
  exact ⟨rv, ev, vs, h3'.put4 1, row_set (row_set h4 h3 (by decide)) h3' (by decide), row_set (row_set h5 h3 (by decide)) h3' (by decide),
    (h6.kept (lf_set (B := B) (o := 0) (u := .string (mkB x)) h3 (by decide) (by decide))).kept (lf_set (B := B) h3' (by decide) (by decide)), smp_set (smp_set h7 hne) hne, h8⟩
theorem no_blk (s : ByteArray) (w : World) (hs : s.size ≤ 1000000) : Calls Tryz.prog 90 #[.string s, .string ⟨#[32, 9]⟩] w fun e w' => e = .returned (.bool (Lib.containsAny s.data.toList [32, 9])) ∧ Below w.heap.size w w' :=
  containsAny_any s ⟨#[32, 9]⟩ w rfl (by omega) (ascii_of_all (by decide))
set_option maxHeartbeats 4000000 in
set_option maxRecDepth 100000 in
theorem name_any (B pb mb : Nat) (st : TSt) (s : ByteArray) (w : World) (hs : s.size ≤ 1000000) (hp : Prs B w pb mb st) (hB : B ≤ w.heap.size) :
    Calls Tryz.prog 87 #[.pointer (some ⟨pb, 0, none⟩), .string s] w (StepEnd B pb mb (nameW st s.data.toList) w) := by
  have HP := Lib.hid hp
  have HLT := Lib.hid (hp.lt hB)
  have HS := Lib.hid hs
  obtain ⟨rv, ev, vs, hpar, hrr, hre, hev, hmp, hpt, hbd⟩ := hp
  obtain ⟨_, _, _, _, c4, fz, hpl⟩ := hpar.cells
  have HX := Lib.hid (And.intro hpar (And.intro hrr (And.intro hre (And.intro hev (And.intro hmp (And.intro hpt hbd))))))
  have fz0 := fz 0
  have fz4 := fz 4
  have HNW : Hid (nameW st s.data.toList = if s.data.toList ≠ [] ∧ st.1 = none ∧ Lib.containsAny s.data.toList [32, 9] = false then (if verB s.data.toList = true then .ok (some s.data.toList, st.2) else .error 114) else .error 80) := rfl
  have HMK : Hid (mkB s.data.toList = s) := mkB_data s
  have HCA := Lib.hid (fun w => no_blk s w hs)
  clear hpar hrr hre hev hmp hpt hbd fz hs hB
  by_cases hse : s.data.toList = []
  · have HE : Hid (nameW st s.data.toList = .error 80) := by
      show _ = _
      rw [HNW.out, if_neg (fun h => h.1 hse)]
    have he1 : s.toList = [] := by rw [Lib.toList_data]; exact hse
    clear hse
    go_enter Tryz.func87, Tryz.ntmps87
    go_wp2_with fail
    refine (must_no _ _).mono ?_
    rintro e w' ⟨rfl, rfl⟩
    exact ⟨rfl, Only.refl _ _, PKeep.refl _ _ _, .inr ⟨80, HE.out, rfl⟩⟩
  · have he1 : s.toList.isEmpty = false := by
      rw [Lib.toList_data]
      cases h : s.data.toList with
      | nil => exact absurd h hse
      | cons => rfl
    have HSE := Lib.hid hse
    clear hse
    cases hst : st.1 with
    | some v0 =>
      have HE : Hid (nameW st s.data.toList = .error 80) := by
        show _ = _
        rw [HNW.out, if_neg (fun h => by rw [hst] at h; exact absurd h.2.1 (by simp))]
      rw [hst] at c4
      simp only [toldO] at c4
      clear hst
      go_enter Tryz.func87, Tryz.ntmps87
      go_wp2_with fail
      refine (must_no _ _).mono ?_
      rintro e w' ⟨rfl, rfl⟩
      exact ⟨rfl, Only.refl _ _, PKeep.refl _ _ _, .inr ⟨80, HE.out, rfl⟩⟩
    | none =>
      rw [hst] at c4
      simp only [toldO] at c4
      have HST := Lib.hid hst
      cases hca : Lib.containsAny s.data.toList [32, 9] with
      | true =>
        have HE : Hid (nameW st s.data.toList = .error 80) := by
          show _ = _
          rw [HNW.out, if_neg (fun h => by rw [hca] at h; exact absurd h.2.2 (by simp))]
        rw [hca] at HCA
        clear hca hst
        go_enter Tryz.func87, Tryz.ntmps87
        go_wp2_with fail
        refine (HCA.out _).mono ?_
        rintro e w1 ⟨rfl, hb1⟩
        have HB1 := Lib.hid hb1
        clear hb1
        go_wp2_with fail
        refine (must_no _ _).mono ?_
        rintro e w' ⟨rfl, rfl⟩
        exact ⟨rfl, ps_below HB1.out, .of_below HB1.out, .inr ⟨80, HE.out, rfl⟩⟩
      | false =>
        have HIF : Hid (nameW st s.data.toList = if verB s.data.toList = true then .ok (some s.data.toList, st.2) else .error 114) := by
          show _ = _
          rw [HNW.out, if_pos ⟨HSE.out, hst, hca⟩]
        have hvs := fun w => version_any s w (by have := HS.out; omega)
        rw [hca] at HCA
        clear hca hst
        cases hvb : verB s.data.toList with
        | false =>
          have HE : Hid (nameW st s.data.toList = .error 114) := by show _ = _; rw [HIF.out, hvb]; rfl
          rw [verI_no hvb] at hvs
          have HVS := Lib.hid hvs
          clear hvs hvb
          go_enter Tryz.func87, Tryz.ntmps87
          go_wp2_with fail
          refine (HCA.out _).mono ?_
          rintro e w1 ⟨rfl, hb1⟩
          have HB1 := Lib.hid hb1
          clear hb1
          go_wp2_with fail
          refine (must_ok _ _).mono ?_
          rintro e w' ⟨rfl, rfl⟩
          go_wp2_with fail
          refine (HVS.out _).mono ?_
          rintro e w' ⟨rfl, rfl⟩
          go_wp2_with fail
          refine (must_no _ _).mono ?_
          rintro e w' ⟨rfl, rfl⟩
          exact ⟨rfl, ps_below HB1.out, .of_below HB1.out, .inr ⟨114, HE.out, rfl⟩⟩
        | true =>
          have HE : Hid (nameW st s.data.toList = .ok (some s.data.toList, st.2)) := by show _ = _; rw [HIF.out, hvb]; rfl
          rw [verI_yes hvb] at hvs
          have HVS := Lib.hid hvs
          clear hvs hvb
          go_enter Tryz.func87, Tryz.ntmps87
          go_wp2_with fail
          refine (HCA.out _).mono ?_
          rintro e w1 ⟨rfl, hb1⟩
          have HB1 := Lib.hid hb1
          have hp1 := HP.out.below hb1
          clear hb1 c4 fz0 fz4
          go_wp2_with fail
          refine (must_ok _ _).mono ?_
          rintro e w' ⟨rfl, rfl⟩
          go_wp2_with fail
          refine (HVS.out _).mono ?_
          rintro e w' ⟨rfl, rfl⟩
          go_wp2_with fail
          refine (must_ok _ _).mono ?_
          rintro e w' ⟨rfl, rfl⟩
          have HP1 := Lib.hid hp1
          obtain ⟨rv', ev', vs', hpar', _⟩ := hp1
          obtain ⟨_, _, _, _, _, fz', hpl'⟩ := hpar'.cells
          have fz0 := fz' 0
          have fz4 := fz' 4
          clear hpar' fz'
          go_wp2_with fail
          go_end0
          have hn := HP1.out.named s.data.toList
          rw [HMK.out] at hn
          have ho : Only (fun k => k = pb) w1 ((w1.setCell ⟨pb, 0, none⟩ (.string s)).setCell ⟨pb, 4, none⟩ (.int .i64 1)) := ((Only.refl (fun k => k = pb) w1).setCell (p := ⟨pb, 0, none⟩) rfl _).setCell (p := ⟨pb, 4, none⟩) rfl _
          exact ⟨(ps_below HB1.out).trans (ps_only ho (fun _ h => .inl h)), (PKeep.of_below HB1.out).trans (.of_only ho (fun _ h => .inl h)), .inl ⟨_, HE.out, rfl, hn⟩⟩
end Go.Proofs.YtjbcbejedaeedaaGreatDoor
/-! Package table: ranged, implicit, unified: walked. -/
namespace Go.Proofs.YtjbcbejedaeedaaGreatDoor
open Go.RowKit
open PlainAid (bt)

/-- all that is not a row of type T is as it was -/
def TFrame (T : TypeId) (W W' : World) : Prop := W.heap.size ≤ W'.heap.size ∧ ∀ (k : Nat) o, W.heap[k]? = some o → (∀ c fr, o ≠ .cells c T fr) → W'.heap[k]? = some o
theorem TFrame.of_grown {T : TypeId} {W W' : World} {o : Obj} {row : Option Nat} (hg : (W.alloc o).grownBy W' row) (hr : ∀ j, row = some j → ∃ c fr, W.heap[j]? = some (.cells c T fr)) : TFrame T W W' :=
  ⟨by have := hg.size; simp at this; omega, fun k o' h1 h2 => by
    have hk := (Array.getElem?_eq_some_iff.1 h1).1
    rw [hg.block k (by simp; omega) (fun e => by
      obtain ⟨c, fr, h3⟩ := hr k e.symm
      rw [h1] at h3; cases h3; exact h2 c fr rfl), Below.heap_alloc _ _ _ hk]
    exact h1⟩
theorem row_block {B : Nat} {e : TypeId} {k : Nat} {v : Value} {n : Nat} {xs : List Value} {W : World} (h : W.ownsRow B e k v n xs) : ∀ j, v.ownBlock = some j → ∃ c fr, W.heap[j]? = some (.cells c e fr) := by
  intro j hj
  rcases h.2 with ⟨rfl, _⟩ | ⟨g, cap, cur, rfl, _, h3, _⟩
  · simp [Value.ownBlock] at hj
  · simp [Value.ownBlock] at hj; subst hj; exact ⟨_, _, h3⟩
theorem TFrame.par {T : TypeId} {W W' : World} (h : TFrame T W W') {pb mb : Nat} {ver : Bs} {rv ev : Value} {told : Int} (hp : ParAt W pb mb ver rv ev told) (hT : 53 ≠ T) : ParAt W' pb mb ver rv ev told :=
  h.2 pb _ hp (fun c fr e => by injection e with _ e _; exact hT e)
theorem TFrame.row {T : TypeId} {W W' : World} (h : TFrame T W W') {B : Nat} {e : TypeId} {k : Nat} {v : Value} {n : Nat} {xs : List Value} (hr : W.ownsRow B e k v n xs) (hT : e ≠ T) : W'.ownsRow B e k v n xs := by
  obtain ⟨h1, h2⟩ := hr
  refine ⟨h1, h2.imp id ?_⟩
  rintro ⟨g, cap, cur, e1, e2, e3, e4⟩
  exact ⟨g, cap, cur, e1, e2, h.2 g _ e3 (fun c fr e => by injection e with _ e _; exact hT e), e4⟩
theorem TFrame.lf {T : TypeId} {W W' : World} (h : TFrame T W W') {B : Nat} (h1 : 21 ≠ T) (h2 : 79 ≠ T) : Kept (Lf B W) W W' := by
  refine ⟨h.1, fun k hk _ => ?_⟩
  obtain ⟨_, c, t, h3, h4⟩ := hk
  rw [h3]
  exact h.2 k _ h3 (fun c fr e => by
    injection e with _ e _
    rcases h4 with h4 | h4
    · exact h1 (h4.symm.trans e)
    · exact h2 (h4.symm.trans e))
theorem TFrame.smp {T : TypeId} {W W' : World} (h : TFrame T W W') {b n : Nat} {f : Bs → Int} (hm : SMp W b n f) : SMp W' b n f := by
  have hm' := hm
  obtain ⟨L, ⟨es, c, h1, _⟩, _⟩ := hm'
  exact hm.same ((h.2 b _ h1 (fun c fr e => by cases e)).trans h1.symm)
theorem TFrame.keep {T : TypeId} {W W' : World} (h : TFrame T W W') (pb mb : Nat) (hT : T = 61 ∨ T = 45) : PKeep pb mb W W' :=
  ⟨h.1, fun k o h1 _ _ h4 h5 => h.2 k o h1 (by rcases hT with rfl | rfl <;> assumption)⟩
end Go.Proofs.YtjbcbejedaeedaaGreatDoor
namespace Go.Proofs.YtjbcbejedaeedaaGreatDoor
open Go.RowKit
open PlainAid (bt)
/-- what ranged makes of what has been read -/
def rangedW (st : TSt) (whole : Bool) (arg : Bs) : Except Int TSt :=
  match rangeW whole arg with
  | .error e => .error e
  | .ok x => .ok (st.1, st.2.1 ++ [x], st.2.2)
theorem Tryz.infoRg : (Tryz.prog.info? 61).map (fun i => (i.zero, i.size, i.bytes)) = some (some (.agg #[.int .i32 0, .int .i32 0, .int .i64 0, .bool false]), 4, 24) := by kernel_rfl
theorem Prs.addRange {B : Nat} {W W' : World} {pb mb : Nat} {st : TSt} {rv ev v' : Value} {vs : List (Value × Value)} {o : Obj} {x : Rng} (h3 : ParAt W pb mb (st.1.getD []) rv ev (toldO st.1))
    (h4 : W.ownsRow B 61 4 rv st.2.1.length (st.2.1.flatMap rgCells)) (h5 : W.ownsRow B 45 2 ev st.2.2.length (vs.flatMap evCells)) (h6 : EVs B W st.2.2 vs) (h7 : SMp W mb st.2.2.length (seenF st.2.2)) (h8 : ∀ x ∈ st.2.2, x.1.all pt = true) (h9 : st.2.1.length < 5000000) (h10 : st.2.2.length ≤ 4000)
    (hg : (W.alloc o).grownBy W' rv.ownBlock) (hown : W'.ownsRow B 61 4 v' (st.2.1.length + 1) (st.2.1.flatMap rgCells ++ rgCells x)) :
    Prs B (W'.setCell ⟨pb, 1, none⟩ v') pb mb (st.1, st.2.1 ++ [x], st.2.2) ∧ PKeep pb mb W (W'.setCell ⟨pb, 1, none⟩ v') := by
  have F := TFrame.of_grown hg (row_block h4)
  have h3' := F.par h3 (by decide)
  have h7' := F.smp h7
  have hne := prs_mb h3' h7'
  refine ⟨⟨v', ev, vs, h3'.put1 v', ?_, row_set (F.row h5 (by decide)) h3' (by decide), (h6.kept (F.lf (by decide) (by decide))).kept (lf_set (B := B) h3' (by decide) (by decide)), smp_set h7' hne, h8, by simp only [List.length_append, List.length_cons, List.length_nil]; omega, h10⟩, (F.keep pb mb (.inl rfl)).trans (.set _ _)⟩
  have := row_set (o := 1) (u := v') hown h3' (by decide)
  simpa [List.flatMap_append] using this
theorem cut59_any (s : ByteArray) (w : World) (hs : s.size ≤ 1000000) (hm : ML w) :
    Calls Tryz.prog 44 #[.string s, .string ⟨#[59]⟩] w fun e w' => e = .returned (.tuple #[.string (mkB (Lib.cut s.data.toList [59]).1), .string (mkB (Lib.cut s.data.toList [59]).2.1), .bool (Lib.cut s.data.toList [59]).2.2]) ∧ Below w.heap.size w w' :=
  cutS_any s ⟨#[59]⟩ w (by omega) hm
theorem cutDots_any (s : ByteArray) (w : World) (hs : s.size ≤ 1000000) (hm : ML w) :
    Calls Tryz.prog 44 #[.string s, .string ⟨#[46, 46]⟩] w fun e w' => e = .returned (.tuple #[.string (mkB (Lib.cut s.data.toList [46, 46]).1), .string (mkB (Lib.cut s.data.toList [46, 46]).2.1), .bool (Lib.cut s.data.toList [46, 46]).2.2]) ∧ Below w.heap.size w w' :=
  cutS_any s ⟨#[46, 46]⟩ w (by omega) hm
theorem hexNo (s : ByteArray) (lo hi : Nat) (h1 : 1 ≤ lo) (h6 : hi ≤ 6) (hs : s.size ≤ 1000000) (h : numX s.data.toList lo hi = none) (w : World) :
    Calls Tryz.prog 127 #[.string s, .int .i64 (lo : Int), .int .i64 (hi : Int)] w fun e w' => e = .returned (.tuple #[.int .i64 0, .bool false]) ∧ Below w.heap.size w w' := by
  have := hex_any s lo hi h1 h6 hs w
  unfold hexR at this
  rw [h] at this; exact this
theorem hexYes (s : ByteArray) (lo hi : Nat) (n : Int) (h1 : 1 ≤ lo) (h6 : hi ≤ 6) (hs : s.size ≤ 1000000) (h : numX s.data.toList lo hi = some n) (w : World) :
    Calls Tryz.prog 127 #[.string s, .int .i64 (lo : Int), .int .i64 (hi : Int)] w fun e w' => e = .returned (.tuple #[.int .i64 n, .bool true]) ∧ Below w.heap.size w w' := by
  have := hex_any s lo hi h1 h6 hs w
  unfold hexR at this
  rw [h] at this; exact this
end Go.Proofs.YtjbcbejedaeedaaGreatDoor
