/- Package tailor: rules in memory. Package tailor: a rule is read: the walk. guarded of package tailor: what was thrown is answered. Package tailor: Parse: the walk. Package tailor: Parse: what it answers. -/
import Derived.Test.YtchjjfjjcdjjcaaGreatDoorGi
import Derived.Deep.Cut
import Derived.Deep.CutRange
import Derived.Deep.AppendLies
import Derived.Test.YtchjjfjjcdjjcaaGreatDoorVi
/-! Package tailor: rules in memory. -/
namespace Go.Proofs.YtchjjfjjcdjjcaaGreatDoor
open Go.RowKit
open PlainAid (bt)

/-- the cells of a rule -/
def rCells (c : Int × Value × Value) : List Value := [.int .i64 c.1, c.2.1, c.2.2]
def flatR (cs : List (Int × Value × Value)) : List Value := cs.flatMap rCells
theorem flatR_len : ∀ cs : List (Int × Value × Value), (flatR cs).length = cs.length * 3
  | [] => rfl
  | c :: cs => by have := flatR_len cs; unfold flatR at *; simp only [List.flatMap_cons, List.length_append, List.length_cons, this, rCells, List.length_nil]; omega
theorem flatR_snoc (cs : List (Int × Value × Value)) (c : Int × Value × Value) : flatR (cs ++ [c]) = flatR cs ++ rCells c := by unfold flatR; simp
theorem flatR_at : ∀ (cs : List (Int × Value × Value)) (i : Nat) (c : Int × Value × Value), cs[i]? = some c → (flatR cs)[i * 3]? = some (.int .i64 c.1) ∧ (flatR cs)[i * 3 + 1]? = some c.2.1 ∧ (flatR cs)[i * 3 + 2]? = some c.2.2
  | [], i, c, h => by simp at h
  | d :: cs, 0, c, h => by simp at h; subst h; exact ⟨rfl, rfl, rfl⟩
  | d :: cs, i + 1, c, h => by
    have := flatR_at cs i c (by simpa using h)
    have e : flatR (d :: cs) = rCells d ++ flatR cs := rfl
    rw [e]
    have hl : (rCells d).length = 3 := rfl
    refine ⟨?_, ?_, ?_⟩
    · rw [List.getElem?_append_right (by omega), hl, show (i + 1) * 3 - 3 = i * 3 by omega]; exact this.1
    · rw [List.getElem?_append_right (by omega), hl, show (i + 1) * 3 + 1 - 3 = i * 3 + 1 by omega]; exact this.2.1
    · rw [List.getElem?_append_right (by omega), hl, show (i + 1) * 3 + 2 - 3 = i * 3 + 2 by omega]; exact this.2.2
/-- rules of our own, in blocks from one on -/
def RulsOwn (B : Nat) (W : World) (lv : Value) (rs : List Rul) : Prop :=
  ∃ cs : List (Int × Value × Value), cs.length = rs.length ∧ (∀ (i : Nat) (r : Rul) c, rs[i]? = some r → cs[i]? = some c → c.1 = r.1 ∧
    IntsIn (fun b => B ≤ b ∧ lv.ownBlock ≠ some b) .i32 W c.2.1 r.2.1 ∧ IntsIn (fun b => B ≤ b ∧ lv.ownBlock ≠ some b) .i32 W c.2.2 r.2.2) ∧
    W.ownsRow B 47 3 lv rs.length (flatR cs)
theorem RulsOwn.nil (B : Nat) (W : World) : RulsOwn B W (.slice none 0 0) [] := ⟨[], rfl, fun i r c h => by simp at h, World.ownsRow_nil _ _ _ _⟩
theorem RulsOwn.only {B pb : Nat} {w W : World} {lv : Value} {rs : List Rul} (h : RulsOwn B w lv rs) (hp : pb < B) (ho : Only (fun k => k = pb ∨ w.heap.size ≤ k) w W) : RulsOwn B W lv rs := by
  obtain ⟨cs, h1, h2, h3⟩ := h
  have hk : Kept (fun b => B ≤ b ∧ lv.ownBlock ≠ some b) w W := ⟨ho.size, fun b hb hl => ho.block b hl (fun e => by rcases e with e | e <;> omega)⟩
  refine ⟨cs, h1, fun i r c hr hc => ?_, gBlock h3 (fun j hj hl => ho.block j hl (fun e => by have := ownBlock_ge h3 hj; rcases e with e | e <;> omega))⟩
  obtain ⟨a1, a2, a3⟩ := h2 i r c hr hc
  exact ⟨a1, a2.kept hk, a3.kept hk⟩
theorem RulsOwn.form {B : Nat} {W : World} {lv : Value} {rs : List Rul} (h : RulsOwn B W lv rs) : ∃ p cap, lv = .slice p rs.length cap := by
  obtain ⟨cs, _, _, h3⟩ := h
  rcases h3.2 with ⟨rfl, h0⟩ | ⟨g, cap, cur, rfl, _⟩
  · exact ⟨none, 0, by rw [h0]⟩
  · exact ⟨_, _, rfl⟩
/-- a rule is put behind -/
theorem RulsOwn.push {B : Nat} {W W' : World} {lv lv' tv xv : Value} {rs : List Rul} {cs : List (Int × Value × Value)} {k : Int} {tx ex : List Int}
    (hcs : cs.length = rs.length)
    (hin : ∀ (i : Nat) (r : Rul) c, rs[i]? = some r → cs[i]? = some c → c.1 = r.1 ∧ IntsIn (fun b => B ≤ b ∧ lv.ownBlock ≠ some b) .i32 W c.2.1 r.2.1 ∧ IntsIn (fun b => B ≤ b ∧ lv.ownBlock ≠ some b) .i32 W c.2.2 r.2.2)
    (ht : IntsIn (fun b => B ≤ b ∧ lv.ownBlock ≠ some b) .i32 W tv tx) (hx : IntsIn (fun b => B ≤ b ∧ lv.ownBlock ≠ some b) .i32 W xv ex)
    (hrow : W'.ownsRow B 47 3 lv' (rs.length + 1) (flatR cs ++ [.int .i64 k, tv, xv])) (hg : W.grownBy W' lv.ownBlock)
    (how : lv'.ownBlock = lv.ownBlock ∨ ∃ n, W.heap.size ≤ n ∧ lv'.ownBlock = some n) : RulsOwn B W' lv' (rs ++ [(k, tx, ex)]) := by
  have hk : Kept (fun b => B ≤ b ∧ lv.ownBlock ≠ some b) W W' := ⟨hg.size, fun b hb hl => hg.block b hl (fun e => hb.2 e.symm)⟩
  have hm : ∀ (u : Value) (xs : List Int), IntsIn (fun b => B ≤ b ∧ lv.ownBlock ≠ some b) .i32 W u xs → IntsIn (fun b => B ≤ b ∧ lv'.ownBlock ≠ some b) .i32 W' u xs := fun u xs h =>
    (h.mono (S := fun b => B ≤ b ∧ lv.ownBlock ≠ some b ∧ lv'.ownBlock ≠ some b) (fun b hb hl => ⟨hb.1, hb.2, fun e => by
      rcases how with e' | ⟨n, hn, e'⟩
      · rw [e'] at e; exact hb.2 e
      · rw [e'] at e; cases e; omega⟩)).kept ⟨hk.1, fun b hb hl => hk.2 b ⟨hb.1, hb.2.1⟩ hl⟩ |>.mono (fun b hb _ => ⟨hb.1, hb.2.2⟩)
  refine ⟨cs ++ [(k, tv, xv)], by simp [hcs], fun i r c hr hc => ?_, by rw [flatR_snoc, List.length_append]; exact hrow⟩
  by_cases hi : i < rs.length
  · rw [List.getElem?_append_left hi] at hr
    rw [List.getElem?_append_left (by omega)] at hc
    obtain ⟨a1, a2, a3⟩ := hin i r c hr hc
    exact ⟨a1, hm _ _ a2, hm _ _ a3⟩
  · rw [List.getElem?_append_right (by omega)] at hr hc
    have hj : i - rs.length = 0 := by
      have := (List.getElem?_eq_some_iff.1 hr).1
      simp at this; omega
    rw [hj] at hr
    rw [hcs, hj] at hc
    simp at hr hc
    subst hr hc
    exact ⟨rfl, hm _ _ ht, hm _ _ hx⟩
theorem Only.mono {S S' : Nat → Prop} {a b : World} (h : Only S a b) (hs : ∀ k, S k → S' k) : Only S' a b := ⟨h.os, h.tape, h.output, h.size, fun k hk hn => h.block k hk (fun e => hn (hs k e))⟩
theorem Only.below2 {S : Nat → Prop} {a b c : World} {n : Nat} (h : Only S a b) (k : Below n b c) (hs : ∀ k, n ≤ k → S k) : Only S a c :=
  ⟨k.os.trans h.os, k.tape.trans h.tape, k.output.trans h.output, Nat.le_trans h.size k.size, fun i hi hn => (k.block i (Nat.lt_of_not_le fun hle => hn (hs i hle))).trans (h.block i hi hn)⟩
theorem lts_ascii (s : ByteArray) : ∀ (n e k : Nat), e ≤ k → k < ltsF s n e → bt s k < 128
  | 0, e, k, h1, h2 => by rw [ltsF] at h2; omega
  | n + 1, e, k, h1, h2 => by
    rw [ltsF] at h2
    split at h2
    · rename_i hc
      by_cases he : k = e
      · subst he; omega
      · exact lts_ascii s n (e + 1) k (by omega) h2
    · omega
/-- behind a sign that may stand, a form begins -/
theorem sign_bd {s : ByteArray} {i : Nat} {reset : Bool} (hi : i < s.size) (hb : BD s i = none) (h : sgnOk s i reset = true) : i < endS s i ∧ endS s i ≤ s.size ∧ BD s (endS s i) = none := by
  have hle := endS_le s i (Nat.le_of_lt hi)
  have hlt : i < endS s i := by
    have := ltsF_le s 3 i (Nat.le_of_lt hi)
    unfold endS
    split
    · omega
    · rename_i hc; have : ltsF s 3 i ≠ i := fun e => hc ⟨e, hi⟩; omega
  refine ⟨hlt, hle.2.1, ?_⟩
  have hasc : ∀ k, k < endS s i - i → bt s (i + k) < 128 := by
    by_cases hc : ltsF s 3 i = i
    · have he : endS s i = i + 1 := by unfold endS; rw [if_pos ⟨hc, hi⟩]
      intro k hk
      have hk0 : k = 0 := by omega
      subst hk0
      rw [Nat.add_zero]
      unfold sgnOk sgnT at h
      rw [he] at h
      have h1 : (signK (s.extract i (i + 1)).data.toList).isSome = true := by
        simp only [Bool.and_eq_true] at h; exact h.1
      have h2 : (s.extract i (i + 1)).data.toList = [UInt8.ofNat (bt s i).toNat] := by
        have hl : (s.extract i (i + 1)).data.toList.length = 1 := by
          have := size_extract' s i (i + 1) hi (by omega)
          simp only [Array.length_toList]
          have e : (s.extract i (i + 1)).data.size = (s.extract i (i + 1)).size := rfl
          omega
        have h0 := bt_list (s.extract i (i + 1)) 0 (by rw [size_extract' s i (i + 1) hi (by omega)]; omega)
        rw [bt_extract s i (i + 1) 0 hi (by omega), Nat.add_zero, List.drop_zero] at h0
        obtain ⟨x, hx⟩ := List.length_eq_one_iff.1 hl
        rw [hx] at h0 ⊢
        simp at h0
        rw [h0]
      rw [h2] at h1
      have hb1 := PlainAid.bt_nonneg s i
      have hb2 := PlainAid.bt_le s i
      obtain ⟨n, hn⟩ : ∃ n : Nat, bt s i = n := ⟨(bt s i).toNat, by omega⟩
      rw [hn, Int.toNat_natCast] at h1
      have := List.all_eq_true.1 (show (List.range 256).all (fun n => !(signK [UInt8.ofNat n]).isSome || decide (n < 128)) = true by kernel_rfl) n (by simp; omega)
      rw [h1] at this
      simp at this
      omega
    · have he : endS s i = ltsF s 3 i := by unfold endS; rw [if_neg (fun hh => hc hh.1)]
      intro k hk
      exact lts_ascii s 3 i (i + k) (by omega) (by omega)
  have := bd_run hb (endS s i - i) (by omega) hasc
  rwa [show i + (endS s i - i) = endS s i by omega] at this
section
variable {P : Program}
/-- an operation taken first, looked up in the list -/
theorem gTakeL {md : Region.Mode} {Q : Exit → Act → World → Prop} {S : World → Prop} {os : List Oper} {i : Nat} {oi : Oper} {v : Value} {fuel : Nat} {listed : Array Bool} {a : Act} {w : World} (hi : os[i]? = some oi)
    (hs : Region.noSelect os.toArray = true) (hf : Region.free md os.toArray listed i = true) (hr : (Region.ready md os.toArray listed).contains i = true)
    (hQ : ∀ c a w, Q (.panic c) (a.put oi.dst v) w → Q (.panic c) a w) (hy : YieldsIf P os.toArray S oi v a) (hS : S w)
    (h : wpAnyH P md os.toArray Q S fuel (listed.setIfInBounds i true) (a.put oi.dst v) w) : wpAnyH P md os.toArray Q S (fuel + 1) listed a w :=
  wpAnyH_take (by simpa using hi) hs hf hr hQ hy hS h
/-- just one may come up -/
theorem gOneL {md : Region.Mode} {Q : Exit → Act → World → Prop} {S : World → Prop} {os : List Oper} {i : Nat} {o : Oper} {fuel : Nat} {listed : Array Bool} {a : Act} {w : World} (hr : Region.ready md os.toArray listed = [i]) (ho : os[i]? = some o) (hw : Region.wanted o (yielded os.toArray a.tmps) = true)
    (h : ∀ K' : Act → World → Prop, (∀ a w, S w → wpAnyH P md os.toArray Q S fuel (listed.setIfInBounds i true) a w → K' a w) → Oper.wp P o a w K' Q) : wpAnyH P md os.toArray Q S (fuel + 1) listed a w := by
  refine wpAnyH_ready hr (by simp) (AllReadyH.cons (by simpa using ho) (fun K hK => ?_) AllReadyH.nil)
  rw [if_pos hw]
  exact h K (fun a w h1 h2 => hK.out a w h1 (fun _ => h2))
/-- just two may come up -/
theorem gTwoL {md : Region.Mode} {Q : Exit → Act → World → Prop} {S : World → Prop} {os : List Oper} {i j : Nat} {o p : Oper} {fuel : Nat} {listed : Array Bool} {a : Act} {w : World} (hr : Region.ready md os.toArray listed = [i, j]) (ho : os[i]? = some o) (hp : os[j]? = some p) (hw : Region.wanted o (yielded os.toArray a.tmps) = true) (hw' : Region.wanted p (yielded os.toArray a.tmps) = true)
    (h : ∀ K' : Act → World → Prop, (∀ a w, S w → wpAnyH P md os.toArray Q S fuel (listed.setIfInBounds i true) a w → K' a w) → Oper.wp P o a w K' Q)
    (h' : ∀ K' : Act → World → Prop, (∀ a w, S w → wpAnyH P md os.toArray Q S fuel (listed.setIfInBounds j true) a w → K' a w) → Oper.wp P p a w K' Q) : wpAnyH P md os.toArray Q S (fuel + 1) listed a w := by
  refine wpAnyH_ready hr (by simp) (AllReadyH.cons (by simpa using ho) (fun K hK => ?_) (AllReadyH.cons (by simpa using hp) (fun K hK => ?_) AllReadyH.nil))
  · rw [if_pos hw]
    exact h K (fun a w h1 h2 => hK.out a w h1 (fun _ => h2))
  · rw [if_pos hw']
    exact h' K (fun a w h1 h2 => hK.out a w h1 (fun _ => h2))
end
end Go.Proofs.YtchjjfjjcdjjcaaGreatDoor
/-! Package tailor: a rule is read: the walk. -/
namespace Go.Proofs.YtchjjfjjcdjjcaaGreatDoor
open Go.RowKit
open PlainAid (bt)

/-- how a rule's reader ends -/
def RuleEnd (s : ByteArray) (pb B i : Nat) (rs : List Rul) (w : World) (e : Ending) (w' : World) : Prop :=
  Only (fun k => k = pb ∨ B ≤ k) w w' ∧
    ((∃ x j lv', ruleT s i rs.length = .inl (x, j) ∧ e = .returned (.tuple #[]) ∧ PsAt w' pb s j lv' ∧ RulsOwn B w' lv' (rs ++ [x]) ∧ i < j ∧ j ≤ s.size ∧ BD s j = none) ∨
      (∃ (a : Nat) (x : Int), ruleT s i rs.length = .inr (a, x) ∧ e = .panicked (chainT a x)))
/-- a rule that is being read, in memory -/
def XrAt (W : World) (xb : Nat) (k : Int) (tv xv : Value) : Prop := W.heap[xb]? = some (.cells #[.int .i64 k, tv, xv] 47 (0, 0))
theorem XrAt.cells {W : World} {xb : Nat} {k : Int} {tv xv : Value} (h : XrAt W xb k tv xv) : W.cell? ⟨xb, 0, none⟩ = some (.int .i64 k) ∧ W.cell? ⟨xb, 1, none⟩ = some tv ∧ W.cell? ⟨xb, 2, none⟩ = some xv ∧ (∀ o, W.frozen? ⟨xb, o, none⟩ = false) ∧ xb < W.heap.size :=
  ⟨by simp [World.cell?, show W.heap[xb]? = _ from h], by simp [World.cell?, show W.heap[xb]? = _ from h], by simp [World.cell?, show W.heap[xb]? = _ from h], fun o => by simp [World.frozen?, show W.heap[xb]? = _ from h], (Array.getElem?_eq_some_iff.1 h).1⟩
theorem XrAt.put1 {W : World} {xb : Nat} {k : Int} {tv xv : Value} (h : XrAt W xb k tv xv) (v : Value) : XrAt (W.setCell ⟨xb, 1, none⟩ v) xb k v xv := by
  unfold XrAt at *
  unfold World.setCell
  simp [Array.getElem?_modify, h]
theorem XrAt.put2 {W : World} {xb : Nat} {k : Int} {tv xv : Value} (h : XrAt W xb k tv xv) (v : Value) : XrAt (W.setCell ⟨xb, 2, none⟩ v) xb k tv v := by
  unfold XrAt at *
  unfold World.setCell
  simp [Array.getElem?_modify, h]
theorem XrAt.only {W W' : World} {xb : Nat} {k : Int} {tv xv : Value} (h : XrAt W xb k tv xv) {S : Nat → Prop} (ho : Only S W W') (hx : ¬ S xb) : XrAt W' xb k tv xv := (ho.block xb h.cells.2.2.2.2 hx).trans h
theorem PsAt.only {W W' : World} {pb : Nat} {s : ByteArray} {i : Nat} {lv : Value} (h : PsAt W pb s i lv) {S : Nat → Prop} (ho : Only S W W') (hx : ¬ S pb) : PsAt W' pb s i lv := (ho.block pb h.cells.2.2.2.2 hx).trans h
/-- a rule's text is read -/
structure RuAt (s : ByteArray) (pb xb : Nat) (lv : Value) (k : Int) (tv : Value) (tx : List Int) (N : Nat) (w : World) (j : Nat) (xv : Value) (W : World) : Prop where
  ps : PsAt W pb s j lv
  x : XrAt W xb k tv xv
  run : Runes N W tv tx
  only : Only (fun k => k = pb ∨ k = xb) w W
  pbx : pb < xb
  xbN : xb < N
  hN : N ≤ W.heap.size
section
variable {s : ByteArray} {pb xb : Nat} {lv : Value} {k : Int} {tv : Value} {tx : List Int} {N : Nat} {w : World} {j : Nat} {xv : Value} {W W' : World}
theorem RuAt.call (h : RuAt s pb xb lv k tv tx N w j xv W) (ho : Only (fun k => k = pb) W W') {j' : Nat} (hp : PsAt W' pb s j' lv) : RuAt s pb xb lv k tv tx N w j' xv W' :=
  ⟨hp, h.x.only ho (by have := h.pbx; omega), h.run.only ho (fun k e => by have := h.pbx; have := h.xbN; omega), h.only.trans (ho.mono fun _ e => .inl e), h.pbx, h.xbN, Nat.le_trans h.hN ho.size⟩
theorem RuAt.drewN (h : RuAt s pb xb lv k tv tx N w j xv W) (n : Nat) : RuAt s pb xb lv k tv tx N w j xv (W.drewN n) := h.call (only_drewN (Only.refl _ _) n) (h.ps.drewN n)
theorem RuAt.go (h : RuAt s pb xb lv k tv tx N w j xv W) (i : Nat) : RuAt s pb xb lv k tv tx N w i xv (W.setCell ⟨pb, 1, none⟩ (.int .i64 (i : Nat))) :=
  h.call ((Only.refl (fun k => k = pb) W).setCell (p := ⟨pb, 1, none⟩) rfl _) (h.ps.go i)
theorem RuAt.put2 (h : RuAt s pb xb lv k tv tx N w j xv W) (v : Value) : RuAt s pb xb lv k tv tx N w j v (W.setCell ⟨xb, 2, none⟩ v) := by
  have ho : Only (fun k => k = xb) W (W.setCell ⟨xb, 2, none⟩ v) := (Only.refl (fun k => k = xb) W).setCell (p := ⟨xb, 2, none⟩) rfl _
  exact ⟨h.ps.only ho (by have := h.pbx; omega), h.x.put2 v, h.run.only ho (fun k e => by have := h.xbN; omega), h.only.trans (ho.mono fun _ e => .inr e), h.pbx, h.xbN, Nat.le_trans h.hN ho.size⟩
end
theorem Tryz.infoK : (Tryz.prog.info? 47).map (fun i => (i.zero, i.size, i.bytes)) = some (some (.agg #[.int .i64 0, .slice none 0 0, .slice none 0 0]), 3, 56) := by kernel_rfl
set_option maxHeartbeats 4000000 in
set_option maxRecDepth 100000 in
theorem rule_any (s : ByteArray) (pb B i : Nat) (lv : Value) (rs : List Rul) (w : World) (h : PsAt w pb s i lv) (hr : RulsOwn B w lv rs) (hpB : pb < B) (hBw : B ≤ w.heap.size) (hi : i < s.size) (hs : s.size ≤ 1000000) (hb : BD s i = none) (hrl : rs.length ≤ 1000000) :
    Calls Tryz.prog 32 #[.pointer (some ⟨pb, 0, none⟩)] w (RuleEnd s pb B i rs w) := by
  obtain ⟨p3, cap3, rfl⟩ := hr.form
  have hbt := PlainAid.get_bt s
  obtain ⟨c0, c1, c2, cf, hpl⟩ := h.cells
  obtain ⟨n3, hn3⟩ : ∃ n3, n3 = rs.length := ⟨_, rfl⟩
  have HSG := fun b => sign_any s pb i (.slice p3 rs.length cap3) b w h (Nat.le_of_lt hi) hs
  have HSB := fun b => sign_bd (reset := b) hi hb
  have HRT : Hid (ruleT s i rs.length = if sgnOk s i (rs.length == 0) = true then
    if rs.length < 2000 then
      match textT s (endS s i) with
      | (none, a) => .inr (a, 100)
      | (some l, j) =>
        if (sgnT s i).getD 0 ≠ 0 ∧ skipT s j < s.size ∧ bt s (skipT s j) = 47 then
          match textT s (skipT s j + 1) with
          | (none, a) => .inr (a, 100)
          | (some x, k) => .inl (((sgnT s i).getD 0, l, x), skipT s k)
        else .inl (((sgnT s i).getD 0, l, []), skipT s j)
    else .inr (i, 2)
  else .inr (i, 100)) := rfl
  have HR := Lib.hid hr
  clear h hr cf
  obtain ⟨k, hk⟩ : ∃ k, (sgnT s i).getD 0 = k := ⟨_, rfl⟩
  obtain ⟨q, hq⟩ : ∃ q, (rs.length == 0) = q := ⟨_, rfl⟩
  obtain ⟨E, hE⟩ : ∃ E, endS s i = E := ⟨_, rfl⟩
  have HSG2 := HSG q
  have HSB2 := HSB q
  rw [hk, hE] at HSG2
  rw [hE] at HSB2
  rw [hk, hE, hq] at HRT
  rw [← hn3] at HSG2 HRT hq hrl HR c2
  have HN3 := Lib.hid hn3
  have hqz : ((n3 : Int) == 0) = q := by rw [← hq]; cases n3 <;> rfl
  have HSBD := Lib.hid HSB2
  clear hn3 hk hE HSG HSB HSB2 hq
  go_enter Tryz.func32, Tryz.ntmps32
  go_wp2_with fail
  refine HSG2.mono ?_
  rintro e w1 ⟨ho1, ⟨hok, rfl, hp1⟩ | ⟨hok, rfl⟩⟩
  rotate_left 1
  · have HE : Hid (ruleT s i n3 = .inr (i, 100)) := by
      show _ = _
      rw [HRT.out, hok]; rfl
    exact ⟨rfl, ho1.mono (fun k hk => .inl hk), .inr ⟨i, 100, by rw [← HN3.out]; exact HE.out, rfl⟩⟩
  rw [hok, if_pos rfl] at HRT
  have hsb := HSBD.out hok
  have HSB := Lib.hid hsb
  have HO1 : Hid (Only (fun k => k = pb) w w1) := ho1
  have HP1 := Lib.hid hp1
  obtain ⟨_, d1, d2, df, dpl⟩ := hp1.cells
  clear HSG2 HSBD hok hsb c0 c1 c2 ho1 hp1 df hqz
  by_cases hlen : n3 < 2000
  · have hlz : decide ((n3 : Int) < 2000) = true := decide_eq_true (by omega)
    go_wp2_with (go_at_call 57; refine (must_ok _ _ _).mono ?_; rintro e w' ⟨rfl, h5⟩)
    have hx2 : XrAt w' w1.heap.size k (.slice none 0 0) (.slice none 0 0) := by rw [← h5]; exact World.alloc_heap_new _ _
    have ho2 : Only (fun k => k = pb) w1 w' := by rw [← h5]; exact (Only.refl _ w1).alloc _
    have hp2 : PsAt w' pb s E (.slice p3 n3 cap3) := HP1.out.only (S := fun _ => False) (by rw [← h5]; exact (Only.refl _ w1).alloc _) id
    obtain ⟨xb, hxb⟩ : ∃ xb, xb = w1.heap.size := ⟨_, rfl⟩
    have hxp : pb < xb := by omega
    have hxw : w.heap.size ≤ xb := by rw [hxb]; exact HO1.out.size
    have hxl : xb < w'.heap.size := by have := hx2.cells.2.2.2.2; omega
    rw [← hxb] at hx2 ⊢
    have HX2 := Lib.hid hx2
    have HO2 := Lib.hid (HO1.out.trans ho2)
    rw [if_pos hlen] at HRT
    refine (text_any s pb E _ _ hp2 HSB.out.2.1 hs HSB.out.2.2).mono ?_
    clear h5 hxb ho2 hp2 hx2 HP1 HO1 d1 d2 dpl hlz hlen
    rintro e w3 ⟨ho3, ⟨tx, a, tv, htx, rfl, hr3, hne, hlen, hp3, hEa, has, hba⟩ | ⟨a, htx, rfl⟩⟩
    · rw [htx] at HRT
      obtain ⟨tp, tcap, rfl⟩ : ∃ tp tcap, tv = .slice tp tx.length tcap := ⟨_, _, hr3.choose_spec.choose_spec.1⟩
      have hx3 := HX2.out.only ho3 (by omega)
      have HR3 := Lib.hid hr3
      have HTX : Hid (tx ≠ [] ∧ tx.length ≤ s.size ∧ E ≤ a ∧ BD s a = none) := ⟨hne, hlen, hEa, hba⟩
      have HO3 := Lib.hid (HO2.out.trans ho3)
      have HP3 := Lib.hid hp3
      have HX3 := Lib.hid hx3
      obtain ⟨e0, e1, e2, ef, expl⟩ := hx3.cells
      have ef1 := ef 1
      have hw3 : w'.heap.size ≤ w3.heap.size := ho3.size
      clear hx3 ef hr3 htx hne hlen hEa hba ho3 hp3 HX2 HO2
      generalize tx.length = tl at *
      go_wp2_with fail
      have hRU : RuAt s pb xb (.slice p3 n3 cap3) k (.slice tp tl tcap) tx w'.heap.size w a (.slice none 0 0) (w3.setCell ⟨xb, 1, none⟩ (.slice tp tl tcap)) := by
        have ho : Only (fun k => k = xb) w3 (w3.setCell ⟨xb, 1, none⟩ (.slice tp tl tcap)) := (Only.refl (fun k => k = xb) w3).setCell (p := ⟨xb, 1, none⟩) rfl _
        exact ⟨HP3.out.only ho (by omega), HX3.out.put1 _, HR3.out.only ho (fun k e => by omega), (HO3.out.mono fun _ e => .inl e).trans (ho.mono fun _ e => .inr e), hxp, hxl, Nat.le_trans hw3 ho.size⟩
      have HRU := Lib.hid hRU
      have hsk := skip_any s pb a (.slice p3 n3 cap3) _ hRU.ps has hs
      have HBS := Lib.hid (And.intro (skip_ge s a has) (skip_bd has HTX.out.2.2.2))
      generalize hb4 : skipT s a = b at *
      clear hRU HP3 HX3 HR3 HO3 e0 e1 e2 expl ef1 hw3 hb4
      refine hsk.mono ?_
      clear hsk
      rintro e w5 ⟨rfl, hp5, hbs, ho5⟩
      have hRU5 := HRU.out.call ho5 hp5
      have HR5 := Lib.hid hRU5
      obtain ⟨c0, c1, c2, cf, cpl⟩ := hRU5.ps.cells
      obtain ⟨d0, d1, d2, df, dpl⟩ := hRU5.x.cells
      have f1 := cf 1
      have f2 := cf 2
      clear ho5 hp5 HRU hRU5 cf df
      go_upto_region 5 with fail
      go_cut [56] from 30 to 56 (fun s56 wx => s56 = .bool (decide (k ≠ 0 ∧ b < s.size ∧ bt s b = 47)) ∧ RuAt s pb xb (.slice p3 n3 cap3) k (.slice tp tl tcap) tx w'.heap.size w b (.slice none 0 0) wx)
      case first =>
        by_cases hk0 : k = 0
        · subst hk0
          go_wp2_with fail
          go_quiet (fail)
          go_wp2_with fail
          go_meet
          case rel => exact ⟨by rw [decide_eq_false (fun h => h.1 rfl)], HR5.out.drewN _⟩
        · have g1 : (k == 0) = false := by simpa using hk0
          have g1' : (k != 0) = true := by simpa using hk0
          have HK0 := Lib.hid hk0
          clear hk0
          by_cases hbl : b < s.size
          · have g2 : decide ((b : Int) < (s.size : Int)) = true := decide_eq_true (by omega)
            have g3 : decide (b < s.size) = true := decide_eq_true hbl
            by_cases h47 : bt s b = 47
            · have g4 : (bt s b == 47) = true := by simpa using h47
              go_wp2_with fail
              go_quiet (fail)
              go_wp2_with fail
              go_meet
              case rel => exact ⟨by rw [decide_eq_true ⟨HK0.out, hbl, h47⟩], HR5.out.drewN _⟩
            · have g4 : (bt s b == 47) = false := by simpa using h47
              go_wp2_with fail
              go_quiet (fail)
              go_wp2_with fail
              go_meet
              case rel => exact ⟨by rw [decide_eq_false (fun h => h47 h.2.2)], HR5.out.drewN _⟩
          · have g2 : decide ((b : Int) < (s.size : Int)) = false := decide_eq_false (by omega)
            have g3 : decide (b < s.size) = false := decide_eq_false hbl
            go_wp2_with fail
            go_quiet (fail)
            go_wp2_with fail
            go_meet
            case rel => exact ⟨by rw [decide_eq_false (fun h => hbl h.2.1)], HR5.out.drewN _⟩
      case rest =>
      obtain ⟨rfl, hRU6⟩ := hcut
      have HR6 := Lib.hid hRU6
      clear hRU6 HR5 c0 c1 c2 d0 d1 d2 f1 f2 dpl cpl
      generalize hQ : decide (k ≠ 0 ∧ b < s.size ∧ bt s b = 47) = Q at *
      have HQ := Lib.hid hQ
      clear hQ
      go_upto_if 56 with fail
      go_cut [] from 57 to 68 (fun wx => ∃ ex j xp xl xcap, ruleT s i n3 = .inl ((k, tx, ex), j) ∧ RuAt s pb xb (.slice p3 n3 cap3) k (.slice tp tl tcap) tx w'.heap.size w j (.slice xp xl xcap) wx ∧ Runes w'.heap.size wx (.slice xp xl xcap) ex ∧ i < j ∧ j ≤ s.size ∧ BD s j = none)
      case first =>
        cases Q with
        | true =>
          have hc : k ≠ 0 ∧ b < s.size ∧ bt s b = 47 := of_decide_eq_true HQ.out
          rw [if_pos hc] at HRT
          have hbl := hc.2.1
          have HB1 := Lib.hid (bd_next HBS.out.2 hc.2.1 (by rw [hc.2.2]; decide))
          obtain ⟨c0, c1, c2, cf, cpl⟩ := HR6.out.ps.cells
          have f1 := cf 1
          clear hc cf
          go_wp2_with fail
          have hRU7 := HR6.out.go (b + 1)
          rw [show ((b + 1 : Nat) : Int) = (b : Int) + 1 from rfl] at hRU7
          have HR7 := Lib.hid hRU7
          refine (text_any s pb (b + 1) _ _ hRU7.ps (by omega) hs HB1.out).mono ?_
          clear c0 c1 c2 f1 hRU7 HR6
          rintro e w8 ⟨ho8, ⟨ex, a2, xv, hex, rfl, hr8, hne8, hlen8, hp8, hEa8, has8, hba8⟩ | ⟨a2, hex, rfl⟩⟩
          · rw [hex] at HRT
            obtain ⟨xp, xcap, rfl⟩ : ∃ xp xcap, xv = .slice xp ex.length xcap := ⟨_, _, hr8.choose_spec.choose_spec.1⟩
            have hRU8 := HR7.out.call ho8 hp8
            have HR8 := Lib.hid hRU8
            obtain ⟨d0, d1, d2, df, dpl⟩ := hRU8.x.cells
            have f2 := df 2
            have HX8 := Lib.hid hr8
            have hN8 : w'.heap.size ≤ (wc.setCell ⟨pb, 1, none⟩ (.int .i64 ((b : Int) + 1))).heap.size := HR7.out.hN
            have HEX : Hid (E ≤ a ∧ a ≤ b ∧ b + 1 ≤ a2 ∧ BD s a2 = none) := ⟨HTX.out.2.2.1, HBS.out.1, hEa8, hba8⟩
            clear hRU8 ho8 hp8 hr8 df hne8 hlen8 hEa8 hba8 hex HB1 HR7
            go_wp2_with fail
            have ho9 : Only (fun k => k = xb) w8 (w8.setCell ⟨xb, 2, none⟩ (.slice xp ex.length xcap)) := (Only.refl (fun k => k = xb) w8).setCell (p := ⟨xb, 2, none⟩) rfl _
            have HR9 := Lib.hid (HR8.out.put2 (.slice xp ex.length xcap))
            have HX9 := Lib.hid (Runes.mono (HX8.out.only ho9 (fun k e => by omega)) hN8)
            clear d0 d1 d2 dpl f2 ho9 HX8 HR8 hN8
            generalize ex.length = el at *
            refine (skip_any s pb a2 _ _ HR9.out.ps has8 hs).mono ?_
            rintro e w10 ⟨rfl, hp10, hbs10, ho10⟩
            have HRA := Lib.hid (HR9.out.call ho10 hp10)
            have HXA := Lib.hid (HX9.out.only ho10 (fun k e => by have := HR9.out.pbx; have := HR9.out.xbN; omega))
            clear ho10 hp10 HR9 HX9
            go_wp2_with fail
            go_meet
            case rel =>
              exact ⟨ex, skipT s a2, xp, el, xcap, HRT.out, HRA.out, HXA.out, by have := HSB.out; have := HEX.out; have := skip_ge s a2 has8; omega, hbs10, skip_bd has8 HEX.out.2.2.2⟩
          · have HE : Hid (ruleT s i n3 = .inr (a2, 100)) := by
              show _ = _
              rw [HRT.out, hex]
            refine ⟨rfl, ?_, .inr ⟨a2, 100, by rw [← HN3.out]; exact HE.out, rfl⟩⟩
            exact (HR7.out.only.trans (ho8.mono fun _ e => .inl e)).mono (fun k hk => by rcases hk with hk | hk; exact .inl hk; exact .inr (by omega))
        | false =>
          have hc : ¬ (k ≠ 0 ∧ b < s.size ∧ bt s b = 47) := of_decide_eq_false HQ.out
          rw [if_neg hc] at HRT
          clear hc
          go_wp2_with fail
          go_meet
          case rel => exact ⟨[], b, none, 0, 0, HRT.out, HR6.out, .nil _ _ _, by have := HSB.out; have := HTX.out; have := HBS.out; omega, hbs, HBS.out.2⟩
      case rest =>
      obtain ⟨ex, j, xp, xl, xcap, hE, hRU, hX, hij, hjs, hbj⟩ := hcut
      have HE := Lib.hid hE
      have hRD : RuAt s pb xb (.slice p3 n3 cap3) k (.slice tp tl tcap) tx w'.heap.size w j (.slice xp xl xcap) (wc.drewN 1) := hRU.drewN 1
      have hXD : Runes w'.heap.size (wc.drewN 1) (.slice xp xl xcap) ex := hX
      go_upto_region 9 with fail
      obtain ⟨i0, hti, hz0, hz1, hz2⟩ := info_parts Tryz.infoK
      obtain ⟨_, _, c2, cf, cpl⟩ := hRU.ps.cells
      obtain ⟨d0, d1, d2, _, dpl⟩ := hRU.x.cells
      have hRO : RulsOwn B wc (.slice p3 n3 cap3) rs := HR.out.only hpB (hRU.only.mono fun k hk => by omega)
      obtain ⟨cs, hcs, hin, hrow⟩ := hRO
      have hsz : w.heap.size ≤ wc.heap.size := hRU.only.size
      have HROW : Hid (((wc.drew).alloc (.cells #[.int .i64 k, .slice tp tl tcap, .slice xp xl xcap] 47)).ownsRow B 47 3 (.slice p3 n3 cap3) n3 (flatR cs)) := by
        have := hrow.drew.alloc (.cells #[.int .i64 k, .slice tp tl tcap, .slice xp xl xcap] 47)
        rw [← HN3.out] at this; exact this
      have hownlt : ∀ j, (Value.slice p3 n3 cap3).ownBlock = some j → B ≤ j ∧ j < w.heap.size := by
        obtain ⟨cs', _, _, hrow'⟩ := HR.out
        intro j hj
        refine ⟨ownBlock_ge hrow' hj, ?_⟩
        rcases hrow'.2 with ⟨e, _⟩ | ⟨g, cap, cur, e, hg, hgb, _⟩
        · rw [e] at hj; cases hj
        · rw [e] at hj; cases hj; exact (Array.getElem?_eq_some_iff.1 hgb).1
      have HF6 : Hid (∀ W6, ((wc.drew).alloc (.cells #[.int .i64 k, .slice tp tl tcap, .slice xp xl xcap] 47)).grownBy W6 (Value.slice p3 n3 cap3).ownBlock → PsAt W6 pb s j (.slice p3 n3 cap3)) := by
        intro W6 hg
        have hp : PsAt ((wc.drew).alloc (.cells #[.int .i64 k, .slice tp tl tcap, .slice xp xl xcap] 47)) pb s j (.slice p3 n3 cap3) := hRU.ps.below ((Below.refl _ wc).drew.alloc (Nat.le_refl _) _)
        exact (hg.block pb hp.cells.2.2.2.2 (fun e => by have := (hownlt pb e.symm).1; omega)).trans hp
      have HIN := Lib.hid hin
      have HCS := Lib.hid hcs
      have HRU := Lib.hid hRU
      have HX := Lib.hid hX
      have HOL := Lib.hid hownlt
      clear hrow hRU hX hE hRD hXD hin hownlt cf
      have HNW : Hid (∀ (j : Nat) u, [Value.int .i64 k, .slice tp tl tcap, .slice xp xl xcap][j]? = some u → ((wc.drew).alloc (.cells #[.int .i64 k, .slice tp tl tcap, .slice xp xl xcap] 47)).cell? ((⟨wc.heap.size, 0, none⟩ : Addr).add j) = some u) := gCells wc _ _
      have HBZ : Hid (B ≤ ((wc.drew).alloc (.cells #[.int .i64 k, .slice tp tl tcap, .slice xp xl xcap] 47)).heap.size) := Nat.le_trans (Nat.le_trans hBw hsz) (by simp)
      have hxne : ∀ W6, ((wc.drew).alloc (.cells #[.int .i64 k, .slice tp tl tcap, .slice xp xl xcap] 47)).grownBy W6 (Value.slice p3 n3 cap3).ownBlock → W6.heap[xb]? = ((wc.drew).alloc (.cells #[.int .i64 k, .slice tp tl tcap, .slice xp xl xcap] 47)).heap[xb]? := fun W6 hg => hg.block xb (by have := HRU.out.x.cells.2.2.2.2; simp; omega) (fun e => by have := (HOL.out xb e.symm).2; omega)
      have HSA : Hid (((wc.drew).alloc (.cells #[.int .i64 k, .slice tp tl tcap, .slice xp xl xcap] 47)).cell? ⟨xb, 0, none⟩ = some (.int .i64 k) ∧ ((wc.drew).alloc (.cells #[.int .i64 k, .slice tp tl tcap, .slice xp xl xcap] 47)).cell? ⟨xb, 1, none⟩ = some (.slice tp tl tcap) ∧ ((wc.drew).alloc (.cells #[.int .i64 k, .slice tp tl tcap, .slice xp xl xcap] 47)).cell? ⟨xb, 2, none⟩ = some (.slice xp xl xcap)) := by
        have hb : Below wc.heap.size wc ((wc.drew).alloc (.cells #[.int .i64 k, .slice tp tl tcap, .slice xp xl xcap] 47)) := (Below.refl _ wc).drew.alloc (Nat.le_refl _) _
        exact ⟨(hb.cell (p := ⟨xb, 0, none⟩) dpl).trans d0, (hb.cell (p := ⟨xb, 1, none⟩) dpl).trans d1, (hb.cell (p := ⟨xb, 2, none⟩) dpl).trans d2⟩
      have HC2 : Hid (((wc.drew).alloc (.cells #[.int .i64 k, .slice tp tl tcap, .slice xp xl xcap] 47)).cell? ⟨pb, 2, none⟩ = some (.slice p3 n3 cap3)) := by
        have hb : Below wc.heap.size wc ((wc.drew).alloc (.cells #[.int .i64 k, .slice tp tl tcap, .slice xp xl xcap] 47)) := (Below.refl _ wc).drew.alloc (Nat.le_refl _) _
        exact (hb.cell (p := ⟨pb, 2, none⟩) cpl).trans c2
      have HS6 : Hid (∀ W6, ((wc.drew).alloc (.cells #[.int .i64 k, .slice tp tl tcap, .slice xp xl xcap] 47)).grownBy W6 (Value.slice p3 n3 cap3).ownBlock → (W6.cell? ⟨xb, 0, none⟩ = some (.int .i64 k) ∧ W6.cell? ⟨xb, 1, none⟩ = some (.slice tp tl tcap) ∧ W6.cell? ⟨xb, 2, none⟩ = some (.slice xp xl xcap))) := fun W6 hg =>
        ⟨(World.cell?_of_block (a := ⟨xb, 0, none⟩) (hxne W6 hg)).trans HSA.out.1, (World.cell?_of_block (a := ⟨xb, 1, none⟩) (hxne W6 hg)).trans HSA.out.2.1, (World.cell?_of_block (a := ⟨xb, 2, none⟩) (hxne W6 hg)).trans HSA.out.2.2⟩
      have HS7 : Hid (∀ W6 v, ((wc.drew).alloc (.cells #[.int .i64 k, .slice tp tl tcap, .slice xp xl xcap] 47)).grownBy W6 (Value.slice p3 n3 cap3).ownBlock → ((W6.setCell ⟨pb, 2, none⟩ v).cell? ⟨xb, 0, none⟩ = some (.int .i64 k) ∧ (W6.setCell ⟨pb, 2, none⟩ v).cell? ⟨xb, 1, none⟩ = some (.slice tp tl tcap) ∧ (W6.setCell ⟨pb, 2, none⟩ v).cell? ⟨xb, 2, none⟩ = some (.slice xp xl xcap))) := fun W6 v hg => by
        have h := HS6.out W6 hg
        refine ⟨?_, ?_, ?_⟩
        · rw [World.cell?_setCell_far _ _ _ _ (by show pb ≠ xb; omega)]; exact h.1
        · rw [World.cell?_setCell_far _ _ _ _ (by show pb ≠ xb; omega)]; exact h.2.1
        · rw [World.cell?_setCell_far _ _ _ _ (by show pb ≠ xb; omega)]; exact h.2.2
      have HOO : Hid (∀ W6 v, ((wc.drew).alloc (.cells #[.int .i64 k, .slice tp tl tcap, .slice xp xl xcap] 47)).grownBy W6 (Value.slice p3 n3 cap3).ownBlock → Only (fun k => k = pb ∨ B ≤ k) w (W6.setCell ⟨pb, 2, none⟩ v)) := fun W6 v hg => by
        have h1 : Only (fun k => k = pb ∨ B ≤ k) w wc := HRU.out.only.mono (fun k hk => by omega)
        have h2 : Only (fun k => k = pb ∨ B ≤ k) wc ((wc.drew).alloc (.cells #[.int .i64 k, .slice tp tl tcap, .slice xp xl xcap] 47)) := (Only.refl _ wc).drew.alloc _
        have h3 : Only (fun k => k = pb ∨ B ≤ k) ((wc.drew).alloc (.cells #[.int .i64 k, .slice tp tl tcap, .slice xp xl xcap] 47)) W6 := ⟨hg.os, hg.tape, hg.output, hg.size, fun k hk hn => hg.block k hk (fun e => hn (.inr (HOL.out k e.symm).1))⟩
        exact ((h1.trans h2).trans h3).setCell (p := ⟨pb, 2, none⟩) (.inl rfl) _
      have HPU : Hid (∀ g6 cap6 W6, W6.ownsRow B 47 3 (.slice (some ⟨g6, 0, none⟩) (n3 + 1) cap6) (n3 + 1) (flatR cs ++ [.int .i64 k, .slice tp tl tcap, .slice xp xl xcap]) → ((wc.drew).alloc (.cells #[.int .i64 k, .slice tp tl tcap, .slice xp xl xcap] 47)).grownBy W6 (Value.slice p3 n3 cap3).ownBlock → ((Value.slice p3 n3 cap3).ownBlock = some g6 ∨ g6 = ((wc.drew).alloc (.cells #[.int .i64 k, .slice tp tl tcap, .slice xp xl xcap] 47)).heap.size) →
          RulsOwn B (W6.setCell ⟨pb, 2, none⟩ (.slice (some ⟨g6, 0, none⟩) (n3 + 1) cap6)) (.slice (some ⟨g6, 0, none⟩) (n3 + 1) cap6) (rs ++ [(k, tx, ex)])) := fun g6 cap6 W6 ho hg hor => by
        have hb : Below wc.heap.size wc ((wc.drew).alloc (.cells #[.int .i64 k, .slice tp tl tcap, .slice xp xl xcap] 47)) := (Below.refl _ wc).drew.alloc (Nat.le_refl _) _
        have hN := HRU.out.hN
        have hk : Kept (fun b => B ≤ b ∧ (Value.slice p3 n3 cap3).ownBlock ≠ some b) wc ((wc.drew).alloc (.cells #[.int .i64 k, .slice tp tl tcap, .slice xp xl xcap] 47)) := Kept.below hb
        have hw : w.heap.size ≤ w'.heap.size := by omega
        have hrn : ∀ u xs, Runes w'.heap.size wc u xs → IntsIn (fun b => B ≤ b ∧ (Value.slice p3 n3 cap3).ownBlock ≠ some b) .i32 ((wc.drew).alloc (.cells #[.int .i64 k, .slice tp tl tcap, .slice xp xl xcap] 47)) u xs := fun u xs h =>
          (IntsIn.mono h (fun b hb _ => ⟨by have : w'.heap.size ≤ b := hb; omega, fun e => by have := (HOL.out b e).2; have : w'.heap.size ≤ b := hb; omega⟩)).kept hk
        have := RulsOwn.push (B := B) (W := ((wc.drew).alloc (.cells #[.int .i64 k, .slice tp tl tcap, .slice xp xl xcap] 47))) (W' := W6) (lv := .slice p3 n3 cap3) (rs := rs) (cs := cs) (k := k) HCS.out (fun i r c h1 h2 => by
          obtain ⟨a1, a2, a3⟩ := HIN.out i r c h1 h2
          exact ⟨a1, a2.kept hk, a3.kept hk⟩) (hrn _ _ HRU.out.run) (hrn _ _ HX.out) (by rw [← HN3.out]; exact ho) hg (by
          rcases hor with e | e
          · exact .inl e.symm
          · exact .inr ⟨g6, by omega, rfl⟩)
        refine this.only hpB ((Only.refl (fun k => k = pb ∨ W6.heap.size ≤ k) W6).setCell (p := ⟨pb, 2, none⟩) (.inl rfl) _)
      have c2' := c2
      clear hxne hsz
      have HS0 : Hid (wc.drew.cell? ⟨xb, 0, none⟩ = some (.int .i64 k) ∧ wc.drew.cell? ⟨xb, 1, none⟩ = some (.slice tp tl tcap) ∧ wc.drew.cell? ⟨xb, 2, none⟩ = some (.slice xp xl xcap)) := ⟨d0, d1, d2⟩
      refine wp_region_held_drew (S := (fun V : World => V.cell? ⟨xb, 0, none⟩ = some (.int .i64 k) ∧ V.cell? ⟨xb, 1, none⟩ = some (.slice tp tl tcap) ∧ V.cell? ⟨xb, 2, none⟩ = some (.slice xp xl xcap))) (by kernel_rfl) HS0.out (fun hH => ?_)
      refine gTakeL (i := 0) (v := ?_) rfl (by kernel_rfl) (by kernel_rfl) (by kernel_rfl) (fun _ _ _ h => h) (Or.inl ⟨by first | rfl | kernel_rfl, ?_⟩) hH ?_; rotate_left 1; (first | (focus (intro w hSw; (try dsimp only at hSw); go_simp; done)) | (focus (intro w hSw; (try dsimp only at hSw); go_simp; with_reducible rfl)) | (focus (intro w hSw; (try dsimp only at hSw); simp [hSw, go_sem]; done))); (try simp only [Act.put, List.setIfInBounds_toArray, List.set_cons_zero, List.set_cons_succ])
      refine gTakeL (i := 1) (v := ?_) rfl (by kernel_rfl) (by kernel_rfl) (by kernel_rfl) (fun _ _ _ h => h) (Or.inl ⟨by first | rfl | kernel_rfl, ?_⟩) hH ?_; rotate_left 1; (first | (focus (intro w hSw; (try dsimp only at hSw); go_simp; done)) | (focus (intro w hSw; (try dsimp only at hSw); go_simp; with_reducible rfl)) | (focus (intro w hSw; (try dsimp only at hSw); simp [hSw, go_sem]; done))); (try simp only [Act.put, List.setIfInBounds_toArray, List.set_cons_zero, List.set_cons_succ])
      refine gTakeL (i := 2) (v := ?_) rfl (by kernel_rfl) (by kernel_rfl) (by kernel_rfl) (fun _ _ _ h => h) (Or.inl ⟨by first | rfl | kernel_rfl, ?_⟩) hH ?_; rotate_left 1; (first | (focus (intro w hSw; (try dsimp only at hSw); go_simp; done)) | (focus (intro w hSw; (try dsimp only at hSw); go_simp; with_reducible rfl)) | (focus (intro w hSw; (try dsimp only at hSw); simp [hSw, go_sem]; done))); (try simp only [Act.put, List.setIfInBounds_toArray, List.set_cons_zero, List.set_cons_succ])
      refine gTakeL (i := 3) (v := ?_) rfl (by kernel_rfl) (by kernel_rfl) (by kernel_rfl) (fun _ _ _ h => h) (Or.inl ⟨by first | rfl | kernel_rfl, ?_⟩) hH ?_; rotate_left 1; (first | (focus (intro w hSw; (try dsimp only at hSw); go_simp; done)) | (focus (intro w hSw; (try dsimp only at hSw); go_simp; with_reducible rfl)) | (focus (intro w hSw; (try dsimp only at hSw); simp [hSw, go_sem]; done))); (try simp only [Act.put, List.setIfInBounds_toArray, List.set_cons_zero, List.set_cons_succ])
      refine gTakeL (i := 5) (v := ?_) rfl (by kernel_rfl) (by kernel_rfl) (by kernel_rfl) (fun _ _ _ h => h) (Or.inl ⟨by first | rfl | kernel_rfl, ?_⟩) hH ?_; rotate_left 1; (first | (focus (intro w hSw; (try dsimp only at hSw); go_simp; done)) | (focus (intro w hSw; (try dsimp only at hSw); go_simp; with_reducible rfl)) | (focus (intro w hSw; (try dsimp only at hSw); simp [hSw, go_sem]; done))); (try simp only [Act.put, List.setIfInBounds_toArray, List.set_cons_zero, List.set_cons_succ])
      refine gTwoL (i := 4) (j := 6) (by kernel_rfl) rfl rfl (by rfl) (by rfl) (fun K hK => ?_) (fun K hK => ?_)
      · have HK := Lib.hid hK
        clear hK
        have c2' := c2
        go_simp
        refine HK.out _ _ hH ?_
        clear HK
        (try simp only [Act.put, List.setIfInBounds_toArray, List.set_cons_zero, List.set_cons_succ])
        refine gOneL (i := 6) (by kernel_rfl) rfl (by rfl) (fun K hK => ?_)
        have HK := Lib.hid hK
        clear hK
        go_simp
        refine HK.out _ _ HSA.out ?_
        clear HK
        (try simp only [Act.put, List.setIfInBounds_toArray, List.set_cons_zero, List.set_cons_succ])
        refine gOneL (i := 7) (by kernel_rfl) rfl (by rfl) (fun K hK => ?_)
        have HK := Lib.hid hK
        clear hK
        refine Go.wp_append_lies _ (.tmp 73) (.tmp 75) 22 rfl B 47 i0 (.agg #[.int .i64 0, .slice none 0 0, .slice none 0 0]) 3 56 Tryz.underlying22 hti hz0 hz1 hz2 rfl (by decide) (.slice p3 n3 cap3) n3 (flatR cs) rfl HROW.out ⟨wc.heap.size, 0, none⟩ 1 1 [.int .i64 k, .slice tp tl tcap, .slice xp xl xcap] rfl rfl HNW.out (by simp [Value.oneCell']) (by decide) (by unfold maxLen; omega) (by omega) HBZ.out _ rfl ?_
        intro g6 cap6 w6 hown6 hgrow6 hor6 hlt6
        obtain ⟨_, _, e2, ef, _⟩ := (HF6.out _ hgrow6).cells
        have ef2 := ef 2
        refine HK.out _ _ (HS6.out _ hgrow6) ?_
        clear HK ef
        (try simp only [Act.put, List.setIfInBounds_toArray, List.set_cons_zero, List.set_cons_succ])
        refine gOneL (i := 8) (by kernel_rfl) rfl (by rfl) (fun K hK => ?_)
        have HK := Lib.hid hK
        clear hK
        go_simp
        refine HK.out _ _ (HS6.out _ hgrow6) ?_
        clear HK
        (try simp only [Act.put, List.setIfInBounds_toArray, List.set_cons_zero, List.set_cons_succ])
        refine gOneL (i := 9) (by kernel_rfl) rfl (by rfl) (fun K hK => ?_)
        have HK := Lib.hid hK
        clear hK
        go_simp
        refine HK.out _ _ (HS6.out _ hgrow6) ?_
        clear HK
        (try simp only [Act.put, List.setIfInBounds_toArray, List.set_cons_zero, List.set_cons_succ])
        refine gOneL (i := 10) (by kernel_rfl) rfl (by rfl) (fun K hK => ?_)
        have HK := Lib.hid hK
        clear hK
        go_simp
        refine HK.out _ _ (HS7.out _ _ hgrow6) ?_
        clear HK e2 ef2
        refine wpAnyH_done (by kernel_rfl) ?_ _
        have HPS := Lib.hid ((HF6.out _ hgrow6).put (.slice (some ⟨g6, 0, none⟩) (n3 + 1) cap6))
        have HRS : Hid (RulsOwn B (w6.setCell ⟨pb, 2, none⟩ (.slice (some ⟨g6, 0, none⟩) (n3 + 1) cap6)) (.slice (some ⟨g6, 0, none⟩) (n3 + 1) cap6) (rs ++ [(k, tx, ex)])) := HPU.out _ _ _ hown6 hgrow6 hor6
        have HON : Hid (Only (fun k => k = pb ∨ B ≤ k) w (w6.setCell ⟨pb, 2, none⟩ (.slice (some ⟨g6, 0, none⟩) (n3 + 1) cap6))) := HOO.out _ _ hgrow6
        clear hown6 hgrow6 hor6 hlt6
        go_wp2_with fail
        go_end0
        exact ⟨HON.out, .inl ⟨(k, tx, ex), j, _, by rw [← HN3.out]; exact HE.out, rfl, HPS.out, HRS.out, hij, hjs, hbj⟩⟩
      · have HK := Lib.hid hK
        clear hK
        go_simp
        refine HK.out _ _ HSA.out ?_
        clear HK
        (try simp only [Act.put, List.setIfInBounds_toArray, List.set_cons_zero, List.set_cons_succ])
        refine gOneL (i := 4) (by kernel_rfl) rfl (by rfl) (fun K hK => ?_)
        have HK := Lib.hid hK
        clear hK
        have c2' := HC2.out
        go_simp
        refine HK.out _ _ HSA.out ?_
        clear HK
        (try simp only [Act.put, List.setIfInBounds_toArray, List.set_cons_zero, List.set_cons_succ])
        refine gOneL (i := 7) (by kernel_rfl) rfl (by rfl) (fun K hK => ?_)
        have HK := Lib.hid hK
        clear hK
        refine Go.wp_append_lies _ (.tmp 73) (.tmp 75) 22 rfl B 47 i0 (.agg #[.int .i64 0, .slice none 0 0, .slice none 0 0]) 3 56 Tryz.underlying22 hti hz0 hz1 hz2 rfl (by decide) (.slice p3 n3 cap3) n3 (flatR cs) rfl HROW.out ⟨wc.heap.size, 0, none⟩ 1 1 [.int .i64 k, .slice tp tl tcap, .slice xp xl xcap] rfl rfl HNW.out (by simp [Value.oneCell']) (by decide) (by unfold maxLen; omega) (by omega) HBZ.out _ rfl ?_
        intro g6 cap6 w6 hown6 hgrow6 hor6 hlt6
        obtain ⟨_, _, e2, ef, _⟩ := (HF6.out _ hgrow6).cells
        have ef2 := ef 2
        refine HK.out _ _ (HS6.out _ hgrow6) ?_
        clear HK ef
        (try simp only [Act.put, List.setIfInBounds_toArray, List.set_cons_zero, List.set_cons_succ])
        refine gOneL (i := 8) (by kernel_rfl) rfl (by rfl) (fun K hK => ?_)
        have HK := Lib.hid hK
        clear hK
        go_simp
        refine HK.out _ _ (HS6.out _ hgrow6) ?_
        clear HK
        (try simp only [Act.put, List.setIfInBounds_toArray, List.set_cons_zero, List.set_cons_succ])
        refine gOneL (i := 9) (by kernel_rfl) rfl (by rfl) (fun K hK => ?_)
        have HK := Lib.hid hK
        clear hK
        go_simp
        refine HK.out _ _ (HS6.out _ hgrow6) ?_
        clear HK
        (try simp only [Act.put, List.setIfInBounds_toArray, List.set_cons_zero, List.set_cons_succ])
        refine gOneL (i := 10) (by kernel_rfl) rfl (by rfl) (fun K hK => ?_)
        have HK := Lib.hid hK
        clear hK
        go_simp
        refine HK.out _ _ (HS7.out _ _ hgrow6) ?_
        clear HK e2 ef2
        refine wpAnyH_done (by kernel_rfl) ?_ _
        have HPS := Lib.hid ((HF6.out _ hgrow6).put (.slice (some ⟨g6, 0, none⟩) (n3 + 1) cap6))
        have HRS : Hid (RulsOwn B (w6.setCell ⟨pb, 2, none⟩ (.slice (some ⟨g6, 0, none⟩) (n3 + 1) cap6)) (.slice (some ⟨g6, 0, none⟩) (n3 + 1) cap6) (rs ++ [(k, tx, ex)])) := HPU.out _ _ _ hown6 hgrow6 hor6
        have HON : Hid (Only (fun k => k = pb ∨ B ≤ k) w (w6.setCell ⟨pb, 2, none⟩ (.slice (some ⟨g6, 0, none⟩) (n3 + 1) cap6))) := HOO.out _ _ hgrow6
        clear hown6 hgrow6 hor6 hlt6
        go_wp2_with fail
        go_end0
        exact ⟨HON.out, .inl ⟨(k, tx, ex), j, _, by rw [← HN3.out]; exact HE.out, rfl, HPS.out, HRS.out, hij, hjs, hbj⟩⟩
    · have HE : Hid (ruleT s i n3 = .inr (a, 100)) := by
        show _ = _
        rw [HRT.out, htx]
      exact ⟨rfl, (HO2.out.trans ho3).mono (fun k hk => .inl hk), .inr ⟨a, 100, by rw [← HN3.out]; exact HE.out, rfl⟩⟩
  · have hlz : decide ((n3 : Int) < 2000) = false := decide_eq_false (by omega)
    have HE : Hid (ruleT s i n3 = .inr (i, 2)) := by
      show _ = _
      rw [HRT.out, if_neg hlen]
    clear HRT
    go_wp2_with (go_at_call 57; refine (must_no _ _ _).mono ?_; rintro e w' ⟨rfl, h5⟩)
    have ho2 : Only (fun k => k = pb) w1 w' := by rw [← h5]; exact (Only.refl _ w1).alloc _
    exact ⟨rfl, (HO1.out.trans ho2).mono (fun k hk => .inl hk), .inr ⟨i, 2, by rw [← HN3.out]; exact HE.out, rfl⟩⟩
end Go.Proofs.YtchjjfjjcdjjcaaGreatDoor
/-! guarded of package tailor: what was thrown is answered. -/
namespace Go.Proofs.YtchjjfjjcdjjcaaGreatDoor
open Go.RowKit
open PlainAid (bt)

def chainRT (a z : Int) : List PanicEntry := [{ v := .iface 102 (.agg #[.int .i64 a, .int .i64 z]), recovered := true }]
set_option maxHeartbeats 1000000 in
set_option maxRecDepth 100000 in
theorem tcatch_panic (B : Nat) (a z x y : Int) (w : World) (h1 : w.cell? ⟨B, 0, none⟩ = some (.int .i64 x)) (h2 : w.cell? ⟨B + 1, 0, none⟩ = some (.int .i64 y)) (z1 : w.frozen? ⟨B, 0, none⟩ = false) (z2 : w.frozen? ⟨B + 1, 0, none⟩ = false)
    (l1 : B + 1 < w.heap.size) :
    CallsD Tryz.prog 54 #[.pointer (some ⟨B, 0, none⟩), .pointer (some ⟨B + 1, 0, none⟩)] (.panicking (chainT a z)) w fun e u' w' =>
      e = .returned (.tuple #[]) ∧ u' = .panicking (chainRT a z) ∧ Only (fun k => k = B ∨ k = B + 1) w w' ∧ w'.cell? ⟨B, 0, none⟩ = some (.int .i64 a) ∧ w'.cell? ⟨B + 1, 0, none⟩ = some (.int .i64 z) := by
  have hta : ∀ w, (Instr.typeAssert (.iface 102 (.agg #[.int .i64 a, .int .i64 z])) 20 102 false).run Tryz.prog w = .ok (.agg #[.int .i64 a, .int .i64 z]) w := fun _ => by kernel_rfl
  refine callsD_of_wpS Tryz.func54 rfl fun c₀ cs hu => ?_
  apply wpS_seq
  apply wpS_region
  unfold chainT at hu
  simp [wpOpsS, go_sem, recoverD, hu, Tryz.ntmps54, Exit.thenS]
  refine wpS_of_wp ?_
  simp only [List.size_toArray, List.length_cons, List.length_nil, Nat.reduceAdd, Nat.reduceSub, Array.replicate_succ, Array.replicate_zero, List.push_toArray, List.append_toArray, List.nil_append, List.cons_append, List.setIfInBounds_toArray, List.set_cons_zero, List.set_cons_succ]
  have l0 : B < w.heap.size := by omega
  have n1 : ¬ B + 1 = w.heap.size := by omega
  have n0 : ¬ B = w.heap.size := by omega
  go_wp2
  go_region
  refine ⟨rfl, .panicking (chainRT a z), rfl, .tuple #[], results_none rfl _ _ _, rfl, rfl, ?_, ?_, ?_⟩
  · exact ((((Only.refl _ w).setCell (p := ⟨B, 0, none⟩) (.inl rfl) _).setCell (p := ⟨B + 1, 0, none⟩) (.inr rfl) _).alloc _).drew
  · simp [go_sem, h1, l0]
  · simp [go_sem, h2, l1]

set_option maxHeartbeats 1000000 in
set_option maxRecDepth 100000 in
theorem tcatch_idle (B : Nat) (w : World) :
    CallsD Tryz.prog 54 #[.pointer (some ⟨B, 0, none⟩), .pointer (some ⟨B + 1, 0, none⟩)] .returning w fun e u' w' => e = .returned (.tuple #[]) ∧ u' = .returning ∧ w' = w := by
  refine callsD_of_wpS Tryz.func54 rfl fun c₀ cs hu => ?_
  apply wpS_seq
  apply wpS_region
  simp [wpOpsS, go_sem, recoverD, hu, Tryz.ntmps54, Exit.thenS]
  refine wpS_of_wp ?_
  simp only [List.size_toArray, List.length_cons, List.length_nil, Nat.reduceAdd, Nat.reduceSub, Array.replicate_succ, Array.replicate_zero, List.push_toArray, List.append_toArray, List.nil_append, List.cons_append, List.setIfInBounds_toArray, List.set_cons_zero, List.set_cons_succ]
  go_wp2
  refine ⟨rfl, .returning, ?_, .tuple #[], results_none rfl _ _ _, rfl, rfl, rfl⟩
  cases c₀
  simp_all

set_option maxHeartbeats 1000000 in
set_option maxRecDepth 100000 in
/-- what is called is g with what it has captured; R: how it ends -/
theorem tguarded_any (g : Nat) (lb : Array Value) (R : Ending → World → Prop) (w : World) (eg : ∀ args w, (callFunc g args).run Tryz.prog w = .ok (.enter g args) w)
    (hf : Calls Tryz.prog g lb ((w.alloc (.cells #[.int .i64 0] 3)).alloc (.cells #[.int .i64 0] 26)) R)
    (hR : ∀ e w', R e w' → (e = .returned (.tuple #[]) ∨ ∃ a z, e = .panicked (chainT a z)) ∧ w.heap.size + 1 < w'.heap.size ∧ w'.cell? ⟨w.heap.size, 0, none⟩ = some (.int .i64 0) ∧ w'.cell? ⟨w.heap.size + 1, 0, none⟩ = some (.int .i64 0) ∧
      w'.frozen? ⟨w.heap.size, 0, none⟩ = false ∧ w'.frozen? ⟨w.heap.size + 1, 0, none⟩ = false) :
    Calls Tryz.prog 29 #[.func (.func g) #[] lb] w fun e w' => ∃ e1 w1, R e1 w1 ∧ Only (fun k => k = w.heap.size ∨ k = w.heap.size + 1) w1 w' ∧
      ((e1 = .returned (.tuple #[]) ∧ e = .returned (.tuple #[.int .i64 0, .int .i64 0])) ∨ (∃ a z : Int, e1 = .panicked (chainT a z) ∧ e = .returned (.tuple #[.int .i64 a, .int .i64 z]))) := by
  have hmf : ∀ (fn : Fn) (first cap : Array Value) (w : World), (Instr.makeFunc fn first cap).run Tryz.prog w = .ok (.func fn first cap) w := fun _ _ _ _ => rfl
  go_enter_defers Tryz.func29, Tryz.ntmps29
  go_wp2_with fail
  refine hf.mono ?_
  rintro e1 w1 hr
  obtain ⟨he, hz, c0, c1, f0, f1⟩ := hR _ _ hr
  have HR := Lib.hid hr
  clear hr hf hR
  rcases he with rfl | ⟨a, z, rfl⟩
  · go_wp2
    refine leaves_cons (f := 54) (args := #[.pointer (some ⟨w.heap.size, 0, none⟩), .pointer (some ⟨w.heap.size + 1, 0, none⟩)]) (by simp) (by simp [go_sem]) ?_
    refine (tcatch_idle w.heap.size _).mono ?_
    rintro e u' w'' ⟨rfl, rfl, rfl⟩
    refine ⟨.tuple #[.int .i64 0, .int .i64 0], by simp [results, Tryz.results29, go_sem, c0, c1], ?_⟩
    exact ⟨_, w1, HR.out, ((Only.refl _ w1).setCell (p := ⟨w.heap.size, 0, none⟩) (.inl rfl) _).setCell (p := ⟨w.heap.size + 1, 0, none⟩) (.inr rfl) _, .inl ⟨rfl, rfl⟩⟩
  · go_wp2
    refine leaves_cons (f := 54) (args := #[.pointer (some ⟨w.heap.size, 0, none⟩), .pointer (some ⟨w.heap.size + 1, 0, none⟩)]) (by simp) (by simp [go_sem]) ?_
    refine (tcatch_panic w.heap.size a z 0 0 w1 c0 c1 f0 f1 hz).mono ?_
    rintro e u' w2 ⟨rfl, rfl, ho, d0, d1⟩
    refine ⟨.tuple #[.int .i64 a, .int .i64 z], by simp [results, Tryz.results29, go_sem, d0, d1], ?_⟩
    exact ⟨_, w1, HR.out, ho, .inr ⟨a, z, rfl, rfl⟩⟩
end Go.Proofs.YtchjjfjjcdjjcaaGreatDoor
/-! Package tailor: Parse: the walk. -/
namespace Go.Proofs.YtchjjfjjcdjjcaaGreatDoor
open Go.RowKit
open PlainAid (bt)

/-- rules that only are read -/
def RulsIn (R : Nat → Prop) (w : World) (v : Value) (rs : List Rul) : Prop :=
  ∃ p cap, v = .slice p rs.length cap ∧ ∀ (i : Nat) (r : Rul), rs[i]? = some r → ∃ b o t x, p = some ⟨b, o, none⟩ ∧ R b ∧ b < w.heap.size ∧ w.cell? ⟨b, o + i * 3, none⟩ = some (.int .i64 r.1) ∧ w.cell? ⟨b, o + i * 3 + 1, none⟩ = some t ∧ w.cell? ⟨b, o + i * 3 + 2, none⟩ = some x ∧
    IntsIn R .i32 w t r.2.1 ∧ IntsIn R .i32 w x r.2.2
theorem RulsIn.nil (R : Nat → Prop) (w : World) : RulsIn R w (.slice none 0 0) [] := ⟨none, 0, rfl, fun i r h => by simp at h⟩
theorem RulsIn.kept {R : Nat → Prop} {w w' : World} {v : Value} {rs : List Rul} (h : RulsIn R w v rs) (hb : Kept R w w') : RulsIn R w' v rs := by
  obtain ⟨p, cap, h1, h2⟩ := h
  refine ⟨p, cap, h1, fun i r hr => ?_⟩
  obtain ⟨b, o, t, x, e1, e2, e3, e4, e5, e6, e7, e8⟩ := h2 i r hr
  have hbb := hb.2 b e2 e3
  exact ⟨b, o, t, x, e1, e2, Nat.lt_of_lt_of_le e3 hb.1, by rw [World.cell?_of_block (w := w) (a := ⟨b, o + i * 3, none⟩) hbb]; exact e4, by rw [World.cell?_of_block (w := w) (a := ⟨b, o + i * 3 + 1, none⟩) hbb]; exact e5,
    by rw [World.cell?_of_block (w := w) (a := ⟨b, o + i * 3 + 2, none⟩) hbb]; exact e6, e7.kept hb, e8.kept hb⟩
theorem RulsIn.mono {R S : Nat → Prop} {w : World} {v : Value} {rs : List Rul} (h : RulsIn R w v rs) (hm : ∀ b, R b → b < w.heap.size → S b) : RulsIn S w v rs := by
  obtain ⟨p, cap, h1, h2⟩ := h
  refine ⟨p, cap, h1, fun i r hr => ?_⟩
  obtain ⟨b, o, t, x, e1, e2, e3, e4, e5, e6, e7, e8⟩ := h2 i r hr
  exact ⟨b, o, t, x, e1, hm b e2 e3, e3, e4, e5, e6, e7.mono hm, e8.mono hm⟩
theorem RulsOwn.ruls {B : Nat} {W : World} {lv : Value} {rs : List Rul} (h : RulsOwn B W lv rs) : RulsIn (fun b => B ≤ b) W lv rs := by
  obtain ⟨cs, h1, h2, h3⟩ := h
  have h3' := h3
  rcases h3.2 with ⟨rfl, h0⟩ | ⟨g, cap, cur, rfl, hg, hr, hx1, hx2, hx⟩
  · obtain rfl := List.eq_nil_of_length_eq_zero h0; exact .nil _ _
  · refine ⟨some ⟨g, 0, none⟩, cap, rfl, fun i r hi => ?_⟩
    have hil : i < rs.length := (List.getElem?_eq_some_iff.1 hi).1
    obtain ⟨c, hc⟩ : ∃ c, cs[i]? = some c := ⟨cs[i]'(by omega), List.getElem?_eq_getElem _⟩
    obtain ⟨a1, a2, a3⟩ := h2 i r c hi hc
    obtain ⟨f1, f2, f3⟩ := flatR_at cs i c hc
    have hl := flatR_len cs
    have k1 := h3'.cellAt (i * 3) (by omega)
    have k2 := h3'.cellAt (i * 3 + 1) (by omega)
    have k3 := h3'.cellAt (i * 3 + 2) (by omega)
    rw [f1] at k1; rw [f2] at k2; rw [f3] at k3
    refine ⟨g, 0, c.2.1, c.2.2, rfl, hg, (Array.getElem?_eq_some_iff.1 hr).1, by rw [Nat.zero_add, k1, a1], by rw [Nat.zero_add]; exact k2, by rw [Nat.zero_add]; exact k3, a2.mono (fun b hb _ => hb.1), a3.mono (fun b hb _ => hb.1)⟩
/-- how the parser's own function ends -/
def ParEnd (s : ByteArray) (pb B : Nat) (w : World) (e : Ending) (w' : World) : Prop :=
  Only (fun k => k = pb ∨ B ≤ k) w w' ∧
    ((∃ rs j lv, parseF s (s.size - skipT s 0) (skipT s 0) [] = .inl rs ∧ e = .returned (.tuple #[]) ∧ PsAt w' pb s j lv ∧ RulsOwn B w' lv rs) ∨
      (∃ (a : Nat) (x : Int), parseF s (s.size - skipT s 0) (skipT s 0) [] = .inr (a, x) ∧ e = .panicked (chainT a x)))
set_option maxHeartbeats 4000000 in
set_option maxRecDepth 100000 in
theorem parse1_any (s : ByteArray) (pb ppb sb : Nat) (w : World) (h : PsAt w pb s 0 (.slice none 0 0)) (hq : w.cell? ⟨ppb, 0, none⟩ = some (.pointer (some ⟨pb, 0, none⟩))) (hsb : w.cell? ⟨sb, 0, none⟩ = some (.string s))
    (hne : ppb ≠ pb ∧ sb ≠ pb) (hs : s.size ≤ 1000000) (hb : BD s 0 = none) :
    Calls Tryz.prog 30 #[.pointer (some ⟨ppb, 0, none⟩), .pointer (some ⟨sb, 0, none⟩)] w (ParEnd s pb w.heap.size w) := by
  have hpl := h.cells.2.2.2.2
  have hql : ppb < w.heap.size := World.block_lt_of_cell? w _ hq
  have hsl : sb < w.heap.size := World.block_lt_of_cell? w _ hsb
  have HP := Lib.hid h
  have hbk := skip_bd (Nat.zero_le _) hb
  have HSK := Lib.hid (skip_any s pb 0 (.slice none 0 0) w h (Nat.zero_le _) hs)
  have HCE : Hid (∀ W, Only (fun k => k = pb ∨ w.heap.size ≤ k) w W → W.cell? ⟨ppb, 0, none⟩ = some (.pointer (some ⟨pb, 0, none⟩)) ∧ W.cell? ⟨sb, 0, none⟩ = some (.string s)) := fun W ho =>
    ⟨(World.cell?_of_block (a := ⟨ppb, 0, none⟩) (ho.block ppb hql (fun e => by omega))).trans hq, (World.cell?_of_block (a := ⟨sb, 0, none⟩) (ho.block sb hsl (fun e => by omega))).trans hsb⟩
  clear h
  go_enter Tryz.func30, Tryz.ntmps30
  go_wp2_with fail
  refine HSK.out.mono ?_
  clear HSK
  rintro e w1 ⟨rfl, hp1, hi1, ho1⟩
  have hpe : ∃ K, parseF s (s.size - skipT s 0) (skipT s 0) [] = K := ⟨_, rfl⟩
  have HPE : Hid (ParEnd s pb w.heap.size w = fun e w' => Only (fun k => k = pb ∨ w.heap.size ≤ k) w w' ∧
    ((∃ rs j lv, parseF s (s.size - skipT s 0) (skipT s 0) [] = .inl rs ∧ e = .returned (.tuple #[]) ∧ PsAt w' pb s j lv ∧ RulsOwn w.heap.size w' lv rs) ∨
      (∃ (a : Nat) (x : Int), parseF s (s.size - skipT s 0) (skipT s 0) [] = .inr (a, x) ∧ e = .panicked (chainT a x)))) := rfl
  generalize skipT s 0 = i1 at *
  have HP1 := Lib.hid hp1
  have HO1 : Hid (Only (fun k => k = pb ∨ w.heap.size ≤ k) w w1) := ho1.mono fun _ e => .inl e
  clear hp1 ho1 hpe HP
  go_wp2_with fail
  go_loopg [] (s.size - i1) (fun g wr => ∃ (j : Nat) (lv : Value) (rs : List Rul), PsAt wr pb s j lv ∧ RulsOwn w.heap.size wr lv rs ∧ Only (fun k => k = pb ∨ w.heap.size ≤ k) w wr ∧ j ≤ s.size ∧ s.size - j ≤ g ∧ BD s j = none ∧ parseF s g j rs = parseF s (s.size - i1) i1 [] ∧ rs.length ≤ j)
  case atStart => exact ⟨i1, _, [], HP1.out, .nil _ _, HO1.out, hi1, Nat.le_refl _, hbk, rfl, Nat.zero_le _⟩
  case round =>
    obtain ⟨j, lv, rs, hp, hr, ho, hj, hjg, hbj, hF, hrl⟩ := hrel
    obtain ⟨d0, d1⟩ := HCE.out wr ho
    obtain ⟨c0, c1, c2, _, cpl⟩ := hp.cells
    have HP2 := Lib.hid hp
    have HR2 := Lib.hid hr
    have HO2 := Lib.hid ho
    have HF := Lib.hid hF
    clear hp hr ho hF HP1 HO1
    by_cases hlt : j < s.size
    · have hlt' : decide (j < s.size) = true := decide_eq_true hlt
      have hlz : decide ((j : Int) < (s.size : Int)) = true := decide_eq_true (by omega)
      obtain ⟨g, rfl⟩ : ∃ g, gk = g + 1 := ⟨gk - 1, by omega⟩
      have HEQ : Hid (parseF s (g + 1) j rs = (match ruleT s j rs.length with | .inr e => .inr e | .inl x => parseF s g x.2 (rs ++ [x.1]))) := by
        show _ = _
        rw [parseF, if_pos hlt]; rfl
      go_wp2_with fail
      go_quiet (fail)
      go_wp2_with fail
      have hps := HP2.out.drewN
      have hrs : ∀ n, RulsOwn w.heap.size (wr.drewN n) lv rs := fun n => HR2.out.only (by omega) (only_drewN (Only.refl _ _) n)
      refine (rule_any s pb w.heap.size j lv rs _ (hps _) (hrs _) hpl HO2.out.size hlt hs hbj (by omega)).mono ?_
      clear hps hrs
      rintro e w3 ⟨ho3, ⟨x, j2, lv2, hx, rfl, hp3, hr3, hlt3, hle3, hb3⟩ | ⟨a, x, hx, rfl⟩⟩
      · have HEF : Hid (parseF s g j2 (rs ++ [x]) = parseF s (s.size - i1) i1 []) := by
          show _ = _
          rw [← HF.out, HEQ.out, hx]
        have HON : Hid (Only (fun k => k = pb ∨ w.heap.size ≤ k) w w3) := HO2.out.trans ((only_drewN (Only.refl _ _) _).trans ho3)
        have HPN := Lib.hid hp3
        have HRN := Lib.hid hr3
        clear hx ho3 hp3 hr3 HEQ HF
        go_wp2_with fail
        go_roundg g
        case measure => omega
        case rel => exact ⟨j2, lv2, rs ++ [x], HPN.out, HRN.out, HON.out, hle3, by omega, hb3, HEF.out, by simp; omega⟩
      · refine ⟨rfl, ?_⟩
        rw [HPE.out]
        refine ⟨HO2.out.trans ((only_drewN (Only.refl _ _) _).trans ho3), .inr ⟨a, x, ?_, rfl⟩⟩
        rw [← HF.out, HEQ.out, hx]
    · have hlt' : decide (j < s.size) = false := decide_eq_false hlt
      have hlz : decide ((j : Int) < (s.size : Int)) = false := decide_eq_false (by omega)
      have HFIN : Hid (parseF s (s.size - i1) i1 [] = .inl rs) := by
        show _ = _
        rw [← HF.out]
        cases gk with
        | zero => rfl
        | succ n => rw [parseF, if_neg hlt]
      have hps := HP2.out.drewN
      have hrs : ∀ n, RulsOwn w.heap.size (wr.drewN n) lv rs := fun n => HR2.out.only (by omega) (only_drewN (Only.refl _ _) n)
      have HPN := Lib.hid hps
      have HRN := Lib.hid hrs
      clear hps hrs
      go_wp2_with fail
      go_quiet (fail)
      go_wp2_with fail
      go_end0
      rw [HPE.out]
      exact ⟨HO2.out.trans (only_drewN (Only.refl _ _) _), .inl ⟨rs, j, lv, HFIN.out, rfl, HPN.out _, HRN.out _⟩⟩
end Go.Proofs.YtchjjfjjcdjjcaaGreatDoor
/-! Package tailor: Parse: what it answers. -/
namespace Go.Proofs.YtchjjfjjcdjjcaaGreatDoor
open Go.RowKit
open PlainAid (bt)

def parV (s : ByteArray) : List Rul := match parseT s with | .inl l => l | .inr _ => []
def parA (s : ByteArray) : Int := match parseT s with | .inl _ => 0 | .inr e => e.1
def parE (s : ByteArray) : Int := match parseT s with | .inl _ => 0 | .inr e => e.2
theorem par_ok {s : ByteArray} {l : List Rul} (h : parseT s = .inl l) : parV s = l ∧ parA s = 0 ∧ parE s = 0 := by unfold parV parA parE; rw [h]; exact ⟨rfl, rfl, rfl⟩
theorem par_bad {s : ByteArray} {a : Nat} {x : Int} (h : parseT s = .inr (a, x)) : parV s = [] ∧ parA s = a ∧ parE s = x := by unfold parV parA parE; rw [h]; exact ⟨rfl, rfl, rfl⟩
theorem ruleT_err {s : ByteArray} {i n : Nat} {a : Nat} {x : Int} (h : ruleT s i n = .inr (a, x)) : x = 100 ∨ x = 2 := by
  unfold ruleT at h
  split at h
  · split at h
    · split at h
      · cases h; exact .inl rfl
      · split at h
        · split at h
          · cases h; exact .inl rfl
          · cases h
        · cases h
    · cases h; exact .inr rfl
  · cases h; exact .inl rfl
theorem parseF_err {s : ByteArray} : ∀ {n i : Nat} {l : List Rul} {a : Nat} {x : Int}, parseF s n i l = .inr (a, x) → x = 100 ∨ x = 2
  | 0, i, l, a, x, h => by rw [parseF] at h; cases h
  | n + 1, i, l, a, x, h => by
    rw [parseF] at h
    split at h
    · split at h
      · rename_i e he; cases h; exact ruleT_err he
      · exact parseF_err h
    · cases h
set_option maxHeartbeats 4000000 in
set_option maxRecDepth 100000 in
theorem parse_any (s : ByteArray) (w : World) (hs : s.size ≤ 65536) :
    Calls Tryz.prog 11 #[.string s] w fun e w' => ∃ lv, e = .returned (.tuple #[lv, .int .i64 (parA s), .int .i64 (parE s)]) ∧ RulsIn (fun b => w.heap.size ≤ b) w' lv (parV s) ∧ Below w.heap.size w w' := by
  have hmf : ∀ (fn : Fn) (first cap : Array Value) (w : World), (Instr.makeFunc fn first cap).run Tryz.prog w = .ok (.func fn first cap) w := fun _ _ _ _ => rfl
  have hsz : decide (65536 < s.size) = false := decide_eq_false (by omega)
  have HUC := Lib.hid (fun W => uCheck_any s W (by omega))
  cases hbd : BD s 0 with
  | some a =>
    have hv := bd_some hbd
    have hp : parseT s = .inr (a, 40) := by unfold parseT; rw [hbd]
    have HPB := Lib.hid (par_bad hp)
    rw [hv.1, hv.2] at HUC
    clear hv hp hbd
    go_enter Tryz.func11, Tryz.ntmps11
    go_wp2_with fail
    refine (HUC.out _).mono ?_
    rintro e w2 ⟨rfl, hb2⟩
    go_wp2_with fail
    go_ret3
    refine ⟨_, by rw [HPB.out.2.1, HPB.out.2.2]; rfl, by rw [HPB.out.1]; exact .nil _ _, ?_⟩
    exact ((Below.refl _ w).alloc (Nat.le_refl _) _).trans (hb2.mono (by simp))
  | none =>
    have hv := bd_none hbd
    have HPT : Hid (parseT s = parseF s (s.size - skipT s 0) (skipT s 0) []) := by show _ = _; unfold parseT; rw [hbd]
    rw [hv.1, hv.2] at HUC
    have HBD := Lib.hid hbd
    clear hv hbd
    go_enter Tryz.func11, Tryz.ntmps11
    go_wp2_with fail
    refine (HUC.out _).mono ?_
    rintro e w2 ⟨rfl, hb2⟩
    have hc2 : w2.cell? ⟨w.heap.size, 0, none⟩ = some (.string s) := by rw [hb2.cell (p := ⟨w.heap.size, 0, none⟩) (by simp)]; simp [go_sem]
    have HB2 : Hid (Below w.heap.size w w2) := ((Below.refl _ w).alloc (Nat.le_refl _) _).trans (hb2.mono (by simp))
    have hl2 : w.heap.size < w2.heap.size := by have := hb2.size; simp at this; omega
    clear hb2 HUC
    go_wp2_with fail
    have hb0 : Below w2.heap.size w2 ((w2.alloc (.cells #[.string s, .int .i64 0, .slice none 0 0] 76)).alloc (.cells #[.pointer (some ⟨w2.heap.size, 0, none⟩)] 74)) :=
      ((Below.refl _ w2).alloc (Nat.le_refl _) _).alloc (by simp) _
    have hps0 : PsAt ((w2.alloc (.cells #[.string s, .int .i64 0, .slice none 0 0] 76)).alloc (.cells #[.pointer (some ⟨w2.heap.size, 0, none⟩)] 74)) w2.heap.size s 0 (.slice none 0 0) := by
      unfold PsAt
      rw [Below.heap_alloc _ _ _ (by simp), World.alloc_heap_new]
      rfl
    have hpp0 : ((w2.alloc (.cells #[.string s, .int .i64 0, .slice none 0 0] 76)).alloc (.cells #[.pointer (some ⟨w2.heap.size, 0, none⟩)] 74)).cell? ⟨w2.heap.size + 1, 0, none⟩ = some (.pointer (some ⟨w2.heap.size, 0, none⟩)) := by simp [go_sem]
    have hsb0 := (hb0.cell (p := ⟨w.heap.size, 0, none⟩) hl2).trans hc2
    have hz0 : ((w2.alloc (.cells #[.string s, .int .i64 0, .slice none 0 0] 76)).alloc (.cells #[.pointer (some ⟨w2.heap.size, 0, none⟩)] 74)).heap.size = w2.heap.size + 1 + 1 := by simp
    generalize (w2.alloc (.cells #[.string s, .int .i64 0, .slice none 0 0] 76)).alloc (.cells #[.pointer (some ⟨w2.heap.size, 0, none⟩)] 74) = W0 at *
    have hbg : Below W0.heap.size W0 ((W0.alloc (.cells #[.int .i64 0] 3)).alloc (.cells #[.int .i64 0] 26)) := ((Below.refl _ W0).alloc (Nat.le_refl _) _).alloc (by simp) _
    have hg0 : ((W0.alloc (.cells #[.int .i64 0] 3)).alloc (.cells #[.int .i64 0] 26)).heap[W0.heap.size]? = some (.cells #[.int .i64 0] 3 (0, 0)) := by
      rw [Below.heap_alloc _ _ _ (by simp), World.alloc_heap_new]
    have hg1 : ((W0.alloc (.cells #[.int .i64 0] 3)).alloc (.cells #[.int .i64 0] 26)).heap[W0.heap.size + 1]? = some (.cells #[.int .i64 0] 26 (0, 0)) := by
      have := World.alloc_heap_new (W0.alloc (.cells #[.int .i64 0] 3)) (.cells #[.int .i64 0] 26)
      rw [World.size_alloc] at this; exact this
    have hgz : ((W0.alloc (.cells #[.int .i64 0] 3)).alloc (.cells #[.int .i64 0] 26)).heap.size = W0.heap.size + 2 := by simp
    have hcall := parse1_any s w2.heap.size (w2.heap.size + 1) w.heap.size ((W0.alloc (.cells #[.int .i64 0] 3)).alloc (.cells #[.int .i64 0] 26)) (hps0.below hbg) ((hbg.cell (p := ⟨w2.heap.size + 1, 0, none⟩) (by show w2.heap.size + 1 < _; omega)).trans hpp0) ((hbg.cell (p := ⟨w.heap.size, 0, none⟩) (by show w.heap.size < _; omega)).trans hsb0) (by omega) (by omega) HBD.out
    refine (tguarded_any 30 #[.pointer (some ⟨w2.heap.size + 1, 0, none⟩), .pointer (some ⟨w.heap.size, 0, none⟩)] _ W0 (enters_of Tryz.func30 (by kernel_rfl) rfl) hcall ?_).mono ?_
    · intro e w' ⟨ho, hend⟩
      rw [hgz] at ho
      have k0 := ho.block W0.heap.size (by omega) (by omega)
      have k1 := ho.block (W0.heap.size + 1) (by omega) (by omega)
      rw [hg0] at k0
      rw [hg1] at k1
      have hz := ho.size
      refine ⟨?_, by omega, by simp [World.cell?, k0], by simp [World.cell?, k1], by simp [World.frozen?, k0], by simp [World.frozen?, k1]⟩
      rcases hend with ⟨_, _, _, _, h, _⟩ | ⟨a, x, _, h⟩
      · exact .inl h
      · exact .inr ⟨_, _, h⟩
    · rintro e w' ⟨e1, w1, ⟨ho, hend⟩, ho1, hq⟩
      rw [hgz] at ho
      have HON : Hid (Below w.heap.size w w') := by
        have b1 : Below w.heap.size w W0 := HB2.out.trans (hb0.mono HB2.out.size)
        have b2 := b1.trans (hbg.mono b1.size)
        have b3 := Only.toBelow b2 (by omega) ho (fun i hi => by have := HB2.out.size; omega)
        exact Only.toBelow b3 (by have := b3.size; omega) ho1 (fun i hi => by have := HB2.out.size; omega)
      have hz1 := ho.size
      have hz2 := ho1.size
      rcases hend with ⟨rs, j, lv, hF, he, hps, hrs⟩ | ⟨a, x, hF, he⟩
      · rcases hq with ⟨_, rfl⟩ | ⟨a, z, h1, _⟩
        · have HPV := Lib.hid (par_ok (HPT.out.trans hF))
          have hps' : PsAt w' w2.heap.size s j lv := hps.only ho1 (by omega)
          have hrl := hrs.ruls
          rw [hgz] at hrl
          have HRL : Hid (RulsIn (fun b => w.heap.size ≤ b) w' lv rs) := (hrl.kept (Kept.only ho1 (fun b hb hs => by omega))).mono (fun b hb _ => by omega)
          have hpb' : w'.cell? ⟨w2.heap.size + 1, 0, none⟩ = some (.pointer (some ⟨w2.heap.size, 0, none⟩)) := by
            have i1 := hbg.block (w2.heap.size + 1) (by omega)
            have i2 := ho.block (w2.heap.size + 1) (by omega) (by omega)
            have i3 := ho1.block (w2.heap.size + 1) (by omega) (by omega)
            rw [World.cell?_of_block (a := ⟨w2.heap.size + 1, 0, none⟩) (i3.trans (i2.trans i1))]; exact hpp0
          obtain ⟨_, _, d2, _, dl⟩ := hps'.cells
          clear hF he hps hrs hps' hrl ho ho1 hcall hg0 hg1 hbg hb0 hps0 hpp0 hsb0
          go_wp2_with fail
          go_ret3
          exact ⟨_, by rw [HPV.out.2.1, HPV.out.2.2]; rfl, by rw [HPV.out.1]; exact HRL.out, HON.out⟩
        · rw [he] at h1; cases h1
      · rcases hq with ⟨h1, _⟩ | ⟨a', z, h1, rfl⟩
        · rw [he] at h1; cases h1
        · have HPV := Lib.hid (par_bad (HPT.out.trans hF))
          rw [he] at h1
          have haz : (a : Int) = a' ∧ x = z := by
            simp only [Ending.panicked.injEq, chainT, List.cons.injEq, PanicEntry.mk.injEq, Value.iface.injEq, Value.agg.injEq, Array.mk.injEq, Value.int.injEq] at h1
            exact ⟨h1.1.1.2.1.2, h1.1.1.2.2.1.2⟩
          obtain ⟨rfl, rfl⟩ := haz
          have hxx := parseF_err hF
          have hnz : (x == 0) = false := beq_eq_false_iff_ne.2 (by omega)
          clear hF he h1 ho ho1 hcall hg0 hg1 hbg hb0 hps0 hpp0 hsb0
          go_wp2_with fail
          go_ret3
          exact ⟨_, by rw [HPV.out.2.1, HPV.out.2.2]; rfl, by rw [HPV.out.1]; exact .nil _ _, HON.out⟩
end Go.Proofs.YtchjjfjjcdjjcaaGreatDoor
