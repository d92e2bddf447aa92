/- Package tailor: rules in memory. -/
import Derived.Test.YtchjjfjjcdjjcaaDoorGk
namespace Go.Proofs.YtchjjfjjcdjjcaaDoor
open Go.RowKit
open PlainAid (bt)

/-- the cells of a rule -/
def rCells (c : Int × Value × Value) : List Value := [.int .i64 c.1, c.2.1, c.2.2]
def flatR (cs : List (Int × Value × Value)) : List Value := cs.flatMap rCells
theorem flatR_len : ∀ cs : List (Int × Value × Value), (flatR cs).length = cs.length * 3
  | [] => rfl
  | c :: cs => by have := flatR_len cs; unfold flatR at *; simp only [List.flatMap_cons, List.length_append, List.length_cons, this, rCells, List.length_nil]; omega
theorem flatR_snoc (cs : List (Int × Value × Value)) (c : Int × Value × Value) : flatR (cs ++ [c]) = flatR cs ++ rCells c := by unfold flatR; simp
theorem flatR_at : ∀ (cs : List (Int × Value × Value)) (i : Nat) (c : Int × Value × Value), cs[i]? = some c → (flatR cs)[i * 3]? = some (.int .i64 c.1) ∧ (flatR cs)[i * 3 + 1]? = some c.2.1 ∧ (flatR cs)[i * 3 + 2]? = some c.2.2
  | [], i, c, h => by simp at h
  | d :: cs, 0, c, h => by simp at h; subst h; exact ⟨rfl, rfl, rfl⟩
  | d :: cs, i + 1, c, h => by
    have := flatR_at cs i c (by simpa using h)
    have e : flatR (d :: cs) = rCells d ++ flatR cs := rfl
    rw [e]
    have hl : (rCells d).length = 3 := rfl
    refine ⟨?_, ?_, ?_⟩
    · rw [List.getElem?_append_right (by omega), hl, show (i + 1) * 3 - 3 = i * 3 by omega]; exact this.1
    · rw [List.getElem?_append_right (by omega), hl, show (i + 1) * 3 + 1 - 3 = i * 3 + 1 by omega]; exact this.2.1
    · rw [List.getElem?_append_right (by omega), hl, show (i + 1) * 3 + 2 - 3 = i * 3 + 2 by omega]; exact this.2.2
/-- rules of our own, in blocks from one on -/
def RulsOwn (B : Nat) (W : World) (lv : Value) (rs : List Rul) : Prop :=
  ∃ cs : List (Int × Value × Value), cs.length = rs.length ∧ (∀ (i : Nat) (r : Rul) c, rs[i]? = some r → cs[i]? = some c → c.1 = r.1 ∧
    IntsIn (fun b => B ≤ b ∧ lv.ownBlock ≠ some b) .i32 W c.2.1 r.2.1 ∧ IntsIn (fun b => B ≤ b ∧ lv.ownBlock ≠ some b) .i32 W c.2.2 r.2.2) ∧
    W.ownsRow B 62 3 lv rs.length (flatR cs)
theorem RulsOwn.nil (B : Nat) (W : World) : RulsOwn B W (.slice none 0 0) [] := ⟨[], rfl, fun i r c h => by simp at h, World.ownsRow_nil _ _ _ _⟩
theorem RulsOwn.only {B pb : Nat} {w W : World} {lv : Value} {rs : List Rul} (h : RulsOwn B w lv rs) (hp : pb < B) (ho : Only (fun k => k = pb ∨ w.heap.size ≤ k) w W) : RulsOwn B W lv rs := by
  obtain ⟨cs, h1, h2, h3⟩ := h
  have hk : Kept (fun b => B ≤ b ∧ lv.ownBlock ≠ some b) w W := ⟨ho.size, fun b hb hl => ho.block b hl (fun e => by rcases e with e | e <;> omega)⟩
  refine ⟨cs, h1, fun i r c hr hc => ?_, gBlock h3 (fun j hj hl => ho.block j hl (fun e => by have := ownBlock_ge h3 hj; rcases e with e | e <;> omega))⟩
  obtain ⟨a1, a2, a3⟩ := h2 i r c hr hc
  exact ⟨a1, a2.kept hk, a3.kept hk⟩
theorem RulsOwn.form {B : Nat} {W : World} {lv : Value} {rs : List Rul} (h : RulsOwn B W lv rs) : ∃ p cap, lv = .slice p rs.length cap := by
  obtain ⟨cs, _, _, h3⟩ := h
  rcases h3.2 with ⟨rfl, h0⟩ | ⟨g, cap, cur, rfl, _⟩
  · exact ⟨none, 0, by rw [h0]⟩
  · exact ⟨_, _, rfl⟩
/-- a rule is put behind -/
theorem RulsOwn.push {B : Nat} {W W' : World} {lv lv' tv xv : Value} {rs : List Rul} {cs : List (Int × Value × Value)} {k : Int} {tx ex : List Int}
    (hcs : cs.length = rs.length)
    (hin : ∀ (i : Nat) (r : Rul) c, rs[i]? = some r → cs[i]? = some c → c.1 = r.1 ∧ IntsIn (fun b => B ≤ b ∧ lv.ownBlock ≠ some b) .i32 W c.2.1 r.2.1 ∧ IntsIn (fun b => B ≤ b ∧ lv.ownBlock ≠ some b) .i32 W c.2.2 r.2.2)
    (ht : IntsIn (fun b => B ≤ b ∧ lv.ownBlock ≠ some b) .i32 W tv tx) (hx : IntsIn (fun b => B ≤ b ∧ lv.ownBlock ≠ some b) .i32 W xv ex)
    (hrow : W'.ownsRow B 62 3 lv' (rs.length + 1) (flatR cs ++ [.int .i64 k, tv, xv])) (hg : W.grownBy W' lv.ownBlock)
    (how : lv'.ownBlock = lv.ownBlock ∨ ∃ n, W.heap.size ≤ n ∧ lv'.ownBlock = some n) : RulsOwn B W' lv' (rs ++ [(k, tx, ex)]) := by
  have hk : Kept (fun b => B ≤ b ∧ lv.ownBlock ≠ some b) W W' := ⟨hg.size, fun b hb hl => hg.block b hl (fun e => hb.2 e.symm)⟩
  have hm : ∀ (u : Value) (xs : List Int), IntsIn (fun b => B ≤ b ∧ lv.ownBlock ≠ some b) .i32 W u xs → IntsIn (fun b => B ≤ b ∧ lv'.ownBlock ≠ some b) .i32 W' u xs := fun u xs h =>
    (h.mono (S := fun b => B ≤ b ∧ lv.ownBlock ≠ some b ∧ lv'.ownBlock ≠ some b) (fun b hb hl => ⟨hb.1, hb.2, fun e => by
      rcases how with e' | ⟨n, hn, e'⟩
      · rw [e'] at e; exact hb.2 e
      · rw [e'] at e; cases e; omega⟩)).kept ⟨hk.1, fun b hb hl => hk.2 b ⟨hb.1, hb.2.1⟩ hl⟩ |>.mono (fun b hb _ => ⟨hb.1, hb.2.2⟩)
  refine ⟨cs ++ [(k, tv, xv)], by simp [hcs], fun i r c hr hc => ?_, by rw [flatR_snoc, List.length_append]; exact hrow⟩
  by_cases hi : i < rs.length
  · rw [List.getElem?_append_left hi] at hr
    rw [List.getElem?_append_left (by omega)] at hc
    obtain ⟨a1, a2, a3⟩ := hin i r c hr hc
    exact ⟨a1, hm _ _ a2, hm _ _ a3⟩
  · rw [List.getElem?_append_right (by omega)] at hr hc
    have hj : i - rs.length = 0 := by
      have := (List.getElem?_eq_some_iff.1 hr).1
      simp at this; omega
    rw [hj] at hr
    rw [hcs, hj] at hc
    simp at hr hc
    subst hr hc
    exact ⟨rfl, hm _ _ ht, hm _ _ hx⟩
theorem Only.mono {S S' : Nat → Prop} {a b : World} (h : Only S a b) (hs : ∀ k, S k → S' k) : Only S' a b := ⟨h.os, h.tape, h.output, h.size, fun k hk hn => h.block k hk (fun e => hn (hs k e))⟩
theorem Only.below2 {S : Nat → Prop} {a b c : World} {n : Nat} (h : Only S a b) (k : Below n b c) (hs : ∀ k, n ≤ k → S k) : Only S a c :=
  ⟨k.os.trans h.os, k.tape.trans h.tape, k.output.trans h.output, Nat.le_trans h.size k.size, fun i hi hn => (k.block i (Nat.lt_of_not_le fun hle => hn (hs i hle))).trans (h.block i hi hn)⟩
theorem lts_ascii (s : ByteArray) : ∀ (n e k : Nat), e ≤ k → k < ltsF s n e → bt s k < 128
  | 0, e, k, h1, h2 => by rw [ltsF] at h2; omega
  | n + 1, e, k, h1, h2 => by
    rw [ltsF] at h2
    split at h2
    · rename_i hc
      by_cases he : k = e
      · subst he; omega
      · exact lts_ascii s n (e + 1) k (by omega) h2
    · omega
/-- behind a sign that may stand, a form begins -/
theorem sign_bd {s : ByteArray} {i : Nat} {reset : Bool} (hi : i < s.size) (hb : BD s i = none) (h : sgnOk s i reset = true) : i < endS s i ∧ endS s i ≤ s.size ∧ BD s (endS s i) = none := by
  have hle := endS_le s i (Nat.le_of_lt hi)
  have hlt : i < endS s i := by
    have := ltsF_le s 3 i (Nat.le_of_lt hi)
    unfold endS
    split
    · omega
    · rename_i hc; have : ltsF s 3 i ≠ i := fun e => hc ⟨e, hi⟩; omega
  refine ⟨hlt, hle.2.1, ?_⟩
  have hasc : ∀ k, k < endS s i - i → bt s (i + k) < 128 := by
    by_cases hc : ltsF s 3 i = i
    · have he : endS s i = i + 1 := by unfold endS; rw [if_pos ⟨hc, hi⟩]
      intro k hk
      have hk0 : k = 0 := by omega
      subst hk0
      rw [Nat.add_zero]
      unfold sgnOk sgnT at h
      rw [he] at h
      have h1 : (signK (s.extract i (i + 1)).data.toList).isSome = true := by
        simp only [Bool.and_eq_true] at h; exact h.1
      have h2 : (s.extract i (i + 1)).data.toList = [UInt8.ofNat (bt s i).toNat] := by
        have hl : (s.extract i (i + 1)).data.toList.length = 1 := by
          have := size_extract' s i (i + 1) hi (by omega)
          simp only [Array.length_toList]
          have e : (s.extract i (i + 1)).data.size = (s.extract i (i + 1)).size := rfl
          omega
        have h0 := bt_list (s.extract i (i + 1)) 0 (by rw [size_extract' s i (i + 1) hi (by omega)]; omega)
        rw [bt_extract s i (i + 1) 0 hi (by omega), Nat.add_zero, List.drop_zero] at h0
        obtain ⟨x, hx⟩ := List.length_eq_one_iff.1 hl
        rw [hx] at h0 ⊢
        simp at h0
        rw [h0]
      rw [h2] at h1
      have hb1 := PlainAid.bt_nonneg s i
      have hb2 := PlainAid.bt_le s i
      obtain ⟨n, hn⟩ : ∃ n : Nat, bt s i = n := ⟨(bt s i).toNat, by omega⟩
      rw [hn, Int.toNat_natCast] at h1
      have := List.all_eq_true.1 (show (List.range 256).all (fun n => !(signK [UInt8.ofNat n]).isSome || decide (n < 128)) = true by kernel_rfl) n (by simp; omega)
      rw [h1] at this
      simp at this
      omega
    · have he : endS s i = ltsF s 3 i := by unfold endS; rw [if_neg (fun hh => hc hh.1)]
      intro k hk
      exact lts_ascii s 3 i (i + k) (by omega) (by omega)
  have := bd_run hb (endS s i - i) (by omega) hasc
  rwa [show i + (endS s i - i) = endS s i by omega] at this
section
variable {P : Program}
/-- an operation taken first, looked up in the list -/
theorem gTakeL {md : Region.Mode} {Q : Exit → Act → World → Prop} {S : World → Prop} {os : List Oper} {i : Nat} {oi : Oper} {v : Value} {fuel : Nat} {listed : Array Bool} {a : Act} {w : World} (hi : os[i]? = some oi)
    (hs : Region.noSelect os.toArray = true) (hf : Region.free md os.toArray listed i = true) (hr : (Region.ready md os.toArray listed).contains i = true)
    (hQ : ∀ c a w, Q (.panic c) (a.put oi.dst v) w → Q (.panic c) a w) (hy : YieldsIf P os.toArray S oi v a) (hS : S w)
    (h : wpAnyH P md os.toArray Q S fuel (listed.setIfInBounds i true) (a.put oi.dst v) w) : wpAnyH P md os.toArray Q S (fuel + 1) listed a w :=
  wpAnyH_take (by simpa using hi) hs hf hr hQ hy hS h
/-- just one may come up -/
theorem gOneL {md : Region.Mode} {Q : Exit → Act → World → Prop} {S : World → Prop} {os : List Oper} {i : Nat} {o : Oper} {fuel : Nat} {listed : Array Bool} {a : Act} {w : World} (hr : Region.ready md os.toArray listed = [i]) (ho : os[i]? = some o) (hw : Region.wanted o (yielded os.toArray a.tmps) = true)
    (h : ∀ K' : Act → World → Prop, (∀ a w, S w → wpAnyH P md os.toArray Q S fuel (listed.setIfInBounds i true) a w → K' a w) → Oper.wp P o a w K' Q) : wpAnyH P md os.toArray Q S (fuel + 1) listed a w := by
  refine wpAnyH_ready hr (by simp) (AllReadyH.cons (by simpa using ho) (fun K hK => ?_) AllReadyH.nil)
  rw [if_pos hw]
  exact h K (fun a w h1 h2 => hK.out a w h1 (fun _ => h2))
/-- just two may come up -/
theorem gTwoL {md : Region.Mode} {Q : Exit → Act → World → Prop} {S : World → Prop} {os : List Oper} {i j : Nat} {o p : Oper} {fuel : Nat} {listed : Array Bool} {a : Act} {w : World} (hr : Region.ready md os.toArray listed = [i, j]) (ho : os[i]? = some o) (hp : os[j]? = some p) (hw : Region.wanted o (yielded os.toArray a.tmps) = true) (hw' : Region.wanted p (yielded os.toArray a.tmps) = true)
    (h : ∀ K' : Act → World → Prop, (∀ a w, S w → wpAnyH P md os.toArray Q S fuel (listed.setIfInBounds i true) a w → K' a w) → Oper.wp P o a w K' Q)
    (h' : ∀ K' : Act → World → Prop, (∀ a w, S w → wpAnyH P md os.toArray Q S fuel (listed.setIfInBounds j true) a w → K' a w) → Oper.wp P p a w K' Q) : wpAnyH P md os.toArray Q S (fuel + 1) listed a w := by
  refine wpAnyH_ready hr (by simp) (AllReadyH.cons (by simpa using ho) (fun K hK => ?_) (AllReadyH.cons (by simpa using hp) (fun K hK => ?_) AllReadyH.nil))
  · rw [if_pos hw]
    exact h K (fun a w h1 h2 => hK.out a w h1 (fun _ => h2))
  · rw [if_pos hw']
    exact h' K (fun a w h1 h2 => hK.out a w h1 (fun _ => h2))
end
end Go.Proofs.YtchjjfjjcdjjcaaDoor
