/- Plain: code points in digits; different lists are shown otherwise. Package strings: Join at one blank: walked. -/
import Derived.Test.YtjbcbejedaeedaaGreatDoorAk
import Derived.Test.YtjbcbejedaeedaaGreatDoorAi
/-! Plain: code points in digits; different lists are shown otherwise. -/
namespace Go.Proofs.YtjbcbejedaeedaaGreatDoor
open Go.RowKit

/-- pieces with a blank between -/
def joinW : List Bs → Bs
  | [] => []
  | [x] => x
  | x :: y :: t => x ++ 32 :: joinW (y :: t)
/-- what stands behind the first -/
def tailW : List Bs → Bs
  | [] => []
  | x :: t => 32 :: (x ++ tailW t)
theorem joinW_cons (x : Bs) (t : List Bs) : joinW (x :: t) = x ++ tailW t := by
  induction t generalizing x with
  | nil => simp [joinW, tailW]
  | cons y t ih => rw [joinW, ih, tailW]
theorem tailW_snoc (l : List Bs) (x : Bs) : tailW (l ++ [x]) = tailW l ++ 32 :: x := by
  induction l with
  | nil => simp [tailW]
  | cons y t ih => rw [List.cons_append, tailW, ih, tailW]; simp
def pad4 (l : Bs) : Bs := List.replicate (4 - l.length) 48 ++ l
def up16 (n : Nat) : Bs := (hexL n).map upB
def show1 (r : Int) : Bs := pad4 (up16 (r % 4294967296).toNat)
/-- how code points are shown -/
def showW (xs : List Int) : Bs := joinW (xs.map show1)
theorem low_all16 : ∀ k : Fin 16, (lowD k.val).toNat < 128 ∧ blk (upB (lowD k.val)) = false ∧ hv ((upB (lowD k.val)).toNat : Int) = (k.val : Int) := by decide
theorem hexL_all {p : UInt8 → Prop} (h : ∀ k : Nat, k < 16 → p (lowD k)) : ∀ (n : Nat), ∀ b ∈ hexL n, p b := by
  intro n
  induction n using Nat.strongRecOn with
  | ind n ih =>
    intro b hb
    by_cases hn : n < 16
    · rw [hexL_lt n hn] at hb; simp at hb; exact hb ▸ h n hn
    · rw [hexL_ge n hn] at hb
      rcases List.mem_append.1 hb with hb | hb
      · exact ih (n / 16) (by omega) b hb
      · simp at hb; exact hb ▸ h _ (by omega)
theorem hexL_ascii (n : Nat) : ∀ b ∈ hexL n, b.toNat < 128 := hexL_all (fun k hk => (low_all16 ⟨k, hk⟩).1) n
theorem up16_blk (n : Nat) : ∀ b ∈ up16 n, blk b = false := by
  intro b hb
  obtain ⟨c, hc, rfl⟩ := List.mem_map.1 hb
  exact hexL_all (p := fun c => blk (upB c) = false) (fun k hk => (low_all16 ⟨k, hk⟩).2.1) n c hc
theorem up16_lt (n : Nat) (h : n < 16) : up16 n = [upB (lowD n)] := by unfold up16; rw [hexL_lt n h]; rfl
theorem up16_ge (n : Nat) (h : ¬ n < 16) : up16 n = up16 (n / 16) ++ [upB (lowD (n % 16))] := by unfold up16; rw [hexL_ge n h, List.map_append]; rfl
theorem hexN_snoc' (l : Bs) (b : UInt8) : hexN (l ++ [b]) = hexN l * 16 + hv (b.toNat : Int) := by unfold hexN; rw [List.foldl_append]; rfl
theorem hexN_up16 (n : Nat) : hexN (up16 n) = (n : Int) := by
  induction n using Nat.strongRecOn with
  | ind n ih =>
    by_cases hn : n < 16
    · rw [up16_lt n hn, ← List.nil_append [_], hexN_snoc', (low_all16 ⟨n, hn⟩).2.2]; simp [hexN]
    · rw [up16_ge n hn, hexN_snoc', ih (n / 16) (by omega), (low_all16 ⟨n % 16, by omega⟩).2.2]; simp only; omega
theorem hexN_zeros (k : Nat) (l : Bs) : hexN (List.replicate k 48 ++ l) = hexN l := by
  unfold hexN
  rw [List.foldl_append]
  congr 1
  induction k with
  | zero => rfl
  | succ k ih => rw [List.replicate_succ, List.foldl_cons]; exact ih
theorem hexN_show1 (r : Int) (h0 : 0 ≤ r) (h1 : r < 4294967296) : hexN (show1 r) = r := by
  unfold show1 pad4
  rw [hexN_zeros, hexN_up16]; omega
theorem up16_len (n : Nat) (h : n < 4294967296) : 1 ≤ (up16 n).length ∧ (up16 n).length ≤ 8 := by
  have key : ∀ (k n : Nat), n < 16 ^ (k + 1) → 1 ≤ (up16 n).length ∧ (up16 n).length ≤ k + 1 := by
    intro k
    induction k with
    | zero => intro n h; rw [up16_lt n (by omega)]; simp
    | succ k ih =>
      intro n h
      by_cases hn : n < 16
      · rw [up16_lt n hn]; simp
      · have := ih (n / 16) (by rw [Nat.pow_succ] at h; omega)
        rw [up16_ge n hn, List.length_append]; simp; omega
  exact key 7 n (by simpa using h)
theorem show1_len (r : Int) : 4 ≤ (show1 r).length ∧ (show1 r).length ≤ 8 := by
  have := up16_len (r % 4294967296).toNat (by omega)
  unfold show1 pad4
  rw [List.length_append, List.length_replicate]; omega
theorem show1_blk (r : Int) : ∀ b ∈ show1 r, blk b = false := by
  intro b hb
  unfold show1 pad4 at hb
  rcases List.mem_append.1 hb with hb | hb
  · rw [List.eq_of_mem_replicate hb]; rfl
  · exact up16_blk _ b hb
/-- pieces without blanks are told apart -/
theorem front_inj : ∀ (x y s t : Bs), (∀ b ∈ x, blk b = false) → (∀ b ∈ y, blk b = false) → (s = [] ∨ ∃ s', s = 32 :: s') → (t = [] ∨ ∃ t', t = 32 :: t') → x ++ s = y ++ t → x = y ∧ s = t
  | [], [], s, t, _, _, _, _, h => ⟨rfl, h⟩
  | [], b :: y, s, t, _, hy, hs, _, h => by
    rcases hs with rfl | ⟨s', rfl⟩
    · cases h
    · simp at h
      have := hy b (List.mem_cons_self ..)
      rw [← h.1] at this
      exact absurd this (by decide)
  | b :: x, [], s, t, hx, _, _, ht, h => by
    rcases ht with rfl | ⟨t', rfl⟩
    · cases h
    · simp at h
      have := hx b (List.mem_cons_self ..)
      rw [h.1] at this
      exact absurd this (by decide)
  | b :: x, c :: y, s, t, hx, hy, hs, ht, h => by
    simp at h
    have := front_inj x y s t (fun b hb => hx b (List.mem_cons_of_mem _ hb)) (fun b hb => hy b (List.mem_cons_of_mem _ hb)) hs ht h.2
    exact ⟨by rw [h.1, this.1], this.2⟩
theorem tailW_head (l : List Bs) : tailW l = [] ∨ ∃ s', tailW l = 32 :: s' := by
  cases l with
  | nil => exact .inl rfl
  | cons x t => exact .inr ⟨_, rfl⟩
theorem tailW_inj : ∀ (l m : List Bs), (∀ x ∈ l, ∀ b ∈ x, blk b = false) → (∀ x ∈ m, ∀ b ∈ x, blk b = false) → tailW l = tailW m → l = m
  | [], [], _, _, _ => rfl
  | [], y :: m, _, _, h => by cases h
  | x :: l, [], _, _, h => by cases h
  | x :: l, y :: m, hl, hm, h => by
    rw [tailW, tailW] at h
    injection h with _ h
    have := front_inj x y _ _ (hl x (List.mem_cons_self ..)) (hm y (List.mem_cons_self ..)) (tailW_head l) (tailW_head m) h
    rw [this.1, tailW_inj l m (fun x hx => hl x (List.mem_cons_of_mem _ hx)) (fun x hx => hm x (List.mem_cons_of_mem _ hx)) this.2]
theorem show1_inj {a b : Int} (ha : 0 ≤ a ∧ a < 4294967296) (hb : 0 ≤ b ∧ b < 4294967296) (h : show1 a = show1 b) : a = b := by
  have h1 := hexN_show1 a ha.1 ha.2
  rw [h, hexN_show1 b hb.1 hb.2] at h1
  exact h1.symm
theorem map_show1_inj : ∀ (xs ys : List Int), (∀ x ∈ xs, 0 ≤ x ∧ x < 4294967296) → (∀ x ∈ ys, 0 ≤ x ∧ x < 4294967296) → xs.map show1 = ys.map show1 → xs = ys
  | [], [], _, _, _ => rfl
  | [], y :: ys, _, _, h => by cases h
  | x :: xs, [], _, _, h => by cases h
  | x :: xs, y :: ys, hx, hy, h => by
    simp only [List.map_cons] at h
    injection h with h1 h2
    rw [show1_inj (hx x (List.mem_cons_self ..)) (hy y (List.mem_cons_self ..)) h1, map_show1_inj xs ys (fun x h => hx x (List.mem_cons_of_mem _ h)) (fun x h => hy x (List.mem_cons_of_mem _ h)) h2]
theorem showW_inj (xs ys : List Int) (hx : ∀ x ∈ xs, 0 ≤ x ∧ x < 4294967296) (hy : ∀ x ∈ ys, 0 ≤ x ∧ x < 4294967296) (h : showW xs = showW ys) : xs = ys := by
  have hp : ∀ (r : Int) (s : Bs), show1 r ++ s ≠ [] := fun r s e => by
    have := (show1_len r).1
    have h2 := congrArg List.length e
    rw [List.length_append, List.length_nil] at h2
    omega
  have hb : ∀ (zs : List Int), ∀ x ∈ zs.map show1, ∀ b ∈ x, blk b = false := fun zs x hx => by
    obtain ⟨r, _, rfl⟩ := List.mem_map.1 hx; exact show1_blk r
  cases xs with
  | nil =>
    cases ys with
    | nil => rfl
    | cons y ys => unfold showW at h; rw [List.map_cons, joinW_cons] at h; exact absurd h.symm (hp _ _)
  | cons x xs =>
    cases ys with
    | nil => unfold showW at h; rw [List.map_cons, joinW_cons] at h; exact absurd h (hp _ _)
    | cons y ys =>
      refine map_show1_inj _ _ hx hy ?_
      unfold showW at h
      rw [List.map_cons, List.map_cons, joinW_cons, joinW_cons] at h
      have := front_inj _ _ _ _ (show1_blk x) (show1_blk y) (tailW_head _) (tailW_head _) h
      rw [List.map_cons, List.map_cons, this.1, tailW_inj _ _ (hb xs) (hb ys) this.2]
theorem showW_len (xs : List Int) : (showW xs).length ≤ 9 * xs.length := by
  have ht : ∀ l : List Int, (tailW (l.map show1)).length ≤ 9 * l.length := by
    intro l
    induction l with
    | nil => simp [tailW]
    | cons x l ih =>
      have := show1_len x
      rw [List.map_cons, tailW, List.length_cons, List.length_append, List.length_cons]; omega
  cases xs with
  | nil => simp [showW, joinW]
  | cons x xs =>
    have := show1_len x
    have := ht xs
    unfold showW
    rw [List.map_cons, joinW_cons, List.length_append, List.length_cons]; omega
end Go.Proofs.YtjbcbejedaeedaaGreatDoor
/-! Package strings: Join at one blank: walked. -/
namespace Go.Proofs.YtjbcbejedaeedaaGreatDoor
open Go.RowKit
open PlainAid (bt)

/-- a slice of strings that is only read -/
def TxtsIn (R : Nat → Prop) (w : World) (v : Value) (xs : List Bs) : Prop :=
  ∃ p cap, v = .slice p xs.length cap ∧ xs.length ≤ cap ∧ ∀ (i : Nat) x, xs[i]? = some x → ∃ b o, p = some ⟨b, o, none⟩ ∧ R b ∧ b < w.heap.size ∧ w.cell? ⟨b, o + i, none⟩ = some (.string (mkB x))
theorem TxtsIn.below {R : Nat → Prop} {w w' : World} {v : Value} {xs : List Bs} (h : TxtsIn R w v xs) (hb : Below w.heap.size w w') : TxtsIn R w' v xs := by
  obtain ⟨p, cap, h1, h2, h3⟩ := h
  refine ⟨p, cap, h1, h2, fun i x hx => ?_⟩
  obtain ⟨b, o, e1, e2, e3, e4⟩ := h3 i x hx
  exact ⟨b, o, e1, e2, Nat.lt_of_lt_of_le e3 hb.size, (hb.cell (p := ⟨b, o + i, none⟩) e3).trans e4⟩
def sumW (xs : List Bs) : Nat := (xs.map List.length).sum
theorem sumW_snoc (xs : List Bs) (x : Bs) : sumW (xs ++ [x]) = sumW xs + x.length := by unfold sumW; simp
theorem sumW_le (xs : List Bs) (h : ∀ x ∈ xs, x.length ≤ 1000) : sumW xs ≤ 1000 * xs.length := by
  induction xs with
  | nil => simp [sumW]
  | cons x xs ih =>
    have h1 := h x (List.mem_cons_self ..)
    have h2 := ih (fun y hy => h y (List.mem_cons_of_mem _ hy))
    unfold sumW at *
    rw [List.map_cons, List.sum_cons, List.length_cons]; omega
theorem tailW_len (xs : List Bs) : (tailW xs).length = sumW xs + xs.length := by
  induction xs with
  | nil => rfl
  | cons x xs ih => rw [tailW, List.length_cons, List.length_append, ih]; unfold sumW; rw [List.map_cons, List.sum_cons, List.length_cons]; omega
theorem big_quo (n : Nat) (h2 : 2 ≤ n) (h : n ≤ 1000000) : ∃ q : Int, Int.tdiv 9223372036854775807 ((n : Int) - 1) = q ∧ 1 < q ∧ q ≤ 9223372036854775807 := by
  obtain ⟨m, hm⟩ : ∃ m : Nat, (n : Int) - 1 = m := ⟨n - 1, by omega⟩
  rw [hm]
  refine ⟨_, rfl, ?_⟩
  rw [Int.tdiv_eq_ediv_of_nonneg (by decide)]
  have hm1 : (1 : Int) ≤ m := by omega
  constructor
  · have : (2 : Int) ≤ 9223372036854775807 / (m : Int) := by
      rw [Int.le_ediv_iff_mul_le (by omega)]; omega
    omega
  · exact Int.ediv_le_self _ (by decide)
set_option maxHeartbeats 4000000 in
set_option maxRecDepth 100000 in
theorem join_any (R : Nat → Prop) (xs : List Bs) (v : Value) (w : World) (hv : TxtsIn R w v xs) (hl : xs.length ≤ 1000000) (hx : ∀ x ∈ xs, x.length ≤ 1000) :
    Calls Tryz.prog 66 #[v, .string ⟨#[32]⟩] w fun e w' => e = .returned (.string (mkB (joinW xs))) ∧ Below w.heap.size w w' := by
  have HV := Lib.hid hv
  obtain ⟨p, cap, rfl, hcap, hc⟩ := hv
  have HX := Lib.hid hx
  clear hx
  obtain ⟨n, hn⟩ : ∃ n, n = xs.length := ⟨_, rfl⟩
  rw [← hn] at HV hl hcap ⊢
  have HN := Lib.hid hn
  match n, HV, hl, hcap, HN, hn, hc with
  | 0, HV, hl, hcap, HN, hn, hc =>
    obtain rfl : xs = [] := List.eq_nil_of_length_eq_zero hn.symm
    clear hn hl hc hcap
    go_enter Tryz.func66, Tryz.ntmps66
    go_wp2_with fail
    go_ret
    exact ⟨rfl, Below.refl _ _⟩
  | 1, HV, hl, hcap, HN, hn, hc =>
    obtain ⟨x, rfl⟩ : ∃ x, xs = [x] := by
      match xs, hn with
      | [x], _ => exact ⟨x, rfl⟩
    obtain ⟨b, o, rfl, _, hbl, hc0⟩ := hc 0 x rfl
    rw [Nat.add_zero] at hc0
    clear hn hl hc
    go_enter Tryz.func66, Tryz.ntmps66
    go_wp2_with fail
    go_ret
    exact ⟨rfl, Below.refl _ _⟩
  | m + 2, HV, hl, hcap, HN, hn, hc =>
    obtain ⟨x, t, rfl⟩ : ∃ x t, xs = x :: t := by
      cases xs with
      | nil => cases hn
      | cons x t => exact ⟨x, t, rfl⟩
    obtain ⟨b, o, rfl, _, hbl, hc0⟩ := hc 0 x rfl
    rw [Nat.add_zero] at hc0
    obtain ⟨N, hN⟩ : ∃ N, N = m + 2 := ⟨_, rfl⟩
    rw [← hN] at HV hl hcap HN hn ⊢
    obtain ⟨q, hq, hq1, hq2⟩ := big_quo N (by omega) hl
    have HCS : Hid (∀ (W : World), Below w.heap.size w W → ∀ (i : Nat) y, (x :: t)[i]? = some y → W.cell? ⟨b, o + i, none⟩ = some (.string (mkB y)) ∧ b < W.heap.size) := by
      show ∀ W, _
      intro W hb i y hy
      obtain ⟨b', o', e, _, _, hcy⟩ := hc i y hy
      cases e
      exact ⟨(hb.cell (p := ⟨b, o + i, none⟩) hbl).trans hcy, Nat.lt_of_lt_of_le hbl hb.size⟩
    have HSM : Hid (∀ k, sumW ((x :: t).take k) ≤ 1000000000) := by
      show ∀ k, _
      intro k
      have h1 := sumW_le ((x :: t).take k) (fun y hy => HX.out y (List.mem_of_mem_take hy))
      have h2 : ((x :: t).take k).length ≤ N := by rw [List.length_take, HN.out]; exact Nat.min_le_right _ _
      omega
    have hN2 : 2 ≤ N := by omega
    have HNT : Hid (N = t.length + 1) := hn
    have HWB : Hid (b < w.heap.size) := hbl
    clear hn hN hc HV
    have g0 : ((N : Int) == 0) = false := beq_eq_false_iff_ne.2 (by omega)
    have g1 : ((N : Int) == 1) = false := beq_eq_false_iff_ne.2 (by omega)
    have g2 : decide (1 ≥ q) = false := decide_eq_false (by omega)
    go_enter Tryz.func66, Tryz.ntmps66
    go_wp2_with fail
    have HC1 : Hid (N ≤ 1000000) := hl
    clear hq hq1 hq2 g0 g1 g2
    go_loopw [5, 41] (fun sv iv wr => ∃ k : Nat, iv = .int .i64 k ∧ sv = .int .i64 ((N : Int) - 1 + (sumW ((x :: t).take k) : Nat)) ∧ k ≤ N ∧ w = wr) (fun _ iv _ => N - (intOf iv).toNat)
    case atStart => exact ⟨0, rfl, by rw [List.take_zero]; show _ = Value.int .i64 ((N : Int) - 1 + 0); rw [Int.add_zero], Nat.zero_le _, rfl⟩
    case round =>
      obtain ⟨k, rfl, rfl, hk, rfl⟩ := hrel
      have s1 := HSM.out k
      by_cases hlt : k < N
      · have g1 : (k : Int) < (N : Int) := by omega
        obtain ⟨y, hy⟩ : ∃ y, (x :: t)[k]? = some y := ⟨_, List.getElem?_eq_getElem (by have := HNT.out; simp only [List.length_cons]; omega)⟩
        have c1 := (HCS.out w (Below.refl _ _) k y hy).1
        have hyl := HX.out y (List.mem_of_getElem? hy)
        have s2 := HSM.out (k + 1)
        rw [take_snocR hy, sumW_snoc] at s2
        have HST : Hid (sumW ((x :: t).take (k + 1)) = sumW ((x :: t).take k) + y.length) := by show _ = _; rw [take_snocR hy, sumW_snoc]
        have hsz := size_mkB y
        obtain ⟨z, hz⟩ : ∃ z, z = y.length := ⟨_, rfl⟩
        rw [← hz] at hyl s2 hsz HST
        generalize sumW ((x :: t).take k) = S at *
        clear hy hz hc0
        go_wp2_with fail
        go_roundw
        case rel => exact ⟨k + 1, by go_num, by rw [HST.out]; go_num, hlt, trivial⟩
        case measure => simp [intOf]; omega
      · have g1 : ¬ (k : Int) < (N : Int) := by omega
        obtain rfl : k = N := by omega
        have hS : Hid (sumW ((x :: t).take k) = sumW (x :: t)) := by show _ = _; rw [List.take_of_length_le (by have := HNT.out; simp only [List.length_cons]; omega)]
        generalize sumW ((x :: t).take k) = S at *
        obtain ⟨G, hG⟩ : ∃ G : Nat, (k : Int) - 1 + (S : Int) = G := ⟨k - 1 + S, by omega⟩
        have hG1 : 1 ≤ G := by omega
        have hG2 : G ≤ 281474976710656 := by omega
        have HGV : Hid (G = k - 1 + S) := by show _ = _; omega
        have hgr := bldGrow_any w.heap.size w.heap.size G (w.alloc (.cells #[.pointer none, .slice none 0 0] 87)) (Nat.le_refl _) (World.alloc_heap_new w _) (by simp) hG1 hG2
        have hal : Below w.heap.size w (w.alloc (.cells #[.pointer none, .slice none 0 0] 87)) := (Below.refl _ _).alloc (Nat.le_refl _) _
        have HGR := Lib.hid hgr
        have HAL := Lib.hid hal
        clear hgr hal hG1 hG2 s1 hk hlt
        go_wp2_with fail
        refine HGR.out.mono ?_
        rintro e w1 ⟨rfl, hbd1, hb1⟩
        have HB1 : Hid (Below w.heap.size w w1) := HAL.out.trans hb1
        have c1 := (HCS.out w1 HB1.out 0 x rfl).1
        rw [Nat.add_zero] at c1
        have hbl1 := (HCS.out w1 HB1.out 0 x rfl).2
        have HBD1 := Lib.hid hbd1
        have hx0 := HX.out x (List.mem_cons_self ..)
        have HW1 : Hid (∀ s : ByteArray, s.size ≤ 1000 → Calls Tryz.prog 38 #[.pointer (some ⟨w.heap.size, 0, none⟩), .string s] w1 fun e w' => e = .returned (.tuple #[.int .i64 s.size, .nilIface]) ∧ Bld w.heap.size w.heap.size ([] ++ s.data.toList) w' ∧ Below w.heap.size w1 w' ∧ BldK w.heap.size w1 w' ∧ w1.heap.size ≤ w'.heap.size) :=
          fun s hs => bldWriteString_any w.heap.size w.heap.size [] s w1 HBD1.out (by simp; omega) HB1.out.size
        have HX0 := Lib.hid hx0
        clear hb1 hbd1 hG hx0 HGR
        go_wp2_with fail
        refine (HW1.out _ (by rw [size_mkB]; exact HX0.out)).mono ?_
        rw [data_mkB, List.nil_append]
        rintro e w2 ⟨rfl, hbd2, hb2, _, _⟩
        have HB2 : Hid (Below w.heap.size w w2) := HB1.out.trans hb2
        have HBD2 := Lib.hid hbd2
        clear hb2 hbd2 c1 hbl1 HW1 HBD1 HB1
        obtain ⟨k', rfl⟩ : ∃ k', k = k' + 1 := ⟨k - 1, by omega⟩
        go_wp2_with fail
        have HT : Hid (k' = t.length) := by have := HNT.out; show _ = _; omega
        have HLB : Hid (∀ i, (x ++ tailW (t.take i)).length ≤ 3000000000) := by
          show ∀ i, _
          intro i
          have h1 := sumW_le (t.take i) (fun y hy => HX.out y (List.mem_cons_of_mem _ (List.mem_of_mem_take hy)))
          have h2 : (t.take i).length ≤ 1000000 := by have := HT.out; have := HC1.out; rw [List.length_take]; omega
          have h3 := HX0.out
          rw [List.length_append, tailW_len]; omega
        go_loopw [65] (fun iv wr => ∃ i : Nat, iv = .int .i64 i ∧ i ≤ k' ∧ Bld w.heap.size w.heap.size (x ++ tailW (t.take i)) wr ∧ Below w.heap.size w wr) (fun iv _ => k' - (intOf iv).toNat)
        case atStart => exact ⟨0, rfl, Nat.zero_le _, by simpa [tailW] using HBD2.out, HB2.out⟩
        case round =>
          obtain ⟨i, rfl, hi, hbd, hbw⟩ := hrel
          have HBD := Lib.hid hbd
          have HBW := Lib.hid hbw
          clear hbd hbw
          by_cases hlt : i < k'
          · have g1 : (i : Int) < (k' : Int) := by omega
            obtain ⟨y, hy⟩ : ∃ y, t[i]? = some y := ⟨_, List.getElem?_eq_getElem (by have := HT.out; omega)⟩
            have c1 := HCS.out wr HBW.out (i + 1) y (by simpa using hy)
            obtain ⟨c1, hbl1⟩ := c1
            rw [show o + (i + 1) = o + 1 + i from by omega] at c1
            have HYL : Hid (y.length ≤ 1000) := HX.out y (List.mem_cons_of_mem _ (List.mem_of_getElem? hy))
            have HST : Hid (x ++ tailW (t.take (i + 1)) = (x ++ tailW (t.take i)) ++ [32] ++ y) := by show _ = _; rw [take_snocR hy, tailW_snoc]; simp
            have HLI := Lib.hid (HLB.out i)
            have HLT := Lib.hid hlt
            generalize x ++ tailW (t.take i) = T at *
            clear hy hi hlt
            go_wp2_with fail
            refine (bldWriteString_any w.heap.size w.heap.size T ⟨#[32]⟩ wr HBD.out (by have := HLI.out; show _ + 1 ≤ _; omega) HBW.out.size).mono ?_
            rintro e w3 ⟨rfl, hbd3, hb3, _, hz3⟩
            have HBD3 := Lib.hid hbd3
            have HB3 : Hid (Below w.heap.size w w3) := HBW.out.trans hb3
            clear hbd3 hb3 hz3 c1 hbl1
            go_wp2_with fail
            refine (bldWriteString_any w.heap.size w.heap.size (T ++ [32]) (mkB y) w3 HBD3.out (by have := HLI.out; have := HYL.out; rw [size_mkB, List.length_append]; simp only [List.length_cons, List.length_nil]; omega) HB3.out.size).mono ?_
            rw [data_mkB]
            rintro e w4 ⟨rfl, hbd4, hb4, _, hz4⟩
            have HBD4 := Lib.hid hbd4
            have HB4 : Hid (Below w.heap.size w w4) := HB3.out.trans hb4
            clear hbd4 hb4 hz4
            go_wp2_with fail
            go_roundw
            case rel => exact ⟨i + 1, by go_num, HLT.out, by rw [HST.out]; exact HBD4.out, HB4.out⟩
            case measure => (have := HLT.out; simp [intOf]; omega)
          · have g1 : ¬ (i : Int) < (k' : Int) := by omega
            obtain rfl : i = k' := by omega
            have HTT : Hid (x ++ tailW (t.take i) = joinW (x :: t)) := by show _ = _; rw [List.take_of_length_le (by have := HT.out; omega), joinW_cons]
            generalize x ++ tailW (t.take i) = T at *
            go_wp2_with fail
            refine (bldString_any w.heap.size w.heap.size T wr HBD.out HBW.out.size).mono ?_
            rintro e w3 ⟨rfl, hb3⟩
            have HB3 : Hid (Below w.heap.size w w3) := HBW.out.trans hb3
            go_wp2_with fail
            go_ret
            exact ⟨by rw [← HTT.out] <;> rfl, HB3.out⟩
end Go.Proofs.YtjbcbejedaeedaaGreatDoor
