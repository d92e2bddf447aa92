/- Package norms: what Load makes, in memory. Package norms: Load of what Build has made. -/
import Derived.Test.YtnglhgogkemgbaaGreatDoorG21
import Derived.Test.YtnglhgogkemgbaaGreatDoorG20
import Derived.Deep.RegionLaw
import Derived.Deep.AppendLies
namespace Go.Proofs.YtnglhgogkemgbaaGreatDoor
open Go.RowKit

def triVs (kc : IntKind) (xs : List T3) : List Value := xs.flatMap fun x => [.int .i32 x.1, .int .i32 x.2.1, .int kc x.2.2]
theorem triVs_snoc (kc : IntKind) (xs : List T3) (x : T3) : triVs kc (xs ++ [x]) = triVs kc xs ++ [.int .i32 x.1, .int .i32 x.2.1, .int kc x.2.2] := by unfold triVs; simp
theorem triVs_at (kc : IntKind) : ∀ (xs : List T3) (i : Nat) (x : T3), xs[i]? = some x → (triVs kc xs)[i * 3]? = some (.int .i32 x.1) ∧ (triVs kc xs)[i * 3 + 1]? = some (.int .i32 x.2.1) ∧ (triVs kc xs)[i * 3 + 2]? = some (.int kc x.2.2)
  | [], i, x, h => by simp at h
  | y :: ys, 0, x, h => by simp at h; subst h; exact ⟨rfl, rfl, rfl⟩
  | y :: ys, i + 1, x, h => by
    have := triVs_at kc ys i x (by simpa using h)
    rw [show (i + 1) * 3 = i * 3 + 3 by omega]
    exact this
theorem ownsRow_type {base : Nat} {e : TypeId} {size n : Nat} {v : Value} {xs : List Value} {w w' : World} (h : w.ownsRow base e size v n xs) (hk : ∀ g cur fr, base ≤ g → w.heap[g]? = some (.cells cur e fr) → w'.heap[g]? = w.heap[g]?) : w'.ownsRow base e size v n xs := by
  refine ⟨h.1, ?_⟩
  rcases h.2 with h' | ⟨g, cap, cur, rfl, hg, hgb, hr⟩
  · exact .inl h'
  · exact .inr ⟨g, cap, cur, rfl, hg, (hk g cur _ hg hgb).trans hgb, hr⟩
theorem ownsRow_apart {base k : Nat} {e t : TypeId} {size n : Nat} {v : Value} {xs : List Value} {w : World} {c : Array Value} {fr : Nat × Nat} (h : w.ownsRow base e size v n xs) (hk : w.heap[k]? = some (.cells c t fr)) (ht : t ≠ e) : some k ≠ v.ownBlock := by
  rcases h.2 with ⟨rfl, _⟩ | ⟨g, cap, cur, rfl, hg, hgb, hr⟩
  · simp [Value.ownBlock]
  · intro e'
    obtain rfl : k = g := by simpa [Value.ownBlock] using e'
    rw [hk] at hgb
    injection hgb with h1; injection h1 with h1 h2; exact ht h2
theorem tris_of_own {B : Nat} {e : TypeId} {kc : IntKind} {w : World} {v : Value} {xs : List T3} (h : w.ownsRow B e 3 v xs.length (triVs kc xs)) : TrisIn (fun b => B ≤ b) kc w v xs := by
  rcases h.2 with ⟨rfl, h0⟩ | ⟨g, cap, cur, rfl, hg, hgb, h1, h2, h3, h4⟩
  · obtain rfl := List.eq_nil_of_length_eq_zero h0
    exact ⟨none, 0, rfl, ⟨Nat.le_refl _, Nat.zero_le _⟩, fun i x h => by simp at h⟩
  · refine ⟨_, _, rfl, ⟨h1, h2⟩, fun i x hx => ⟨g, 0, rfl, hg, (Array.getElem?_eq_some_iff.1 hgb).1, ?_⟩⟩
    have hi : i < xs.length := (List.getElem?_eq_some_iff.1 hx).1
    obtain ⟨a1, a2, a3⟩ := triVs_at kc xs i x hx
    rw [← h4, List.getElem?_take, if_pos (by omega)] at a1 a2 a3
    simp only [Tri, Nat.zero_add]
    refine ⟨?_, ?_, ?_⟩ <;> simp only [World.cell?, hgb, Option.bind_some] <;> simp <;> (first | simpa using a1 | simpa using a2 | simpa using a3)
/-- the Norms in memory -/
def NoAt (W : World) (pb : Nat) (cv dv : Value) (done mu : Int) (full : Value) : Prop := W.heap[pb]? = some (.cells #[.int .i64 1, cv, dv, .int .u32 done, .int .i32 mu, .int .u32 0, full] 121 (0, 0))
theorem Tryz.infoCls : (Tryz.prog.info? 92).map (fun i => (i.zero, i.size, i.bytes)) = some (some (.agg #[.int .i32 0, .int .i32 0, .int .i64 0]), 3, 16) := by kernel_rfl
theorem Tryz.infoDec : (Tryz.prog.info? 94).map (fun i => (i.zero, i.size, i.bytes)) = some (some (.agg #[.int .i32 0, .int .i32 0, .int .i32 0]), 3, 12) := by kernel_rfl
/-- the state of Load's loops -/
structure LdAt (B : Nat) (W : World) (nb rb pb : Nat) (bs : List Int) (k : Nat) (cv dv : Value) (cs ds : List T3) (full : Value) : Prop where
  rd : RdAt W rb bs k
  nr : NrAt W nb rb
  no : NoAt W pb cv dv 0 0 full
  cls : W.ownsRow B 92 3 cv cs.length (triVs .i64 cs)
  dec : W.ownsRow B 94 3 dv ds.length (triVs .i32 ds)
  hr : rb < B
  hp : rb < pb
theorem RdAt.blk {W : World} {rb k : Nat} {bs : List Int} (h : RdAt W rb bs k) : ∃ cs, W.heap[rb]? = some (.cells cs 167 (0, 0)) := by obtain ⟨q, cap, h, _⟩ := h; exact ⟨_, h⟩
/-- behind a number -/
theorem LdAt.step {B : Nat} {W W' : World} {nb rb pb : Nat} {bs : List Int} {k k' : Nat} {cv dv full : Value} {cs ds : List T3} (h : LdAt B W nb rb pb bs k cv dv cs ds full) (hr : RdAt W' rb bs k') (ho : Only (fun j => j = rb) W W') : LdAt B W' nb rb pb bs k' cv dv cs ds full :=
  ⟨hr, h.nr.only h.rd ho, (ho.block pb (Array.getElem?_eq_some_iff.1 h.no).1 (fun e => by have := h.hp; omega)).trans h.no, ownsRow_only h.cls ho (fun b hb e => by have := h.hr; omega), ownsRow_only h.dec ho (fun b hb e => by have := h.hr; omega), h.hr, h.hp⟩
theorem LdAt.below {B : Nat} {W W' : World} {nb rb pb : Nat} {bs : List Int} {k : Nat} {cv dv full : Value} {cs ds : List T3} (h : LdAt B W nb rb pb bs k cv dv cs ds full) (hb : Below W.heap.size W W') : LdAt B W' nb rb pb bs k cv dv cs ds full :=
  ⟨h.rd.below hb, (hb.block _ (Array.getElem?_eq_some_iff.1 h.nr).1).trans h.nr, (hb.block _ (Array.getElem?_eq_some_iff.1 h.no).1).trans h.no, ownsRow_below h.cls hb, ownsRow_below h.dec hb, h.hr, h.hp⟩
theorem LdAt.cells {B : Nat} {W : World} {nb rb pb : Nat} {bs : List Int} {k : Nat} {cv dv full : Value} {cs ds : List T3} (h : LdAt B W nb rb pb bs k cv dv cs ds full) :
    W.cell? ⟨pb, 1, none⟩ = some cv ∧ W.cell? ⟨pb, 2, none⟩ = some dv ∧ W.frozen? ⟨pb, 1, none⟩ = false ∧ W.frozen? ⟨pb, 2, none⟩ = false ∧ W.cell? ⟨nb, 0, none⟩ = some (.pointer (some ⟨rb, 0, none⟩)) ∧ pb < W.heap.size := by
  have h1 := h.no
  have h2 := h.nr
  unfold NoAt at h1
  unfold NrAt at h2
  refine ⟨?_, ?_, ?_, ?_, ?_, (Array.getElem?_eq_some_iff.1 h1).1⟩ <;> simp [World.cell?, World.frozen?, h1, h2]
/-- other blocks behind an append and a store -/
theorem push_blk {W W6 : World} {pb o b : Nat} {u : Value} {row : Option Nat} (hg : W.grownBy W6 row) (hb : b < W.heap.size) (hn : b ≠ pb) (hr : some b ≠ row) : (W6.setCell ⟨pb, o, none⟩ u).heap[b]? = W.heap[b]? :=
  (Below.heap_setCell _ ⟨pb, o, none⟩ _ _ hn).trans (hg.block b hb hr)
theorem LdAt.rest {B : Nat} {W W6 : World} {nb rb pb o : Nat} {bs : List Int} {k : Nat} {cv dv full u : Value} {cs ds : List T3} (h : LdAt B W nb rb pb bs k cv dv cs ds full) {row : Option Nat} (hrow : ∀ j, row = some j → B ≤ j) (hg : W.grownBy W6 row) (hnn : some nb ≠ row) :
    RdAt (W6.setCell ⟨pb, o, none⟩ u) rb bs k ∧ NrAt (W6.setCell ⟨pb, o, none⟩ u) nb rb := by
  have hB := h.hr
  have hP := h.hp
  have lo : ∀ b, b < B → some b ≠ row := fun b hb e => by have := hrow b e.symm; omega
  have en : nb ≠ pb := by
    rintro rfl
    have := h.nr.symm.trans h.no
    injection this with h1; injection h1 with h1 h2; exact absurd h2 (by decide)
  refine ⟨?_, (push_blk hg (Array.getElem?_eq_some_iff.1 h.nr).1 en hnn).trans h.nr⟩
  obtain ⟨q, cap, h1, h2⟩ := h.rd
  refine ⟨q, cap, (push_blk hg (Array.getElem?_eq_some_iff.1 h1).1 (by omega) (lo rb hB)).trans h1, h2.kept ⟨?_, fun b hb hl => push_blk hg hl (by omega) (lo b (by omega))⟩⟩
  have := hg.size
  simpa [World.setCell] using this
theorem LdAt.pushC {B : Nat} {W W6 : World} {nb rb pb : Nat} {bs : List Int} {k g6 cap6 : Nat} {cv dv full : Value} {cs ds : List T3} {x : T3} (h : LdAt B W nb rb pb bs k cv dv cs ds full)
    (ho : W6.ownsRow B 92 3 (.slice (some ⟨g6, 0, none⟩) (cs.length + 1) cap6) (cs.length + 1) (triVs .i64 cs ++ [.int .i32 x.1, .int .i32 x.2.1, .int .i64 x.2.2])) (hg : W.grownBy W6 cv.ownBlock) :
    LdAt B (W6.setCell ⟨pb, 1, none⟩ (.slice (some ⟨g6, 0, none⟩) (cs.length + 1) cap6)) nb rb pb bs k (.slice (some ⟨g6, 0, none⟩) (cs.length + 1) cap6) dv (cs ++ [x]) ds full := by
  have hlt : ∀ j, cv.ownBlock = some j → B ≤ j := fun j hj => (h.cls.lt j hj).1
  have np : some pb ≠ cv.ownBlock := ownsRow_apart h.cls h.no (by decide)
  have hp6 := (hg.block pb (Array.getElem?_eq_some_iff.1 h.no).1 np).trans h.no
  obtain ⟨h1, h2⟩ := h.rest (o := 1) (u := .slice (some ⟨g6, 0, none⟩) (cs.length + 1) cap6) hlt hg (ownsRow_apart h.cls h.nr (by decide))
  refine ⟨h1, h2, ?_, ?_, ?_, h.hr, h.hp⟩
  · unfold NoAt; unfold World.setCell
    simp [Array.getElem?_modify, hp6]
  · rw [List.length_append, triVs_snoc]
    exact ownsRow_type ho (fun g cur fr hb hgb => Below.heap_setCell _ ⟨pb, 1, none⟩ _ _ (by rintro rfl; rw [hp6] at hgb; injection hgb with h1; injection h1 with h1 h2; exact absurd h2 (by decide)))
  · exact ownsRow_type h.dec (fun g cur fr hb hgb => push_blk hg (Array.getElem?_eq_some_iff.1 hgb).1 (by rintro rfl; rw [h.no] at hgb; injection hgb with h1; injection h1 with h1 h2; exact absurd h2 (by decide)) (ownsRow_apart h.cls hgb (by decide)))
theorem LdAt.pushD {B : Nat} {W W6 : World} {nb rb pb : Nat} {bs : List Int} {k g6 cap6 : Nat} {cv dv full : Value} {cs ds : List T3} {x : T3} (h : LdAt B W nb rb pb bs k cv dv cs ds full)
    (ho : W6.ownsRow B 94 3 (.slice (some ⟨g6, 0, none⟩) (ds.length + 1) cap6) (ds.length + 1) (triVs .i32 ds ++ [.int .i32 x.1, .int .i32 x.2.1, .int .i32 x.2.2])) (hg : W.grownBy W6 dv.ownBlock) :
    LdAt B (W6.setCell ⟨pb, 2, none⟩ (.slice (some ⟨g6, 0, none⟩) (ds.length + 1) cap6)) nb rb pb bs k cv (.slice (some ⟨g6, 0, none⟩) (ds.length + 1) cap6) cs (ds ++ [x]) full := by
  have hlt : ∀ j, dv.ownBlock = some j → B ≤ j := fun j hj => (h.dec.lt j hj).1
  have np : some pb ≠ dv.ownBlock := ownsRow_apart h.dec h.no (by decide)
  have hp6 := (hg.block pb (Array.getElem?_eq_some_iff.1 h.no).1 np).trans h.no
  obtain ⟨h1, h2⟩ := h.rest (o := 2) (u := .slice (some ⟨g6, 0, none⟩) (ds.length + 1) cap6) hlt hg (ownsRow_apart h.dec h.nr (by decide))
  refine ⟨h1, h2, ?_, ?_, ?_, h.hr, h.hp⟩
  · unfold NoAt; unfold World.setCell
    simp [Array.getElem?_modify, hp6]
  · exact ownsRow_type h.cls (fun g cur fr hb hgb => push_blk hg (Array.getElem?_eq_some_iff.1 hgb).1 (by rintro rfl; rw [h.no] at hgb; injection hgb with h1; injection h1 with h1 h2; exact absurd h2 (by decide)) (ownsRow_apart h.dec hgb (by decide)))
  · rw [List.length_append, triVs_snoc]
    exact ownsRow_type ho (fun g cur fr hb hgb => Below.heap_setCell _ ⟨pb, 2, none⟩ _ _ (by rintro rfl; rw [hp6] at hgb; injection hgb with h1; injection h1 with h1 h2; exact absurd h2 (by decide)))
end Go.Proofs.YtnglhgogkemgbaaGreatDoor
namespace Go.Proofs.YtnglhgogkemgbaaGreatDoor
open Go.RowKit

def normTail (c d : List T3) : List Int := vints [(c.length : Int)] ++ tris c ++ vints [(d.length : Int)] ++ tris d
theorem norm_parts (c d : List T3) : normBytes c d = normHead ++ normTail c d := by unfold normBytes normTail; simp [List.append_assoc]
theorem norm_drop (c d : List T3) : (normBytes c d).drop 4 = normTail c d := by rw [norm_parts]; rfl
theorem norm_take (c d : List T3) : (normBytes c d).take 4 = [78, 82, 77, 49] := by rw [norm_parts]; rfl
theorem tail_pos (c d : List T3) : 0 < (normTail c d).length := by
  unfold normTail vints
  have := vint_pos c.length
  simp only [List.flatMap_cons, List.flatMap_nil, List.length_append, List.append_nil, Int.toNat_natCast]; omega
theorem tail_len {c d : List T3} (h : dataOk c d = true) : (normTail c d).length ≤ 1000000 := by
  obtain ⟨hcl, hl, hc, hd, h2⟩ := data_parts h
  have h1 := tris_len c (fun x hx => cls_bound hc hx)
  have h3 := tris_len d (fun x hx => dec_bound hd hx)
  have h4 := vints_len [(c.length : Int)] (by intro n hn; simp at hn; omega)
  have h5 := vints_len [(d.length : Int)] (by intro n hn; simp at hn; omega)
  unfold normTail
  simp only [List.length_append, List.length_cons, List.length_nil] at *
  omega
theorem clsFrom_mem {c : List T3} (hc : clsFrom none c = true) {x : T3} (hx : x ∈ c) : (0 ≤ x.1 ∧ x.1 ≤ 1114111) ∧ (0 ≤ x.2.1 ∧ x.2.1 ≤ 1114111) ∧ (1 ≤ x.2.2 ∧ x.2.2 ≤ 254) := by
  obtain ⟨i, hi⟩ := List.getElem?_of_mem hx
  have h := (clsFrom_at c none hc i x hi).1
  unfold clsOne at h
  simp only [Bool.and_eq_true, decide_eq_true_eq] at h
  exact ⟨pt_bd h.1.1.1.1, pt_bd h.1.1.1.2, h.1.2, h.2⟩
theorem dec_mem3 {d : List T3} (hd : decFrom none d = true) {x : T3} (hx : x ∈ d) : (0 ≤ x.1 ∧ x.1 ≤ 1114111) ∧ (0 ≤ x.2.1 ∧ x.2.1 ≤ 1114111) ∧ (0 ≤ x.2.2 ∧ x.2.2 ≤ 1114111) := by
  have h := dec_mem hd hx
  unfold decOne at h
  simp only [Bool.and_eq_true] at h
  exact ⟨pt_bd h.1.1.1.1.1, pt_bd h.1.1.1.1.2, pt_bd h.1.1.1.2⟩
theorem tris_cons (x : T3) (xs : List T3) : tris (x :: xs) = vints [x.1, x.2.1, x.2.2] ++ tris xs := rfl
theorem drop_next {bs a r : List Int} {k : Nat} (h : bs.drop k = a ++ r) : bs.drop (k + a.length) = r := by rw [← List.drop_drop, h, List.drop_left]
theorem drop_fits {bs a r : List Int} {k : Nat} (h : bs.drop k = a ++ r) (hk : k ≤ bs.length) : k + a.length ≤ bs.length := by
  have := congrArg List.length h
  rw [List.length_drop, List.length_append] at this; omega
theorem vints3 (a b e : Nat) : vints [(a : Int), b, e] = vint a ++ (vint b ++ vint e) := by simp [vints]
theorem LdAt.grownC {B : Nat} {W W6 : World} {nb rb pb : Nat} {bs : List Int} {k : Nat} {cv dv full : Value} {cs ds : List T3} (h : LdAt B W nb rb pb bs k cv dv cs ds full) (hg : W.grownBy W6 cv.ownBlock) : W6.cell? ⟨pb, 1, none⟩ = some cv ∧ W6.frozen? ⟨pb, 1, none⟩ = false := by
  have hp6 := (hg.block pb (Array.getElem?_eq_some_iff.1 h.no).1 (ownsRow_apart h.cls h.no (by decide))).trans h.no
  constructor <;> simp [World.cell?, World.frozen?, hp6]
theorem LdAt.grownD {B : Nat} {W W6 : World} {nb rb pb : Nat} {bs : List Int} {k : Nat} {cv dv full : Value} {cs ds : List T3} (h : LdAt B W nb rb pb bs k cv dv cs ds full) (hg : W.grownBy W6 dv.ownBlock) : W6.cell? ⟨pb, 2, none⟩ = some dv ∧ W6.frozen? ⟨pb, 2, none⟩ = false := by
  have hp6 := (hg.block pb (Array.getElem?_eq_some_iff.1 h.no).1 (ownsRow_apart h.dec h.no (by decide))).trans h.no
  constructor <;> simp [World.cell?, World.frozen?, hp6]
/-- a number read -/
theorem LdAt.number {B nb rb pb k n n0 : Nat} {bs rest : List Int} {cv dv full : Value} {cs ds : List T3} {w0 : World} (hd : bs.drop k = vint n ++ rest) (hk : k ≤ bs.length) (hn : n ≤ 2147483648) (hl : bs.length ≤ 1000000000) (hrb : n0 ≤ rb) (h0 : n0 ≤ w0.heap.size) (W : World)
    (h : LdAt B W nb rb pb bs k cv dv cs ds full) (hb : Below n0 w0 W) :
    Calls Tryz.prog 45 #[.pointer (some ⟨nb, 0, none⟩)] W fun e w' => e = .returned (.int .i64 n) ∧ LdAt B w' nb rb pb bs (k + (vint n).length) cv dv cs ds full ∧ Below n0 w0 w' :=
  (number_ok nb rb bs rest k n W h.nr h.rd hd hk hn hl).mono fun e w' ⟨h1, h2, h3⟩ => ⟨h1, h.step h2 h3, only_below2 hb h3 (fun i hi => by omega)⟩
set_option maxHeartbeats 4000000 in
set_option maxRecDepth 100000 in
theorem load_ok (R : Nat → Prop) (c d : List T3) (v : Value) (w : World) (hv : IntsIn R .u8 w v (frameOf (normBytes c d))) (h : dataOk c d = true) :
    Calls Tryz.prog 15 #[v] w fun e w' => ∃ pb cv dv, e = .returned (.tuple #[.pointer (some ⟨pb, 0, none⟩), .int .i64 0]) ∧ NoAt w' pb cv dv 0 0 (.map none) ∧ w'.ownsRow w.heap.size 92 3 cv c.length (triVs .i64 c) ∧ w'.ownsRow w.heap.size 94 3 dv d.length (triVs .i32 d) ∧ w.heap.size ≤ pb ∧ Below w.heap.size w w' := by
  obtain ⟨i0, hi0, hq0, hq1, hq2⟩ := info_parts Tryz.infoCls
  obtain ⟨i1, hi1, hr0, hr1, hr2⟩ := info_parts Tryz.infoDec
  have HD := Lib.hid (data_parts h)
  have HOK := Lib.hid h
  have htl := tail_len h
  have htp := tail_pos c d
  have hnl : (normBytes c d).length = (normTail c d).length + 4 := by rw [norm_parts, List.length_append]; simp [normHead]; omega
  have HV : Hid (IntsIn (fun b => R b ∧ b < w.heap.size) .u8 w v (frameOf (normBytes c d))) := hv.mono (fun b h1 h2 => ⟨h1, h2⟩)
  obtain ⟨p, cp, rfl, _, _⟩ := hv
  have HND := Lib.hid (norm_drop c d)
  have HNT := Lib.hid (norm_take c d)
  have HBY := Lib.hid (norm_byte c d)
  have HTD : Hid (normTail c d = vints [(c.length : Int)] ++ tris c ++ vints [(d.length : Int)] ++ tris d) := rfl
  generalize normTail c d = tl at *
  generalize normBytes c d = bs at *
  have HNL := Lib.hid hnl
  have hl1 : bs.length ≤ 16777216 := by omega
  have hp1 : 0 < bs.length := by omega
  have hp4 : 4 ≤ bs.length := by omega
  clear hnl h
  have HL1 := Lib.hid hl1
  have HUF := Lib.hid (fun (tb : Nat) (W : World) (ht : TblAt W tb 0 0 0 (crcL 0)) (htb : w.heap.size ≤ tb) (hv : IntsIn (fun b => R b ∧ b < w.heap.size) .u8 W (.slice p (frameOf bs).length cp) (frameOf bs)) => unframe_ok _ tb bs _ W ht hv (fun b hb => by omega) HBY.out hp1 hl1)
  generalize (frameOf bs).length = fl at *
  have d1 : decide ((fl : Int) < (fl : Int)) = false := decide_eq_false (by omega)
  have d2 : decide (fl < fl) = false := decide_eq_false (by omega)
  have d3 : decide ((bs.length : Int) < 4) = false := decide_eq_false (by omega)
  have d4 : decide (bs.length < 4) = false := decide_eq_false (by omega)
  go_enter Tryz.func15, Tryz.ntmps15
  go_wp2_with fail
  refine (crcNew_any _).mono ?_
  rintro e w1 ⟨rfl, ht1, hb1, hz1⟩
  have HT1 := Lib.hid ht1
  have HB1 := Lib.hid hb1
  have HV1 := Lib.hid (HV.out.kept (Kept.below hb1))
  clear ht1 hb1 HV
  go_wp2_with fail
  refine (HUF.out _ _ HT1.out (Nat.le_refl _) HV1.out).mono ?_
  rintro e w2 ⟨u2, rfl, hr2, ho2⟩
  obtain ⟨g2, o2, c2, rfl, hg2, hgl2, hc2⟩ := (ints_of_own hr2).place hp1
  have HI2 := Lib.hid (ints_of_own hr2)
  have HB2 : Hid (Below w.heap.size w w2) := only_below2 HB1.out ho2 (fun i hi => by omega)
  have hcp2 : bs.length ≤ c2 := HI2.out.cap.1
  obtain ⟨p3, n3, c3, hs3⟩ : ∃ p3 n3 c3, sliced (some ⟨g2, o2, none⟩) 0 4 c2 1 = .slice p3 n3 c3 := ⟨_, _, _, rfl⟩
  have hsl3 : ∀ w, (Instr.sliceAt 51 (.slice (some ⟨g2, o2, none⟩) bs.length c2) none (some (.int .i64 4)) none).run Tryz.prog w = .ok (.slice p3 n3 c3) w := fun w => by rw [← hs3]; exact slice_to8 w _ _ c2 4 (by omega)
  have hcv : (convert 51 9 (.slice p3 n3 c3)).run Tryz.prog w2 = .ok (.string ⟨#[78, 82, 77, 49]⟩) w2 := by
    have hm := HI2.out.mid 0 4 (Nat.zero_le _) hp4
    rw [hs3, List.drop_zero, HNT.out] at hm
    obtain ⟨b, o, cap, e3, _, _, hc⟩ := hm.place (by decide)
    rw [e3]
    exact run_convert_bytes_arg _ 51 5 Tryz.underlying51 Tryz.underlying5 b o 4 cap [78, 82, 77, 49] rfl (fun i hi => hc i _ (by simp [hi])) 9 Tryz.underlying9
  obtain ⟨p4, n4, c4, hs4⟩ : ∃ p4 n4 c4, sliced (some ⟨g2, o2, none⟩) 4 bs.length c2 1 = .slice p4 n4 c4 := ⟨_, _, _, rfl⟩
  have hsl4 : ∀ w, (Instr.sliceAt 51 (.slice (some ⟨g2, o2, none⟩) bs.length c2) (some (.int .i64 4)) none none).run Tryz.prog w = .ok (.slice p4 n4 c4) w := fun w => by rw [← hs4]; exact slice_from8 w _ _ c2 4 hp4
  have HI4 : Hid (IntsIn (fun b => w1.heap.size ≤ b) .u8 w2 (.slice p4 n4 c4) tl) := by
    have := HI2.out.dropped 4 hp4
    rw [hs4, HND.out] at this
    exact this
  clear hs3 hs4 hr2 ho2 hc2 HUF
  go_wp2_with fail
  refine (cNew_ok _ tl _ w2 HI4.out htp (by omega)).mono ?_
  rintro e w3 ⟨rb, rfl, hr3, hrb, hb3⟩
  have HR3 := Lib.hid hr3
  have HB3 : Hid (Below w.heap.size w w3) := HB2.out.trans (hb3.mono HB2.out.size)
  have hw2 := HB2.out.size
  clear hr3 hb3 hcv hsl3 hsl4 HI4 HI2 HV1 HT1
  go_wp2_with fail
  generalize hW5 : (w3.alloc (.cells #[.pointer (some ⟨rb, 0, none⟩), .bool false] 106)).alloc (.cells #[.int .i64 1, .slice none 0 0, .slice none 0 0, .int .u32 0, .int .i32 0, .int .u32 0, .map none] 121) = W5 at *
  have hrl : rb < w3.heap.size := (by obtain ⟨_, hc⟩ := HR3.out.blk; exact (Array.getElem?_eq_some_iff.1 hc).1)
  obtain ⟨nb, hnb⟩ : ∃ nb, nb = w3.heap.size := ⟨_, rfl⟩
  obtain ⟨pb, hpb⟩ : ∃ pb, pb = w3.heap.size + 1 := ⟨_, rfl⟩
  have hb5 : Below w3.heap.size w3 W5 := by rw [← hW5]; exact ((Below.refl _ w3).alloc (Nat.le_refl _) _).alloc (by simp) _
  have HS5 : Hid (LdAt (rb + 1) W5 nb rb pb tl 0 (.slice none 0 0) (.slice none 0 0) [] [] (.map none)) := by
    refine ⟨HR3.out.below hb5, ?_, ?_, ⟨rfl, .inl ⟨rfl, rfl⟩⟩, ⟨rfl, .inl ⟨rfl, rfl⟩⟩, by omega, by omega⟩
    · show W5.heap[nb]? = _
      rw [← hW5, hnb, Below.heap_alloc _ _ _ (by simp)]; exact World.alloc_heap_new _ _
    · show W5.heap[pb]? = _
      rw [← hW5, hpb]
      have := World.alloc_heap_new (w3.alloc (.cells #[.pointer (some ⟨rb, 0, none⟩), .bool false] 106)) (.cells #[.int .i64 1, .slice none 0 0, .slice none 0 0, .int .u32 0, .int .i32 0, .int .u32 0, .map none] 121)
      rwa [World.size_alloc] at this
  have HB5 : Hid (Below w.heap.size w W5) := HB3.out.trans (hb5.mono HB3.out.size)
  have HD0 : Hid (tl.drop 0 = vint c.length ++ (tris c ++ (vint d.length ++ tris d))) := by show _ = _; rw [List.drop_zero, HTD.out]; simp [vints, List.append_assoc]
  have HNP : Hid (nb = w3.heap.size ∧ pb = w3.heap.size + 1) := ⟨hnb, hpb⟩
  rw [← hpb, ← hnb]
  have hge : w.heap.size ≤ rb := by omega
  have hrp : rb < pb := by omega
  have hgp : w.heap.size ≤ pb := by omega
  clear hb5 hW5 hnb hpb hrl
  have hcl : c.length ≤ 4000 := HD.out.1
  have hdl : d.length ≤ 8000 := HD.out.2.1
  have hln : tl.length ≤ 1000000000 := by omega
  refine (LdAt.number HD0.out (Nat.zero_le _) (by omega) hln hge (Nat.le_refl _) W5 HS5.out HB5.out).mono ?_
  rintro e w6 ⟨rfl, hs6, hb6⟩
  rw [Nat.zero_add] at hs6
  have HS6 := Lib.hid hs6
  have HB6 := Lib.hid hb6
  have HD6 : Hid (tl.drop (vint c.length).length = tris c ++ (vint d.length ++ tris d)) := by have := drop_next HD0.out; rwa [Nat.zero_add] at this
  have HK6 : Hid ((vint c.length).length ≤ tl.length) := by have := drop_fits HD0.out (Nat.zero_le _); rwa [Nat.zero_add] at this
  clear hs6 hb6 HS5 HB5 HD0
  go_wp2_with fail
  go_loopw [9] (fun iv W => ∃ (m : Nat) (cs rest : List T3) (k : Nat) (cv : Value), iv = .int .i64 m ∧ (c = cs ++ rest ∧ rest.length = m ∧ k ≤ tl.length ∧ tl.drop k = tris rest ++ (vint d.length ++ tris d)) ∧ LdAt (rb + 1) W nb rb pb tl k cv (.slice none 0 0) cs [] (.map none) ∧ Below w.heap.size w W) (fun iv _ => (intOf iv).toNat)
  case atStart => exact ⟨_, [], c, _, _, rfl, ⟨rfl, rfl, HK6.out, HD6.out⟩, HS6.out, HB6.out⟩
  case round =>
    obtain ⟨m, cs, rest, k, cv, rfl, hq, hs, hb⟩ := hrel
    have HS := Lib.hid hs
    have HB := Lib.hid hb
    cases rest with
    | nil =>
      obtain ⟨hc, hm, hk, hdr⟩ := hq
      obtain rfl : c = cs := by simpa using hc
      have d5 : decide ((0 : Int) < (m : Int)) = false := decide_eq_false (by simp at hm; omega)
      have d6 : decide (0 < m) = false := decide_eq_false (by simp at hm; omega)
      rw [show tris ([] : List T3) = [] from rfl, List.nil_append] at hdr
      have HK8 : Hid (k + (vint d.length).length ≤ tl.length) := drop_fits hdr hk
      have HD8 : Hid (tl.drop (k + (vint d.length).length) = tris d) := by have := drop_next (r := tris d) (a := vint d.length) (bs := tl) (k := k) (by simpa using hdr); exact this
      have HN := Lib.hid (LdAt.number (rest := tris d) (by simpa using hdr) hk (by omega) hln hge (Nat.le_refl _) wr hs hb)
      clear hs hb hdr hc hm hk
      go_wp2_with fail
      refine HN.out.mono ?_
      rintro e w7 ⟨rfl, hs7, hb7⟩
      have HS7 := Lib.hid hs7
      have HB7 := Lib.hid hb7
      clear hs7 hb7 HN HS HB HS6 HB6 HD6 HK6
      generalize k + (vint d.length).length = k8 at *
      clear d5 d6
      go_wp2_with fail
      go_loopw [10] (fun iv W => ∃ (m : Nat) (cs rest : List T3) (k : Nat) (dv : Value), iv = .int .i64 m ∧ (d = cs ++ rest ∧ rest.length = m ∧ k ≤ tl.length ∧ tl.drop k = tris rest ++ []) ∧ LdAt (rb + 1) W nb rb pb tl k cv dv c cs (.map none) ∧ Below w.heap.size w W) (fun iv _ => (intOf iv).toNat)
      case atStart => exact ⟨_, [], d, _, _, rfl, ⟨rfl, rfl, HK8.out, by rw [List.append_nil]; exact HD8.out⟩, HS7.out, HB7.out⟩
      case round =>
        obtain ⟨m, cs, rest, k, dv, rfl, hq, hs, hb⟩ := hrel
        have HS := Lib.hid hs
        have HB := Lib.hid hb
        cases rest with
        | nil =>
          obtain ⟨hc, hm, hk, hdr⟩ := hq
          obtain rfl : d = cs := by simpa using hc
          have d5 : decide ((0 : Int) < (m : Int)) = false := decide_eq_false (by simp at hm; omega)
          have d6 : decide (0 < m) = false := decide_eq_false (by simp at hm; omega)
          obtain rfl : k = tl.length := by
            have := congrArg List.length hdr
            simp [tris] at this; omega
          have HWR := Lib.hid (wrong_ok nb rb tl tl.length wr hs.nr hs.rd)
          have HDO := Lib.hid (fun (V : World) (h : Below wr.heap.size wr V) => rdDone_ok rb tl V (hs.rd.below h))
          obtain ⟨s1, s2, _, _, s3, spl⟩ := hs.cells
          have HTC := Lib.hid (tris_of_own hs.cls)
          have HTD2 := Lib.hid (tris_of_own hs.dec)
          clear hs hb hdr hc hm hk
          go_wp2_with fail
          refine HWR.out.mono ?_
          rintro e wr' ⟨rfl, rfl⟩
          clear HWR
          go_wp2_with fail
          refine (HDO.out _ (Below.refl _ _)).mono ?_
          rintro e w8 ⟨rfl, hb8⟩
          have HB8 := Lib.hid hb8
          obtain ⟨k8', z8'⟩ := bcell hb8
          have hz8 := hb8.size
          clear hb8 HDO
          go_wp2_with fail
          have HCK : Hid (∀ u, Calls Tryz.prog 48 #[cv, dv] (over w8 u) fun e w' => e = .returned (.int .i64 0) ∧ Below (over w8 u).heap.size (over w8 u) w') := fun u => check_ok _ _ c d cv dv _ ((HTC.out.kept (Kept.below HB8.out)).kept (Kept.below (below_over w8 u))) ((HTD2.out.kept (Kept.below HB8.out)).kept (Kept.below (below_over w8 u))) HOK.out
          have sp8 : pb < w8.heap.size := by omega
          have t1 : w8.cell? ⟨pb, 1, none⟩ = some cv := (k8' pb 1 spl).trans s1
          have t2 : w8.cell? ⟨pb, 2, none⟩ = some dv := (k8' pb 2 spl).trans s2
          clear k8' z8'
          refine wp_region_over (by kernel_rfl) (by kernel_rfl) ?_; (repeat (go_big_quiet_step (((go_at_call 48; exact over_of (HCK.out _)))))); refine wpQuiet_nil ?_; intro w1 hb1
          have HB9 : Hid (Below wr.heap.size wr w1) := HB8.out.trans (hb1.mono hz8)
          have HS9 := Lib.hid (HS.out.below HB9.out)
          clear hb1
          go_wp2_with fail
          go_ret2
          exact ⟨pb, cv, dv, rfl, HS9.out.no, ownsRow_mono HS9.out.cls (by omega), ownsRow_mono HS9.out.dec (by omega), hgp, HB.out.trans (HB9.out.mono HB.out.size)⟩
        | cons x rest =>
          obtain ⟨hc, hm, hk, hdr⟩ := hq
          have HC := Lib.hid hc
          have hx : x ∈ d := by rw [hc]; simp
          have hxo := (dec_mem3 HD.out.2.2.2.1 hx)
          obtain ⟨x1, x2, x3⟩ := x
          simp only at hxo
          obtain ⟨a, rfl⟩ := Int.eq_ofNat_of_zero_le hxo.1.1
          obtain ⟨b, rfl⟩ := Int.eq_ofNat_of_zero_le hxo.2.1.1
          obtain ⟨f, rfl⟩ := Int.eq_ofNat_of_zero_le (show 0 ≤ x3 by omega)
          rw [tris_cons] at hdr
          simp only at hdr
          rw [vints3, List.append_assoc, List.append_assoc, List.append_assoc] at hdr
          generalize hr2 : tris rest ++ [] = r2 at *
          have HR2 := Lib.hid hr2
          clear hr2
          have hk1 := drop_fits hdr hk
          have hd1 := drop_next hdr
          have hk2 := drop_fits hd1 hk1
          have hd2 := drop_next hd1
          have hk3 := drop_fits hd2 hk2
          have hd3 := drop_next hd2
          have HN0 := Lib.hid (fun W => LdAt.number (B := rb + 1) (nb := nb) (rb := rb) (pb := pb) (cv := cv) (dv := dv) (full := .map none) (cs := c) (ds := cs) (w0 := w) hdr hk (by omega) hln hge (Nat.le_refl _) W)
          have HN1 := Lib.hid (fun W => LdAt.number (B := rb + 1) (nb := nb) (rb := rb) (pb := pb) (cv := cv) (dv := dv) (full := .map none) (cs := c) (ds := cs) (w0 := w) hd1 hk1 (by omega) hln hge (Nat.le_refl _) W)
          have HN2 := Lib.hid (fun W => LdAt.number (B := rb + 1) (nb := nb) (rb := rb) (pb := pb) (cv := cv) (dv := dv) (full := .map none) (cs := c) (ds := cs) (w0 := w) hd2 hk2 (by omega) hln hge (Nat.le_refl _) W)
          have HWR := Lib.hid (wrong_ok nb rb tl k wr hs.nr hs.rd)
          have HK3 := Lib.hid hk3
          have HD3 := Lib.hid hd3
          clear hdr hd1 hd2 hd3 hk hk1 hk2 hk3
          generalize k + (vint a).length + (vint b).length + (vint f).length = k3 at *
          generalize k + (vint a).length + (vint b).length = k2 at *
          generalize k + (vint a).length = k1 at *
          have hm0 : 0 < m := by simp at hm; omega
          have HM : Hid (rest.length = m - 1) := by show _ = _; simp at hm; omega
          have hcs : cs.length + 1 ≤ 8000 := by rw [hc] at hdl; simp at hdl; omega
          have hml : m ≤ 8000 := by rw [hc] at hdl; simp at hdl hm; omega
          have d5 : decide ((0 : Int) < (m : Int)) = true := decide_eq_true (by omega)
          have d6 : decide (0 < m) = true := decide_eq_true hm0
          have hw : wrap64 ((m : Int) - 1) = ((m - 1 : Nat) : Int) := by rw [IntWalk.wrap64_in _ (by omega)]; omega
          have ha : IntKind.i32.wrap (a : Int) = (a : Int) := IntWalk.i32_in _ (by omega)
          have hbb : IntKind.i32.wrap (b : Int) = (b : Int) := IntWalk.i32_in _ (by omega)
          have hff : IntKind.i32.wrap (f : Int) = (f : Int) := IntWalk.i32_in _ (by omega)
          have HM0 := Lib.hid hm0
          obtain ⟨_, s1, _, _, _, spl⟩ := hs.cells
          clear hc hm hm0 hx hxo hs hb
          go_wp2_with fail
          refine HWR.out.mono ?_
          rintro e wr' ⟨rfl, rfl⟩
          clear HWR
          go_wp2_with fail
          have HSD : Hid (LdAt (rb + 1) wr.drew nb rb pb tl k cv dv c cs (.map none)) := HS.out.below ((Below.refl _ wr).drew)
          have HBD : Hid (Below w.heap.size w wr.drew) := HB.out.drew
          go_region_law (first
            | (rw [if_pos (by rfl)]; go_simp; refine (HN2.out _ S11.out B11.out).mono ?_; rintro e w12 ⟨rfl, h1, h2⟩; have S12 := Lib.hid h1; have B12 := Lib.hid h2; have c2 := h1.cells.2.1; have p2 := h1.cells.2.2.2.2.2; clear h1 h2)
            | (rw [if_pos (by rfl)]; go_simp; refine (HN1.out _ S10.out B10.out).mono ?_; rintro e w11 ⟨rfl, h1, h2⟩; have S11 := Lib.hid h1; have B11 := Lib.hid h2; have c1 := h1.cells.2.1; have p1 := h1.cells.2.2.2.2.2; clear h1 h2)
            | (rw [if_pos (by rfl)]; go_simp; refine (HN0.out _ HSD.out HBD.out).mono ?_; rintro e w10 ⟨rfl, h1, h2⟩; have S10 := Lib.hid h1; have B10 := Lib.hid h2; have c0 := h1.cells.2.1; have p0 := h1.cells.2.2.2.2.2; clear h1 h2)
            | (have S13 := Lib.hid (S12.out.below ((Below.refl _ w12).alloc (Nat.le_refl _) (.cells #[.int .i32 (a : Int), .int .i32 (b : Int), .int .i32 (f : Int)] 94))); refine step_append_lies _ (by rfl) (.tmp 89) (.tmp 100) 30 (by rfl) (rb + 1) 94 i1 (.agg #[.int .i32 0, .int .i32 0, .int .i32 0]) 3 12 Tryz.underlying30 hi1 hr0 hr1 hr2 rfl (by decide) dv cs.length (triVs .i32 cs) (by rfl) S13.out.dec ⟨w12.heap.size, 0, none⟩ 1 1 [.int .i32 (a : Int), .int .i32 (b : Int), .int .i32 (f : Int)] (by rfl) (by rfl) (row_new _ _ _) (by simp [Value.oneCell']) (by decide) (by unfold maxLen; omega) (by omega) (by simp; omega) _ rfl ?_; intro g6 cap6 w6' hown6 hgrow6 _ _; obtain ⟨c6, z6⟩ := S13.out.grownD hgrow6))
          all_goals
            have HNS := Lib.hid (S13.out.pushD (x := ((a : Int), (b : Int), (f : Int))) hown6 hgrow6)
            have HBS : Hid (Below w.heap.size w (w6'.setCell ⟨pb, 2, none⟩ (.slice (some ⟨g6, 0, none⟩) (cs.length + 1) cap6))) := ((B12.out.alloc B12.out.size _).grown hgrow6 (by have := B12.out.size; simp; omega) (fun j hj => by have := (S13.out.dec.lt j hj).1; omega)).setCell (by simp; omega) _
            clear hown6 hgrow6 c6 z6
            go_wp2_with fail
            go_roundw
            case rel => exact ⟨m - 1, cs ++ [((a : Int), (b : Int), (f : Int))], rest, k3, _, (by have := HM0.out; congr 1; omega), ⟨by rw [HC.out]; simp, HM.out, HK3.out, by rw [HD3.out, ← HR2.out]⟩, HNS.out, HBS.out⟩
            case measure => (have := HM0.out; simp [intOf]; omega)
    | cons x rest =>
      obtain ⟨hc, hm, hk, hdr⟩ := hq
      have HC := Lib.hid hc
      have hx : x ∈ c := by rw [hc]; simp
      have hxo := (clsFrom_mem HD.out.2.2.1 hx)
      obtain ⟨x1, x2, x3⟩ := x
      simp only at hxo
      obtain ⟨a, rfl⟩ := Int.eq_ofNat_of_zero_le hxo.1.1
      obtain ⟨b, rfl⟩ := Int.eq_ofNat_of_zero_le hxo.2.1.1
      obtain ⟨f, rfl⟩ := Int.eq_ofNat_of_zero_le (show 0 ≤ x3 by omega)
      rw [tris_cons] at hdr
      simp only at hdr
      rw [vints3, List.append_assoc, List.append_assoc, List.append_assoc] at hdr
      generalize hr2 : tris rest ++ (vint d.length ++ tris d) = r2 at *
      have HR2 := Lib.hid hr2
      clear hr2
      have hk1 := drop_fits hdr hk
      have hd1 := drop_next hdr
      have hk2 := drop_fits hd1 hk1
      have hd2 := drop_next hd1
      have hk3 := drop_fits hd2 hk2
      have hd3 := drop_next hd2
      have HN0 := Lib.hid (fun W => LdAt.number (B := rb + 1) (nb := nb) (rb := rb) (pb := pb) (cv := cv) (dv := .slice none 0 0) (full := .map none) (cs := cs) (ds := []) (w0 := w) hdr hk (by omega) hln hge (Nat.le_refl _) W)
      have HN1 := Lib.hid (fun W => LdAt.number (B := rb + 1) (nb := nb) (rb := rb) (pb := pb) (cv := cv) (dv := .slice none 0 0) (full := .map none) (cs := cs) (ds := []) (w0 := w) hd1 hk1 (by omega) hln hge (Nat.le_refl _) W)
      have HN2 := Lib.hid (fun W => LdAt.number (B := rb + 1) (nb := nb) (rb := rb) (pb := pb) (cv := cv) (dv := .slice none 0 0) (full := .map none) (cs := cs) (ds := []) (w0 := w) hd2 hk2 (by omega) hln hge (Nat.le_refl _) W)
      have HWR := Lib.hid (wrong_ok nb rb tl k wr hs.nr hs.rd)
      have HK3 := Lib.hid hk3
      have HD3 := Lib.hid hd3
      clear hdr hd1 hd2 hd3 hk hk1 hk2 hk3
      generalize k + (vint a).length + (vint b).length + (vint f).length = k3 at *
      generalize k + (vint a).length + (vint b).length = k2 at *
      generalize k + (vint a).length = k1 at *
      have hm0 : 0 < m := by simp at hm; omega
      have HM : Hid (rest.length = m - 1) := by show _ = _; simp at hm; omega
      have hcs : cs.length + 1 ≤ 4000 := by rw [hc] at hcl; simp at hcl; omega
      have hml : m ≤ 4000 := by rw [hc] at hcl; simp at hcl hm; omega
      have d5 : decide ((0 : Int) < (m : Int)) = true := decide_eq_true (by omega)
      have d6 : decide (0 < m) = true := decide_eq_true hm0
      have hw : wrap64 ((m : Int) - 1) = ((m - 1 : Nat) : Int) := by rw [IntWalk.wrap64_in _ (by omega)]; omega
      have ha : IntKind.i32.wrap (a : Int) = (a : Int) := IntWalk.i32_in _ (by omega)
      have hbb : IntKind.i32.wrap (b : Int) = (b : Int) := IntWalk.i32_in _ (by omega)
      have HM0 := Lib.hid hm0
      obtain ⟨s1, _, _, _, _, spl⟩ := hs.cells
      clear hc hm hm0 hx hxo hs hb
      go_wp2_with fail
      refine HWR.out.mono ?_
      rintro e wr' ⟨rfl, rfl⟩
      clear HWR
      go_wp2_with fail
      have HSD : Hid (LdAt (rb + 1) wr.drew nb rb pb tl k cv (.slice none 0 0) cs [] (.map none)) := HS.out.below ((Below.refl _ wr).drew)
      have HBD : Hid (Below w.heap.size w wr.drew) := HB.out.drew
      go_region_law (first
        | (rw [if_pos (by rfl)]; go_simp; refine (HN2.out _ S11.out B11.out).mono ?_; rintro e w12 ⟨rfl, h1, h2⟩; have S12 := Lib.hid h1; have B12 := Lib.hid h2; have c2 := h1.cells.1; have p2 := h1.cells.2.2.2.2.2; clear h1 h2)
        | (rw [if_pos (by rfl)]; go_simp; refine (HN1.out _ S10.out B10.out).mono ?_; rintro e w11 ⟨rfl, h1, h2⟩; have S11 := Lib.hid h1; have B11 := Lib.hid h2; have c1 := h1.cells.1; have p1 := h1.cells.2.2.2.2.2; clear h1 h2)
        | (rw [if_pos (by rfl)]; go_simp; refine (HN0.out _ HSD.out HBD.out).mono ?_; rintro e w10 ⟨rfl, h1, h2⟩; have S10 := Lib.hid h1; have B10 := Lib.hid h2; have c0 := h1.cells.1; have p0 := h1.cells.2.2.2.2.2; clear h1 h2)
        | (have S13 := Lib.hid (S12.out.below ((Below.refl _ w12).alloc (Nat.le_refl _) (.cells #[.int .i32 (a : Int), .int .i32 (b : Int), .int .i64 (f : Int)] 92))); refine step_append_lies _ (by rfl) (.tmp 60) (.tmp 70) 29 (by rfl) (rb + 1) 92 i0 (.agg #[.int .i32 0, .int .i32 0, .int .i64 0]) 3 16 Tryz.underlying29 hi0 hq0 hq1 hq2 rfl (by decide) cv cs.length (triVs .i64 cs) (by rfl) S13.out.cls ⟨w12.heap.size, 0, none⟩ 1 1 [.int .i32 (a : Int), .int .i32 (b : Int), .int .i64 (f : Int)] (by rfl) (by rfl) (row_new _ _ _) (by simp [Value.oneCell']) (by decide) (by unfold maxLen; omega) (by omega) (by simp; omega) _ rfl ?_; intro g6 cap6 w6' hown6 hgrow6 _ _; obtain ⟨c6, z6⟩ := S13.out.grownC hgrow6))
      all_goals
        have HNS := Lib.hid (S13.out.pushC (x := ((a : Int), (b : Int), (f : Int))) hown6 hgrow6)
        have HBS : Hid (Below w.heap.size w (w6'.setCell ⟨pb, 1, none⟩ (.slice (some ⟨g6, 0, none⟩) (cs.length + 1) cap6))) := ((B12.out.alloc B12.out.size _).grown hgrow6 (by have := B12.out.size; simp; omega) (fun j hj => by have := (S13.out.cls.lt j hj).1; omega)).setCell (by simp; omega) _
        clear hown6 hgrow6 c6 z6
        go_wp2_with fail
        go_roundw
        case rel => exact ⟨m - 1, cs ++ [((a : Int), (b : Int), (f : Int))], rest, k3, _, (by have := HM0.out; congr 1; omega), ⟨by rw [HC.out]; simp, HM.out, HK3.out, by rw [HD3.out, ← HR2.out]⟩, HNS.out, HBS.out⟩
        case measure => (have := HM0.out; simp [intOf]; omega)
end Go.Proofs.YtnglhgogkemgbaaGreatDoor
