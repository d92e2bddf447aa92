/- norm.Same; NormEquivalent. -/
import Derived.Test.YtlldoofclaokgaaGreatOp
import Derived.Test.YtlldoofclaokgaaGreatOi
namespace Go.Proofs.YtlldoofclaokgaaGreat
open Go.RowKit

def sF : Int → Int := clsOf smallC
def sD : Int → List Int := fun r => (deep smallD 4 r).1
def tS (s : ByteArray) : ByteArray := textS sF sD s
def sameE (a b : ByteArray) : Int := if textE a ≠ 0 then textE a else textE b
def sameB (a b : ByteArray) : Bool := decide (sameE a b = 0) && ((tS a).toList == (tS b).toList)
def bothA (a : ByteArray) : ByteArray := if textE a ≠ 0 then ⟨#[]⟩ else tS a
def bothB (a b : ByteArray) : ByteArray := if textE a ≠ 0 then ⟨#[]⟩ else tS b
/-- the small data at hand -/
def St (w V : World) (pb : Nat) (W : World) : Prop := Nrm (fun b => w.heap.size ≤ b) W pb smallC smallD ∧ Below w.heap.size w W ∧ Only (fun k => k = pb) V W
theorem St.below {w V : World} {pb : Nat} {W W' : World} (h : St w V pb W) (hb : Below W.heap.size W W') : St w V pb W' := ⟨h.1.kept (Kept.below hb), h.2.1.trans (hb.mono h.2.1.size), h.2.2.below hb⟩
theorem text6 {w V : World} {pb : Nat} {W : World} (s : ByteArray) (hs : s.size ≤ 1000000) (h : St w V pb W) :
    Calls Tryz.prog 33 #[.pointer (some ⟨pb, 0, none⟩), .string s] W fun e w' => e = .returned (.tuple #[.string (tS s), .int .i64 (textE s)]) ∧ St w V pb w' :=
  (text_any (clsOf smallC) (fun r => (deep smallD 4 r).1) _ _ _ (fun b => w.heap.size ≤ b) s W (norm_made pb smallC smallD small_ok) (fun b hb => Nat.le_trans h.2.1.size hb) hs h.1 (fun _ => textL_ec small_ok s)).mono
    fun _ _ ⟨h1, h2, h3⟩ => ⟨h1, h2, below_of_only h.2.1 h3 (fun b hb => by have e : b = pb := hb; rw [e]; exact h.1.1), h.2.2.trans h3⟩
set_option maxHeartbeats 4000000 in
set_option maxRecDepth 1000000 in
theorem both6 {w V : World} {pb : Nat} {W : World} (a b : ByteArray) (ha : a.size ≤ 1000000) (hb : b.size ≤ 1000000) (h : St w V pb W) :
    Calls Tryz.prog 63 #[.pointer (some ⟨pb, 0, none⟩), .string a, .string b] W fun e w' => e = .returned (.tuple #[.string (bothA a), .string (bothB a b), .int .i64 (sameE a b)]) ∧ St w V pb w' := by
  have hta := text6 a ha h
  have HTB : Hid (∀ W', St w V pb W' → Calls Tryz.prog 33 #[.pointer (some ⟨pb, 0, none⟩), .string b] W' fun e w' => e = .returned (.tuple #[.string (tS b), .int .i64 (textE b)]) ∧ St w V pb w') := fun W' hW => text6 b hb hW
  clear h
  by_cases hz : textE a = 0
  · have HE : Hid (bothA a = tS a ∧ bothB a b = tS b ∧ sameE a b = textE b) := by
      refine ⟨?_, ?_, ?_⟩
      · unfold bothA; rw [if_neg (by simp [hz])]
      · unfold bothB; rw [if_neg (by simp [hz])]
      · unfold sameE; rw [if_neg (by simp [hz])]
    rw [hz] at hta
    clear hz
    generalize tS a = x at *
    generalize tS b = y at *
    generalize textE b = z at *
    go_enter Tryz.func63, Tryz.ntmps63
    go_wp2_with fail
    with_reducible refine hta.mono ?_
    rintro e w1 ⟨rfl, hs1⟩
    have htb := HTB.out w1 hs1
    clear hta hs1
    go_wp2_with fail
    with_reducible refine htb.mono ?_
    rintro e w2 ⟨rfl, hs2⟩
    have HS2 := Lib.hid hs2
    clear htb hs2
    go_wp2_with fail
    go_ret3
    exact ⟨by rw [HE.out.1, HE.out.2.1, HE.out.2.2]; rfl, HS2.out⟩
  · have HE : Hid (bothA a = ⟨#[]⟩ ∧ bothB a b = ⟨#[]⟩ ∧ sameE a b = textE a) := by
      refine ⟨?_, ?_, ?_⟩
      · unfold bothA; rw [if_pos hz]
      · unfold bothB; rw [if_pos hz]
      · unfold sameE; rw [if_pos hz]
    generalize tS a = x at *
    generalize textE a = z at *
    go_enter Tryz.func63, Tryz.ntmps63
    go_wp2_with fail
    with_reducible refine hta.mono ?_
    rintro e w1 ⟨rfl, hs1⟩
    have HS1 := Lib.hid hs1
    clear hta hs1
    go_wp2_with fail
    go_ret3
    exact ⟨by rw [HE.out.1, HE.out.2.1, HE.out.2.2]; rfl, HS1.out⟩
set_option maxHeartbeats 4000000 in
set_option maxRecDepth 1000000 in
theorem same6 {w V : World} {pb : Nat} {W : World} (a b : ByteArray) (ha : a.size ≤ 1000000) (hb : b.size ≤ 1000000) (h : St w V pb W) :
    Calls Tryz.prog 34 #[.pointer (some ⟨pb, 0, none⟩), .string a, .string b] W fun e w' => e = .returned (.tuple #[.bool (sameB a b), .int .i64 (sameE a b)]) ∧ St w V pb w' := by
  have hbo := both6 a b ha hb h
  clear h
  by_cases hz : sameE a b = 0
  · have HE : Hid (sameB a b = ((bothA a).toList == (bothB a b).toList)) := by
      show _ = _
      have hz1 : textE a = 0 := by
        unfold sameE at hz
        split at hz
        · rename_i h; exact absurd hz h
        · rename_i h; simpa using h
      unfold sameB bothA bothB
      rw [if_neg (by simp [hz1]), if_neg (by simp [hz1])]
      simp [hz]
    rw [hz] at hbo ⊢
    clear hz
    rw [HE.out]
    generalize bothA a = x at *
    generalize bothB a b = y at *
    go_enter Tryz.func34, Tryz.ntmps34
    go_wp2_with fail
    with_reducible refine hbo.mono ?_
    rintro e w1 ⟨rfl, hs1⟩
    have HS1 := Lib.hid hs1
    clear hbo hs1
    go_wp2_with fail
    go_ret2
    exact ⟨rfl, HS1.out⟩
  · have HE : Hid (sameB a b = false) := by
      show _ = _
      unfold sameB; simp [hz]
    rw [HE.out]
    generalize sameE a b = z at *
    generalize bothA a = x at *
    generalize bothB a b = y at *
    go_enter Tryz.func34, Tryz.ntmps34
    go_wp2_with fail
    with_reducible refine hbo.mono ?_
    rintro e w1 ⟨rfl, hs1⟩
    have HS1 := Lib.hid hs1
    clear hbo hs1
    go_wp2_with fail
    go_ret2
    exact ⟨rfl, HS1.out⟩
/-! ### The law, plain -/
theorem sameE_zero {a b : ByteArray} : sameE a b = 0 ↔ textE a = 0 ∧ textE b = 0 := by
  unfold sameE
  constructor
  · intro h
    split at h
    · rename_i h1; exact absurd h h1
    · rename_i h1; exact ⟨by simpa using h1, h⟩
  · rintro ⟨h1, h2⟩
    rw [if_neg (by simp [h1])]; exact h2
theorem sameB_iff {a b : ByteArray} : sameB a b = true ↔ sameE a b = 0 ∧ (tS a).toList = (tS b).toList := by
  unfold sameB; simp
theorem equiv_plain {a b c : ByteArray} (h1 : sameE a b = 0) (h2 : sameE b c = 0) :
    sameE b a = 0 ∧ sameE a c = 0 ∧ sameB b a = sameB a b ∧ (sameB a b = true → sameB b c = true → sameB a c = true) ∧ ((tS a).size ≤ 1000 → sameE a (tS a) = 0 ∧ sameB a (tS a) = true) := by
  obtain ⟨ha, hb⟩ := sameE_zero.1 h1
  obtain ⟨_, hc⟩ := sameE_zero.1 h2
  refine ⟨sameE_zero.2 ⟨hb, ha⟩, sameE_zero.2 ⟨ha, hc⟩, ?_, fun p q => ?_, fun hl => ?_⟩
  · rw [Bool.eq_iff_iff, sameB_iff, sameB_iff]
    exact ⟨fun h => ⟨h1, h.2.symm⟩, fun h => ⟨sameE_zero.2 ⟨hb, ha⟩, h.2.symm⟩⟩
  · exact sameB_iff.2 ⟨sameE_zero.2 ⟨ha, hc⟩, (sameB_iff.1 p).2.trans (sameB_iff.1 q).2⟩
  · obtain ⟨k1, k2⟩ := text_twice small_ok ha hl
    have he : sameE a (tS a) = 0 := sameE_zero.2 ⟨ha, k1⟩
    exact ⟨he, sameB_iff.2 ⟨he, by show _ = (tS (tS a)).toList; rw [show tS (tS a) = tS a from k2]⟩⟩
theorem tS_size (s : ByteArray) : (tS s).size ≤ 100000 := by
  unfold tS textS
  split
  · rename_i h
    obtain ⟨_, h2, _⟩ := textE_zero h
    have h3 := dcV_len s
    have h4 : (textL sF sD s).length ≤ 7 * (dcV s).length := by
      unfold textL
      rw [if_pos h, ordL_len]
      exact (flat_len (norm_made 0 smallC smallD small_ok).dlen _).2
    unfold ecS
    split
    · have h5 := enc_flat_len (textL sF sD s)
      have h6 : (strOfNums ((textL sF sD s).flatMap enc)).size = ((textL sF sD s).flatMap enc).length := by simp [strOfNums, ByteArray.size]
      omega
    · simp [ByteArray.size]
  · simp [ByteArray.size]
set_option maxHeartbeats 8000000 in
set_option maxRecDepth 1000000 in
theorem equiv_law (a b c : ByteArray) (w : World) (ha : a.size ≤ 140737488351232) (hb : b.size ≤ 140737488351232) (hc : c.size ≤ 140737488351232) :
    Calls Tryz.prog 7 #[.string a, .string b, .string c] w fun e w' => e = .returned (.bool true) ∧ Below w.heap.size w w' := by
  have haw := awake6_any w
  by_cases hsz : 3000 < a.size + b.size + c.size
  · have g1 : (3000 : Int) < (a.size : Int) + (b.size : Int) + (c.size : Int) := by omega
    go_enter Tryz.func7, Tryz.ntmps7
    go_wp2_with fail
    refine haw.mono ?_
    rintro e w1 ⟨rfl, hb1⟩
    have HB1 := Lib.hid hb1
    clear haw hb1
    go_wp2_with fail
    go_ret
    exact ⟨rfl, HB1.out⟩
  · have g1 : ¬ ((3000 : Int) < (a.size : Int) + (b.size : Int) + (c.size : Int)) := by omega
    have HSZ : Hid (a.size ≤ 1000000 ∧ b.size ≤ 1000000 ∧ c.size ≤ 1000000) := ⟨by omega, by omega, by omega⟩
    clear hsz
    go_enter Tryz.func7, Tryz.ntmps7
    go_wp2_with fail
    refine haw.mono ?_
    rintro e w1 ⟨rfl, hb1⟩
    have HB1 := Lib.hid hb1
    clear haw hb1
    go_wp2_with fail
    refine (small6_any _).mono ?_
    rintro e w2 ⟨pb, u, v, rfl, hn, hu, hv, hb2⟩
    obtain ⟨q, cq, rfl, _, _⟩ := hu
    obtain ⟨p, cp, rfl, _, _⟩ := hv
    have hst : St w1 w2 pb w2 := ⟨hn, hb2, Only.refl _ _⟩
    have HST := Lib.hid hst
    clear hn hb2 hst
    go_wp2_with fail
    have hal : St w1 w2 pb (w2.alloc (.cells #[.slice q smallC.length cq, .slice p smallD.length cp] 57)) := HST.out.below ((Below.refl _ _).alloc (Nat.le_refl _) _)
    generalize w2.alloc (.cells #[.slice q smallC.length cq, .slice p smallD.length cp] 57) = W3 at *
    have hz := tS_size a
    obtain ⟨ha2, hb2, hc2⟩ := HSZ.out
    have HT := Lib.hid (fun W => fun (h : St w1 w2 pb W) => text6 a ha2 h)
    have HAB := Lib.hid (fun W => fun (h : St w1 w2 pb W) => same6 a b ha2 hb2 h)
    have HBC := Lib.hid (fun W => fun (h : St w1 w2 pb W) => same6 b c hb2 hc2 h)
    have HBA := Lib.hid (fun W => fun (h : St w1 w2 pb W) => same6 b a hb2 ha2 h)
    have HAC := Lib.hid (fun W => fun (h : St w1 w2 pb W) => same6 a c ha2 hc2 h)
    have HOW := Lib.hid (fun W => fun (h : St w1 w2 pb W) => same6 a (tS a) ha2 (by omega) h)
    have HP := Lib.hid (fun h1 h2 => equiv_plain (a := a) (b := b) (c := c) h1 h2)
    have HE1 : Hid (sameE a b = 0 → textE a = 0) := fun h => (sameE_zero.1 h).1
    generalize sameE a (tS a) = E6 at *
    generalize sameB a (tS a) = OW at *
    generalize tS a = s at *
    generalize textE a = E1 at *
    generalize sameE a b = E2 at *
    generalize sameE b c = E3 at *
    generalize sameE b a = E4 at *
    generalize sameE a c = E5 at *
    generalize sameB a b = AB at *
    generalize sameB b c = BC at *
    generalize sameB b a = BA at *
    generalize sameB a c = AC at *
    have h1 := HT.out _ hal
    clear ha2 hb2 hc2 hal ha hb hc g1
    with_reducible refine h1.mono ?_
    rintro e w4 ⟨rfl, hs4⟩
    have h2 := HAB.out _ hs4
    clear h1 hs4
    go_wp2_with fail
    with_reducible refine h2.mono ?_
    rintro e w5 ⟨rfl, hs5⟩
    have h3 := HBC.out _ hs5
    clear h2 hs5
    go_wp2_with fail
    with_reducible refine h3.mono ?_
    rintro e w6 ⟨rfl, hs6⟩
    have HS6 := Lib.hid hs6
    clear h3 hs6
    have hend : Hid (Below w.heap.size w w6) := HB1.out.trans (HS6.out.2.1.mono HB1.out.size)
    by_cases hE2 : E2 = 0
    · have hE1 := HE1.out hE2
      subst hE2 hE1
      by_cases hE3 : E3 = 0
      · subst hE3
        obtain ⟨rfl, rfl, rfl, h4, h5⟩ := HP.out rfl rfl
        have H4 := Lib.hid h4
        have H5 := Lib.hid h5
        have h6 := HBA.out _ HS6.out
        clear h4 h5
        go_wp2_with fail
        with_reducible refine h6.mono ?_
        rintro e w7 ⟨rfl, hs7⟩
        have h7 := HAC.out _ hs7
        clear h6 hs7
        go_wp2_with fail
        with_reducible refine h7.mono ?_
        rintro e w8 ⟨rfl, hs8⟩
        have h8 := HOW.out _ hs8
        clear h7 hs8
        go_wp2_with fail
        with_reducible refine h8.mono ?_
        rintro e w9 ⟨rfl, hs9⟩
        have hend9 : Hid (Below w.heap.size w w9) := HB1.out.trans (hs9.2.1.mono HB1.out.size)
        clear h8 hs9
        by_cases hl : 1000 < s.size
        · have g1 : (1000 : Int) < (s.size : Int) := by omega
          have h4 := H4.out
          cases BA <;> cases BC <;> cases AC <;> first
            | (exfalso; simp at h4; done)
            | (clear h4; go_wp2_with fail; go_ret; exact ⟨rfl, hend9.out⟩)
        · have g1 : ¬ ((1000 : Int) < (s.size : Int)) := by omega
          obtain ⟨rfl, rfl⟩ := H5.out (by omega)
          have h4 := H4.out
          cases BA <;> cases BC <;> cases AC <;> first
            | (exfalso; simp at h4; done)
            | (clear h4; go_wp2_with fail; go_ret; exact ⟨rfl, hend9.out⟩)
      · go_wp2_with fail
        go_ret
        exact ⟨rfl, hend.out⟩
    · by_cases hE1 : E1 = 0
      · subst hE1
        go_wp2_with fail
        go_ret
        exact ⟨rfl, hend.out⟩
      · go_wp2_with fail
        go_ret
        exact ⟨rfl, hend.out⟩
end Go.Proofs.YtlldoofclaokgaaGreat
