/- NormTexts. -/
import Derived.Test.YtlldoofclaokgaaGreatOy
namespace Go.Proofs.YtlldoofclaokgaaGreat
open Go.RowKit

set_option maxHeartbeats 8000000 in
set_option maxRecDepth 1000000 in
theorem texts_law (a b : ByteArray) (w : World) (ha : a.size ≤ 140737488351232) (hb : b.size ≤ 140737488351232) :
    Calls Tryz.prog 9 #[.string a, .string b] w fun e w' => e = .returned (.bool true) ∧ Below w.heap.size w w' := by
  have haw := awake6_any w
  by_cases hsz : 4000 < a.size + b.size
  · have g1 : (4000 : Int) < (a.size : Int) + (b.size : Int) := by omega
    go_enter Tryz.func9, Tryz.ntmps9
    go_wp2_with fail
    refine haw.mono ?_
    rintro e w1 ⟨rfl, hb1⟩
    have HB1 := Lib.hid hb1
    clear haw hb1
    go_wp2_with fail
    go_ret
    exact ⟨rfl, HB1.out⟩
  · have g1 : ¬ ((4000 : Int) < (a.size : Int) + (b.size : Int)) := by omega
    have HSZ : Hid (a.size ≤ 1000000 ∧ b.size ≤ 1000000) := ⟨by omega, by omega⟩
    clear hsz
    go_enter Tryz.func9, Tryz.ntmps9
    go_wp2_with fail
    refine haw.mono ?_
    rintro e w1 ⟨rfl, hb1⟩
    have HB1 := Lib.hid hb1
    clear haw hb1
    go_wp2_with fail
    refine (small6_any _).mono ?_
    rintro e w2 ⟨pb, u, v, rfl, hn, hu, hv, hb2⟩
    have hpl := hn.lt
    obtain ⟨q, cq, rfl, hu3⟩ := id hu
    obtain ⟨p, cp, rfl, hv3⟩ := id hv
    clear hu3 hv3
    have HU := Lib.hid hu
    have HV := Lib.hid hv
    have HN := Lib.hid hn
    have HB2 := Lib.hid hb2
    clear hn hu hv hb2
    go_wp2_with fail
    have hal : Below w2.heap.size w2 (w2.alloc (.cells #[.slice q smallC.length cq, .slice p smallD.length cp] 57)) := (Below.refl _ _).alloc (Nat.le_refl _) _
    have hxd : (w2.alloc (.cells #[.slice q smallC.length cq, .slice p smallD.length cp] 57)).heap[w2.heap.size]? = some (.cells #[.slice q smallC.length cq, .slice p smallD.length cp] 57 (0, 0)) := World.alloc_heap_new _ _
    have hxl : w2.heap.size < (w2.alloc (.cells #[.slice q smallC.length cq, .slice p smallD.length cp] 57)).heap.size := by simp
    generalize w2.alloc (.cells #[.slice q smallC.length cq, .slice p smallD.length cp] 57) = W3 at *
    have hst : St w1 W3 pb W3 := ⟨HN.out.kept (Kept.below hal), HB2.out.trans (hal.mono HB2.out.size), Only.refl _ _⟩
    obtain ⟨xb, hxb⟩ : ∃ xb, xb = w2.heap.size := ⟨_, rfl⟩
    rw [← hxb] at hxd hxl hpl ⊢
    have HRD : Hid (∀ W, St w1 W3 pb W → RD (.slice q smallC.length cq) (.slice p smallD.length cp) W ∧ W.heap[xb]? = some (.cells #[.slice q smallC.length cq, .slice p smallD.length cp] 57 (0, 0))) := by
      intro W h
      refine ⟨⟨?_, ?_⟩, (h.2.2.block xb hxl (fun e => by have e' : xb = pb := e; omega)).trans hxd⟩
      · exact ((HU.out.kept (Kept.below hal)).kept (Kept.only h.2.2 (fun b hb => hb.2))).mono (fun _ _ _ => trivial)
      · exact ((HV.out.kept (Kept.below hal)).kept (Kept.only h.2.2 (fun b hb => hb.2))).mono (fun _ _ _ => trivial)
    obtain ⟨ha2, hb2⟩ := HSZ.out
    have HT := Lib.hid (fun W => fun (h : St w1 W3 pb W) => text6 a ha2 h)
    have HS := Lib.hid (fun W => fun (h : St w1 W3 pb W) => same6 a b ha2 hb2 h)
    have HC := Lib.hid (fun W => fun (h : St w1 W3 pb W) => cmp6 a b ha2 hb2 h)
    have HRT := Lib.hid (fun W => fun (h : RD (.slice q smallC.length cq) (.slice p smallD.length cp) W) => rtext6 a ha2 h)
    have HRS := Lib.hid (fun W => fun (h : RD (.slice q smallC.length cq) (.slice p smallD.length cp) W) => rsame6 a b ha2 hb2 h)
    have HRC := Lib.hid (fun W => fun (h : RD (.slice q smallC.length cq) (.slice p smallD.length cp) W) => rcmp6 a b ha2 hb2 h)
    have HCS := Lib.hid (cmp6_same a b)
    generalize tS a = s at *
    generalize textE a = E1 at *
    generalize sameB a b = B at *
    generalize sameE a b = E2 at *
    generalize cmp6V a b = CV at *
    generalize cmp6E a b = CE at *
    have h1 := HT.out _ hst
    clear ha2 hb2 hst ha hb g1 hal hxd hxl hpl hxb
    with_reducible refine h1.mono ?_
    rintro e w4 ⟨rfl, hs4⟩
    obtain ⟨hrd, hcl⟩ := HRD.out _ hs4
    obtain ⟨c0, c1, _, _⟩ := two_cells hcl
    have h2 := HRT.out _ hrd
    have HS4 := Lib.hid hs4
    clear h1 hs4 hrd hcl
    go_wp2_with fail
    with_reducible refine h2.mono ?_
    rintro e w5 ⟨rfl, hb5⟩
    have hs5 := HS4.out.below hb5
    have h3 := HS.out _ hs5
    clear h2 hb5 hs5 c0 c1
    go_wp2_with fail
    with_reducible refine h3.mono ?_
    rintro e w6 ⟨rfl, hs6⟩
    obtain ⟨hrd, hcl⟩ := HRD.out _ hs6
    obtain ⟨c0, c1, _, _⟩ := two_cells hcl
    have h4 := HRS.out _ hrd
    have HS6 := Lib.hid hs6
    clear h3 hs6 hrd hcl
    go_wp2_with fail
    with_reducible refine h4.mono ?_
    rintro e w7 ⟨rfl, hb7⟩
    have hs7 := HS6.out.below hb7
    have h5 := HC.out _ hs7
    clear h4 hb7 hs7 c0 c1
    go_wp2_with fail
    with_reducible refine h5.mono ?_
    rintro e w8 ⟨rfl, hs8⟩
    obtain ⟨hrd, hcl⟩ := HRD.out _ hs8
    obtain ⟨c0, c1, _, _⟩ := two_cells hcl
    have h6 := HRC.out _ hrd
    have HS8 := Lib.hid hs8
    clear h5 hs8 hrd hcl
    go_wp2_with fail
    with_reducible refine h6.mono ?_
    rintro e w9 ⟨rfl, hb9⟩
    have hend : Hid (Below w.heap.size w w9) := HB1.out.trans ((HS8.out.below hb9).2.1.mono HB1.out.size)
    clear h6 hb9 c0 c1
    by_cases hce : CE = 0
    · have hcb : (CV == 0) = B := by
        rcases HCS.out with h | h
        · exact absurd hce h
        · exact h
      subst hce
      by_cases hcv : CV = 0
      · have : B = true := by rw [← hcb, hcv]; rfl
        subst this hcv
        clear hcb
        go_wp2_with fail
        go_ret
        exact ⟨rfl, hend.out⟩
      · have : B = false := by rw [← hcb]; simpa using hcv
        subst this
        go_wp2_with fail
        go_ret
        exact ⟨by simp, hend.out⟩
    · have hce2 : (CE != 0) = true := by simpa using hce
      go_wp2_with fail
      go_ret
      exact ⟨by simp, hend.out⟩
end Go.Proofs.YtlldoofclaokgaaGreat
