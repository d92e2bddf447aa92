/- A region that draws its order and holds calls, inside a round of a range over a function, over any program. A region that draws its order and holds calls, in a body that is walked in the wide fence, over any program. strings.Lines: the lines of a text, told to a loop: walked. -/
import Derived.Test.YtnglhgogkemgbaaGreatDoorG01
import Derived.Test.YtnglhgogkemgbaaGreatDoorG02
import Derived.Test.YtnglhgogkemgbaaGreatDoorG04
import Derived.Deep.RegionHeld
import Derived.OrdersHeld
import Derived.OwnWalkIn
import Derived.TacticsInMore
import Derived.LoopNIn
import Derived.LoopIn
import Derived.IntWalk
namespace Go.Proofs.YtnglhgogkemgbaaGreatDoor

theorem rowsIn_wide {n : Nat} {P : Program} {row : String} {args : Array Value} {w : World} {R : Value → World → Prop} (h : Rows P row args w R) : RowsIn Fence.wide n P row args w R :=
  fun c cs _ => let ⟨v, w', r, s⟩ := h c cs; ⟨v, w', r, stepsIn_wide.2 s⟩
theorem callsIn_round {n l : Nat} {P : Program} {f : FuncId} {args : Array Value} {w : World} {R : Ending → World → Prop} (h : Calls P f args w R) : CallsIn (Fence.wide.inRound l) n P f args w R :=
  (callsIn_wide (n := n)).2 h
theorem wide_wpIn {n l : Nat} {P : Program} {o : Oper} {a : Act} {w : World} {K : Act → World → Prop} {Q : Exit → Act → World → Prop} (hd : ∀ c, o.op ≠ .defer c) (h : o.wp P a w K Q) : o.wpIn (Fence.wide.inRound l) n P a w K Q := by
  refine ⟨fun f _ => trivial, ?_⟩
  rw [Oper.semAt_eq _ _ _ hd]
  unfold Oper.wp at h
  generalize (execOp a.eval o).run P w = r at *
  have hdep : (Fence.wide.inRound l).depth.isSome = true → 1 ≤ n := fun h => by simp [Fence.wide, Fence.inRound] at h
  cases r with
  | ok x w' =>
    cases x with
    | value v => exact h
    | skip => exact h
    | defer d => exact h
    | enter f args => exact ⟨hdep, callsIn_round h⟩
    | row r args => exact ⟨hdep, rowsIn_wide h⟩
    | _ => exact h.elim
  | halt c w' => cases c <;> exact h
def noDefer (o : Oper) : Bool := match o.op with | .defer _ => false | _ => true
theorem noDefer_of {o : Oper} (h : noDefer o = true) : ∀ c, o.op ≠ .defer c := by
  intro c hc
  unfold noDefer at h
  rw [hc] at h; cases h
section
variable {n l : Nat} {P : Program} {ops : Array Oper} {Q : Exit → Act → World → Prop} {md : Region.Mode}
theorem wide_wpOpIn {i : Nat} {K K' : Act → World → Prop} {a : Act} {w : World} (hp : ∀ (j : Nat) o, ops[j]? = some o → noDefer o = true) (hQ : ¬ LetsOut Q) (hK : ∀ a w, K a w → K' a w) (h : wpOp P ops Q i K a w) : wpOpIn (Fence.wide.inRound l) n P ops Q i K' a w := by
  unfold wpOp at h
  unfold wpOpIn
  cases ho : ops[i]? with
  | none => rw [ho] at h; exact hK _ _ h
  | some o =>
    rw [ho] at h
    simp only at h ⊢
    split
    · rename_i hw
      rw [if_pos hw] at h
      rcases h with h | h
      · exact wide_wpIn (noDefer_of (hp i o ho)) (Oper.wp_mono hK h)
      · exact absurd h.2 hQ
    · rename_i hw
      rw [if_neg hw] at h
      exact ⟨fun f hf => trivial, hK _ _ h⟩
theorem wide_wpAnyIn (hp : ∀ (j : Nat) o, ops[j]? = some o → noDefer o = true) (hQ : ¬ LetsOut Q) : ∀ (fuel : Nat) (listed : Array Bool) (a : Act) (w : World), wpAny P md ops Q fuel listed a w → wpAnyIn (Fence.wide.inRound l) n P md ops Q fuel listed a w := by
  intro fuel
  induction fuel with
  | zero => intro listed a w h; exact h
  | succ fuel ih => intro listed a w h; exact ⟨h.1, fun i hi => wide_wpOpIn hp hQ (fun a w => ih _ a w) (h.2 i hi)⟩
end
theorem wpIn_region_held {n l : Nat} {P : Program} {id : Nat} {Q : Exit → Act → World → Prop} {a : Act} {w : World} {ops : List Oper} (S : World → Prop) (hm : P.follows .mixedOrders = true) (hp : ops.all noDefer = true) (hQ : ¬ LetsOut Q) (hS : S w.drew)
    (h : S w.drew → wpAnyH P .any ops.toArray Q S ops.toArray.size (Array.replicate ops.toArray.size false) a w.drew) : (Code.region id ops.toArray true).wpIn (Fence.wide.inRound l) n P Q a w :=
  wpIn_region_any hm (wide_wpAnyIn (fun j o ho => List.all_eq_true.1 hp o (List.mem_of_getElem? (by simpa using ho))) hQ _ _ _ _ (wpAny_of_held _ _ _ _ (h hS)))
end Go.Proofs.YtnglhgogkemgbaaGreatDoor
namespace Go.Proofs.YtnglhgogkemgbaaGreatDoor

theorem callsIn_here {n : Nat} {P : Program} {f : FuncId} {args : Array Value} {w : World} {R : Ending → World → Prop} (h : Calls P f args w R) : CallsIn Fence.wide n P f args w R :=
  (callsIn_wide (n := n)).2 h
theorem here_wpIn {n : Nat} {P : Program} {o : Oper} {a : Act} {w : World} {K : Act → World → Prop} {Q : Exit → Act → World → Prop} (hd : ∀ c, o.op ≠ .defer c) (h : o.wp P a w K Q) : o.wpIn Fence.wide n P a w K Q := by
  refine ⟨fun f _ => trivial, ?_⟩
  rw [Oper.semAt_eq _ _ _ hd]
  unfold Oper.wp at h
  generalize (execOp a.eval o).run P w = r at *
  have hdep : Fence.wide.depth.isSome = true → 1 ≤ n := fun h => by simp [Fence.wide] at h
  cases r with
  | ok x w' =>
    cases x with
    | value v => exact h
    | skip => exact h
    | defer d => exact h
    | enter f args => exact ⟨hdep, callsIn_here h⟩
    | row r args => exact ⟨hdep, rowsIn_wide h⟩
    | _ => exact h.elim
  | halt c w' => cases c <;> exact h
section
variable {n : Nat} {P : Program} {ops : Array Oper} {Q : Exit → Act → World → Prop} {md : Region.Mode}
theorem here_wpOpIn {i : Nat} {K K' : Act → World → Prop} {a : Act} {w : World} (hp : ∀ (j : Nat) o, ops[j]? = some o → noDefer o = true) (hQ : ¬ LetsOut Q) (hK : ∀ a w, K a w → K' a w) (h : wpOp P ops Q i K a w) : wpOpIn Fence.wide n P ops Q i K' a w := by
  unfold wpOp at h
  unfold wpOpIn
  cases ho : ops[i]? with
  | none => rw [ho] at h; exact hK _ _ h
  | some o =>
    rw [ho] at h
    simp only at h ⊢
    split
    · rename_i hw
      rw [if_pos hw] at h
      rcases h with h | h
      · exact here_wpIn (noDefer_of (hp i o ho)) (Oper.wp_mono hK h)
      · exact absurd h.2 hQ
    · rename_i hw
      rw [if_neg hw] at h
      exact ⟨fun f hf => trivial, hK _ _ h⟩
theorem here_wpAnyIn (hp : ∀ (j : Nat) o, ops[j]? = some o → noDefer o = true) (hQ : ¬ LetsOut Q) : ∀ (fuel : Nat) (listed : Array Bool) (a : Act) (w : World), wpAny P md ops Q fuel listed a w → wpAnyIn Fence.wide n P md ops Q fuel listed a w := by
  intro fuel
  induction fuel with
  | zero => intro listed a w h; exact h
  | succ fuel ih => intro listed a w h; exact ⟨h.1, fun i hi => here_wpOpIn hp hQ (fun a w => ih _ a w) (h.2 i hi)⟩
end
end Go.Proofs.YtnglhgogkemgbaaGreatDoor
namespace Go.Proofs.YtnglhgogkemgbaaGreatDoor
open Go.RowKit
open PlainAid (bt)
attribute [local go_sem] Oper.semAt_some

theorem lines_fn (s : ByteArray) (w : World) :
    Calls Tryz.prog 32 #[.string s] w fun e w' => e = .returned (.func (.func 65) #[] #[.pointer (some ⟨w.heap.size, 0, none⟩)]) ∧ w.alloc (.cells #[.string s] 9) = w' := by
  have hmf : ∀ (fn : Fn) (first cap : Array Value) (w : World), (Instr.makeFunc fn first cap).run Tryz.prog w = .ok (.func fn first cap) w := fun _ _ _ _ => rfl
  go_enter Tryz.func32, Tryz.ntmps32
  go_wp2
  go_ret
  exact ⟨rfl, rfl⟩
/-- lines, each with its end -/
def LinesOk (L : List Bs) : Prop := ∀ l ∈ L, ∃ p, l = p ++ [10] ∧ ∀ b ∈ p, b ≠ 10
/-- what is left behind i lines -/
def restL (L : List Bs) (i : Nat) : Bs := (L.drop i).flatten
theorem restL_at {L : List Bs} {i : Nat} {l : Bs} (h : L[i]? = some l) : restL L i = l ++ restL L (i + 1) := by
  obtain ⟨hi, rfl⟩ := List.getElem?_eq_some_iff.1 h
  unfold restL; rw [List.drop_eq_getElem_cons hi, List.flatten_cons]
theorem restL_end {L : List Bs} {i : Nat} (h : L.length ≤ i) : restL L i = [] := by unfold restL; rw [List.drop_of_length_le h]; rfl
theorem restL_le (L : List Bs) (i : Nat) : (restL L i).length ≤ (restL L 0).length := by
  have h : L.flatten = (L.take i).flatten ++ (L.drop i).flatten := by rw [← List.flatten_append, List.take_append_drop]
  have h2 := congrArg List.length h
  rw [List.length_append] at h2
  unfold restL
  rw [List.drop_zero]; omega
theorem indexByte_at : ∀ (p t : Bs), (∀ b ∈ p, b ≠ 10) → Lib.indexByte (p ++ 10 :: t) 10 = p.length
  | [], t, _ => by simp [Lib.indexByte]
  | b :: p, t, h => by
    have hb : (b == 10) = false := beq_eq_false_iff_ne.2 (h b (List.mem_cons_self ..))
    have ih := indexByte_at p t (fun c hc => h c (List.mem_cons_of_mem _ hc))
    rw [List.cons_append, Lib.indexByte, hb, ih]
    simp
/-- a round leaves the text's box alone; the function itself turns it -/
def KeepL (b : Nat) (A B : World) : Prop := A.heap.size ≤ B.heap.size ∧ B.heap[b]? = A.heap[b]?
def HasS (b : Nat) (A : World) : Prop := ∃ s, A.heap[b]? = some (.cells #[.string s] 9 (0, 0))
def TurnL (b : Nat) (A B : World) : Prop := Only (fun k => k = b) A B ∧ (HasS b A → HasS b B)
def stepN (L : List Bs) (b : Nat) (i : Nat) (A : World) (vs : Array Value) (j : Nat) : Prop := ∃ l, L[i]? = some l ∧ vs = #[.string (mkB l)] ∧ j = i + 1 ∧ A.heap[b]? = some (.cells #[.string (mkB (restL L (i + 1)))] 9 (0, 0))
/-- the length of a box's text -/
def boxLen (b : Nat) (W : World) : Nat := match W.cell? ⟨b, 0, none⟩ with
  | some (.string s) => s.size
  | _ => 0
theorem one_putS {W : World} {b : Nat} {x v : Value} {t : TypeId} (h : W.heap[b]? = some (.cells #[x] t (0, 0))) : (W.setCell ⟨b, 0, none⟩ v).heap[b]? = some (.cells #[v] t (0, 0)) := by
  unfold World.setCell
  simp [Array.getElem?_modify, h]
theorem one_cellS {W : World} {b : Nat} {x : Value} {t : TypeId} (h : W.heap[b]? = some (.cells #[x] t (0, 0))) : W.cell? ⟨b, 0, none⟩ = some x ∧ W.frozen? ⟨b, 0, none⟩ = false ∧ b < W.heap.size := by
  refine ⟨?_, ?_, (Array.getElem?_eq_some_iff.1 h).1⟩ <;> simp [World.cell?, World.frozen?, h]
theorem wpIn_region_tailK {m : Nat} {P : Program} {id : Nat} {K : Act → World → Prop} {Q : Exit → Act → World → Prop} {a : Act} {w : World} {l : List Oper} (n : Nat) (hm : P.follows .mixedOrders = true) (hB : Region.lexTailB .any l.toArray n = true) (hp : l.all noDefer = true)
    (h : wpStill P l.toArray w.drew (fun a' => wpList P l.toArray (Exit.then K (fun _ _ _ => False)) (l.drop n) a' w.drew) (l.take n) a) : (Code.region id l.toArray true).wpIn Fence.wide m P (Exit.then K Q) a w :=
  Code.wpIn_mono (Q := Exit.then K (fun _ _ _ => False)) (fun e a w h => by cases e <;> first | exact h | exact h.elim)
    (wpIn_region_any hm (here_wpAnyIn (fun j o ho => List.all_eq_true.1 hp o (List.mem_of_getElem? (by simpa using ho))) (by rintro ⟨_, _, h⟩; exact h) _ _ _ _ (wpAny_still_tail n hB h)))
set_option maxHeartbeats 4000000 in
set_option maxRecDepth 100000 in
theorem lines_iter (L : List Bs) (hL : LinesOk L) (hs : (restL L 0).length ≤ 1000000) (b N : Nat) :
    IterB Tryz.prog 65 #[.pointer (some ⟨b, 0, none⟩)] N (KeepL b) (TurnL b) (stepN L b) (fun i => i = L.length) 0 (HasS b) (fun W => W.heap[b]? = some (.cells #[.string (mkB (restL L 0))] 9 (0, 0))) := by
  intro l J Jx W hN hJ hJx hPre hPreX hY h0 hi0
  have HPRE := Lib.hid hPre
  have HY := Lib.hid hY
  have HJ := Lib.hid hJ
  have HJ0 := Lib.hid h0
  have HI0 := Lib.hid hi0
  have HL := Lib.hid hL
  have HRL : Hid (∀ i, (restL L i).length ≤ 1000000) := fun i => Nat.le_trans (restL_le L i) hs
  clear h0 hPre hPreX hJx hY hN hs hi0 hL hJ
  refine callsIn_wide (n := 0) |>.1 ?_
  refine callsIn_of_wp Tryz.func65 rfl trivial ?_ rfl
  simp only [Tryz.ntmps65, List.size_toArray, List.length_cons, List.length_nil, Nat.reduceAdd, Nat.reduceSub, Array.replicate_succ, Array.replicate_zero, List.push_toArray, List.append_toArray, List.nil_append, List.cons_append]
  gi_wp2_with fail
  gi_loopw [3, 4] (fun _ _ wr => ∃ i : Nat, i ≤ L.length ∧ J i wr ∧ wr.heap[b]? = some (.cells #[.string (mkB (restL L i))] 9 (0, 0))) (fun _ _ wr => boxLen b wr)
  case atStart => exact ⟨0, Nat.zero_le _, HJ0.out, HI0.out⟩
  case round =>
    obtain ⟨i, hi, hj, hb⟩ := hrel
    have HJI := Lib.hid hj
    have HBX := Lib.hid hb
    obtain ⟨c0, f0, l0⟩ := one_cellS hb
    clear hj hb
    have hrl := HRL.out i
    by_cases hlt : i < L.length
    · obtain ⟨p, hp⟩ : ∃ p, L[i]? = some p := ⟨_, List.getElem?_eq_getElem hlt⟩
      have HP := Lib.hid hp
      obtain ⟨q, hq, hq10⟩ := HL.out p (List.mem_of_getElem? hp)
      have hre := restL_at hp
      have HRE := Lib.hid hre
      have HLT := Lib.hid hlt
      have HQ := Lib.hid hq
      have hlen : (restL L i).length = q.length + 1 + (restL L (i + 1)).length := by rw [hre, hq]; simp; omega
      have HIX : Hid (Lib.indexByte (mkB (restL L i)).data.toList 10 = (q.length : Int)) := by
        show _ = _
        rw [data_mkB, hre, hq, List.append_assoc]
        exact indexByte_at q _ hq10
      have hgt : ((mkB (restL L i)).size : Int) > 0 := by rw [size_mkB, hlen]; omega
      have HLEN := Lib.hid hlen
      have HSZ : Hid ((mkB (restL L i)).size = q.length + 1 + (restL L (i + 1)).length) := by show _ = _; rw [size_mkB, hlen]
      have HX1 : Hid ((mkB (restL L i)).extract 0 (q.length + 1) = mkB p) := by
        show _ = _
        have h1 : ((mkB (restL L i)).extract 0 (q.length + 1)).data.toList = p := by
          rw [ByteArray.data_extract, Array.toList_extract]
          rw [data_mkB, hre, hq]
          simp [List.take_append]
          exact List.take_of_length_le (by omega)
        rw [← mkB_data ((mkB (restL L i)).extract 0 (q.length + 1)), h1]
      have HX2 : Hid ((mkB (restL L i)).extract (q.length + 1) (mkB (restL L i)).size = mkB (restL L (i + 1))) := by
        show _ = _
        have h1 : ((mkB (restL L i)).extract (q.length + 1) (mkB (restL L i)).size).data.toList = restL L (i + 1) := by
          rw [Lib.extract_to_end, data_mkB, hre, hq]; simp
        rw [← mkB_data ((mkB (restL L i)).extract (q.length + 1) (mkB (restL L i)).size), h1]
      have HIB := Lib.hid (fun w => indexByteS_any (mkB (restL L i)) w)
      rw [HIX.out] at HIB
      have hq6 : q.length ≤ 1000000 := by omega
      have hk1 : ((q.length + 1 : Nat) : Int) ≤ ((mkB (restL L i)).size : Int) := by rw [size_mkB]; omega
      have hwk : IntKind.i64.wrap ((q.length : Int) + 1) = ((q.length + 1 : Nat) : Int) := by rw [IntWalk.i64_in _ (by omega)]; omega
      have hk0 : (0 : Int) ≤ (q.length : Int) := by omega
      have HMS : Hid (∀ W, W.heap[b]? = some (.cells #[.string (mkB (restL L (i + 1)))] 9 (0, 0)) → boxLen b W < boxLen b wr) := by
        show ∀ W, _
        intro W hW
        have h1 : boxLen b W = (restL L (i + 1)).length := by unfold boxLen; rw [(one_cellS hW).1]; exact size_mkB _
        have h2 : boxLen b wr = (restL L i).length := by unfold boxLen; rw [(one_cellS HBX.out).1]; exact size_mkB _
        rw [h1, h2]; omega
      clear hp hq hre hlen hlt hi hq10 HIX
      obtain ⟨k1, hkk⟩ : ∃ k1, q.length + 1 = k1 := ⟨_, rfl⟩
      rw [hkk] at HX1 HX2 hk1 hwk
      generalize q.length = k at *
      obtain ⟨P0, hP0⟩ : ∃ Z, mkB p = Z := ⟨_, rfl⟩
      rw [hP0] at HX1
      have HP0 := Lib.hid hP0
      clear hP0
      obtain ⟨Z1, hZ1⟩ : ∃ Z, mkB (restL L (i + 1)) = Z := ⟨_, rfl⟩
      rw [hZ1] at HX2 HMS
      have HZ1 := Lib.hid hZ1
      generalize mkB (restL L i) = Z at *
      clear hZ1 hkk
      gi_wp2_with fail
      refine ⟨trivial, rfl, (callsIn_wide.2 (HIB.out _)).mono ?_⟩
      rintro e w' ⟨rfl, rfl⟩
      gi_wp2_with fail
      refine wpIn_region_tailK 9 (by kernel_rfl) (by kernel_rfl) (by kernel_rfl) ?_
      simp only [List.take_succ_cons, List.take_zero, List.drop_succ_cons, List.drop_zero]
      repeat still_step
      refine wpStill_nil ?_
      go_wp2
      simp only [HX1.out, HX2.out]
      have hW2 : (wr.setCell ⟨b, 0, none⟩ (.string Z1)).drew.heap[b]? = some (.cells #[.string Z1] 9 (0, 0)) := one_putS HBX.out
      have hT : TurnL b wr (wr.setCell ⟨b, 0, none⟩ (.string Z1)).drew := ⟨((Only.refl (fun k => k = b) wr).setCell (p := ⟨b, 0, none⟩) rfl _).drew, fun _ => ⟨_, hW2⟩⟩
      have hj2 := HJ.out _ _ _ HJI.out hT
      have hst : stepN L b i (wr.setCell ⟨b, 0, none⟩ (.string Z1)).drew #[.string P0] (i + 1) := ⟨p, HP.out, by rw [HP0.out], rfl, by rw [HZ1.out]; exact hW2⟩
      have HW2 := Lib.hid hW2
      obtain ⟨fn, tmps, assign, body, hy, hR⟩ := HY.out _ _ _ _ hj2 hst
      have HRR := Lib.hid hR
      clear hst hR hj2 hT hW2 c0 f0 l0
      generalize (wr.setCell ⟨b, 0, none⟩ (.string Z1)).drew = W2 at *
      gi_wp2
      refine ⟨rfl, HRR.out.mono ?_⟩
      rintro e w4 ⟨hk4, ⟨rfl, hj4⟩ | ⟨rfl, hjx⟩⟩
      · have HJ4 := Lib.hid hj4
        have HB4 : Hid (w4.heap[b]? = some (.cells #[.string Z1] 9 (0, 0))) := hk4.2.trans HW2.out
        clear hk4 hj4
        gi_wp2
        go_roundw
        case rel => exact ⟨i + 1, HLT.out, HJ4.out, by rw [HZ1.out]; exact HB4.out⟩
        case measure => exact HMS.out _ HB4.out
      · have HJX := Lib.hid hjx
        clear hk4 hjx
        gi_wp2
        refine bodyPost_ret (results_none rfl _ _ _) rfl ?_
        exact ⟨⟨_, rfl⟩, .inr HJX.out⟩
    · have he : i = L.length := by omega
      have HE := Lib.hid he
      have hre : restL L i = [] := restL_end (by omega)
      have hgt : ¬ ((mkB (restL L i)).size : Int) > 0 := by rw [size_mkB, hre]; decide
      clear hre hlt hi he
      generalize mkB (restL L i) = Z at *
      gi_wp2_with fail
      go_end0
      exact ⟨⟨_, rfl⟩, .inl (by rw [← HE.out]; exact HJI.out)⟩
end Go.Proofs.YtnglhgogkemgbaaGreatDoor
