/- Chapter 8 in plain words: what a table's text says; no program in sight. Maps from texts to numbers that the call itself makes: a word for what they hold, over any program. -/
import Derived.Test.YtjbcbejedaeedaaGreatDoorWh
import Derived.Test.YtjbcbejedaeedaaGreatDoorOpenQ
import Derived.Lib.SlTrimSet
import Derived.Lib.IndexMore
import Derived.Lib.IndexAny
import Derived.Lib.Split
import Derived.Lib.Strings
import Derived.Maps.OwnOps
import Derived.Maps.OwnSet
import Derived.Maps.Views
import Derived.StringKeys
/-! Chapter 8 in plain words: what a table's text says; no program in sight. -/
namespace Go.Proofs.YtjbcbejedaeedaaGreatDoor
open Go.RowKit
open PlainAid (bt)

abbrev Bs := List UInt8
def mkB (l : Bs) : ByteArray := ⟨l.toArray⟩
theorem mkB_data (s : ByteArray) : mkB s.data.toList = s := by unfold mkB; simp
theorem data_mkB (l : Bs) : (mkB l).data.toList = l := by unfold mkB; simp
theorem size_mkB (l : Bs) : (mkB l).size = l.length := by unfold mkB; simp [ByteArray.size]
/-- blanks and tabs -/
def blk (b : UInt8) : Bool := [32, 9].contains b
def trimW (l : Bs) : Bs := Lib.trimS l [32, 9]
def trimLW (l : Bs) : Bs := Lib.trimLeftS l [32, 9]
theorem trimLW_le (l : Bs) : (trimLW l).length ≤ l.length := by
  unfold trimLW Lib.trimLeftS; exact (List.dropWhile_sublist _).length_le
theorem trimW_le (l : Bs) : (trimW l).length ≤ l.length := by
  unfold trimW Lib.trimS
  refine Nat.le_trans (trimLW_le _) ?_
  unfold Lib.trimRightS
  rw [List.length_reverse]
  exact Nat.le_trans (List.dropWhile_sublist _).length_le (by simp)
/-- so many hexadecimal digits: their number -/
def hexB (b : UInt8) : Bool := hvB (b.toNat : Int)
def hexN (l : Bs) : Int := l.foldl (fun n b => n * 16 + hv (b.toNat : Int)) 0
def numX (l : Bs) (lo hi : Nat) : Option Int := if lo ≤ l.length ∧ l.length ≤ hi ∧ l.all hexB = true then some (hexN l) else none
/-- what stands between blanks -/
def wordsF : Nat → Bs → List Bs
  | 0, _ => []
  | n + 1, l => if l.dropWhile blk = [] then [] else (l.dropWhile blk).takeWhile (fun b => !blk b) :: wordsF n ((l.dropWhile blk).dropWhile (fun b => !blk b))
def wordsW (l : Bs) : List Bs := wordsF l.length l
def numsX : List Bs → Option (List Int)
  | [] => some []
  | x :: xs => match numX x 4 6 with
    | none => none
    | some n => match numsX xs with
      | none => none
      | some ns => some (n :: ns)
/-- code points -/
def codesW (l : Bs) : Except Int (List Int) :=
  if wordsW l = [] then .error 80 else
  match numsX (wordsW l) with
  | none => .error 80
  | some ns => if ns.length ≤ 8 ∧ ns.all pt = true then .ok ns else .error 90
/-- an element's text -/
def elS (s : ByteArray) : El := (acc s 2 4, acc s 7 4, acc s 12 4, starB s)
def lvS (s : ByteArray) : Int := lvl (acc s 2 4) (acc s 7 4) (acc s 12 4)
def elsF : Nat → Bs → Except Int (List El)
  | 0, _ => .ok []
  | n + 1, l => if l = [] then .ok [] else if goodB (mkB l) = false then .error 80 else if chkS (mkB l) ≠ 0 ∨ lvS (mkB l) = 0 then .error 70 else
    match elsF n (trimLW (l.drop 17)) with
    | .ok xs => .ok (elS (mkB l) :: xs)
    | .error e => .error e
def elsW (l : Bs) : Except Int (List El) := elsF l.length l
/-- a line of an entry -/
def lineW (l : Bs) : Except Int Ent :=
  if Lib.containsAny l [35, 10] = true then .error 80 else
  if (Lib.cut l [59]).2.2 = false then .error 80 else
  match codesW (Lib.cut l [59]).1 with
  | .error e => .error e
  | .ok x => match elsW (trimW (Lib.cut l [59]).2.1) with
    | .error e => .error e
    | .ok y => if y.length ≤ 16 then .ok (x, y) else .error 2
/-- a line of a range -/
def rangeW (whole : Bool) (l : Bs) : Except Int Rng :=
  if (Lib.cut l [59]).2.2 = false then .error 80 else
  if (Lib.cut (trimW (Lib.cut l [59]).1) [46, 46]).2.2 = false then .error 80 else
  match numX (Lib.cut (trimW (Lib.cut l [59]).1) [46, 46]).1 4 6 with
  | none => .error 80
  | some x => match numX (Lib.cut (trimW (Lib.cut l [59]).1) [46, 46]).2.1 4 6 with
    | none => .error 80
    | some y => match numX (trimW (Lib.cut l [59]).2.1) 4 4 with
      | none => .error 80
      | some b => if x ≤ 1114111 ∧ y ≤ 1114111 then .ok (x, y, b, whole) else .error 90
/-- a version's name -/
def verB (l : Bs) : Bool := decide (1 ≤ l.length) && decide (l.length ≤ 32) && l.all (fun b => decide (33 ≤ b.toNat) && decide (b.toNat ≤ 126))
/-- what has been read: the version, ranges, entries -/
abbrev TSt := Option Bs × List Rng × List Ent
def verK : Bs := [64, 118, 101, 114, 115, 105, 111, 110]
def impK : Bs := [64, 105, 109, 112, 108, 105, 99, 105, 116, 119, 101, 105, 103, 104, 116, 115]
def uniK : Bs := [64, 117, 110, 105, 102, 105, 101, 100]
def markW (st : TSt) (word arg : Bs) : Except Int TSt :=
  if word = verK then
    if arg ≠ [] ∧ st.1 = none ∧ Lib.containsAny arg [32, 9] = false then (if verB arg = true then .ok (some arg, st.2) else .error 114) else .error 80
  else if word = impK then
    match rangeW true arg with
    | .error e => .error e
    | .ok x => .ok (st.1, st.2.1 ++ [x], st.2.2)
  else if word = uniK then
    match rangeW false arg with
    | .error e => .error e
    | .ok x => .ok (st.1, st.2.1 ++ [x], st.2.2)
  else .error 80
def stepW (st : TSt) (l : Bs) : Except Int TSt :=
  if Lib.hasPrefix l [64] = true then
    if 0 < Lib.indexAny l [32, 9] then markW st (l.take (Lib.indexAny l [32, 9]).toNat) (trimW (l.drop (Lib.indexAny l [32, 9]).toNat)) else .error 80
  else match lineW l with
    | .error e => .error e
    | .ok x => if x.1 ∈ st.2.2.map (·.1) then .error 91 else if st.2.2.length < 4000 then .ok (st.1, st.2.1, st.2.2 ++ [x]) else .error 2
/-- a line without what counts for nothing -/
def lineOf (l : Bs) : Bs := trimW (Lib.cut (Lib.trimSuffix l [13]) [35]).1
def goW : TSt → Nat → List Bs → Except (Nat × Int) TSt
  | st, _, [] => .ok st
  | st, i, l :: ls => if lineOf l = [] then goW st (i + 1) ls else
    match stepW st (lineOf l) with
    | .error e => .error (i + 1, e)
    | .ok st' => goW st' (i + 1) ls
def piecesW : Bs → List Bs
  | [] => [[]]
  | b :: t => if b = 10 then [] :: piecesW t else match piecesW t with
    | [] => [[b]]
    | x :: xs => (b :: x) :: xs
/-- ranges in order -/
def insR (x : Rng) : List Rng → List Rng
  | [] => [x]
  | y :: ys => if x.1 < y.1 then x :: y :: ys else y :: insR x ys
def srtR (l : List Rng) : List Rng := l.foldl (fun a x => insR x a) []
def rngB (prev : Option Rng) (x : Rng) : Bool :=
  decide (0 ≤ x.1) && decide (x.2.1 ≤ 1114111) && decide (x.1 ≤ x.2.1) && (match prev with | none => true | some y => decide (y.2.1 < x.1)) && decide (64256 ≤ x.2.2.1) && decide (x.2.2.1 ≤ 64447) &&
    (if x.2.2.2 then decide (x.2.2.1 < 64320) && decide (x.2.1 - x.1 < 32768) else decide (x.2.2.1 = 64320) || decide (x.2.2.1 = 64384))
def rngG : Option Rng → List Rng → Bool
  | _, [] => true
  | p, x :: xs => rngB p x && rngG (some x) xs
def rngC (l : List Rng) : Int := if 100 < l.length then 2 else if rngG none l then 0 else 71
/-- what a text says: the version, ranges, entries; the line; the error -/
abbrev Tab := Bs × List Rng × List Ent
def tab0 : Tab := ([], [], [])
def endW : Except (Nat × Int) TSt → Tab × Nat × Int
  | .error (i, e) => (tab0, i, e)
  | .ok (none, _, _) => (tab0, 0, 114)
  | .ok (some v, rs, es) => if rngC (srtR rs) = 0 then ((v, srtR rs, es), 0, 0) else (tab0, 0, rngC (srtR rs))
def parseW (s : Bs) : Tab × Nat × Int := endW (goW (none, [], []) 0 (piecesW s))
/-- code points in digits -/
def upX (n : Nat) : UInt8 := UInt8.ofNat (if n % 16 < 10 then 48 + n % 16 else 55 + n % 16)
end Go.Proofs.YtjbcbejedaeedaaGreatDoor
/-! Maps from texts to numbers that the call itself makes: a word for what they hold, over any program. -/
namespace Go.Proofs.YtjbcbejedaeedaaGreatDoor
open Go.RowKit
open Go.Maps (Keyed)

/-- how a number in a map reads -/
def Rn : Value → Option (DataW Unit × List MemPlace)
  | .int .i64 n => some (.lit (.int .i64 n), [])
  | _ => none
theorem int_of {v : Value} {c : Int} {ps : List MemPlace} (h : Rn v = some (.lit (.int .i64 c), ps)) : v = .int .i64 c := by
  unfold Rn at h
  split at h
  · simp only [Option.some.injEq, Prod.mk.injEq, DataW.lit.injEq, Lit.int.injEq, true_and] at h
    rw [h.1]
  · cases h
variable {P : Program} {k : TypeId}
/-- block b is a map that tells f of each text; at most n keys -/
def KMap (P : Program) (k : TypeId) (w : World) (b n : Nat) (f : Bs → Int) : Prop :=
  ∃ L : List (Lit × DataW Unit), w.ownsMap P k Rn b n (.map L) ∧ ∀ x : Bs, (DataW.map L).atKey (.string x) (.lit (.int .i64 0)) = .lit (.int .i64 (f x))
theorem KMap.made (w : World) : KMap P k (w.alloc (.map #[] 0)) w.heap.size 0 (fun _ => 0) := ⟨[], World.ownsMap_made w P k Rn, fun _ => rfl⟩
theorem KMap.kept {w w' : World} {row : Option Nat} {b n : Nat} {f : Bs → Int} (h : KMap P k w b n f) (hg : w.grownBy w' row) (hne : some b ≠ row) : KMap P k w' b n f := by
  obtain ⟨L, h1, h2⟩ := h; exact ⟨L, h1.kept hg hne, h2⟩
theorem KMap.lt {w : World} {b n : Nat} {f : Bs → Int} (h : KMap P k w b n f) : b < w.heap.size := by
  obtain ⟨L, h1, _⟩ := h; exact h1.lt
theorem KMap.same {w w' : World} {b n : Nat} {f : Bs → Int} (h : KMap P k w b n f) (hb : w'.heap[b]? = w.heap[b]?) : KMap P k w' b n f := by
  obtain ⟨L, ⟨es, c, h1, h2⟩, h3⟩ := h
  exact ⟨L, ⟨es, c, hb.trans h1, h2⟩, h3⟩
theorem KMap.lookup {w : World} {b n : Nat} {f : Bs → Int} {t e : TypeId} (h : KMap P k w b n f) (hk : P.underlying k = some .string) (ht : P.underlying t = some (.map k e)) (hz : ∀ w, (zeroValue e).run P w = .ok (.int .i64 0) w)
    (x : Bs) (hx : x.length ≤ maxLen) : (Instr.lookup t (.map (some b)) (.string (mkB x)) false).run P w = .ok (.int .i64 (f x)) w := by
  obtain ⟨L, h1, h2⟩ := h
  have hkey := WideMaps.keyOf_string_mk hk (s := mkB x) (by rw [size_mkB]; exact hx)
  rw [data_mkB] at hkey
  obtain ⟨v, ps, hrun, hv⟩ := h1.lookup (Maps.string_keyed hk) ht (hz w) (zd := .lit (.int .i64 0)) (zp := []) rfl (key := .string (mkB x)) (kl := .string x) hkey
  rw [h2 x] at hv
  rw [hrun, int_of hv]
theorem KMap.update {w : World} {b n : Nat} {f : Bs → Int} {t e : TypeId} (h : KMap P k w b n f) (hk : P.underlying k = some .string) (ht : P.underlying t = some (.map k e)) (hn : n < maxLen) (x : Bs) (hx : x.length ≤ maxLen) (c : Int) :
    ∃ w', (Instr.mapUpdate t (.map (some b)) (.string (mkB x)) (.int .i64 c)).run P w = .ok () w' ∧ KMap P k w' b (n + 1) (fun q => if q = x then c else f q) ∧ w.grownBy w' (some b) := by
  obtain ⟨L, h1, h2⟩ := h
  have hkey := WideMaps.keyOf_string_mk hk (s := mkB x) (by rw [size_mkB]; exact hx)
  rw [data_mkB] at hkey
  obtain ⟨w', hrun, hown, hg⟩ := h1.update (Maps.string_keyed hk) ht hn (key := .string (mkB x)) (kl := .string x) (d := .lit (.int .i64 c)) (ps := []) hkey (val := .int .i64 c) rfl
  refine ⟨w', hrun, ⟨_, hown, fun q => ?_⟩, hg⟩
  by_cases e : q = x
  · subst e
    simp only [if_true]
    exact Maps.atKey_put_same ⟨L, rfl⟩ (by simp [WideAt.IsKeyLit]) _ _
  · have h4 := Maps.atKey_put_other (D := DataW.map L) (k' := .string q) (k := .string x) (by intro h; cases h; exact e rfl) (.lit (.int .i64 c)) (.lit (.int .i64 0))
    simp only [if_neg e]
    exact h4.trans (h2 q)
end Go.Proofs.YtjbcbejedaeedaaGreatDoor
