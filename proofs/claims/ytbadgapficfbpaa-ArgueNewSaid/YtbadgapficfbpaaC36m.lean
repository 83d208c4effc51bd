/-
  Chapter 36: cases as data, and what is computed of them: plain definitions. Conditions: none.
-/
import Derived.Test.YtbadgapficfbpaaBmAll
namespace Go.Proofs.Ytbadgapficfbpaa.Bm
open Go Go.RowKit

/-- A list of integers as a value: nil, or a list. -/
def ilist (k : Option Bool) (l : List Int) : Value := match k with
  | none => .slice none 0 0
  | some b => lst b (l.map (.int .i64))
def IOk (k : Option Bool) (l : List Int) : Prop := k = none → l = []

structure Claim where
  party : Int
  day : Int
  k : Option Bool
  att : List Int
  cite : Int
  name : ByteArray
  n : Int
def Claim.cells (c : Claim) : List Value := [.int .i64 c.party, .int .i64 c.day, ilist c.k c.att, .int .i64 c.cite, .string c.name, .int .i64 c.n]
def Claim.val (c : Claim) : Value := .agg ⟨c.cells⟩
def atts (l : List Claim) : List (List Int) := l.map Claim.att
def CaseOk (l : List Claim) : Prop := ∀ c ∈ l, IOk c.k c.att ∧ c.att.length ≤ maxLen

/-- Strictly ascending indices below 'n', behind 'last'. -/
def ascB (n : Nat) : Int → List Int → Bool
  | _, [] => true
  | last, k :: l => decide (last < k) && decide (k < n) && ascB n k l
def rightB (A : List (List Int)) : Bool := A.all (ascB A.length (-1)) && decide (A.length ≤ 300)

/-- The attackers of each claim: 'i' is added to the lists of those that it attacks. -/
def addA (i : Nat) (G : List (List Int)) (k : Int) : List (List Int) := G.modify k.toNat (· ++ [(i : Int)])
def graphG : List (List Int) → Nat → List (List Int) → List (List Int)
  | [], _, G => G
  | a :: A, i, G => graphG A (i + 1) (a.foldl (addA i) G)
def graphF (A : List (List Int)) : List (List Int) := graphG A 0 (List.replicate A.length [])

def getI (l : List Int) (k : Int) : Int := l.getD k.toNat 0
def getL (l : List (List Int)) (k : Int) : List Int := l.getD k.toNat []

/-! ### The grounded labelling, as the program finds it -/

/-- The claims of a wave are in. -/
def inS (r : Int) (s : List Int × List Int) (i : Int) : List Int × List Int := (s.1.set i.toNat 1, s.2.set i.toNat r)
/-- A claim that is attacked is out. -/
def outS (r : Int) (s : (List Int × List Int) × List Int) (k : Int) : (List Int × List Int) × List Int :=
  if getI s.1.1 k = 0 then ((s.1.1.set k.toNat 2, s.1.2.set k.toNat (r + 1)), s.2 ++ [k]) else s
/-- One attacker less. -/
def lessS (L : List Int) (s : List Int × List Int) (k : Int) : List Int × List Int :=
  (s.1.set k.toNat (getI s.1 k - 1), if getI s.1 k - 1 = 0 ∧ getI L k = 0 then s.2 ++ [k] else s.2)

structure GS where
  lab : List Int
  rk : List Int
  left : List Int
  wave : List Int

def waveS (A : List (List Int)) (r : Int) (s : GS) : GS :=
  let s1 := s.wave.foldl (inS r) (s.lab, s.rk)
  let s2 := s.wave.foldl (fun s i => (getL A i).foldl (outS r) s) (s1, [])
  let s3 := s2.2.foldl (fun s k => (getL A k).foldl (lessS s2.1.1) s) (s.left, [])
  ⟨s2.1.1, s2.1.2, s3.1, s3.2⟩
def wavesS (A : List (List Int)) : Nat → Int → GS → GS
  | 0, _, s => s
  | n + 1, r, s => if s.wave = [] then s else wavesS A n (r + 2) (waveS A r s)
def zerosI (n : Nat) : List Int := List.replicate n 0
/-- Those that nothing attacks. -/
def wave0 : List (List Int) → Nat → List Int
  | [], _ => []
  | g :: G, i => if g = [] then (i : Int) :: wave0 G (i + 1) else wave0 G (i + 1)
def startS (A : List (List Int)) : GS := ⟨zerosI A.length, zerosI A.length, (graphF A).map (fun g => (g.length : Int)), wave0 (graphF A) 0⟩
def groundF (A : List (List Int)) : List Int × List Int := let s := wavesS A (A.length + 1) 1 (startS A); (s.lab, s.rk)

/-! ### The reasons of a claim -/

def firstS (L R : List Int) (b i : Int) : Int := if getI L i = 1 ∧ (b < 0 ∨ getI R i < getI R b) then i else b
def firstF (L R : List Int) (l : List Int) : Int := l.foldl (firstS L R) (-1)
/-- A set that grows: what one needs, to some depth. -/
def needF (G : List (List Int)) (L R : List Int) : Nat → List Int → Int → List Int
  | 0, S, _ => S
  | d + 1, S, i => if S.contains i then S else (getL G i).foldl (fun S k => needF G L R d S (firstF L R (getL G k))) (S ++ [i])
def whyF (A : List (List Int)) (c : Int) : List Int :=
  if rightB A = true ∧ 0 ≤ c ∧ c < A.length then
    let g := groundF A
    if getI g.1 c = 0 then [] else
      let G := graphF A
      sortI (needF G g.1 g.2 (A.length + 1) [] (if getI g.1 c = 2 then firstF g.1 g.2 (getL G c) else c))
  else []

/-- Of this function nothing is known. -/
def noO (_ : List Value) (_ : Heap) (_ : Nat) : Res := none

/-- A list of reasons as a value: nil, if there are none. -/
def whyV (l : List Int) : Value := if l = [] then .slice none 0 0 else lst false (l.map (.int .i64))
/-- That a value is a case. -/
def IsCase (v : Value) (A : List (List Int)) : Prop := ∃ (x : Bool) (l : List Claim), v = lst x (l.map Claim.val) ∧ CaseOk l ∧ l.length ≤ maxLen ∧ A = atts l
open Classical in
/-- What Why yields of a case. -/
noncomputable def whyO (args : List Value) (h : Heap) (_lo : Nat) : Res := match args with
  | [v, .int .i64 c] => if k : ∃ A, IsCase v A then some (whyV (whyF k.choose c), h) else none
  | _ => none

end Go.Proofs.Ytbadgapficfbpaa.Bm
