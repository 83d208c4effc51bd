/-
  Chapter 36: the examples of the documentation. Conditions: none.
-/
import Derived.Test.YtbadgapficfbpaaC36z
namespace Go.Proofs.Ytbadgapficfbpaa.Bm
open Go Go.RowKit

def zC : List Value := [Value.int IntKind.i64 0, Value.int IntKind.i64 0, Value.slice none 0 0, Value.int IntKind.i64 0, Value.string ⟨⟨[]⟩⟩, Value.int IntKind.i64 0]
def cC (v : Value) : List Value := [Value.int IntKind.i64 0, Value.int IntKind.i64 0, v, Value.int IntKind.i64 0, Value.string ⟨⟨[]⟩⟩, Value.int IntKind.i64 0]
theorem bC (a : Option Addr) (n c : Nat) : buildT (Bl.fs ⟨zC⟩ ⟨[(0, 1), (1, 1), (2, 1), (3, 1), (4, 1), (5, 1)]⟩) #[(2, Value.slice a n c)] = some (.agg ⟨cC (.slice a n c)⟩) := rfl
theorem bN : buildT (Bl.fs ⟨zC⟩ ⟨[(0, 1), (1, 1), (2, 1), (3, 1), (4, 1), (5, 1)]⟩) #[] = some (.agg ⟨zC⟩) := rfl

def elC : El := ⟨40, 6, 72, .agg ⟨zC⟩, ⟨some true, some 6⟩⟩
def elI : El := ⟨3, 1, 8, .int .i64 0, ⟨some false, some 1⟩⟩
theorem l1 (h : Heap) (a : Addr) (n c : Nat) : buildSliceT (some elC) false h 1 #[(0, .agg ⟨cC (.slice (some a) n c)⟩)] = some (.slice (some ⟨h.length, 0, none⟩) 1 1, h ++ [.cells 40 (cC (.slice (some a) n c)) 0]) :=
  (build_lit' (n := 1) (l := [(0, .agg ⟨cC (.slice (some a) n c)⟩)]) rfl rfl (by decide) (by decide) (by decide)).trans rfl
theorem l2 (h : Heap) (a b : Addr) (n c m d : Nat) : buildSliceT (some elC) false h 2 #[(0, .agg ⟨cC (.slice (some a) n c)⟩), (1, .agg ⟨cC (.slice (some b) m d)⟩)] = some (.slice (some ⟨h.length, 0, none⟩) 2 2, h ++ [.cells 40 (cC (.slice (some a) n c) ++ cC (.slice (some b) m d)) 0]) :=
  (build_lit' (n := 2) (l := [(0, .agg ⟨cC (.slice (some a) n c)⟩), (1, .agg ⟨cC (.slice (some b) m d)⟩)]) rfl rfl (by decide) (by decide) (by decide)).trans rfl
theorem l3 (h : Heap) (a b : Addr) (n c m d : Nat) : buildSliceT (some elC) false h 3 #[(0, .agg ⟨cC (.slice (some a) n c)⟩), (1, .agg ⟨cC (.slice (some b) m d)⟩), (2, .agg ⟨zC⟩)] = some (.slice (some ⟨h.length, 0, none⟩) 3 3, h ++ [.cells 40 (cC (.slice (some a) n c) ++ cC (.slice (some b) m d) ++ zC) 0]) :=
  (build_lit' (n := 3) (l := [(0, .agg ⟨cC (.slice (some a) n c)⟩), (1, .agg ⟨cC (.slice (some b) m d)⟩), (2, .agg ⟨zC⟩)]) rfl rfl (by decide) (by decide) (by decide)).trans rfl
theorem l4 (h : Heap) (a b : Addr) (n c m d : Nat) : buildSliceT (some elC) false h 3 #[(0, .agg ⟨cC (.slice (some a) n c)⟩), (1, .agg ⟨zC⟩), (2, .agg ⟨cC (.slice (some b) m d)⟩)] = some (.slice (some ⟨h.length, 0, none⟩) 3 3, h ++ [.cells 40 (cC (.slice (some a) n c) ++ zC ++ cC (.slice (some b) m d)) 0]) :=
  (build_lit' (n := 3) (l := [(0, .agg ⟨cC (.slice (some a) n c)⟩), (1, .agg ⟨zC⟩), (2, .agg ⟨cC (.slice (some b) m d)⟩)]) rfl rfl (by decide) (by decide) (by decide)).trans rfl
theorem i2 (h : Heap) (a b : Int) : buildSliceT (some elI) true h 2 #[(0, .int .i64 a), (1, .int .i64 b)] = some (.slice (some ⟨h.length, 0, some 2⟩) 2 2, h ++ [.cells 3 [.int .i64 a, .int .i64 b] 1]) :=
  (build_lit' (n := 2) (l := [(0, .int .i64 a), (1, .int .i64 b)]) rfl rfl (by decide) (by decide) (by decide)).trans rfl
theorem i3 (h : Heap) (a b c : Int) : buildSliceT (some elI) true h 3 #[(0, .int .i64 a), (1, .int .i64 b), (2, .int .i64 c)] = some (.slice (some ⟨h.length, 0, some 3⟩) 3 3, h ++ [.cells 3 [.int .i64 a, .int .i64 b, .int .i64 c] 1]) :=
  (build_lit' (n := 3) (l := [(0, .int .i64 a), (1, .int .i64 b), (2, .int .i64 c)]) rfl rfl (by decide) (by decide) (by decide)).trans rfl

def clm (l : List Int) (k : Option Bool) : Claim := ⟨0, 0, k, l, 0, ⟨⟨[]⟩⟩, 0⟩
def chain : List Claim := [clm [1] (some false), clm [2] (some false), clm [] none]

def rw1 (n : Nat) (b : Nat) : Value := .slice (some ⟨b, 0, some n⟩) n n
def rI (l : List Int) : AObj := .cells 3 (l.map (.int .i64)) 1
theorem f1 : freezeV E1.P depth 0 [rI [1], rI [2], .cells 40 (cC (rw1 1 0) ++ cC (rw1 1 1) ++ zC) 0] (.slice (some ⟨2, 0, none⟩) 3 3) = some (lst false (chain.map Claim.val), [.dead, .dead, .dead]) :=
  show freezeV E.P depth 0 _ _ = _ by kernel_rfl
def case2 : List Claim := [clm [1] (some false), clm [0] (some false)]
def case3 : List Claim := [clm [0, 1] (some false), clm [] none, clm [0] (some false)]
def case4 : List Claim := [clm [1] (some false)]
theorem f2 : frzAll E1.P 0 [.slice (some ⟨5, 0, none⟩) 2 2] [.dead, .dead, .dead, rI [1], rI [0], .cells 40 (cC (rw1 1 3) ++ cC (rw1 1 4)) 0] = some ([lst false (case2.map Claim.val)], [.dead, .dead, .dead, .dead, .dead, .dead]) :=
  show frzAll E.P 0 _ _ = _ by kernel_rfl
theorem f3 : frzAll E1.P 0 [.slice (some ⟨8, 0, none⟩) 3 3] [.dead, .dead, .dead, .dead, .dead, .dead, rI [0, 1], rI [0], .cells 40 (cC (rw1 2 6) ++ zC ++ cC (rw1 1 7)) 0] = some ([lst false (case3.map Claim.val)], [.dead, .dead, .dead, .dead, .dead, .dead, .dead, .dead, .dead]) :=
  show frzAll E.P 0 _ _ = _ by kernel_rfl
theorem f4 : frzAll E1.P 0 [.slice (some ⟨10, 0, none⟩) 1 1] [.dead, .dead, .dead, .dead, .dead, .dead, .dead, .dead, .dead, rI [1], .cells 40 (cC (rw1 1 9)) 0] = some ([lst false (case4.map Claim.val)], [.dead, .dead, .dead, .dead, .dead, .dead, .dead, .dead, .dead, .dead, .dead]) :=
  show frzAll E.P 0 _ _ = _ by kernel_rfl
theorem okC {l : List Claim} (h : l.all (fun c => decide (c.k = none → c.att = []) && decide (c.att.length ≤ 10)) = true) : CaseOk l := fun c hc => by
  have := List.all_eq_true.1 h c hc
  simp only [Bool.and_eq_true, decide_eq_true_eq] at this
  exact ⟨this.1, by unfold maxLen; omega⟩
theorem ok1 : CaseOk chain := okC (by decide)
theorem ok2 : CaseOk case2 := okC (by decide)
theorem ok3 : CaseOk case3 := okC (by decide)
theorem ok4 : CaseOk case4 := okC (by decide)
theorem gr1 : pureCall E1.P (L E1) 10 [lst false (chain.map Claim.val)] = some (.tuple #[rowT [1, 2, 1], rowT [1, 2, 3], .int .i64 0]) := lift ((grounded_spec false chain ok1 (by decide)).trans (by kernel_rfl))
theorem gr2 : pureCall E1.P (L E1) 10 [lst false (case2.map Claim.val)] = some (.tuple #[rowT [0, 0], rowT [0, 0], .int .i64 0]) := lift ((grounded_spec false case2 ok2 (by decide)).trans (by kernel_rfl))
theorem gr3 : pureCall E1.P (L E1) 10 [lst false (case3.map Claim.val)] = some (.tuple #[rowT [2, 1, 1], rowT [2, 3, 1], .int .i64 0]) := lift ((grounded_spec false case3 ok3 (by decide)).trans (by kernel_rfl))
theorem gr4 : pureCall E1.P (L E1) 10 [lst false (case4.map Claim.val)] = some (.tuple #[.slice none 0 0, .slice none 0 0, .int .i64 1]) := lift ((grounded_spec false case4 ok4 (by decide)).trans (by kernel_rfl))
theorem int_same (l : List Int) (hl : l.length ≤ maxLen) : pureCall E1.P (L E1) 12 [rowT l, lst false (l.map (.int .i64))] = some (.bool true) := lift ((ints_spec (some false) (some false) l l iok_some iok_some hl).trans (by simp))
theorem why1 : pureCall E1.P (L E1) 21 [lst false (chain.map Claim.val), .int .i64 2] = some (lst false ([0, 2].map (.int .i64))) := (why_spec false chain 2 ok1 (by decide)).trans (by kernel_rfl)
theorem chk1 : pureCall E1.P (L E1) 15 [lst false (chain.map Claim.val), rowT [1, 2, 1], rowT [1, 2, 3]] = some (.int .i64 0) := lift ((check_spec false chain (some false) (some false) [1, 2, 1] [1, 2, 3] ok1 (by decide) iok_some iok_some).trans (by kernel_rfl))
theorem chk2 : pureCall E1.P (L E1) 15 [lst false (chain.map Claim.val), rowT [1, 2, 3], rowT [1, 2, 1]] = some (.int .i64 19) := lift ((check_spec false chain (some false) (some false) [1, 2, 3] [1, 2, 1] ok1 (by decide) iok_some iok_some).trans (by kernel_rfl))
theorem df1 : pureCall E1.P (L E1) 17 [lst false (chain.map Claim.val), lst false [.int .i64 0], .int .i64 2] = some (.bool true) := lift ((defends_spec false chain (some false) [0] 2 ok1 (by decide) iok_some (by decide)).trans (by kernel_rfl))
theorem df2 : pureCall E1.P (L E1) 17 [lst false (chain.map Claim.val), .slice none 0 0, .int .i64 2] = some (.bool false) := lift ((defends_spec false chain none [] 2 ok1 (by decide) (fun _ => rfl) (by decide)).trans (by kernel_rfl))
theorem ad1 : pureCall E1.P (L E1) 19 [lst false (chain.map Claim.val), lst false [.int .i64 2, .int .i64 0]] = some (.bool true) := lift ((admissible_spec false chain (some false) [2, 0] ok1 (by decide) iok_some (by decide)).trans (by kernel_rfl))
theorem ad2 : pureCall E1.P (L E1) 19 [lst false (chain.map Claim.val), lst false [.int .i64 2]] = some (.bool false) := lift ((admissible_spec false chain (some false) [2] ok1 (by decide) iok_some (by decide)).trans (by kernel_rfl))
set_option maxRecDepth 100000 in
theorem rgt0 : pureCall E1.P (L E1) 13 [.slice none 0 0] = some (.bool true) := lift (pureCall_le (evF_L 20) (by kernel_rfl))
theorem s3E : szOf E1.P 3 = some 1 := s3
theorem el3 (n : Nat) (c : List Value) : elemsOf E1.P 3 n c = some c := elems_one (P := E.P) a3 s3
theorem a3E : aggT E1.P 3 = some false := a3

set_option maxRecDepth 20000 in
theorem small_spec : pureCall E1.P (L E1) 8 [] = some (.bool true) := by
  rw [pureCall_fn (fn1 F8) rfl]
  have b1 := bC
  have b2 := bN
  have c1 := l1
  have c2 := l2
  have c3 := l3
  have c4 := l4
  have d2 := i2
  have d3 := i3
  simp only [elC, elI, cC, zC, List.cons_append, List.nil_append] at b1 b2 c1 c2 c3 c4 d2 d3
  have g1 := f1
  have g2 := f2
  have g3 := f3
  have g4 := f4
  have e1 := int_same [1, 2, 1] (by decide)
  have e2 := int_same [1, 2, 3] (by decide)
  have e3 := int_same [0, 0] (by decide)
  have e4 := int_same [2, 1, 1] (by decide)
  have e5 := int_same [2, 3, 1] (by decide)
  have e6 := int_same [0, 2] (by decide)
  have y1 := why1
  unfold rowT at e6
  have n10 : E1.mode 10 = 4 := rfl
  have n12 : E1.mode 12 = 0 := rfl
  have n15 : E1.mode 15 = 0 := rfl
  have n17 : E1.mode 17 = 0 := rfl
  have n19 : E1.mode 19 = 0 := rfl
  have n13 : E1.mode 13 = 0 := rfl
  have n21 : E1.mode 21 = 1 := rfl
  have rt : ∀ n l h, reify E1.P (n + 1) h (rowT l) = some (rowT l) := fun _ _ _ => rfl
  simp only [rI, rw1, cC, zC, List.cons_append, List.nil_append, List.map_cons, List.map_nil] at g1 g2 g3 g4 e1 e2 e3 e4 e5 e6 y1
  simp -implicitDefEqProofs [r8, p8, build_one', Value.cells, b1, b2, c1, c2, c3, c4, d2, d3, prep_frz, g1, g2, g3, g4, ret4 n10, frzAll_lst, gr1, gr2, gr3, gr4,
    ret0 n12, ret0 n13, ret0 n15, ret0 n17, ret0 n19, ret1s n21, rt, s3E, el3, e1, e2, e3, e4, e5, e6, y1, chk1, chk2, df1, df2, ad1, ad2, rgt0]

end Go.Proofs.Ytbadgapficfbpaa.Bm
