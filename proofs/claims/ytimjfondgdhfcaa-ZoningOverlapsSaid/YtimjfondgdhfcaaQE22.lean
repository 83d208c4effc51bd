/-
  Chapter 18: zones that overlap, walked. Conditions: few zones, with few corners.
-/
import Derived.Test.YtimjfondgdhfcaaQE21
import Derived.Test.YtimjfondgdhfcaaQE14
import Derived.Test.YtimjfondgdhfcaaChecked
import Derived.Shelf.Sort.Plain
import Derived.Shelf.Slices.In.SortNone
import Derived.Shelf.Slices.CompactI
import Derived.Test.YtimjfondgdhfcaaRows
namespace Go.Proofs.Ytimjfondgdhfcaa.Bm
open Go Go.RowKit
open Rg (Rect Pt Zn rightP polyL comA comP)
def kR : Except Int (List Rect) → Option Bool
  | .error _ => none
  | .ok _ => some false
def lR : Except Int (List Rect) → List Rect
  | .error _ => []
  | .ok l => l
def eR : Except Int (List Rect) → Int
  | .error e => e
  | .ok _ => 0
theorem resL_eq (r : Except Int (List Rect)) : resL r = .tuple ⟨[rectR.o (kR r) (lR r), .int .i64 (eR r)]⟩ := by cases r <;> rfl
theorem kR_ok (r : Except Int (List Rect)) : Rec.Ok (kR r) (lR r) := by
  cases r
  · exact fun _ => rfl
  · exact Rec.ok_some
theorem poly_reg {p : List Pt} (h : rightP p = true) (hl : (polyL p).length ≤ 200) : regB (polyL p) = true := by
  have hp := Rg.rightP_poly h
  obtain ⟨hf, hc⟩ := hp.form
  exact regB_iff.2 ⟨List.all_eq_true.2 fun r hr => okR_iff.2 (hf.box (fun x y hxy => hp.inGrid (by rw [← hc]; exact hxy)) r hr), hl, hf⟩
theorem pregion_o (x : Bool) (p : List Pt) (hp : p.length ≤ 1000000) : pureCall E.P (L E) 21 [lst x (spanR.vals p)] = some (.tuple ⟨[rectR.o (kR (polyX p)) (lR (polyX p)), .int .i64 (eR (polyX p))]⟩) := by
  rw [← resL_eq]; exact pregion_spec x p hp
theorem polyX_reg (p : List Pt) : regB (lR (polyX p)) = true := by
  unfold polyX
  cases hr : rightP p
  · exact regB_iff.2 ⟨rfl, by show 0 ≤ 200; omega, Rg.Form.nil⟩
  · rw [if_pos rfl]
    by_cases h : 200 < (polyL p).length
    · rw [if_pos h]; exact regB_iff.2 ⟨rfl, by show 0 ≤ 200; omega, Rg.Form.nil⟩
    · rw [if_neg h]; exact poly_reg hr (by omega)
theorem polyX_err {p : List Pt} (h : eR (polyX p) ≠ 0) : kR (polyX p) = none ∧ lR (polyX p) = [] := by
  cases hq : polyX p
  · exact ⟨rfl, rfl⟩
  · rw [hq] at h; exact absurd rfl h
theorem polyX_ok {p : List Pt} (h : eR (polyX p) = 0) : kR (polyX p) = some false := by
  unfold polyX at *
  cases hr : rightP p
  · rw [hr, if_neg (by decide)] at h; exact absurd (show (10 : Int) = 0 from h) (by decide)
  · rw [hr, if_pos rfl] at h
    rw [if_pos rfl]
    by_cases hl : 200 < (polyL p).length
    · rw [if_pos hl] at h; exact absurd (show (6 : Int) = 0 from h) (by decide)
    · rw [if_neg hl]; rfl
def cellsZ (z : Zn) : List Rect := lR (polyX z.cs)
theorem cellsZ_reg (z : Zn) : regB (cellsZ z) = true := polyX_reg z.cs
abbrev Op := Option (Bool × List Value)
def opV : Op → Value
  | none => .slice none 0 0
  | some (b, l) => lst b l
theorem op_set {n : Nat} {o : Op} : settled (n + 1) (opV o) = true := by cases o <;> rfl
theorem op_bel {d n : Nat} {o : Op} : below (d + 1) n (opV o) = true := by cases o <;> rfl
structure Pl where
  d : Op
  t : Op
  r : Op
  c : Op
  v : Op
  s : Op
  h : Int
  x : Bool
  y : Bool
  zs : List Zn
def znE (y : Bool) (z : Zn) : List Value := [.string z.nm, .bool z.ov, lst y (spanR.vals z.cs)]
def znR (y : Bool) : Rec Zn where
  enc z := znE y z
  m := 2
  len _ := rfl
  set _ := rfl
  bel _ _ := rfl
def Pl.zv (p : Pl) : Value := lst p.x ((znR p.y).vals p.zs)
def Pl.cells (p : Pl) : List Value := [opV p.d, opV p.t, p.zv, opV p.r, opV p.c, opV p.v, opV p.s, .int .i64 p.h]
def Pl.val (p : Pl) : Value := .agg ⟨p.cells⟩
theorem Pl.zv_set {n : Nat} (p : Pl) : settled (n + 1) p.zv = true := rfl
theorem Pl.set (p : Pl) : settled depth p.val = true := by
  show [opV p.d, opV p.t, p.zv, opV p.r, opV p.c, opV p.v, opV p.s, .int .i64 p.h].all (settled 7) = true
  simp only [List.all_cons, List.all_nil, op_set, Pl.zv_set, Bool.and_true, Bool.true_and]; rfl
theorem Pl.cset (p : Pl) : p.cells.all (settled depth) = true := by
  show [opV p.d, opV p.t, p.zv, opV p.r, opV p.c, opV p.v, opV p.s, .int .i64 p.h].all (settled 8) = true
  simp only [List.all_cons, List.all_nil, op_set, Pl.zv_set, Bool.and_true, Bool.true_and]; rfl
theorem Pl.reify (h : Heap) (p : Pl) : Bm.reify E.P 8 h p.val = some p.val := by
  show ((if p.cells.all (settled depth) = true then some p.cells else p.cells.mapM (Bm.reify E.P 7 h)).map fun cs => Value.agg ⟨cs⟩) = _
  rw [if_pos p.cset]; rfl
theorem Pl.bel {d n : Nat} (p : Pl) : below (d + 2) n p.val = true := by
  show [opV p.d, opV p.t, p.zv, opV p.r, opV p.c, opV p.v, opV p.s, .int .i64 p.h].all (below (d + 1) n) = true
  simp only [List.all_cons, List.all_nil, op_bel, Bool.and_true, Bool.true_and]; rfl
theorem zn_val {y : Bool} {z : Zn} : (znR y).val z = .agg ⟨[.string z.nm, .bool z.ov, lst y (spanR.vals z.cs)]⟩ := rfl
theorem zcells_spec (y : Bool) (z : Zn) (hz : z.cs.length ≤ 64) : pureCall E.P (L E) 31 [(znR y).val z] = some (rectR.o (kR (polyX z.cs)) (cellsZ z)) := by
  have hG := pregion_o y z.cs (by omega)
  have sv : settled depth (lst y (spanR.vals z.cs)) = true := rfl
  rw [zn_val, pureCall_fn F31 rfl]
  unfold cellsZ
  by_cases he : eR (polyX z.cs) = 0
  · rw [he] at hG
    rw [polyX_ok he] at hG ⊢
    simp -implicitDefEqProofs [r31, padS, ret1 m21, sv, hG, Rec.o]
  · obtain ⟨e1, e2⟩ := polyX_err he
    rw [e1, e2] at hG ⊢
    simp -implicitDefEqProofs [r31, padS, ret1 m21, sv, hG, Rec.o, he]
end Go.Proofs.Ytimjfondgdhfcaa.Bm
namespace Go.Proofs.Ytimjfondgdhfcaa
open Go Go.RowKit Go.Shelf Go.Sort
def lays189_ren : Go.Shelf.Ren := ⟨fun | 189 => 39 | 125 => 67 | 257 => 66 | 128 => 90 | 129 => 91 | 294 => 81 | 295 => 82 | 296 => 83 | 297 => 84 | 298 => 85 | 299 => 86 | 216 => 87 | 300 => 88 | 301 => 89 | 328 => 100 | 329 => 101 | 330 => 102 | 331 => 103 | 332 => 104 | 215 => 76 | 343 => 111 | n => n, fun | 28 => 34 | 3 => 3 | 46 => 96 | 0 => 0 | 51 => 119 | 53 => 121 | 4 => 4 | 183 => 111 | 182 => 110 | 131 => 116 | 5 => 5 | 9 => 9 | 218 => 131 | 222 => 135 | 228 => 144 | 229 => 145 | n => n, fun | n => n⟩
theorem lays189 : Go.Proofs.Lays.n189 Try.prog lays189_ren := {
  mixed := by kernel_rfl
  f125 := Try.func67.trans (congrArg some (by kernel_rfl))
  f128 := Try.func90.trans (congrArg some (by kernel_rfl))
  f129 := Try.func91.trans (congrArg some (by kernel_rfl))
  f189 := Try.func39.trans (congrArg some (by kernel_rfl))
  f215 := Try.func76.trans (congrArg some (by kernel_rfl))
  f216 := Try.func87.trans (congrArg some (by kernel_rfl))
  f257 := Try.func66.trans (congrArg some (by kernel_rfl))
  f294 := Try.func81.trans (congrArg some (by kernel_rfl))
  f295 := Try.func82.trans (congrArg some (by kernel_rfl))
  f296 := Try.func83.trans (congrArg some (by kernel_rfl))
  f297 := Try.func84.trans (congrArg some (by kernel_rfl))
  f298 := Try.func85.trans (congrArg some (by kernel_rfl))
  f299 := Try.func86.trans (congrArg some (by kernel_rfl))
  f300 := Try.func88.trans (congrArg some (by kernel_rfl))
  f301 := Try.func89.trans (congrArg some (by kernel_rfl))
  f328 := Try.func100.trans (congrArg some (by kernel_rfl))
  f329 := Try.func101.trans (congrArg some (by kernel_rfl))
  f330 := Try.func102.trans (congrArg some (by kernel_rfl))
  f331 := Try.func103.trans (congrArg some (by kernel_rfl))
  f332 := Try.func104.trans (congrArg some (by kernel_rfl))
  f343 := Try.func111.trans (congrArg some (by kernel_rfl))
  t0 := Try.underlying0
  a0 := Try.isAgg0
  z0 := Try.sizeOf0
  v0 := Try.zeroValue0
  t3 := Try.underlying3
  a3 := Try.isAgg3
  z3 := Try.sizeOf3
  v3 := Try.zeroValue3
  t4 := Try.underlying4
  a4 := Try.isAgg4
  z4 := Try.sizeOf4
  v4 := Try.zeroValue4
  t5 := Try.underlying5
  a5 := Try.isAgg5
  z5 := Try.sizeOf5
  v5 := Try.zeroValue5
  t9 := Try.underlying9
  a9 := Try.isAgg9
  z9 := Try.sizeOf9
  v9 := Try.zeroValue9
  t28 := Try.underlying34
  a28 := Try.isAgg34
  z28 := Try.sizeOf34
  v28 := Try.zeroValue34
  t46 := Try.underlying96
  a46 := Try.isAgg96
  z46 := Try.sizeOf96
  v46 := Try.zeroValue96
  t51 := Try.underlying119
  a51 := Try.isAgg119
  z51 := Try.sizeOf119
  v51 := Try.zeroValue119
  t53 := Try.underlying121
  a53 := Try.isAgg121
  z53 := Try.sizeOf121
  v53 := Try.zeroValue121
  t131 := Try.underlying116
  a131 := Try.isAgg116
  z131 := Try.sizeOf116
  v131 := Try.zeroValue116
  t182 := Try.underlying110
  a182 := Try.isAgg110
  z182 := Try.sizeOf110
  v182 := Try.zeroValue110
  t183 := Try.underlying111
  a183 := Try.isAgg111
  z183 := Try.sizeOf111
  v183 := Try.zeroValue111
  t218 := Try.underlying131
  a218 := Try.isAgg131
  z218 := Try.sizeOf131
  v218 := Try.zeroValue131
  t222 := Try.underlying135
  a222 := Try.isAgg135
  z222 := Try.sizeOf135
  v222 := Try.zeroValue135
  t228 := Try.underlying144
  a228 := Try.isAgg144
  z228 := Try.sizeOf144
  v228 := Try.zeroValue144
  t229 := Try.underlying145
  a229 := Try.isAgg145
  z229 := Try.sizeOf145
  v229 := Try.zeroValue145 }
theorem conSort : Bm.SortCon Try.prog 39 Bm.sortI none where
  row blk off cap zs w hH hblk hsz _ := by
    rw [← Bm.sortI_eq]
    exact Any.slices_Sort_int lays189 blk off cap zs w hH hblk hsz
  none p cap w := Any.slices_Sort_int_none lays189 p cap w
  dfd := ⟨_, Try.func39, rfl⟩
  len := Bm.sortI_len
  cut := fun _ h => by cases h
end Go.Proofs.Ytimjfondgdhfcaa
namespace Go.Proofs.Ytimjfondgdhfcaa
open Go Go.RowKit Go.Shelf Go.Sort
def laysNm220_ren : Go.Shelf.Ren := ⟨fun | 20 => 40 | n => n, fun | 22 => 34 | 3 => 3 | 4 => 4 | 0 => 0 | n => n, fun | n => n⟩
theorem laysNm220 : Go.Proofs.Lays2.n20 Try.prog laysNm220_ren := {
  mixed := by kernel_rfl
  f20 := Try.func40.trans (congrArg some (by kernel_rfl))
  t0 := Try.underlying0
  a0 := Try.isAgg0
  z0 := Try.sizeOf0
  v0 := Try.zeroValue0
  t3 := Try.underlying3
  a3 := Try.isAgg3
  z3 := Try.sizeOf3
  v3 := Try.zeroValue3
  t4 := Try.underlying4
  a4 := Try.isAgg4
  z4 := Try.sizeOf4
  v4 := Try.zeroValue4
  t22 := Try.underlying34
  a22 := Try.isAgg34
  z22 := Try.sizeOf34
  v22 := Try.zeroValue34
  i3 := by kernel_rfl }
theorem conComp : Bm.SortCon Try.prog 40 Bm.compF (some Bm.compN) where
  row blk off cap zs w hH hblk hsz hc := (Any.slices_Compact_int laysNm220 blk off cap zs w hH (by omega) hc).mono fun e w' h => by
    rw [Bm.compact_eq] at h
    exact ⟨h.1, h.2.imp fun n k => ⟨#[], by rw [k]; exact (grow_empty _).symm⟩⟩
  none p cap w := Any.slices_Compact_int_empty laysNm220 p cap w
  dfd := ⟨_, Try.func40, rfl⟩
  len := Bm.compF_len
  cut := fun m h zs => by cases h; exact Bm.compG_len zs none
end Go.Proofs.Ytimjfondgdhfcaa
namespace Go.Proofs.Ytimjfondgdhfcaa.Bm
open Go Go.RowKit
open Rg (Rect Zn)
theorem okE : OkProg E.P := okProg_of (by kernel_rfl) (by kernel_rfl)
theorem laidE : laidOutB E.P = true := by kernel_rfl
theorem mapsE : mapsRowed E.P = true := by kernel_rfl
noncomputable def tlE : List TypeId := closeT E.P 8 [30, 31, 3]
theorem closedE : closedT E.P tlE = true := by kernel_rfl
theorem in30 : 30 ∈ tlE := List.contains_iff_mem.1 (by kernel_rfl)
theorem in31 : 31 ∈ tlE := List.contains_iff_mem.1 (by kernel_rfl)
theorem in3 : 3 ∈ tlE := List.contains_iff_mem.1 (by kernel_rfl)
theorem ui : E.P.underlying 3 = some (.int .i64) := by kernel_rfl
theorem u4 : E.P.underlying 4 = some .bool := by kernel_rfl
theorem uSt : E.P.underlying 9 = some .string := by kernel_rfl
theorem ni : E.P.cellsOf 3 = 1 := by kernel_rfl
theorem nB : E.P.cellsOf 4 = 1 := by kernel_rfl
theorem nS : E.P.cellsOf 9 = 1 := by kernel_rfl
theorem gi : aggT E.P 3 = some false := by kernel_rfl
theorem uPs : E.P.underlying 47 = some (.slice 36) := by kernel_rfl
theorem fPt : fsOf E.P 36 = some [(0, 3), (1, 3)] := by kernel_rfl
theorem nPt : E.P.cellsOf 36 = 2 := by kernel_rfl
theorem nPs : E.P.cellsOf 47 = 1 := by kernel_rfl
theorem gPt : aggT E.P 36 = some true := by kernel_rfl
theorem fZ : fsOf E.P 49 = some [(0, 9), (1, 4), (2, 47)] := by kernel_rfl
theorem nZ : E.P.cellsOf 49 = 3 := by kernel_rfl
theorem gZ : aggT E.P 49 = some true := by kernel_rfl
theorem fP : fsOf E.P 30 = some [(0, 22), (1, 23), (2, 24), (3, 25), (4, 26), (5, 27), (6, 28), (7, 3)] := by kernel_rfl
theorem nP : E.P.cellsOf 30 = 8 := by kernel_rfl
theorem gP : aggT E.P 30 = some true := by kernel_rfl
theorem nLDef : E.P.cellsOf 22 = 1 := by kernel_rfl
theorem uLDef : E.P.underlying 22 = some (.slice 175) := by kernel_rfl
theorem nLTable : E.P.cellsOf 23 = 1 := by kernel_rfl
theorem uLTable : E.P.underlying 23 = some (.slice 178) := by kernel_rfl
theorem nLZone : E.P.cellsOf 24 = 1 := by kernel_rfl
theorem uLZone : E.P.underlying 24 = some (.slice 49) := by kernel_rfl
theorem nLRule : E.P.cellsOf 25 = 1 := by kernel_rfl
theorem uLRule : E.P.underlying 25 = some (.slice 182) := by kernel_rfl
theorem nLCap : E.P.cellsOf 26 = 1 := by kernel_rfl
theorem uLCap : E.P.underlying 26 = some (.slice 184) := by kernel_rfl
theorem nLView : E.P.cellsOf 27 = 1 := by kernel_rfl
theorem uLView : E.P.underlying 27 = some (.slice 188) := by kernel_rfl
theorem nLPoint3 : E.P.cellsOf 28 = 1 := by kernel_rfl
theorem uLPoint3 : E.P.underlying 28 = some (.slice 186) := by kernel_rfl
theorem pt_of {n : Nat} {c : List Value} (h : Wt E.P n 36 c) : ∃ v : Int × Int, c = spanR.enc v := by
  obtain ⟨hl, hf⟩ := wt_struct fPt h
  rw [nPt] at hl
  obtain ⟨a0, c, rfl⟩ := List.exists_cons_of_length_eq_add_one hl; have hl := Nat.succ.inj hl
  obtain ⟨a1, c, rfl⟩ := List.exists_cons_of_length_eq_add_one hl; have hl := Nat.succ.inj hl
  obtain rfl := List.eq_nil_of_length_eq_zero hl
  obtain ⟨m0, q0⟩ := hf (0, 3) (by simp)
  replace q0 : Wt E.P m0 3 [a0] := by simpa [ni] using q0
  obtain ⟨m1, q1⟩ := hf (1, 3) (by simp)
  replace q1 : Wt E.P m1 3 [a1] := by simpa [ni] using q1
  obtain ⟨z0, e, h0⟩ := wt_int ui q0; obtain rfl := List.singleton_inj.1 e
  obtain ⟨z1, e, h1⟩ := wt_int ui q1; obtain rfl := List.singleton_inj.1 e
  exact ⟨(z0, z1), rfl⟩
theorem pts_of {n : Nat} {c : List Value} (h : Wt E.P n 47 c) : ∃ l : List (Int × Int), c = [lst false (spanR.vals l)] := by
  obtain ⟨ls, rfl, h2, h3⟩ := wt_slice uPs h
  obtain ⟨rs, rfl, k2⟩ := choose_list (cells := spanR.enc) (Q := fun _ => True) ls fun x hx => by
    obtain ⟨m, hm⟩ := h3 x hx
    obtain ⟨v, e⟩ := pt_of hm
    exact ⟨v, e, trivial⟩
  refine ⟨rs, ?_⟩
  have e : ∀ l : List (Int × Int), (l.map spanR.enc).map (elemV E.P 36) = spanR.vals l := by
    intro l
    induction l with
    | nil => rfl
    | cons r l ih =>
      rw [List.map_cons, List.map_cons, ih]
      unfold elemV
      rw [if_pos gPt]
      rfl
  rw [e]
theorem zone_of {n : Nat} {c : List Value} (h : Wt E.P n 49 c) : ∃ z : Zn, c = (znR false).enc z := by
  obtain ⟨hl, hf⟩ := wt_struct fZ h
  rw [nZ] at hl
  obtain ⟨a0, c, rfl⟩ := List.exists_cons_of_length_eq_add_one hl; have hl := Nat.succ.inj hl
  obtain ⟨a1, c, rfl⟩ := List.exists_cons_of_length_eq_add_one hl; have hl := Nat.succ.inj hl
  obtain ⟨a2, c, rfl⟩ := List.exists_cons_of_length_eq_add_one hl; have hl := Nat.succ.inj hl
  obtain rfl := List.eq_nil_of_length_eq_zero hl
  obtain ⟨m0, q0⟩ := hf (0, 9) (by simp)
  replace q0 : Wt E.P m0 9 [a0] := by simpa [nS] using q0
  obtain ⟨m1, q1⟩ := hf (1, 4) (by simp)
  replace q1 : Wt E.P m1 4 [a1] := by simpa [nB] using q1
  obtain ⟨m2, q2⟩ := hf (2, 47) (by simp)
  replace q2 : Wt E.P m2 47 [a2] := by simpa [nPs] using q2
  obtain ⟨s, e, _⟩ := wt_str uSt q0; obtain rfl := List.singleton_inj.1 e
  obtain ⟨b, e⟩ := wt_bool u4 q1; obtain rfl := List.singleton_inj.1 e
  obtain ⟨l, e⟩ := pts_of q2; obtain rfl := List.singleton_inj.1 e
  exact ⟨⟨s, b, l⟩, rfl⟩
theorem zones_of {n : Nat} {c : List Value} (h : Wt E.P n 24 c) : ∃ l : List Zn, c = [lst false ((znR false).vals l)] ∧ l.length ≤ maxLen := by
  obtain ⟨ls, rfl, h2, h3⟩ := wt_slice uLZone h
  obtain ⟨rs, rfl, k2⟩ := choose_list (cells := (znR false).enc) (Q := fun _ => True) ls fun x hx => by
    obtain ⟨m, hm⟩ := h3 x hx
    obtain ⟨z, e⟩ := zone_of hm
    exact ⟨z, e, trivial⟩
  refine ⟨rs, ?_, by simpa using h2⟩
  have e : ∀ l : List Zn, (l.map (znR false).enc).map (elemV E.P 49) = (znR false).vals l := by
    intro l
    induction l with
    | nil => rfl
    | cons r l ih =>
      rw [List.map_cons, List.map_cons, ih]
      unfold elemV
      rw [if_pos gZ]
      rfl
  rw [e]
theorem plan_of {n : Nat} {c : List Value} (h : Wt E.P n 30 c) : ∃ p : Pl, c = p.cells ∧ p.zs.length ≤ maxLen := by
  obtain ⟨hl, hf⟩ := wt_struct fP h
  rw [nP] at hl
  obtain ⟨a0, c, rfl⟩ := List.exists_cons_of_length_eq_add_one hl; have hl := Nat.succ.inj hl
  obtain ⟨a1, c, rfl⟩ := List.exists_cons_of_length_eq_add_one hl; have hl := Nat.succ.inj hl
  obtain ⟨a2, c, rfl⟩ := List.exists_cons_of_length_eq_add_one hl; have hl := Nat.succ.inj hl
  obtain ⟨a3, c, rfl⟩ := List.exists_cons_of_length_eq_add_one hl; have hl := Nat.succ.inj hl
  obtain ⟨a4, c, rfl⟩ := List.exists_cons_of_length_eq_add_one hl; have hl := Nat.succ.inj hl
  obtain ⟨a5, c, rfl⟩ := List.exists_cons_of_length_eq_add_one hl; have hl := Nat.succ.inj hl
  obtain ⟨a6, c, rfl⟩ := List.exists_cons_of_length_eq_add_one hl; have hl := Nat.succ.inj hl
  obtain ⟨a7, c, rfl⟩ := List.exists_cons_of_length_eq_add_one hl; have hl := Nat.succ.inj hl
  obtain rfl := List.eq_nil_of_length_eq_zero hl
  obtain ⟨m0, q0⟩ := hf (0, 22) (by simp)
  replace q0 : Wt E.P m0 22 [a0] := by simpa [nLDef] using q0
  obtain ⟨m1, q1⟩ := hf (1, 23) (by simp)
  replace q1 : Wt E.P m1 23 [a1] := by simpa [nLTable] using q1
  obtain ⟨m2, q2⟩ := hf (2, 24) (by simp)
  replace q2 : Wt E.P m2 24 [a2] := by simpa [nLZone] using q2
  obtain ⟨m3, q3⟩ := hf (3, 25) (by simp)
  replace q3 : Wt E.P m3 25 [a3] := by simpa [nLRule] using q3
  obtain ⟨m4, q4⟩ := hf (4, 26) (by simp)
  replace q4 : Wt E.P m4 26 [a4] := by simpa [nLCap] using q4
  obtain ⟨m5, q5⟩ := hf (5, 27) (by simp)
  replace q5 : Wt E.P m5 27 [a5] := by simpa [nLView] using q5
  obtain ⟨m6, q6⟩ := hf (6, 28) (by simp)
  replace q6 : Wt E.P m6 28 [a6] := by simpa [nLPoint3] using q6
  obtain ⟨m7, q7⟩ := hf (7, 3) (by simp)
  replace q7 : Wt E.P m7 3 [a7] := by simpa [ni] using q7
  obtain ⟨l0, e, _⟩ := wt_list uLDef q0; obtain rfl := List.singleton_inj.1 e
  obtain ⟨l1, e, _⟩ := wt_list uLTable q1; obtain rfl := List.singleton_inj.1 e
  obtain ⟨zs, e, hz⟩ := zones_of q2; obtain rfl := List.singleton_inj.1 e
  obtain ⟨l3, e, _⟩ := wt_list uLRule q3; obtain rfl := List.singleton_inj.1 e
  obtain ⟨l4, e, _⟩ := wt_list uLCap q4; obtain rfl := List.singleton_inj.1 e
  obtain ⟨l5, e, _⟩ := wt_list uLView q5; obtain rfl := List.singleton_inj.1 e
  obtain ⟨l6, e, _⟩ := wt_list uLPoint3 q6; obtain rfl := List.singleton_inj.1 e
  obtain ⟨hr, e, _⟩ := wt_int ui q7; obtain rfl := List.singleton_inj.1 e
  exact ⟨⟨some (false, l0), some (false, l1), some (false, l3), some (false, l4), some (false, l5), some (false, l6), hr, false, false, zs⟩, rfl, hz⟩
theorem planV {n : Nat} {c : List Value} (h : Wt E.P n 30 c) : ∃ p : Pl, elemV E.P 30 c = p.val ∧ p.zs.length ≤ 9223372036854775807 := by
  obtain ⟨p, rfl, hp⟩ := plan_of h
  exact ⟨p, by simp [elemV, gP, Pl.val], Nat.le_trans hp (by decide)⟩
theorem orcE : OrcSound E := by
  have key : ∀ g k, E.orc g = some k → (∃ F N, k = inG F N ∧ SortCon E.P g F N) ∨ ∃ q m F, k = inC q m F ∧ CellCon E.P g q m F := fun g k h => by
    rw [E_orc] at h
    by_cases h1 : g = 39
    · subst h1; simp only [if_true, Option.some.injEq] at h; exact .inl ⟨_, _, h.symm, conSort⟩
    · by_cases h2 : g = 40
      · subst h2; simp only [h1, if_false, if_true, Option.some.injEq] at h; exact .inl ⟨_, _, h.symm, conComp⟩
      · by_cases h3 : g = 106
        · subst h3; simp only [h1, h2, if_false, if_true, Option.some.injEq] at h; exact .inr ⟨_, _, _, h.symm, conSpan⟩
        · simp only [h1, h2, h3, if_false] at h; cases h
  refine ⟨fun g k hg args h lo r _ => ?_, fun g k hg args h lo v h' hr hlo B M w args' hs hv => ?_, fun g k hg args h lo v h' hr _ => ?_⟩
  · rcases key g k hg with ⟨F, N, _, hC⟩ | ⟨q, m, F, _, hC⟩
    · exact hC.dfd
    · exact hC.dfd
  · rcases key g k hg with ⟨F, N, rfl, hC⟩ | ⟨q, m, F, rfl, hC⟩
    · exact in_sound hC hr hlo args' hs hv
    · exact inC_sound hC hr hlo args' hs hv
  · rcases key g k hg with ⟨F, N, rfl, _⟩ | ⟨q, m, F, rfl, _⟩
    · exact inG_keep hr
    · exact inC_keep hr
end Go.Proofs.Ytimjfondgdhfcaa.Bm
namespace Go.Proofs.Ytimjfondgdhfcaa.Bm
open Go Go.RowKit
open Rg (Rect Pt Zn rightP polyL comA comP)
structure PlOk (p : Pl) : Prop where
  len : p.zs.length ≤ 6
  cor : ∀ z ∈ p.zs, z.cs.length ≤ 64
theorem reg_ok {a : List Rect} (h : regB a = true) : (∀ r ∈ a, okR r = true) ∧ a.length ≤ 200 := by
  obtain ⟨h1, h2, _⟩ := regB_iff.1 h
  exact ⟨List.all_eq_true.1 h1, h2⟩
theorem zcommon_reg (ka kb : Option Bool) (a b : List Rect) (ha : Rec.Ok ka a) (hb : Rec.Ok kb b) (ra : regB a = true) (rb : regB b = true) :
    pureCall E.P (L E) 32 [rectR.o ka a, rectR.o kb b] = some (.tuple ⟨[.int .i64 (comA a b), .agg ⟨[.int .i64 (comP a b (1048576, 0)).1, .int .i64 (comP a b (1048576, 0)).2]⟩]⟩) :=
  zcommon_spec ka kb a b ha hb (reg_ok ra).2 (reg_ok rb).2 (reg_ok ra).1 (reg_ok rb).1
def sharesL (zs : List Zn) (a : List Rect) : List Int := zs.map fun z => comA a (cellsZ z)
def sharesV (zs : List Zn) (a : List Rect) : Value := if regB a then lst false ((sharesL zs a).map (.int .i64)) else .slice none 0 0
def plO (p : Pl) (ZV : Value) : AObj := .cells 30 [opV p.d, opV p.t, ZV, opV p.r, opV p.c, opV p.v, opV p.s, .int .i64 p.h] 0
set_option maxHeartbeats 2000000 in
theorem shares_spec (p : Pl) (hp : PlOk p) (k : Option Bool) (a : List Rect) (hk : Rec.Ok k a) (ha : a.length ≤ 1000) : pureCall E.P (L E) 15 [p.val, rectR.o k a] = some (sharesV p.zs a) := by
  have hR := right2_spec k a hk (by omega)
  have rfa : ∀ n h, reify E.P (n + 1) h (rectR.o k a) = some (rectR.o k a) := fun n h => Rec.o_reify
  have bla : ∀ d n, below (d + 1) n (rectR.o k a) = true := fun d n => Rec.o_bel
  have lz : ∀ h, lenT .sl h p.zv = some (.int .i64 p.zs.length) := fun h => Rec.tree_len
  have iz : ∀ (j : Nat) (hj : j < p.zs.length), indexAddrT (.sl 49 ⟨some true, some 3⟩) p.zv (.int .i64 (j : Int)) = some (cptr ((znR p.y).val p.zs[j])) := fun j hj => Rec.index_tree rfl hj
  have blz : ∀ d n, below (d + 1) n p.zv = true := fun d n => rfl
  rw [pureCall_fn F15 rfl]
  unfold sharesV
  cases hr : regB a
  · rw [hr] at hR
    generalize rectR.o k a = VA at *
    simp -implicitDefEqProofs [r15, p15, Pl.val, Pl.cells, ret0 m34, rfa, hR]
  · rw [hr] at hR
    have hC := fun (z : Zn) => zcommon_reg k (kR (polyX z.cs)) a (cellsZ z) hk (kR_ok _) hr (cellsZ_reg z)
    have rfz : ∀ n h (z : Zn), reify E.P (n + 1) h (rectR.o (kR (polyX z.cs)) (cellsZ z)) = some (rectR.o (kR (polyX z.cs)) (cellsZ z)) := fun n h z => Rec.o_reify
    have hl := hp.len
    have hcz := hp.cor
    have hl := hp.len
    have op0 := @op_bel
    generalize rectR.o k a = VA at *
    generalize hZV : p.zv = ZV at *
    simp -implicitDefEqProofs [r15, p15, Pl.val, Pl.cells, hZV, ret0 m34, rfa, hR, prep_new, newK_nil s3, lz]
    rw [LL_for (γ := List Int) p.zs [] (fun i c => [(5, intR.sl 1 c), (16, .int .i64 i)]) (fun _ c => [plO p ZV, intR.row 3 c])
      (fun _ rest c => (.exit 0, [(5, intR.sl 1 (c ++ sharesL rest a)), (16, undef)], [plO p ZV, intR.row 3 (c ++ sharesL rest a)])) (fun i c => c.length = i) (by omega) rfl]
    · have rr := int_reifyR (h := [plO p ZV, intR.row 3 (sharesL p.zs a)]) (b := 1) (l := sharesL p.zs a) rfl
      unfold plO iT at rr
      simp -implicitDefEqProofs [k15_5, plO, rr]
    · simp -implicitDefEqProofs [k15_5, Rec.sl_nil]
    · rfl
    · intro nx i c hi _
      simp -implicitDefEqProofs [r15_5, k15_5, hi, trim_le, sharesL, plO]
    · intro nx i z rest c hi hv hd hw hc ih
      have xi := iz i hi
      rw [hv] at xi
      have hz := zcells_spec p.y z (hcz z (hv ▸ List.getElem_mem hi))
      have hCz := hC z
      have ih := ih (c ++ [comA a (cellsZ z)]) (by rw [List.length_append, hc]; rfl)
      have e1 : c ++ sharesL (z :: rest) a = c ++ [comA a (cellsZ z)] ++ sharesL rest a := by rw [List.append_assoc]; rfl
      have zset : settled depth ((znR p.y).val z) = true := rfl
      rw [e1]
      rw [zn_val] at xi hz zset
      have rz := fun n h => rfz n h z
      generalize rectR.o (kR (polyX z.cs)) (cellsZ z) = CZ at *
      simp -implicitDefEqProofs [k15_5, plO] at ih
      have ap := fun h (hob : h[1]? = some (intR.row 3 c)) => app_num (h := h) (b := 1) (lo := 0) (c := c) (comA a (cellsZ z)) hob (Nat.zero_le _) (by omega)
      simp -implicitDefEqProofs [r15_5, k15_5, hi, xi, plO, ret1 m31, zset, hz, ret0 m32, rfa, rz, hCz, lit_num, ap, hw, trim_cut, op0, blz, Rec.row_bel, Rec.sl_bel, bla]
      exact ih
end Go.Proofs.Ytimjfondgdhfcaa.Bm
namespace Go.Proofs.Ytimjfondgdhfcaa.Rg
def ovR (c : List Rect) : Nat → List (List Rect) → Option (Nat × Pt)
  | _, [] => none
  | k, d :: D => if 0 < comA c d then some (k, comP c d (1048576, 0)) else ovR c (k + 1) D
def ovF : Nat → List (List Rect) → Option (Nat × Nat × Pt)
  | _, [] => none
  | i, c :: D => match ovR c (i + 1) D with
    | some (k, p) => some (i, k, p)
    | none => ovF (i + 1) D
theorem ovR_none {c : List Rect} : ∀ {D : List (List Rect)} {k : Nat}, ovR c k D = none → ∀ j (h : j < D.length), ¬ 0 < comA c D[j]
  | [], _, _, j, h => absurd h (Nat.not_lt_zero j)
  | d :: D, k, e, j, h => by
    unfold ovR at e
    by_cases hd : 0 < comA c d
    · rw [if_pos hd] at e; exact absurd e (by simp)
    · rw [if_neg hd] at e
      cases j with
      | zero => exact hd
      | succ j => exact ovR_none e j (by simpa using h)
theorem ovR_some {c : List Rect} : ∀ {D : List (List Rect)} {k m : Nat} {p : Pt}, ovR c k D = some (m, p) → ∃ j, ∃ h : j < D.length, m = k + j ∧ 0 < comA c D[j] ∧ p = comP c D[j] (1048576, 0) ∧ ∀ j', ∀ h' : j' < D.length, j' < j → ¬ 0 < comA c D[j']
  | [], _, _, _, e => absurd e (by simp [ovR])
  | d :: D, k, m, p, e => by
    unfold ovR at e
    by_cases hd : 0 < comA c d
    · rw [if_pos hd] at e
      cases e
      exact ⟨0, Nat.zero_lt_succ _, rfl, hd, rfl, fun j' _ q => absurd q (Nat.not_lt_zero _)⟩
    · rw [if_neg hd] at e
      obtain ⟨j, h, h1, h2, h3, h4⟩ := ovR_some e
      refine ⟨j + 1, by simpa using h, by omega, h2, h3, fun j' h' q => ?_⟩
      cases j' with
      | zero => exact hd
      | succ j' => exact h4 j' (by simpa using h') (by omega)
theorem ovF_none : ∀ {D : List (List Rect)} {i : Nat}, ovF i D = none → ∀ j k (h : k < D.length) (q : j < k), ¬ 0 < comA (D[j]'(by omega)) D[k]
  | [], _, _, j, k, h, _ => absurd h (Nat.not_lt_zero k)
  | c :: D, i, e, j, k, h, q => by
    unfold ovF at e
    cases hr : ovR c (i + 1) D with
    | some mp => rw [hr] at e; exact absurd e (by simp)
    | none =>
      rw [hr] at e
      obtain ⟨k, rfl⟩ : ∃ k', k = k' + 1 := ⟨k - 1, by omega⟩
      cases j with
      | zero => exact ovR_none hr k (by simpa using h)
      | succ j => exact ovF_none e j k (by simpa using h) (by omega)
theorem ovF_some : ∀ {D : List (List Rect)} {i a b : Nat} {p : Pt}, ovF i D = some (a, b, p) → ∃ j k, ∃ h : k < D.length, ∃ q : j < k, a = i + j ∧ b = i + k ∧ 0 < comA (D[j]'(by omega)) D[k] ∧ p = comP (D[j]'(by omega)) D[k] (1048576, 0) ∧
    ∀ j' k' (h' : k' < D.length) (q' : j' < k'), j' < j ∨ (j' = j ∧ k' < k) → ¬ 0 < comA (D[j']'(by omega)) D[k']
  | [], _, _, _, _, e => absurd e (by simp [ovF])
  | c :: D, i, a, b, p, e => by
    unfold ovF at e
    cases hr : ovR c (i + 1) D with
    | some mp =>
      obtain ⟨m, pp⟩ := mp
      rw [hr] at e
      cases e
      obtain ⟨k, h, h1, h2, h3, h4⟩ := ovR_some hr
      refine ⟨0, k + 1, by simpa using h, by omega, rfl, by omega, h2, h3, fun j' k' h' q' ho => ?_⟩
      obtain ⟨rfl, hk⟩ := ho.resolve_left (Nat.not_lt_zero _)
      obtain ⟨k', rfl⟩ : ∃ m, k' = m + 1 := ⟨k' - 1, by omega⟩
      exact h4 k' (by simpa using h') (by omega)
    | none =>
      rw [hr] at e
      obtain ⟨j, k, h, q, h1, h2, h3, h4, h5⟩ := ovF_some e
      refine ⟨j + 1, k + 1, by simpa using h, by omega, by omega, by omega, h3, h4, fun j' k' h' q' ho => ?_⟩
      obtain ⟨k', rfl⟩ : ∃ m, k' = m + 1 := ⟨k' - 1, by omega⟩
      cases j' with
      | zero => exact ovR_none hr k' (by simpa using h')
      | succ j' => exact h5 j' k' (by simpa using h') (by omega) (by omega)
theorem comA_nil_r : ∀ a : List Rect, comA a [] = 0
  | [] => rfl
  | r :: a => by show 0 + comA a [] = 0; rw [comA_nil_r]; rfl
theorem namesF_step {o : Option (Nat × Int)} {i : Nat} {z : Zn} {n : Int} {W : List (Zn × Int)} : namesF o i ((z, n) :: W) = (if isO o i || (z.ov && decide (0 < n)) then [z.nm] else []) ++ namesF o (i + 1) W := rfl
def baseS : List (Zn × Int) → Int
  | [] => 0
  | (z, n) :: W => (if z.ov then 0 else n) + baseS W
end Go.Proofs.Ytimjfondgdhfcaa.Rg
namespace Go.Proofs.Ytimjfondgdhfcaa.Bm
open Go Go.RowKit
open Rg (Rect Pt Zn rightP polyL comA comP bestW gtO isO namesF)
def wZ (zs : List Zn) (a : List Rect) : List (Zn × Int) := if regB a then zs.map (fun z => (z, comA a (cellsZ z))) else []
def bV : Option (Nat × Int) → Int
  | none => -1
  | some (b, _) => b
theorem sharesV_len (zs : List Zn) (a : List Rect) (h : Heap) : lenT .sl h (sharesV zs a) = some (.int .i64 (wZ zs a).length) := by
  unfold sharesV wZ
  cases regB a
  · rfl
  · rw [if_pos rfl, if_pos rfl, len_lst]
    unfold sharesL
    simp
theorem sharesV_index {zs : List Zn} {a : List Rect} {i : Nat} (hi : i < (wZ zs a).length) : indexAddrT (.sl 3 ⟨some false, some 1⟩) (sharesV zs a) (.int .i64 (i : Int)) = some (cptr (.int .i64 ((wZ zs a)[i]).2)) := by
  unfold sharesV
  have hi0 := hi
  unfold wZ at hi0
  cases hr : regB a
  · rw [hr] at hi0; exact absurd hi0 (Nat.not_lt_zero _)
  · have hz : i < zs.length := by rw [hr] at hi0; simpa using hi0
    have e : (wZ zs a)[i] = (zs[i], comA a (cellsZ zs[i])) := by unfold wZ; simp [hr]
    rw [if_pos rfl]
    have hl : i < (sharesL zs a).length := by unfold sharesL; simpa using hz
    refine (iT_index hl).trans ?_
    congr 3
    exact (List.getElem_map (fun z => comA a (cellsZ z))).trans (congrArg Prod.snd e).symm
theorem wZ_zone {zs : List Zn} {a : List Rect} {i : Nat} (hi : i < (wZ zs a).length) : ∃ h : i < zs.length, ((wZ zs a)[i]).1 = zs[i] := by
  have hi0 := hi
  unfold wZ at hi0
  cases hr : regB a
  · rw [hr] at hi0; exact absurd hi0 (Nat.not_lt_zero _)
  · have hz : i < zs.length := by rw [hr] at hi0; simpa using hi0
    refine ⟨hz, ?_⟩
    unfold wZ
    simp [hr]
theorem wZ_len (zs : List Zn) (a : List Rect) : (wZ zs a).length ≤ zs.length := by
  unfold wZ
  cases regB a
  · exact Nat.zero_le _
  · simp
theorem sharesV_bel {d n : Nat} (zs : List Zn) (a : List Rect) : below (d + 1) n (sharesV zs a) = true := by unfold sharesV; cases regB a <;> rfl
def strR : Rec ByteArray where
  enc s := [.string s]
  m := 0
  len _ := rfl
  set _ := rfl
  bel _ _ := rfl
theorem str_flat : ∀ l : List ByteArray, strR.flat l = l.map .string
  | [] => rfl
  | s :: l => by
    show Value.string s :: strR.flat l = _
    rw [str_flat l]; rfl
theorem sS1 : szOf E.P 9 = some 1 := by kernel_rfl
theorem gS1 : aggT E.P 9 = some false := by kernel_rfl
theorem str_reifyR {h : Heap} {b : Nat} {l : List ByteArray} (hob : h[b]? = some (strR.row 9 l)) : reifyR E.P h (strR.sl b l) = some (lst false (l.map .string)) := by
  have e0 : strR.sl b l = .slice (some ⟨b, 0, some l.length⟩) l.length l.length := by unfold Rec.sl; simp [strR]
  show reify E.P 8 h (strR.sl b l) = _
  rw [e0, reify_slice]
  by_cases h0 : l.length = 0
  · have : l = [] := List.eq_nil_of_length_eq_zero h0
    subst this; rfl
  · rw [if_neg h0, hob]
    unfold Rec.row
    rw [str_flat]
    show reifyS E.P 7 h (some (.cells 9 (l.map .string) 1)) _ _ = _
    rw [reifyS_cells, sS1, Option.bind_some, if_pos ⟨by simp [stampOk], Nat.one_pos, by simp⟩]
    have e : ((l.map Value.string).drop 0).take (l.length * 1) = l.map .string := by rw [List.drop_zero, Nat.mul_one, List.take_of_length_le (by simp)]
    rw [e, reifyC_set (by simp [List.all_eq_true]), Option.bind_some, elems_one gS1 sS1]; rfl
theorem lit_str (h : Heap) (s : ByteArray) : buildSliceT (some ⟨9, 1, 16, .string ⟨⟨[]⟩⟩, ⟨some false, some 1⟩⟩) false h 1 #[(0, .string s)] = some (lst true [.string s], h) :=
  (build_lit' (n := 1) (l := [(0, .string s)]) rfl rfl (by decide) (by decide) (by decide)).trans rfl
theorem app_str {h : Heap} {b lo : Nat} {c : List ByteArray} (s : ByteArray) (hob : h[b]? = some (strR.row 9 c)) (hlo : lo ≤ b) (hc : c.length ≤ 1000000) :
    appendT (some ⟨9, 1, 16, .string ⟨⟨[]⟩⟩, ⟨some false, some 1⟩⟩) h lo false (strR.sl b c) (lst true [.string s]) = some (strR.sl b (c ++ [s]), h.set b (strR.row 9 (c ++ [s]))) :=
  Rec.app (R := strR) (m := [s]) rfl hob (cells_lst (by rfl)) hlo (by show (c.length + 1) * 16 ≤ 2 ^ 47; omega)
def namesZ (zs : List Zn) (a : List Rect) : List ByteArray := namesF (bestW 0 none (wZ zs a)) 0 (wZ zs a)
set_option maxHeartbeats 2000000 in
theorem zof_spec (p : Pl) (hp : PlOk p) (k : Option Bool) (a : List Rect) (hk : Rec.Ok k a) (ha : a.length ≤ 200) : pureCall E.P (L E) 18 [p.val, rectR.o k a] = some (lst false ((namesZ p.zs a).map .string)) := by
  have hS := shares_spec p hp k a hk (by omega)
  have sp := p.set
  have sa : settled depth (rectR.o k a) = true := Rec.o_set
  have bla : ∀ d n, below (d + 1) n (rectR.o k a) = true := fun d n => Rec.o_bel
  have ln := sharesV_len p.zs a
  have ix : ∀ (i : Nat) (hi : i < (wZ p.zs a).length), _ := fun i hi => sharesV_index (zs := p.zs) (a := a) hi
  have blS : ∀ d n, below (d + 1) n (sharesV p.zs a) = true := fun d n => sharesV_bel _ _
  have hl := wZ_len p.zs a
  have hl6 := hp.len
  have iz : ∀ (j : Nat) (hj : j < (wZ p.zs a).length), indexAddrT (.sl 49 ⟨some true, some 3⟩) p.zv (.int .i64 (j : Int)) = some (cptr ((znR p.y).val ((wZ p.zs a)[j]).1)) := fun j hj => by
    obtain ⟨h, e⟩ := wZ_zone hj
    rw [e]
    exact Rec.index_tree rfl h
  have blz : ∀ d n, below (d + 1) n p.zv = true := fun d n => rfl
  have op0 := @op_bel
  rw [pureCall_fn F18 rfl]
  unfold namesZ
  generalize rectR.o k a = VA at *
  generalize sharesV p.zs a = LV at *
  generalize wZ p.zs a = W at *
  unfold Pl.val Pl.cells at *
  generalize p.zv = ZV at *
  simp -implicitDefEqProofs [r18, p18, ret1 m15, sp, sa, hS, ln]
  rw [LL_for (γ := Option (Nat × Int)) W none (fun i c => [(6, .int .i64 (bV c)), (17, .int .i64 i)]) (fun _ _ => [plO p ZV]) (fun i rest c => (.exit 0, [(6, .int .i64 (bV (bestW i c rest))), (17, undef)], [plO p ZV]))
    (fun i c => ∀ b m, c = some (b, m) → ∃ h : b < W.length, b < i ∧ W[b].2 = m) (by omega) (by intro b m h; cases h)]
  · generalize bestW 0 none W = o
    simp -implicitDefEqProofs [k18_4, prep_new, newK_nil sS1, plO, ln]
    rw [LL_for (γ := List ByteArray) W [] (fun i c => [(9, strR.sl 1 c), (49, .int .i64 i)]) (fun _ c => [plO p ZV, strR.row 9 c])
      (fun i rest c => (.exit 2, [(9, strR.sl 1 (c ++ namesF o i rest)), (49, undef)], [plO p ZV, strR.row 9 (c ++ namesF o i rest)])) (fun i c => c.length ≤ i) (by omega) (Nat.le_refl _)]
    · have rr := str_reifyR (h := [plO p ZV, strR.row 9 (namesF o 0 W)]) (b := 1) (l := namesF o 0 W) rfl
      unfold plO at rr
      simp -implicitDefEqProofs [k18_11, plO, rr]
    · simp -implicitDefEqProofs [k18_11, Rec.sl_nil]
    · rfl
    · intro nx i c hi _
      have e1 : ∀ i, c ++ namesF o i [] = c := fun i => List.append_nil c
      simp -implicitDefEqProofs [r18_11, k18_11, hi, trim_le, e1, plO]
    · intro nx i v rest c hi hv hd hw hc ih
      obtain ⟨z, n⟩ := v
      have xi := ix i hi
      have zi := iz i hi
      rw [hv] at xi zi
      rw [zn_val] at zi
      simp only at xi zi
      have hi' : (i : Int) < (W.length : Int) := by omega
      have ap := app_str (h := [plO p ZV, strR.row 9 c]) (b := 1) (lo := 0) (c := c) z.nm rfl (Nat.zero_le _) (by omega)
      have ec : ((i : Int) = bV o) ↔ isO o i = true := by
        cases o with
        | none => exact ⟨fun h => by have h : (i : Int) = -1 := h; omega, fun h => absurd h Bool.false_ne_true⟩
        | some bm =>
          obtain ⟨b, m⟩ := bm
          show (i : Int) = (b : Int) ↔ decide (i = b) = true
          rw [decide_eq_true_eq]; omega
      rw [Rg.namesF_step, ← List.append_assoc]
      by_cases hb : isO o i = true
      · have hb' := ec.2 hb
        have ih := ih (c ++ [z.nm]) (by rw [List.length_append]; show c.length + 1 ≤ i + 1; omega)
        simp -implicitDefEqProofs [k18_11, plO, -List.append_assoc] at ih
        rw [hb, Bool.true_or, if_pos rfl]
        unfold plO at ap
        rw [← hb'] at *
        simp -implicitDefEqProofs [r18_11, k18_11, hi', xi, zi, plO, lit_str, ap, hw, -List.append_assoc]
        exact ih
      · have hb' : ¬ ((i : Int) = bV o) := fun h => hb (ec.1 h)
        have hbf : isO o i = false := by simpa using hb
        rw [hbf, Bool.false_or]
        unfold plO at ap
        cases hov : z.ov
        · have ih := ih c (by omega)
          have e2 : c ++ (if (false && decide (0 < n)) = true then [z.nm] else []) = c := List.append_nil c
          rw [e2]
          rw [hov] at zi
          simp -implicitDefEqProofs [k18_11, plO, -List.append_assoc] at ih
          simp -implicitDefEqProofs [r18_11, k18_11, hi', xi, zi, hb', plO, hw, -List.append_assoc]
          exact ih
        · rw [hov] at zi
          by_cases hn : 0 < n
          · have ih := ih (c ++ [z.nm]) (by rw [List.length_append]; show c.length + 1 ≤ i + 1; omega)
            rw [decide_eq_true hn, Bool.and_self, if_pos rfl]
            simp -implicitDefEqProofs [k18_11, plO, -List.append_assoc] at ih
            simp -implicitDefEqProofs [r18_11, k18_11, hi', xi, zi, hb', hn, plO, lit_str, ap, hw, -List.append_assoc]
            exact ih
          · have ih := ih c (by omega)
            have e2 : c ++ (if (true && decide (0 < n)) = true then [z.nm] else []) = c := by rw [decide_eq_false hn]; exact List.append_nil c
            rw [e2]
            simp -implicitDefEqProofs [k18_11, plO, -List.append_assoc] at ih
            simp -implicitDefEqProofs [r18_11, k18_11, hi', xi, zi, hb', hn, plO, hw, -List.append_assoc]
            exact ih
  · simp -implicitDefEqProofs [k18_4, bV]
  · rfl
  · intro nx i c hi _
    have e1 : ∀ i, bestW i c [] = c := fun i => by unfold bestW; rfl
    simp -implicitDefEqProofs [r18_4, k18_4, hi, trim_le, e1, plO]
  · intro nx i v rest c hi hv hd hw hc ih
    obtain ⟨z, n⟩ := v
    have xi := ix i hi
    have zi := iz i hi
    rw [hv] at xi zi
    rw [zn_val] at zi
    simp only at xi zi
    have hi' : (i : Int) < (W.length : Int) := by omega
    have eb : bestW i c ((z, n) :: rest) = bestW (i + 1) (if !z.ov && decide (0 < n) && gtO n c then some (i, n) else c) rest := rfl
    have keep := ih c fun b m h => by obtain ⟨h1, h2, h3⟩ := hc b m h; exact ⟨h1, by omega, h3⟩
    have take := ih (some (i, n)) fun b m h => by cases h; exact ⟨hi, Nat.lt_succ_self _, by rw [hv]⟩
    have eI : bV (some (i, n)) = (i : Int) := rfl
    rw [eI] at take
    rw [eb]
    simp -implicitDefEqProofs [k18_4, plO] at keep take
    cases hov : z.ov
    · rw [hov] at zi
      by_cases hn : 0 < n
      · rw [decide_eq_true hn]
        cases c with
        | none =>
          have e2 : (if (!false && true && gtO n none) = true then some (i, n) else none) = some (i, n) := rfl
          have e3 : bV none = -1 := rfl
          rw [e2]
          simp -implicitDefEqProofs [r18_4, k18_4, hi', xi, zi, hn, e3, plO, hw]
          exact take
        | some bm =>
          obtain ⟨b, m⟩ := bm
          obtain ⟨h1, h2, h3⟩ := hc b m rfl
          have xb := ix b h1
          rw [h3] at xb
          have e3 : bV (some (b, m)) = (b : Int) := rfl
          have hb0 : ¬ ((b : Int) < 0) := by omega
          rw [e3] at *
          by_cases hm : m < n
          · have e2 : (if (!false && true && gtO n (some (b, m))) = true then some (i, n) else some (b, m)) = some (i, n) := if_pos (by show (!false && true && decide (m < n)) = true; rw [decide_eq_true hm]; rfl)
            rw [e2]
            simp -implicitDefEqProofs [r18_4, k18_4, hi', xi, zi, hn, hb0, xb, hm, plO, hw]
            exact take
          · have e2 : (if (!false && true && gtO n (some (b, m))) = true then some (i, n) else some (b, m)) = some (b, m) := if_neg (by show ¬ (!false && true && decide (m < n)) = true; rw [decide_eq_false hm]; decide)
            rw [e2]
            simp -implicitDefEqProofs [r18_4, k18_4, hi', xi, zi, hn, hb0, xb, hm, plO, hw]
            exact keep
      · have e2 : (if (!false && decide (0 < n) && gtO n c) = true then some (i, n) else c) = c := if_neg (by rw [decide_eq_false hn]; exact Bool.false_ne_true)
        rw [e2]
        simp -implicitDefEqProofs [r18_4, k18_4, hi', xi, zi, hn, plO, hw]
        exact keep
    · rw [hov] at zi
      have e2 : (if (!true && decide (0 < n) && gtO n c) = true then some (i, n) else c) = c := if_neg Bool.false_ne_true
      rw [e2]
      simp -implicitDefEqProofs [r18_4, k18_4, hi', xi, zi, plO, hw]
      exact keep
end Go.Proofs.Ytimjfondgdhfcaa.Bm
namespace Go.Proofs.Ytimjfondgdhfcaa.Bm
open Go Go.RowKit
open Rg (Rect Pt Zn rightP polyL comA comP ovR ovF)
namespace Rec
variable {α : Type} {R : Rec α}
theorem mload_cell {h : Heap} {b j : Nat} {t : TypeId} {l : List α} {i : Nat} {sz : Option Nat} (hob : h[b]? = some (R.mrow t l)) (h1 : i < l.length) (hj : j < R.m + 1) : loadT ⟨some false, sz⟩ h (R.mat b i j) = (R.enc l[i])[j]? := by
  unfold mat
  rw [load_one]
  have e : rowOf h ⟨b, i * (R.m + 1) + j, none⟩ = some (R.flat l) := by
    unfold rowOf
    show (match h[b]? with | some (.cells _ c g) => _ | _ => none) = _
    rw [hob]
    rfl
  rw [e, Option.bind_some]
  exact flat_get h1 hj
theorem mstore_cell {h : Heap} {b j lo : Nat} {t : TypeId} {l : List α} {i : Nat} {v : Value} {a : α} (hv : cellsOf v = some [v]) (hob : h[b]? = some (R.mrow t l)) (hlo : lo ≤ b) (h1 : i < l.length) (hj : j < R.m + 1) (he : (R.enc l[i]).set j v = R.enc a) :
    storeT (some 1) h lo v (R.mat b i j) = some (h.set b (R.mrow t (l.set i a))) := by
  unfold mat
  rw [store_ptr, hv, Option.bind_some]
  have hob' : h[b]? = some (.cells t (R.flat l) 0) := hob
  have hin := in_row (R := R) h1
  rw [if_pos (by rfl)]
  unfold wrN
  show (match h[b]? with | some (.cells t c g) => _ | _ => none) = _
  rw [hob']
  show (if _ then _ else none) = _
  rw [if_pos ⟨hlo, rfl, by simp, by rw [flat_len]; simp; omega⟩]
  show some (h.set b (.cells t (splice (R.flat l) (i * (R.m + 1) + j) [v]) 0)) = _
  rw [splice_one (by rw [flat_len]; omega), flat_put h1 hj he]; rfl
end Rec
abbrev RgO := Option Bool × List Rect
def regR : Rec RgO where
  enc c := [rectR.o c.1 c.2]
  m := 0
  len _ := rfl
  set c := by
    show ([rectR.o c.1 c.2].all (settled 8)) = true
    rw [List.all_cons, Rec.o_set]; rfl
  bel c n := by
    show ([rectR.o c.1 c.2].all (below 8 n)) = true
    rw [List.all_cons, Rec.o_bel]; rfl
def regZ (z : Zn) : RgO := if z.ov then (none, []) else (kR (polyX z.cs), cellsZ z)
def allR (zs : List Zn) : List RgO := zs.map regZ
def allL (zs : List Zn) : List (List Rect) := zs.map fun z => if z.ov then [] else cellsZ z
def partA (zs : List Zn) (i : Nat) : List RgO := (allR zs).take i ++ List.replicate (zs.length - i) (none, [])
theorem allR_len (zs : List Zn) : (allR zs).length = zs.length := List.length_map _
theorem partA_zero (zs : List Zn) : partA zs 0 = List.replicate zs.length (none, []) := by unfold partA; simp
theorem partA_all (zs : List Zn) : partA zs zs.length = allR zs := by
  unfold partA
  rw [Nat.sub_self, ← allR_len zs, List.take_length]; simp
theorem partA_len {zs : List Zn} {i : Nat} (h : i ≤ zs.length) : (partA zs i).length = zs.length := by
  unfold partA
  rw [List.length_append, List.length_take, allR_len, List.length_replicate]; omega
theorem partA_get {zs : List Zn} {i : Nat} (h : i < zs.length) : (partA zs i)[i]'(by rw [partA_len (by omega)]; exact h) = (none, []) := by
  unfold partA
  rw [List.getElem_append_right (by rw [List.length_take]; omega)]
  simp
theorem partA_set {zs : List Zn} {i : Nat} (h : i < zs.length) : (partA zs i).set i (regZ zs[i]) = partA zs (i + 1) := by
  unfold partA
  have hl : ((allR zs).take i).length = i := by rw [List.length_take, allR_len]; omega
  rw [List.set_append_right _ _ (by omega), hl, Nat.sub_self, List.take_succ_eq_append_getElem (by rw [allR_len]; exact h), List.append_assoc]
  congr 1
  obtain ⟨d, hd⟩ : ∃ d, zs.length - i = d + 1 := ⟨zs.length - i - 1, by omega⟩
  rw [hd, show zs.length - (i + 1) = d by omega, List.replicate_succ, List.set_cons_zero]
  unfold allR
  rw [List.getElem_map]; rfl
theorem partA_ov {zs : List Zn} {i : Nat} (h : i < zs.length) (ho : zs[i].ov = true) : partA zs i = partA zs (i + 1) := by
  rw [← partA_set h]
  unfold regZ
  rw [ho, if_pos rfl]
  have e := partA_get h
  have hl : i < (partA zs i).length := by rw [partA_len (by omega)]; exact h
  have q : (partA zs i).set i (partA zs i)[i] = partA zs i := List.set_getElem_self hl
  rw [e] at q
  exact q.symm
theorem allR_get {zs : List Zn} {i : Nat} (h : i < zs.length) : (allR zs)[i]'(by rw [allR_len]; exact h) = regZ zs[i] := by unfold allR; rw [List.getElem_map]
theorem regZ_ok (z : Zn) : Rec.Ok (regZ z).1 (regZ z).2 ∧ regB (regZ z).2 = true := by
  unfold regZ
  cases z.ov
  · exact ⟨kR_ok _, cellsZ_reg z⟩
  · exact ⟨fun _ => rfl, regB_iff.2 ⟨rfl, by show 0 ≤ 200; omega, Rg.Form.nil⟩⟩
theorem regZ_snd (z : Zn) : (regZ z).2 = if z.ov then [] else cellsZ z := by unfold regZ; cases z.ov <;> rfl
theorem allL_get {zs : List Zn} {i : Nat} (h : i < zs.length) : (allL zs)[i]'(by unfold allL; rw [List.length_map]; exact h) = (regZ zs[i]).2 := by unfold allL; rw [List.getElem_map, regZ_snd]
theorem allL_len (zs : List Zn) : (allL zs).length = zs.length := List.length_map _
theorem make_regs (h : Heap) (n : Nat) (hn : n ≤ 1000000) : makeSliceT (some ⟨31, 1, 24, .slice none 0 0, ⟨some false, some 1⟩⟩) h (.int .i64 (n : Int)) (.int .i64 (n : Int)) = some (regR.msl h.length (List.replicate n (none, [])), h ++ [regR.mrow 31 (List.replicate n (none, []))]) :=
  Rec.make_rec (R := regR) (a := (none, [])) rfl rfl hn (by decide)
def ovT : Option (Nat × Nat × Pt) → List Value
  | none => [.slice none 0 0, .agg ⟨[.int .i64 0, .int .i64 0]⟩, .bool false]
  | some (i, k, p) => [lst true [.int .i64 (i : Int), .int .i64 (k : Int)], .agg ⟨[.int .i64 p.1, .int .i64 p.2]⟩, .bool true]
theorem b2_none : buildT (Bl.fs ⟨[.int .i64 0, .int .i64 0]⟩ ⟨[(0, 1), (1, 1)]⟩) #[] = some (.agg ⟨[.int .i64 0, .int .i64 0]⟩) := rfl
set_option maxHeartbeats 2000000 in
theorem overlap_spec (p : Pl) (hp : PlOk p) : pureCall E.P (L E) 10 [p.val] = some (.tuple ⟨ovT (ovF 0 (allL p.zs))⟩) := by
  have lz : ∀ h, lenT .sl h p.zv = some (.int .i64 p.zs.length) := fun h => Rec.tree_len
  have iz : ∀ (j : Nat) (hj : j < p.zs.length), indexAddrT (.sl 49 ⟨some true, some 3⟩) p.zv (.int .i64 (j : Int)) = some (cptr ((znR p.y).val p.zs[j])) := fun j hj => Rec.index_tree rfl hj
  have blz : ∀ d n, below (d + 1) n p.zv = true := fun d n => rfl
  have op0 := @op_bel
  have hl6 := hp.len
  have hcz := hp.cor
  have mk := fun h => make_regs h p.zs.length (by omega)
  rw [pureCall_fn F10 rfl]
  unfold Pl.val Pl.cells
  generalize p.zv = ZV at *
  simp -implicitDefEqProofs [r10, p10, lz, mk]
  have emsl : ∀ i, i ≤ p.zs.length → regR.msl 2 (partA p.zs i) = regR.msl 2 (List.replicate p.zs.length (none, [])) := fun i hi => Rec.msl_eq (by rw [partA_len hi, List.length_replicate])
  rw [LL_for (γ := Unit) p.zs () (fun i _ => [(19, .int .i64 i)]) (fun i _ => [plO p ZV, ptO (0, 0), regR.mrow 31 (partA p.zs i)])
    (fun i rest _ => (.exit 0, [(19, undef)], [plO p ZV, ptO (0, 0), regR.mrow 31 (partA p.zs p.zs.length)])) (fun i _ => True) (by omega) trivial]
  · rw [partA_all]
    have hD : ∀ (i : Nat) (h : i < p.zs.length), Rec.Ok ((allR p.zs)[i]'(by rw [allR_len]; exact h)).1 ((allR p.zs)[i]'(by rw [allR_len]; exact h)).2 ∧ regB ((allR p.zs)[i]'(by rw [allR_len]; exact h)).2 = true := fun i h => by
      rw [allR_get h]; exact regZ_ok _
    have lm : ∀ h, lenT .sl h (regR.msl 2 (List.replicate p.zs.length (none, []))) = some (.int .i64 p.zs.length) := fun h => by rw [Rec.msl_len, List.length_replicate]
    have im : ∀ (i : Nat) (h : i < p.zs.length), indexAddrT (.sl 31 ⟨some false, some 1⟩) (regR.msl 2 (List.replicate p.zs.length (none, []))) (.int .i64 (i : Int)) = some (regR.mat 2 i 0) := fun i h => Rec.mindex (R := regR) rfl (by rw [List.length_replicate]; exact h)
    have ld : ∀ (h : Heap) (i : Nat) (hi : i < p.zs.length), h[2]? = some (regR.mrow 31 (allR p.zs)) → loadT ⟨some false, some 1⟩ h (regR.mat 2 i 0) = some (rectR.o (regZ p.zs[i]).1 (regZ p.zs[i]).2) := fun h i hi hob => by
      have := Rec.mload_cell (R := regR) (j := 0) (sz := some 1) hob (by rw [allR_len]; exact hi) (by decide)
      rw [this]
      show some (rectR.o ((allR p.zs)[i]'_).1 ((allR p.zs)[i]'_).2) = _
      rw [allR_get hi]
    have rfz : ∀ n h z, reify E.P (n + 1) h (rectR.o (regZ z).1 (regZ z).2) = some (rectR.o (regZ z).1 (regZ z).2) := fun n h z => Rec.o_reify
    have hcom := fun z w => zcommon_reg (regZ z).1 (regZ w).1 (regZ z).2 (regZ w).2 (regZ_ok z).1 (regZ_ok w).1 (regZ_ok z).2 (regZ_ok w).2
    have blM : ∀ d n, 2 < n → below (d + 1) n (regR.msl 2 (List.replicate p.zs.length (none, []))) = true := fun d n h => Rec.msl_bel h
    have blA : ∀ n, belowO n (regR.mrow 31 (allR p.zs)) = true := fun n => Rec.mrow_bel _
    have hAl := allL_len p.zs
    have hAg := fun (i : Nat) (h : i < p.zs.length) => allL_get (zs := p.zs) h
    generalize regR.msl 2 (List.replicate p.zs.length (none, [])) = MV at *
    generalize regR.mrow 31 (allR p.zs) = MO at *
    simp -implicitDefEqProofs [k10_3, plO, ptO, lm]
    rw [LL_for (γ := Unit) (allL p.zs) () (fun i _ => [(35, .int .i64 i)]) (fun i _ => [plO p ZV, ptO (0, 0), MO])
      (fun i rest _ => match ovF i rest with
        | none => (.exit 2, [(35, undef)], [plO p ZV, ptO (0, 0), MO])
        | some (a, b, q) => (.ret, [(2, lst true [.int .i64 (a : Int), .int .i64 (b : Int)]), (4, .bool true), (35, undef)], [plO p ZV, ptO q, MO])) (fun i _ => True) (by omega) trivial]
    · cases hov : ovF 0 (allL p.zs) with
      | none => simp -implicitDefEqProofs [k10_9, plO, ptO, ovT, b2_none]
      | some abq =>
        obtain ⟨a, b, q⟩ := abq
        simp -implicitDefEqProofs [k10_9, plO, ptO, ovT]
    · simp -implicitDefEqProofs [k10_9]
    · rfl
    · intro nx i c hi _
      rw [hAl] at hi
      have e1 : ∀ i, ovF i [] = none := fun i => rfl
      simp -implicitDefEqProofs [r10_9, k10_9, hi, trim_le, e1, plO, ptO]
    · intro nx i c rest _ hi hv hd hw _ ih
      have hin : i < p.zs.length := by omega
      have ih := ih () trivial
      have wi : IntKind.i64.wrap ((i : Int) + 1) = ((i + 1 : Nat) : Int) := (wrap64 (by omega) (by omega)).trans (by omega)
      have ee : ovF i (c :: rest) = match Rg.ovR c (i + 1) rest with
        | some (k, p) => some (i, k, p)
        | none => ovF (i + 1) rest := rfl
      have hrl : rest.length = p.zs.length - (i + 1) := by
        have := congrArg List.length hd
        rw [List.length_drop, List.length_cons, hAl] at this; omega
      have hrg : ∀ (j : Nat) (h : j < rest.length), ∃ h' : i + 1 + j < p.zs.length, rest[j] = (regZ p.zs[i + 1 + j]).2 := fun j h => by
        have h' : i + 1 + j < p.zs.length := by omega
        refine ⟨h', ?_⟩
        rw [← hAg _ h']
        have e2 : ((allL p.zs).drop i)[j + 1]? = rest[j]? := by rw [hd]; rfl
        rw [List.getElem?_drop, show i + (j + 1) = i + 1 + j by omega, List.getElem?_eq_getElem (by omega), List.getElem?_eq_getElem h] at e2
        exact (Option.some.inj e2).symm
      have hcz : c = (regZ p.zs[i]).2 := by rw [← hAg i hin, hv]
      rw [ee]
      simp -implicitDefEqProofs [k10_9, plO, ptO, -Int.natCast_add] at ih
      simp -implicitDefEqProofs [r10_9, k10_9, hin, wi, plO, ptO, -Int.natCast_add]
      rw [LL_for (γ := Unit) rest () (fun j _ => [(9, .int .i64 ((i + 1 + j : Nat) : Int))]) (fun _ _ => [plO p ZV, ptO (0, 0), MO])
        (fun j rest2 _ => match Rg.ovR c (i + 1 + j) rest2 with
          | none => (.exit 4, [(9, undef)], [plO p ZV, ptO (0, 0), MO])
          | some (b, q) => (.ret, [(2, lst true [.int .i64 (i : Int), .int .i64 (b : Int)]), (4, .bool true), (9, undef)], [plO p ZV, ptO q, MO])) (fun _ _ => True) (by omega) trivial]
      · rw [Nat.add_zero]
        cases hov : Rg.ovR c (i + 1) rest with
        | none =>
          simp -implicitDefEqProofs [k10_12, plO, ptO, wi, -Int.natCast_add]
          exact ih
        | some bq =>
          obtain ⟨b, q⟩ := bq
          simp -implicitDefEqProofs [k10_12, plO, ptO, trim_le, -Int.natCast_add]
      · simp -implicitDefEqProofs [k10_12, -Int.natCast_add]
      · rfl
      · intro nx2 j _ hj _
        have hjn : ¬ (((i + 1 + j : Nat) : Int) < (p.zs.length : Int)) := by omega
        have hjn' : ¬ (i + 1 + j < p.zs.length) := by omega
        have e1 : Rg.ovR c (i + 1 + j) [] = none := rfl
        simp -implicitDefEqProofs [r10_12, k10_12, lm, hjn, trim_le, e1, plO, ptO, -Int.natCast_add]
      · intro nx2 j d rest2 _ hj hv2 hd2 hw2 _ ih2
        obtain ⟨hjn, ed⟩ := hrg j hj
        rw [hv2] at ed
        have hjn' : ((i + 1 + j : Nat) : Int) < (p.zs.length : Int) := by omega
        have ih2 := ih2 () trivial
        have wk : IntKind.i64.wrap (((i + 1 + j : Nat) : Int) + 1) = ((i + 1 + (j + 1) : Nat) : Int) := (wrap64 (by omega) (by omega)).trans (by omega)
        have e3 : Rg.ovR c (i + 1 + j) (d :: rest2) = if 0 < comA c d then some (i + 1 + j, comP c d (1048576, 0)) else Rg.ovR c (i + 1 + j + 1) rest2 := rfl
        have hc2 := hcom p.zs[i] p.zs[i + 1 + j]
        rw [← hcz, ← ed] at hc2
        have l1 := fun h => ld h i hin
        have l2 := fun h => ld h (i + 1 + j) hjn
        rw [← hcz] at l1
        rw [← ed] at l2
        have r1 := fun n h => rfz n h p.zs[i]
        have r2 := fun n h => rfz n h p.zs[i + 1 + j]
        rw [← hcz] at r1
        rw [← ed] at r2
        have i1 := im i hin
        have i2 := im (i + 1 + j) hjn
        rw [e3]
        rw [show i + 1 + (j + 1) = i + 1 + j + 1 by omega] at ih2 wk
        simp -implicitDefEqProofs [k10_12, plO, ptO, -Int.natCast_add] at ih2
        by_cases hn : 0 < comA c d
        · rw [if_pos hn]
          simp -implicitDefEqProofs [r10_12, k10_12, lm, hjn', i1, i2, l1, l2, ret0 m32, r1, r2, hc2, hn, lit_ints2, plO, ptO, trim_cut, op0, blz, blM, blA, -Int.natCast_add]
        · rw [if_neg hn]
          simp -implicitDefEqProofs [r10_12, k10_12, lm, hjn', i1, i2, l1, l2, ret0 m32, r1, r2, hc2, hn, wk, plO, ptO, trim_cut, op0, blz, blM, blA, -Int.natCast_add]
          exact ih2
  · simp -implicitDefEqProofs [k10_3]
  · rw [partA_zero]; simp [plO, ptO]
  · intro nx i c hi _
    subst hi
    simp -implicitDefEqProofs [r10_3, k10_3, trim_le, plO]
  · intro nx i z rest c hi hv hd hw _ ih
    have xi := iz i hi
    rw [hv] at xi
    have hz := zcells_spec p.y z (hcz z (hv ▸ List.getElem_mem hi))
    have zset : settled depth ((znR p.y).val z) = true := rfl
    rw [zn_val] at xi hz zset
    have ih := ih () trivial
    simp -implicitDefEqProofs [k10_3, plO, ptO] at ih
    have pm := Rec.mindex (R := regR) (h0 := 1) (g := some false) (t := 31) (b := 2) (l := partA p.zs i) (i := i) (k := .i64) rfl (by rw [partA_len (by omega)]; exact hi)
    rw [emsl i (by omega)] at pm
    cases ho : z.ov
    · have st := fun h (hob : h[2]? = some (regR.mrow 31 (partA p.zs i))) => Rec.mstore_cell (R := regR) (h := h) (b := 2) (lo := 0) (i := i) (j := 0) (v := rectR.o (kR (polyX z.cs)) (cellsZ z)) (a := regZ z) Rec.o_cellsOf hob (Nat.zero_le _) (by rw [partA_len (by omega)]; exact hi) (by decide) (by unfold regZ; rw [ho]; rfl)
      rw [show (partA p.zs i).set i (regZ z) = partA p.zs (i + 1) by rw [← hv]; exact partA_set hi] at st
      rw [ho] at xi hz zset
      simp -implicitDefEqProofs [r10_3, k10_3, hi, xi, plO, ptO, ret1 m31, zset, hz, pm, st, hw, trim_cut, op0, blz, Rec.mrow_bel, Rec.msl_bel]
      exact ih
    · rw [← partA_ov hi (by rw [hv]; exact ho)] at ih
      rw [ho] at xi
      simp -implicitDefEqProofs [r10_3, k10_3, hi, xi, plO, ptO, hw, trim_cut, op0, blz, Rec.mrow_bel, Rec.msl_bel]
      exact ih
end Go.Proofs.Ytimjfondgdhfcaa.Bm
