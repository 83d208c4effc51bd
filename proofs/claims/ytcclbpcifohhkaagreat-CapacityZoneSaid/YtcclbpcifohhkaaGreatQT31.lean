/-
 Chapter 25: rooms of what a region has in common with a zone. Conditions: few zones, with few corners.
-/
import Derived.Test.YtcclbpcifohhkaaGreatQT30
import Derived.Test.YtcclbpcifohhkaaGreatQT25
import Derived.Test.YtcclbpcifohhkaaGreatQT26
namespace Go.Proofs.YtcclbpcifohhkaaGreat.Bm
open Go Go.RowKit
open Rg (Rect)
open Cp (Q Br prQ validQ best)
def rm (n : Int) : Option Bool × List Rect := (some true, [⟨0, 0, n, 1⟩])
def three : Rooms := [rm 10, rm 8, rm 5]
def V3 : Value := lst true [lst true [.agg ⟨[.int .i64 0, .int .i64 0, .int .i64 10, .int .i64 1]⟩], lst true [.agg ⟨[.int .i64 0, .int .i64 0, .int .i64 8, .int .i64 1]⟩], lst true [.agg ⟨[.int .i64 0, .int .i64 0, .int .i64 5, .int .i64 1]⟩]]
theorem three_ok : RoomsOk three := ⟨fun r hr => by
  simp only [three, rm, List.mem_cons, List.not_mem_nil, or_false] at hr
  rcases hr with rfl | rfl | rfl <;> exact Rec.ok_some, fun r hr => by
  simp only [three, rm, List.mem_cons, List.not_mem_nil, or_false] at hr
  rcases hr with rfl | rfl | rfl <;> decide, by decide⟩
theorem three_areas : areasF (lists three) = some [10, 8, 5] := by kernel_rfl
set_option maxRecDepth 100000 in
theorem three_spec : pureCall E.P (L E) 10 [] = some V3 := pureCall_le (evF_L 20) (by kernel_rfl)
set_option maxRecDepth 100000 in
theorem row4_spec : pureCall E.P (L E) 12 [.int .i64 4] = some (lst true [.agg ⟨[.int .i64 0, .int .i64 0, .int .i64 4, .int .i64 1]⟩]) := pureCall_le (evF_L 20) (by kernel_rfl)
def p25a : Pb := ⟨3, none, [], 100, none, []⟩
def p25b : Pb := ⟨3, some true, [(⟨⟨[104, 111, 109, 101]⟩⟩, 12)], 100, some true, [(0, 1)]⟩
def p25c : Pb := ⟨1, none, [], 20, none, []⟩
def p25d : Pb := ⟨3, some true, [(⟨⟨[104, 111, 109, 101]⟩⟩, 9), (⟨⟨[115, 104, 111, 112]⟩⟩, 14)], 100, none, []⟩
theorem p25a_ok : PbOk p25a := ⟨fun _ => rfl, fun _ => rfl, by decide, by decide, by decide, by decide⟩
theorem p25b_ok : PbOk p25b := ⟨Rec.ok_some, Rec.ok_some, by decide, by decide, by decide, by decide⟩
theorem p25c_ok : PbOk p25c := ⟨fun _ => rfl, fun _ => rfl, by decide, by decide, by decide, by decide⟩
theorem p25d_ok : PbOk p25d := ⟨Rec.ok_some, fun _ => rfl, by decide, by decide, by decide, by decide⟩
theorem bs25a : best (prQ p25a.q) [10, 8, 5] = some (23, [0, 0, 0], [⟨2, 23⟩, ⟨2, 23⟩, ⟨2, 23⟩, ⟨0, 23⟩, ⟨0, 23⟩, ⟨0, 23⟩, ⟨0, 23⟩]) := by kernel_rfl
theorem bs25b : best (prQ p25b.q) [10, 8, 5] = some (23, [1, 1, 0], [⟨2, 23⟩, ⟨0, 23⟩, ⟨2, 23⟩, ⟨0, 23⟩, ⟨2, 23⟩, ⟨0, 23⟩, ⟨0, 23⟩]) := by kernel_rfl
theorem bs25c : best (prQ p25c.q) [10, 8, 5] = some (18, [0, 0], [⟨1, 20⟩, ⟨1, 20⟩, ⟨0, 20⟩]) := by kernel_rfl
theorem bs25d : best (prQ p25d.q) [10, 8, 5] = some (18, [1, 0], [⟨1, 23⟩, ⟨1, 23⟩, ⟨0, 23⟩]) := by kernel_rfl
theorem best3 (p : Pb) (hp : PbOk p) (hv : validQ p.q = true) {v : Int} {c : List Int} {t : List Br} (hb : best (prQ p.q) [10, 8, 5] = some (v, c, t)) : ∃ k, Enc.Ok k c ∧ pureCall E.P (L E) 9 [V3, .agg ⟨p.cells⟩] = some (.tuple ⟨[intE.o k c, .int .i64 v, lst false (brR.vals t), .int .i64 0]⟩) := by
 obtain ⟨k, h1, h2⟩ := best_ok true three three_ok p hp [10, 8, 5] three_areas hv
 rw [hb] at h2
 exact ⟨k, h1 _ hb, h2⟩
def roomE : Enc (Option Bool × List Rect) where
 e := roomR
 one r := by obtain ⟨k, l⟩ := r; cases k <;> rfl
 set r n := Rec.o_set
 bel r d n := Rec.o_bel
 fits r sz := Rec.o_fits
theorem pb_b2 (a b : Int) : buildT (.fs ⟨[.int .i64 0, .slice none 0 0, .int .i64 0, .slice none 0 0]⟩ ⟨[(0, 1), (1, 1), (2, 1), (3, 1)]⟩) #[(0, .int .i64 a), (2, .int .i64 b)] = some (.agg ⟨[.int .i64 a, .slice none 0 0, .int .i64 b, .slice none 0 0]⟩) := rfl
theorem pb_b3 (a b : Int) (l : List Value) : buildT (.fs ⟨[.int .i64 0, .slice none 0 0, .int .i64 0, .slice none 0 0]⟩ ⟨[(0, 1), (1, 1), (2, 1), (3, 1)]⟩) #[(0, .int .i64 a), (2, .int .i64 b), (1, lst true l)] = some (.agg ⟨[.int .i64 a, lst true l, .int .i64 b, .slice none 0 0]⟩) := rfl
theorem pb_b4 (a b : Int) (l m : List Value) : buildT (.fs ⟨[.int .i64 0, .slice none 0 0, .int .i64 0, .slice none 0 0]⟩ ⟨[(0, 1), (1, 1), (2, 1), (3, 1)]⟩) #[(0, .int .i64 a), (2, .int .i64 b), (1, lst true l), (3, lst true m)] = some (.agg ⟨[.int .i64 a, lst true l, .int .i64 b, lst true m]⟩) := rfl
theorem en_b (a : ByteArray) (b : Int) : buildT (.fs ⟨[.string ⟨⟨[]⟩⟩, .int .i64 0]⟩ ⟨[(0, 1), (1, 1)]⟩) #[(0, .string a), (1, .int .i64 b)] = some (.agg ⟨[.string a, .int .i64 b]⟩) := rfl
theorem sg2 (a b : Int) : settled depth (.agg ⟨[.int .i64 a, .slice none 0 0, .int .i64 b, .slice none 0 0]⟩) = true := rfl
theorem sg3 (a b : Int) (l : List Value) : settled depth (.agg ⟨[.int .i64 a, lst true l, .int .i64 b, .slice none 0 0]⟩) = true := rfl
theorem sg4 (a b : Int) (l m : List Value) : settled depth (.agg ⟨[.int .i64 a, lst true l, .int .i64 b, lst true m]⟩) = true := rfl
theorem lit_e1 (h : Heap) (s : ByteArray) (z : Int) : buildSliceT (some ⟨55, 2, 24, .agg ⟨[.string ⟨⟨[]⟩⟩, .int .i64 0]⟩, ⟨some true, some 2⟩⟩) false h 1 #[(0, .agg ⟨[.string s, .int .i64 z]⟩)] = some (lst true [.agg ⟨[.string s, .int .i64 z]⟩], h) :=
 (build_lit' (n := 1) (l := [(0, .agg ⟨[.string s, .int .i64 z]⟩)]) rfl rfl (by decide) (by decide) (by decide)).trans rfl
theorem lit_e2 (h : Heap) (s t : ByteArray) (z w : Int) : buildSliceT (some ⟨55, 2, 24, .agg ⟨[.string ⟨⟨[]⟩⟩, .int .i64 0]⟩, ⟨some true, some 2⟩⟩) false h 2 #[(0, .agg ⟨[.string s, .int .i64 z]⟩), (1, .agg ⟨[.string t, .int .i64 w]⟩)] = some (lst true [.agg ⟨[.string s, .int .i64 z]⟩, .agg ⟨[.string t, .int .i64 w]⟩], h) :=
 (build_lit' (n := 2) (l := [(0, .agg ⟨[.string s, .int .i64 z]⟩), (1, .agg ⟨[.string t, .int .i64 w]⟩)]) rfl rfl (by decide) (by decide) (by decide)).trans rfl
theorem lit_p1 (h : Heap) (z w : Int) : buildSliceT (some ⟨56, 2, 16, .agg ⟨[.int .i64 0, .int .i64 0]⟩, ⟨some true, some 2⟩⟩) false h 1 #[(0, .agg ⟨[.int .i64 z, .int .i64 w]⟩)] = some (lst true [.agg ⟨[.int .i64 z, .int .i64 w]⟩], h) :=
 (build_lit' (n := 1) (l := [(0, .agg ⟨[.int .i64 z, .int .i64 w]⟩)]) rfl rfl (by decide) (by decide) (by decide)).trans rfl
theorem arr_b (a b : Int) : buildT (.arr ⟨[.int .i64 0, .int .i64 0]⟩ 1) #[(0, .int .i64 a), (1, .int .i64 b)] = some (.agg ⟨[.int .i64 a, .int .i64 b]⟩) := rfl
theorem lit_i3 (h : Heap) (a b c : Int) : buildSliceT (some elInt) false h 3 #[(0, .int .i64 a), (1, .int .i64 b), (2, .int .i64 c)] = some (lst true [.int .i64 a, .int .i64 b, .int .i64 c], h) :=
 (build_lit' (n := 3) (l := [(0, .int .i64 a), (1, .int .i64 b), (2, .int .i64 c)]) rfl rfl (by decide) (by decide) (by decide)).trans rfl
theorem lit_i2 (h : Heap) (a b : Int) : buildSliceT (some elInt) false h 2 #[(0, .int .i64 a), (1, .int .i64 b)] = some (lst true [.int .i64 a, .int .i64 b], h) :=
 (build_lit' (n := 2) (l := [(0, .int .i64 a), (1, .int .i64 b)]) rfl rfl (by decide) (by decide) (by decide)).trans rfl
abbrev R4 : Value := .agg ⟨[.int .i64 0, .int .i64 0, .int .i64 4, .int .i64 1]⟩
abbrev elRs : El := ⟨31, 1, 24, .slice none 0 0, ⟨some false, some 1⟩⟩
theorem lit_r2 (h : Heap) : buildSliceT (some elRs) false h 2 #[(0, .slice none 0 0), (1, lst true [R4])] = some (lst true [.slice none 0 0, lst true [R4]], h) :=
 (build_lit' (n := 2) (l := [(0, .slice none 0 0), (1, lst true [R4])]) rfl rfl (by decide) (by decide) (by decide)).trans rfl
def H5 : AObj := .cells 31 [roomR (rm 10), roomR (rm 8), roomR (rm 5), .slice none 0 0, roomR (rm 4)] 1
theorem app_r2 : appendT (some elRs) [] 0 false V3 (lst true [.slice none 0 0, lst true [R4]]) = some (.slice (some ⟨0, 0, some 5⟩) 5 5, [H5]) := rfl
def five : Rooms := [rm 10, rm 8, rm 5, (none, []), rm 4]
theorem five_ok : RoomsOk five := ⟨fun r hr => by
  simp only [five, rm, List.mem_cons, List.not_mem_nil, or_false] at hr
  rcases hr with rfl | rfl | rfl | rfl | rfl <;> first | exact Rec.ok_some | exact fun _ => rfl, fun r hr => by
  simp only [five, rm, List.mem_cons, List.not_mem_nil, or_false] at hr
  rcases hr with rfl | rfl | rfl | rfl | rfl <;> decide, by decide⟩
theorem five_areas : areasF (lists five) = some [10, 8, 5] := by kernel_rfl
theorem frz5 : frzAll E.P 0 [.slice (some ⟨0, 0, some 5⟩) 5 5] [H5] = some ([roomsV false five], [.dead]) := by kernel_rfl
theorem areas5 : retCall E (L E) 0 false 11 [.slice (some ⟨0, 0, some 5⟩) 5 5] [H5] = some (.tuple ⟨[lst false (intE.vals [10, 8, 5]), .int .i64 0]⟩, [.dead]) := by
 have := areas_spec false five five_ok
 rw [five_areas] at this
 rw [ret4 m11, frz5, Option.bind_some, this]; rfl
theorem ints_of (k : Option Bool) (l : List Int) (hk : Enc.Ok k l) (hl : l.length ≤ 1000000) : pureCall E.P (L E) 13 [intE.o k l, lst true (intE.vals l)] = some (.bool true) := by
 have := ints25 k (some true) l l hk Enc.ok_some hl
 rw [decide_eq_true rfl] at this
 exact this
set_option maxHeartbeats 2000000 in
theorem small25_spec : pureCall E.P (L E) 4 [] = some (.bool true) := by
 obtain ⟨ka, qa, ba⟩ := best3 p25a p25a_ok (by kernel_rfl) bs25a
 obtain ⟨kb, qb, bb⟩ := best3 p25b p25b_ok (by kernel_rfl) bs25b
 obtain ⟨kc, qc, bc⟩ := best3 p25c p25c_ok (by kernel_rfl) bs25c
 obtain ⟨kd, qd, bd⟩ := best3 p25d p25d_ok (by kernel_rfl) bs25d
 have ba : pureCall E.P (L E) 9 [V3, .agg ⟨[.int .i64 3, .slice none 0 0, .int .i64 100, .slice none 0 0]⟩] = _ := ba
 have bb : pureCall E.P (L E) 9 [V3, .agg ⟨[.int .i64 3, lst true [.agg ⟨[.string ⟨⟨[104, 111, 109, 101]⟩⟩, .int .i64 12]⟩], .int .i64 100, lst true [.agg ⟨[.int .i64 0, .int .i64 1]⟩]]⟩] = _ := bb
 have bc : pureCall E.P (L E) 9 [V3, .agg ⟨[.int .i64 1, .slice none 0 0, .int .i64 20, .slice none 0 0]⟩] = _ := bc
 have bd : pureCall E.P (L E) 9 [V3, .agg ⟨[.int .i64 3, lst true [.agg ⟨[.string ⟨⟨[104, 111, 109, 101]⟩⟩, .int .i64 9]⟩, .agg ⟨[.string ⟨⟨[115, 104, 111, 112]⟩⟩, .int .i64 14]⟩], .int .i64 100, .slice none 0 0]⟩] = _ := bd
 have t3 := three_spec
 have rw4 := row4_spec
 have s3 : settled depth V3 = true := rfl
 have b7 : (brR.vals [⟨2, 23⟩, ⟨2, 23⟩, ⟨2, 23⟩, ⟨0, 23⟩, ⟨0, 23⟩, ⟨0, 23⟩, ⟨0, 23⟩]).length = 7 := rfl
 have x7 : indexAddrT (.sl 62 ⟨some true, some 2⟩) (lst false (brR.vals [⟨2, 23⟩, ⟨2, 23⟩, ⟨2, 23⟩, ⟨0, 23⟩, ⟨0, 23⟩, ⟨0, 23⟩, ⟨0, 23⟩])) (.int .i64 0) = some (cptr (.agg ⟨[.int .i64 2, .int .i64 23]⟩)) := rfl
 have l7 : ∀ h, loadT ⟨some true, some 2⟩ h (cptr (.agg ⟨[.int .i64 2, .int .i64 23]⟩)) = some (.agg ⟨[.int .i64 2, .int .i64 23]⟩) := fun _ => rfl
 have bb7 : buildT (.fs ⟨[.int .i64 0, .int .i64 0]⟩ ⟨[(0, 1), (1, 1)]⟩) #[(0, .int .i64 2), (1, .int .i64 23)] = some (.agg ⟨[.int .i64 2, .int .i64 23]⟩) := rfl
 have s4 : settled depth (.int .i64 4) = true := rfl
 have ia : pureCall E.P (L E) 13 [intE.o ka [0, 0, 0], lst true [.int .i64 0, .int .i64 0, .int .i64 0]] = _ := ints_of ka [0, 0, 0] qa (by decide)
 have ib : pureCall E.P (L E) 13 [intE.o kb [1, 1, 0], lst true [.int .i64 1, .int .i64 1, .int .i64 0]] = _ := ints_of kb [1, 1, 0] qb (by decide)
 have ic : pureCall E.P (L E) 13 [intE.o kc [0, 0], lst true [.int .i64 0, .int .i64 0]] = _ := ints_of kc [0, 0] qc (by decide)
 have id : pureCall E.P (L E) 13 [intE.o kd [1, 0], lst true [.int .i64 1, .int .i64 0]] = _ := ints_of kd [1, 0] qd (by decide)
 have i5 : pureCall E.P (L E) 13 [lst false (intE.vals [10, 8, 5]), lst true [.int .i64 10, .int .i64 8, .int .i64 5]] = _ := ints_of (some false) [10, 8, 5] Enc.ok_some (by decide)
 have ra : ∀ h, reify E.P 8 h (intE.o ka [0, 0, 0]) = some (intE.o ka [0, 0, 0]) := fun h => Enc.o_reify
 have rb : ∀ h, reify E.P 8 h (intE.o kb [1, 1, 0]) = some (intE.o kb [1, 1, 0]) := fun h => Enc.o_reify
 have rc : ∀ h, reify E.P 8 h (intE.o kc [0, 0]) = some (intE.o kc [0, 0]) := fun h => Enc.o_reify
 have rd : ∀ h, reify E.P 8 h (intE.o kd [1, 0]) = some (intE.o kd [1, 0]) := fun h => Enc.o_reify
 have beq : aBin E.P .eql 62 (.agg ⟨[.int .i64 2, .int .i64 23]⟩) (.agg ⟨[.int .i64 2, .int .i64 23]⟩) = some (.bool true) := by kernel_rfl
 rw [pureCall_fn F4 rfl]
 simp -implicitDefEqProofs [r4, p4, ret1 m10, t3, ret1 m12, rw4, ret1 m9, s3, s4, pb_b2, pb_b3, pb_b4, en_b, sg2, sg3, sg4, lit_e1, lit_e2, lit_p1, arr_b, ba, bb, bc, bd, lit_i3, lit_i2, lit_r2, app_r2, areas5, ret0 m13, ia, ib, ic, id, i5, ra, rb, rc, rd, beq, b7, x7, l7, bb7]
open Rg (Rect Pt Zn rightP polyL comA comP)
structure PlOk (p : Pl) : Prop where
 len : p.zs.length ≤ 6
 cor : ∀ z ∈ p.zs, z.cs.length ≤ 64
theorem reg_ok {a : List Rect} (h : regB a = true) : (∀ r ∈ a, okR r = true) ∧ a.length ≤ 200 := by
 obtain ⟨h1, h2, _⟩ := regB_iff.1 h
 exact ⟨List.all_eq_true.1 h1, h2⟩
theorem zcommon_reg (ka kb : Option Bool) (a b : List Rect) (ha : Rec.Ok ka a) (hb : Rec.Ok kb b) (ra : regB a = true) (rb : regB b = true) :
  pureCall E.P (L E) 17 [rectR.o ka a, rectR.o kb b] = some (.tuple ⟨[.int .i64 (comA a b), .agg ⟨[.int .i64 (comP a b (1048576, 0)).1, .int .i64 (comP a b (1048576, 0)).2]⟩]⟩) :=
 zcommon_spec ka kb a b ha hb (reg_ok ra).2 (reg_ok rb).2 (reg_ok ra).1 (reg_ok rb).1
def sharesL (zs : List Zn) (a : List Rect) : List Int := zs.map fun z => comA a (cellsZ z)
def sharesV (zs : List Zn) (a : List Rect) : Value := if regB a then lst false ((sharesL zs a).map (.int .i64)) else .slice none 0 0
def plO (p : Pl) (ZV : Value) : AObj := .cells 30 [opV p.d, opV p.t, ZV, opV p.r, opV p.c, opV p.v, opV p.s, .int .i64 p.h] 0
set_option maxHeartbeats 2000000 in
theorem shares_spec (p : Pl) (hp : PlOk p) (k : Option Bool) (a : List Rect) (hk : Rec.Ok k a) (ha : a.length ≤ 1000) : pureCall E.P (L E) 6 [p.val, rectR.o k a] = some (sharesV p.zs a) := by
 have hR := right2_spec k a hk (by omega)
 have rfa : ∀ n h, reify E.P (n + 1) h (rectR.o k a) = some (rectR.o k a) := fun n h => Rec.o_reify
 have bla : ∀ d n, below (d + 1) n (rectR.o k a) = true := fun d n => Rec.o_bel
 have lz : ∀ h, lenT .sl h p.zv = some (.int .i64 p.zs.length) := fun h => Rec.tree_len
 have iz : ∀ (j : Nat) (hj : j < p.zs.length), indexAddrT (.sl 36 ⟨some true, some 3⟩) p.zv (.int .i64 (j : Int)) = some (cptr ((znR p.y).val p.zs[j])) := fun j hj => Rec.index_tree rfl hj
 have blz : ∀ d n, below (d + 1) n p.zv = true := fun d n => rfl
 rw [pureCall_fn F6 rfl]
 unfold sharesV
 cases hr : regB a
 ·rw [hr] at hR
  generalize rectR.o k a = VA at *
  simp -implicitDefEqProofs [r6, p6, Pl.val, Pl.cells, ret0 m16, rfa, hR]
 ·rw [hr] at hR
  have hC := fun (z : Zn) => zcommon_reg k (kR (polyX z.cs)) a (cellsZ z) hk (kR_ok _) hr (cellsZ_reg z)
  have rfz : ∀ n h (z : Zn), reify E.P (n + 1) h (rectR.o (kR (polyX z.cs)) (cellsZ z)) = some (rectR.o (kR (polyX z.cs)) (cellsZ z)) := fun n h z => Rec.o_reify
  have hl := hp.len
  have hcz := hp.cor
  have hl := hp.len
  have op0 := @op_bel
  generalize rectR.o k a = VA at *
  generalize hZV : p.zv = ZV at *
  simp -implicitDefEqProofs [r6, p6, Pl.val, Pl.cells, hZV, ret0 m16, rfa, hR, prep_new, newK_nil s3, lz]
  rw [LL_for (γ := List Int) p.zs [] (fun i c => [(5, intR.sl 1 c), (16, .int .i64 i)]) (fun _ c => [plO p ZV, intR.row 3 c])
   (fun _ rest c => (.exit 0, [(5, intR.sl 1 (c ++ sharesL rest a)), (16, undef)], [plO p ZV, intR.row 3 (c ++ sharesL rest a)])) (fun i c => c.length = i) (by omega) rfl]
  ·have rr := int_reifyR (h := [plO p ZV, intR.row 3 (sharesL p.zs a)]) (b := 1) (l := sharesL p.zs a) rfl
   unfold plO iT at rr
   simp -implicitDefEqProofs [k6_5, plO, rr]
  ·simp -implicitDefEqProofs [k6_5, Rec.sl_nil]
  ·rfl
  ·intro nx i c hi _
   simp -implicitDefEqProofs [r6_5, k6_5, hi, trim_le, sharesL, plO]
  ·intro nx i z rest c hi hv hd hw hc ih
   have xi := iz i hi
   rw [hv] at xi
   have hz := zcells_spec p.y z (hcz z (hv ▸ List.getElem_mem hi))
   have hCz := hC z
   have ih := ih (c ++ [comA a (cellsZ z)]) (by rw [List.length_append, hc]; rfl)
   have e1 : c ++ sharesL (z :: rest) a = c ++ [comA a (cellsZ z)] ++ sharesL rest a := by rw [List.append_assoc]; rfl
   have zset : settled depth ((znR p.y).val z) = true := rfl
   rw [e1]
   rw [zn_val] at xi hz zset
   have rz := fun n h => rfz n h z
   generalize rectR.o (kR (polyX z.cs)) (cellsZ z) = CZ at *
   simp -implicitDefEqProofs [k6_5, plO] at ih
   have ap := fun h (hob : h[1]? = some (intR.row 3 c)) => app_num (h := h) (b := 1) (lo := 0) (c := c) (comA a (cellsZ z)) hob (Nat.zero_le _) (by omega)
   simp -implicitDefEqProofs [r6_5, k6_5, hi, xi, plO, ret1 m18, zset, hz, ret0 m17, rfa, rz, hCz, lit_num, ap, hw, trim_cut, op0, blz, Rec.row_bel, Rec.sl_bel, bla]
   exact ih
end Go.Proofs.YtcclbpcifohhkaaGreat.Bm
namespace Go.Proofs.YtcclbpcifohhkaaGreat.Rg
theorem comA_nil_r : ∀ a : List Rect, comA a [] = 0
 | [] => rfl
 | r :: a => by show 0 + comA a [] = 0; rw [comA_nil_r]; rfl
theorem namesF_step {o : Option (Nat × Int)} {i : Nat} {z : Zn} {n : Int} {W : List (Zn × Int)} : namesF o i ((z, n) :: W) = (if isO o i || (z.ov && decide (0 < n)) then [z.nm] else []) ++ namesF o (i + 1) W := rfl
end Go.Proofs.YtcclbpcifohhkaaGreat.Rg
namespace Go.Proofs.YtcclbpcifohhkaaGreat.Bm
open Go Go.RowKit
open Rg (Rect Pt Zn rightP polyL comA comP bestW gtO isO namesF)
def wZ (zs : List Zn) (a : List Rect) : List (Zn × Int) := if regB a then zs.map (fun z => (z, comA a (cellsZ z))) else []
def bV : Option (Nat × Int) → Int
 | none => -1
 | some (b, _) => b
theorem sharesV_len (zs : List Zn) (a : List Rect) (h : Heap) : lenT .sl h (sharesV zs a) = some (.int .i64 (wZ zs a).length) := by
 unfold sharesV wZ
 cases regB a
 ·rfl
 ·rw [if_pos rfl, if_pos rfl, len_lst]
  unfold sharesL
  simp
theorem sharesV_index {zs : List Zn} {a : List Rect} {i : Nat} (hi : i < (wZ zs a).length) : indexAddrT (.sl 3 ⟨some false, some 1⟩) (sharesV zs a) (.int .i64 (i : Int)) = some (cptr (.int .i64 ((wZ zs a)[i]).2)) := by
 unfold sharesV
 have hi0 := hi
 unfold wZ at hi0
 cases hr : regB a
 ·rw [hr] at hi0; exact absurd hi0 (Nat.not_lt_zero _)
 ·have hz : i < zs.length := by rw [hr] at hi0; simpa using hi0
  have e : (wZ zs a)[i] = (zs[i], comA a (cellsZ zs[i])) := by unfold wZ; simp [hr]
  rw [if_pos rfl]
  have hl : i < (sharesL zs a).length := by unfold sharesL; simpa using hz
  refine (iT_index hl).trans ?_
  congr 3
  exact (List.getElem_map (fun z => comA a (cellsZ z))).trans (congrArg Prod.snd e).symm
theorem wZ_zone {zs : List Zn} {a : List Rect} {i : Nat} (hi : i < (wZ zs a).length) : ∃ h : i < zs.length, ((wZ zs a)[i]).1 = zs[i] := by
 have hi0 := hi
 unfold wZ at hi0
 cases hr : regB a
 ·rw [hr] at hi0; exact absurd hi0 (Nat.not_lt_zero _)
 ·have hz : i < zs.length := by rw [hr] at hi0; simpa using hi0
  refine ⟨hz, ?_⟩
  unfold wZ
  simp [hr]
theorem wZ_len (zs : List Zn) (a : List Rect) : (wZ zs a).length ≤ zs.length := by
 unfold wZ
 cases regB a
 ·exact Nat.zero_le _
 ·simp
theorem sharesV_bel {d n : Nat} (zs : List Zn) (a : List Rect) : below (d + 1) n (sharesV zs a) = true := by unfold sharesV; cases regB a <;> rfl
def strR : Rec ByteArray where
 enc s := [.string s]
 m := 0
 len _ := rfl
 set _ := rfl
 bel _ _ := rfl
theorem str_flat : ∀ l : List ByteArray, strR.flat l = l.map .string
 | [] => rfl
 | s :: l => by
  show Value.string s :: strR.flat l = _
  rw [str_flat l]; rfl
theorem sS1 : szOf E.P 9 = some 1 := by kernel_rfl
theorem gS1 : aggT E.P 9 = some false := by kernel_rfl
theorem str_reifyR {h : Heap} {b : Nat} {l : List ByteArray} (hob : h[b]? = some (strR.row 9 l)) : reifyR E.P h (strR.sl b l) = some (lst false (l.map .string)) := by
 have e0 : strR.sl b l = .slice (some ⟨b, 0, some l.length⟩) l.length l.length := by unfold Rec.sl; simp [strR]
 show reify E.P 8 h (strR.sl b l) = _
 rw [e0, reify_slice]
 by_cases h0 : l.length = 0
 ·have : l = [] := List.eq_nil_of_length_eq_zero h0
  subst this; rfl
 ·rw [if_neg h0, hob]
  unfold Rec.row
  rw [str_flat]
  show reifyS E.P 7 h (some (.cells 9 (l.map .string) 1)) _ _ = _
  rw [reifyS_cells, sS1, Option.bind_some, if_pos ⟨by simp [stampOk], Nat.one_pos, by simp⟩]
  have e : ((l.map Value.string).drop 0).take (l.length * 1) = l.map .string := by rw [List.drop_zero, Nat.mul_one, List.take_of_length_le (by simp)]
  rw [e, reifyC_set (by simp [List.all_eq_true]), Option.bind_some, elems_one gS1 sS1]; rfl
theorem lit_str (h : Heap) (s : ByteArray) : buildSliceT (some ⟨9, 1, 16, .string ⟨⟨[]⟩⟩, ⟨some false, some 1⟩⟩) false h 1 #[(0, .string s)] = some (lst true [.string s], h) :=
 (build_lit' (n := 1) (l := [(0, .string s)]) rfl rfl (by decide) (by decide) (by decide)).trans rfl
theorem app_str {h : Heap} {b lo : Nat} {c : List ByteArray} (s : ByteArray) (hob : h[b]? = some (strR.row 9 c)) (hlo : lo ≤ b) (hc : c.length ≤ 1000000) :
  appendT (some ⟨9, 1, 16, .string ⟨⟨[]⟩⟩, ⟨some false, some 1⟩⟩) h lo false (strR.sl b c) (lst true [.string s]) = some (strR.sl b (c ++ [s]), h.set b (strR.row 9 (c ++ [s]))) :=
 Rec.app (R := strR) (m := [s]) rfl hob (cells_lst (by rfl)) hlo (by show (c.length + 1) * 16 ≤ 2 ^ 47; omega)
def namesZ (zs : List Zn) (a : List Rect) : List ByteArray := namesF (bestW 0 none (wZ zs a)) 0 (wZ zs a)
set_option maxHeartbeats 2000000 in
theorem zof_spec (p : Pl) (hp : PlOk p) (k : Option Bool) (a : List Rect) (hk : Rec.Ok k a) (ha : a.length ≤ 200) : pureCall E.P (L E) 7 [p.val, rectR.o k a] = some (lst false ((namesZ p.zs a).map .string)) := by
 have hS := shares_spec p hp k a hk (by omega)
 have sp := p.set
 have sa : settled depth (rectR.o k a) = true := Rec.o_set
 have bla : ∀ d n, below (d + 1) n (rectR.o k a) = true := fun d n => Rec.o_bel
 have ln := sharesV_len p.zs a
 have ix : ∀ (i : Nat) (hi : i < (wZ p.zs a).length), _ := fun i hi => sharesV_index (zs := p.zs) (a := a) hi
 have blS : ∀ d n, below (d + 1) n (sharesV p.zs a) = true := fun d n => sharesV_bel _ _
 have hl := wZ_len p.zs a
 have hl6 := hp.len
 have iz : ∀ (j : Nat) (hj : j < (wZ p.zs a).length), indexAddrT (.sl 36 ⟨some true, some 3⟩) p.zv (.int .i64 (j : Int)) = some (cptr ((znR p.y).val ((wZ p.zs a)[j]).1)) := fun j hj => by
  obtain ⟨h, e⟩ := wZ_zone hj
  rw [e]
  exact Rec.index_tree rfl h
 have blz : ∀ d n, below (d + 1) n p.zv = true := fun d n => rfl
 have op0 := @op_bel
 rw [pureCall_fn F7 rfl]
 unfold namesZ
 generalize rectR.o k a = VA at *
 generalize sharesV p.zs a = LV at *
 generalize wZ p.zs a = W at *
 unfold Pl.val Pl.cells at *
 generalize p.zv = ZV at *
 simp -implicitDefEqProofs [r7, p7, ret1 m6, sp, sa, hS, ln]
 rw [LL_for (γ := Option (Nat × Int)) W none (fun i c => [(6, .int .i64 (bV c)), (17, .int .i64 i)]) (fun _ _ => [plO p ZV]) (fun i rest c => (.exit 0, [(6, .int .i64 (bV (bestW i c rest))), (17, undef)], [plO p ZV]))
  (fun i c => ∀ b m, c = some (b, m) → ∃ h : b < W.length, b < i ∧ W[b].2 = m) (by omega) (by intro b m h; cases h)]
 ·generalize bestW 0 none W = o
  simp -implicitDefEqProofs [k7_4, prep_new, newK_nil sS1, plO, ln]
  rw [LL_for (γ := List ByteArray) W [] (fun i c => [(9, strR.sl 1 c), (49, .int .i64 i)]) (fun _ c => [plO p ZV, strR.row 9 c])
   (fun i rest c => (.exit 2, [(9, strR.sl 1 (c ++ namesF o i rest)), (49, undef)], [plO p ZV, strR.row 9 (c ++ namesF o i rest)])) (fun i c => c.length ≤ i) (by omega) (Nat.le_refl _)]
  ·have rr := str_reifyR (h := [plO p ZV, strR.row 9 (namesF o 0 W)]) (b := 1) (l := namesF o 0 W) rfl
   unfold plO at rr
   simp -implicitDefEqProofs [k7_11, plO, rr]
  ·simp -implicitDefEqProofs [k7_11, Rec.sl_nil]
  ·rfl
  ·intro nx i c hi _
   have e1 : ∀ i, c ++ namesF o i [] = c := fun i => List.append_nil c
   simp -implicitDefEqProofs [r7_11, k7_11, hi, trim_le, e1, plO]
  ·intro nx i v rest c hi hv hd hw hc ih
   obtain ⟨z, n⟩ := v
   have xi := ix i hi
   have zi := iz i hi
   rw [hv] at xi zi
   rw [zn_val] at zi
   simp only at xi zi
   have hi' : (i : Int) < (W.length : Int) := by omega
   have ap := app_str (h := [plO p ZV, strR.row 9 c]) (b := 1) (lo := 0) (c := c) z.nm rfl (Nat.zero_le _) (by omega)
   have ec : ((i : Int) = bV o) ↔ isO o i = true := by
    cases o with
    | none => exact ⟨fun h => by have h : (i : Int) = -1 := h; omega, fun h => absurd h Bool.false_ne_true⟩
    | some bm =>
     obtain ⟨b, m⟩ := bm
     show (i : Int) = (b : Int) ↔ decide (i = b) = true
     rw [decide_eq_true_eq]; omega
   rw [Rg.namesF_step, ← List.append_assoc]
   by_cases hb : isO o i = true
   ·have hb' := ec.2 hb
    have ih := ih (c ++ [z.nm]) (by rw [List.length_append]; show c.length + 1 ≤ i + 1; omega)
    simp -implicitDefEqProofs [k7_11, plO, -List.append_assoc] at ih
    rw [hb, Bool.true_or, if_pos rfl]
    unfold plO at ap
    rw [← hb'] at *
    simp -implicitDefEqProofs [r7_11, k7_11, hi', xi, zi, plO, lit_str, ap, hw, -List.append_assoc]
    exact ih
   ·have hb' : ¬ ((i : Int) = bV o) := fun h => hb (ec.1 h)
    have hbf : isO o i = false := by simpa using hb
    rw [hbf, Bool.false_or]
    unfold plO at ap
    cases hov : z.ov
    ·have ih := ih c (by omega)
     have e2 : c ++ (if (false && decide (0 < n)) = true then [z.nm] else []) = c := List.append_nil c
     rw [e2]
     rw [hov] at zi
     simp -implicitDefEqProofs [k7_11, plO, -List.append_assoc] at ih
     simp -implicitDefEqProofs [r7_11, k7_11, hi', xi, zi, hb', plO, hw, -List.append_assoc]
     exact ih
    ·rw [hov] at zi
     by_cases hn : 0 < n
     ·have ih := ih (c ++ [z.nm]) (by rw [List.length_append]; show c.length + 1 ≤ i + 1; omega)
      rw [decide_eq_true hn, Bool.and_self, if_pos rfl]
      simp -implicitDefEqProofs [k7_11, plO, -List.append_assoc] at ih
      simp -implicitDefEqProofs [r7_11, k7_11, hi', xi, zi, hb', hn, plO, lit_str, ap, hw, -List.append_assoc]
      exact ih
     ·have ih := ih c (by omega)
      have e2 : c ++ (if (true && decide (0 < n)) = true then [z.nm] else []) = c := by rw [decide_eq_false hn]; exact List.append_nil c
      rw [e2]
      simp -implicitDefEqProofs [k7_11, plO, -List.append_assoc] at ih
      simp -implicitDefEqProofs [r7_11, k7_11, hi', xi, zi, hb', hn, plO, hw, -List.append_assoc]
      exact ih
 ·simp -implicitDefEqProofs [k7_4, bV]
 ·rfl
 ·intro nx i c hi _
  have e1 : ∀ i, bestW i c [] = c := fun i => by unfold bestW; rfl
  simp -implicitDefEqProofs [r7_4, k7_4, hi, trim_le, e1, plO]
 ·intro nx i v rest c hi hv hd hw hc ih
  obtain ⟨z, n⟩ := v
  have xi := ix i hi
  have zi := iz i hi
  rw [hv] at xi zi
  rw [zn_val] at zi
  simp only at xi zi
  have hi' : (i : Int) < (W.length : Int) := by omega
  have eb : bestW i c ((z, n) :: rest) = bestW (i + 1) (if !z.ov && decide (0 < n) && gtO n c then some (i, n) else c) rest := rfl
  have keep := ih c fun b m h => by obtain ⟨h1, h2, h3⟩ := hc b m h; exact ⟨h1, by omega, h3⟩
  have take := ih (some (i, n)) fun b m h => by cases h; exact ⟨hi, Nat.lt_succ_self _, by rw [hv]⟩
  have eI : bV (some (i, n)) = (i : Int) := rfl
  rw [eI] at take
  rw [eb]
  simp -implicitDefEqProofs [k7_4, plO] at keep take
  cases hov : z.ov
  ·rw [hov] at zi
   by_cases hn : 0 < n
   ·rw [decide_eq_true hn]
    cases c with
    | none =>
     have e2 : (if (!false && true && gtO n none) = true then some (i, n) else none) = some (i, n) := rfl
     have e3 : bV none = -1 := rfl
     rw [e2]
     simp -implicitDefEqProofs [r7_4, k7_4, hi', xi, zi, hn, e3, plO, hw]
     exact take
    | some bm =>
     obtain ⟨b, m⟩ := bm
     obtain ⟨h1, h2, h3⟩ := hc b m rfl
     have xb := ix b h1
     rw [h3] at xb
     have e3 : bV (some (b, m)) = (b : Int) := rfl
     have hb0 : ¬ ((b : Int) < 0) := by omega
     rw [e3] at *
     by_cases hm : m < n
     ·have e2 : (if (!false && true && gtO n (some (b, m))) = true then some (i, n) else some (b, m)) = some (i, n) := if_pos (by show (!false && true && decide (m < n)) = true; rw [decide_eq_true hm]; rfl)
      rw [e2]
      simp -implicitDefEqProofs [r7_4, k7_4, hi', xi, zi, hn, hb0, xb, hm, plO, hw]
      exact take
     ·have e2 : (if (!false && true && gtO n (some (b, m))) = true then some (i, n) else some (b, m)) = some (b, m) := if_neg (by show ¬ (!false && true && decide (m < n)) = true; rw [decide_eq_false hm]; decide)
      rw [e2]
      simp -implicitDefEqProofs [r7_4, k7_4, hi', xi, zi, hn, hb0, xb, hm, plO, hw]
      exact keep
   ·have e2 : (if (!false && decide (0 < n) && gtO n c) = true then some (i, n) else c) = c := if_neg (by rw [decide_eq_false hn]; exact Bool.false_ne_true)
    rw [e2]
    simp -implicitDefEqProofs [r7_4, k7_4, hi', xi, zi, hn, plO, hw]
    exact keep
  ·rw [hov] at zi
   have e2 : (if (!true && decide (0 < n) && gtO n c) = true then some (i, n) else c) = c := if_neg Bool.false_ne_true
   rw [e2]
   simp -implicitDefEqProofs [r7_4, k7_4, hi', xi, zi, plO, hw]
   exact keep
open Rg (Rect Pt Zn rightP polyL comA comP Once cell opL)
theorem reg_box {a : List Rect} (h : regB a = true) : ∀ r ∈ a, r.inBox 1048576 := fun r hr => okR_iff.1 ((reg_ok h).1 r hr)
theorem reg_form {a : List Rect} (h : regB a = true) : Rg.Form a := (regB_iff.1 h).2.2
theorem reg_once {a : List Rect} (h : regB a = true) : Once a := (reg_form h).once
theorem opl_ok (f : Bool → Bool → Bool) (hf : f false false = false) {a b : List Rect} (ra : regB a = true) (rb : regB b = true) :
  Rg.Form (opL f a b) ∧ (∀ x y, cell (opL f a b) x y = f (cell a x y) (cell b x y)) ∧ ∀ r ∈ opL f a b, r.inBox 1048576 := by
 obtain ⟨h1, h2⟩ := Rg.opL_ok f hf (fun r hr => ((reg_form ra).pos r hr).2) (fun r hr => ((reg_form rb).pos r hr).2)
 refine ⟨h1, h2, h1.box (n := 1048576) fun x y q => ?_⟩
 rw [h2] at q
 have key : ∀ {l : List Rect}, regB l = true → cell l x y = true → 0 ≤ x ∧ x < 1048576 ∧ 0 ≤ y ∧ y < 1048576 := fun {l} hl hc => by
  obtain ⟨r, hr, hrx⟩ := List.any_eq_true.1 hc
  have hb := reg_box hl r hr
  have hrx : r.has x y = true := hrx
  rw [Rg.has_iff] at hrx
  unfold Rg.Rect.inBox at hb
  omega
 cases ca : cell a x y
 ·cases cb : cell b x y
  ·rw [ca, cb, hf] at q; exact absurd q Bool.false_ne_true
  ·exact key rb cb
 ·exact key ra ca
theorem comA_le {b : List Rect} (hb : ∀ s ∈ b, okR s = true) (lb : b.length ≤ 200) : ∀ {a : List Rect}, (∀ r ∈ a, okR r = true) → comA a b ≤ 219902325555200 * a.length
 | [], _ => by show (0 : Int) ≤ _; simp
 | r :: a, h => by
  have h1 := comR_le (h r (List.mem_cons_self ..)) hb
  have h2 := comA_le hb lb (a := a) fun t ht => h t (List.mem_cons_of_mem r ht)
  show Rg.comR r b + comA a b ≤ 219902325555200 * ((a.length + 1 : Nat) : Int)
  omega
theorem resL_ok (l : List Rect) : resL (.ok l) = .tuple ⟨[rectR.o (some false) l, .int .i64 0]⟩ := rfl
theorem resL_er (e : Int) : resL (.error e) = .tuple ⟨[rectR.o none [], .int .i64 e]⟩ := rfl
theorem limR_err {l : List Rect} (h : 200 < l.length) : limR l = .error 6 := if_neg (by omega)
theorem limR_ok {l : List Rect} (h : ¬ 200 < l.length) : limR l = .ok l := if_pos (by omega)
end Go.Proofs.YtcclbpcifohhkaaGreat.Bm
namespace Go.Proofs.YtcclbpcifohhkaaGreat.Cp
def q1 (most : Int) : Q := ⟨2, [], most, []⟩
def upZ (s most : Int) : Nat → Nat → Nat
 | 0, j => j
 | n + 1, j => if ((j : Int) + 1) * s ≤ most then upZ s most n (j + 1) else j
def stZ (s most : Int) (f : Nat) : Nat → Nd
 | 0 => root (prQ (q1 most)) (List.replicate f s)
 | j + 1 => take (stZ s most f j) 1 s (List.replicate (f - (j + 1)) s)
theorem may1 (most : Int) (l : Option Int) (u : Int) (hu : u ∈ us) : mayQ (q1 most) l u = decide (u = 1) := by
 have e : mayQ (q1 most) l u = (decide (0 ≤ u) && (decide (u < 6) && (bitB 2 u && true))) := by
  unfold mayQ q1
  cases l <;> rfl
 rw [e]
 simp only [us, List.mem_cons, List.not_mem_nil, or_false] at hu
 rcases hu with rfl | rfl | rfl | rfl | rfl | rfl <;> decide
theorem stZ_facts (s most : Int) (f : Nat) : ∀ j, j ≤ f → (stZ s most f j).c = List.replicate j 1 ∧ (stZ s most f j).v = j * s ∧ (stZ s most f j).rem = List.replicate (f - j) s ∧ (stZ s most f j).left 1 = most - j * s
 | 0, _ => ⟨rfl, by show (0 : Int) = _; simp, rfl, by show limQ (q1 most) 1 = _; show most = _; simp⟩
 | j + 1, h => by
  obtain ⟨h1, h2, h3, h4⟩ := stZ_facts s most f j (by omega)
  have e : ((j + 1 : Nat) : Int) * s = j * s + s := by push_cast; rw [Int.add_mul, Int.one_mul]
  refine ⟨?_, ?_, rfl, ?_⟩
  ·show (stZ s most f j).c ++ [1] = _
   rw [h1, List.replicate_succ']
  ·show (stZ s most f j).v + s = _
   rw [h2, e]
  ·show (if (1 : Int) = 1 then (stZ s most f j).left 1 - s else (stZ s most f j).left 1) = _
   rw [if_pos rfl, h4, e]; omega
theorem contsZ (s most : Int) (f j : Nat) (hj : j ≤ f) : conts (prQ (q1 most)) (stZ s most f j) = if j < f ∧ ((j : Int) + 1) * s ≤ most then [stZ s most f (j + 1)] else [] := by
 obtain ⟨h1, h2, h3, h4⟩ := stZ_facts s most f j hj
 have e : ((j : Int) + 1) * s = j * s + s := by rw [Int.add_mul, Int.one_mul]
 have hn : ∀ u ∈ us, next (prQ (q1 most)) (stZ s most f j) u = if u = 1 ∧ j < f ∧ ((j : Int) + 1) * s ≤ most then some (stZ s most f (j + 1)) else none := fun u hu => by
  unfold next
  rw [h3]
  have hm : (prQ (q1 most)).may (stZ s most f j).c.getLast? u = decide (u = 1) := may1 most _ u hu
  have hM : (prQ (q1 most)).most = most := rfl
  by_cases hf : j < f
  ·obtain ⟨m, hm2⟩ : ∃ m, f - j = m + 1 := ⟨f - j - 1, by omega⟩
   rw [hm2, List.replicate_succ]
   simp only [hm, hM, decide_eq_true_eq]
   by_cases h : u = 1
   ·subst h
    by_cases hc : ((j : Int) + 1) * s ≤ most
    ·rw [if_pos ⟨rfl, by rw [h4]; omega, by rw [h2]; omega⟩, if_pos ⟨rfl, hf, hc⟩]
     have : m = f - (j + 1) := by omega
     rw [this]; rfl
    ·rw [if_neg (by rintro ⟨_, _, q⟩; rw [h2] at q; omega), if_neg (by rintro ⟨_, _, q⟩; exact hc q)]
   ·rw [if_neg (by rintro ⟨q, _⟩; exact h q), if_neg (by rintro ⟨q, _⟩; exact h q)]
  ·have : f - j = 0 := by omega
   rw [this, if_neg (by rintro ⟨_, q, _⟩; exact hf q)]; rfl
 unfold conts
 by_cases hc : j < f ∧ ((j : Int) + 1) * s ≤ most
 ·rw [if_pos hc]
  have : ∀ u ∈ us, next (prQ (q1 most)) (stZ s most f j) u = if u = 1 then some (stZ s most f (j + 1)) else none := fun u hu => by
   rw [hn u hu]
   by_cases h : u = 1
   ·rw [if_pos ⟨h, hc⟩, if_pos h]
   ·rw [if_neg (by rintro ⟨q, _⟩; exact h q), if_neg h]
  unfold us at this ⊢
  simp only [List.mem_cons, List.not_mem_nil, or_false] at this
  have t0 := this 0 (by omega)
  have t1 := this 1 (by omega)
  have t2 := this 2 (by omega)
  have t3 := this 3 (by omega)
  have t4 := this 4 (by omega)
  have t5 := this 5 (by omega)
  simp [List.filterMap_cons, t0, t1, t2, t3, t4, t5]
 ·rw [if_neg hc]
  refine List.filterMap_eq_nil_iff.2 fun u hu => ?_
  rw [hn u hu, if_neg fun q => hc q.2]
theorem sumZ (s : Int) : ∀ n : Nat, (List.replicate n s).sum = n * s
 | 0 => by simp
 | n + 1 => by
  rw [List.replicate_succ, List.sum_cons, sumZ s n]
  push_cast
  rw [Int.add_mul, Int.one_mul]; omega
theorem srZ {s most : Int} (hs : 0 < s) {f : Nat} : ∀ (n j : Nat) (a : VB), j + n = f → a.1 < j * s → j * s ≤ most →
  (sr (prQ (q1 most)) n (stZ s most f j) a).1 = (((upZ s most n j : Nat) : Int) * s, List.replicate (upZ s most n j) 1) ∧ (sr (prQ (q1 most)) n (stZ s most f j) a).2.length ≤ n + 1
 | 0, j, a, hj, ha, hm => by
  obtain ⟨h1, h2, _, _⟩ := stZ_facts s most f j (by omega)
  refine ⟨?_, Nat.le_refl _⟩
  show upd (stZ s most f j) a = _
  unfold upd
  rw [h2, if_pos ha, h1]; rfl
 | n + 1, j, a, hj, ha, hm => by
  obtain ⟨h1, h2, h3, h4⟩ := stZ_facts s most f j (by omega)
  have hu : upd (stZ s most f j) a = (j * s, List.replicate j 1) := by
   unfold upd
   rw [h2, if_pos ha, h1]
  have e : ((j : Int) + 1) * s = j * s + s := by rw [Int.add_mul, Int.one_mul]
  have hr : reach (prQ (q1 most)) (stZ s most f j) = min (j * s + ((f - j : Nat) : Int) * s) most := by
   unfold reach
   rw [h2, h3, sumZ]; rfl
  have hfs : s ≤ ((f - j : Nat) : Int) * s := by
   have h : (1 : Int) ≤ ((f - j : Nat) : Int) := by omega
   have := Int.mul_le_mul_of_nonneg_right h (Int.le_of_lt hs)
   rw [Int.one_mul] at this; exact this
  by_cases hc : ((j : Int) + 1) * s ≤ most
  ·have hlt : (upd (stZ s most f j) a).1 < reach (prQ (q1 most)) (stZ s most f j) := by
    rw [hu, hr]; show (j : Int) * s < _; omega
   rw [sr_pos _ _ _ _ hlt, contsZ s most f j (by omega), if_pos ⟨by omega, hc⟩, hu]
   have e2 : ((j + 1 : Nat) : Int) * s = j * s + s := by push_cast; exact e
   obtain ⟨k1, k2⟩ := srZ hs (f := f) n (j + 1) (j * s, List.replicate j 1) (by omega) (by show (j : Int) * s < ((j + 1 : Nat) : Int) * s; rw [e2]; omega) (by rw [e2, ← e]; exact hc)
   have eu : upZ s most (n + 1) j = upZ s most n (j + 1) := if_pos hc
   rw [eu]
   refine ⟨k1, ?_⟩
   show ((sr (prQ (q1 most)) n (stZ s most f (j + 1)) (j * s, List.replicate j 1)).2 ++ []).length + 1 ≤ _
   rw [List.append_nil]; omega
  ·have eu : upZ s most (n + 1) j = j := if_neg hc
   rw [eu]
   by_cases hlt : (upd (stZ s most f j) a).1 < reach (prQ (q1 most)) (stZ s most f j)
   ·rw [sr_pos _ _ _ _ hlt, contsZ s most f j (by omega), if_neg fun q => hc q.2, hu]
    exact ⟨rfl, by show 1 ≤ _; omega⟩
   ·rw [sr_neg _ _ _ _ hlt, hu]
    exact ⟨rfl, by show 1 ≤ _; omega⟩
theorem bestZ {s most : Int} (hs : 0 < s) (hm : 0 ≤ most) {f : Nat} (hf : f ≤ 10) : ∃ l, best (prQ (q1 most)) (List.replicate f s) = some (((upZ s most f 0 : Nat) : Int) * s, List.replicate (upZ s most f 0) 1, l) := by
 obtain ⟨h1, h2⟩ := srZ (s := s) (most := most) hs (f := f) f 0 (-1, []) (by omega) (by show (-1 : Int) < _; simp) (by simpa using hm)
 refine ⟨(sr (prQ (q1 most)) f (stZ s most f 0) (-1, [])).2, ?_⟩
 have hl : (List.replicate f s).length = f := List.length_replicate
 have e : root (prQ (q1 most)) (List.replicate f s) = stZ s most f 0 := rfl
 unfold best
 simp only [hl, e]
 rw [if_pos (by omega), h1]
theorem bestZ0 {most : Int} (hm : 0 ≤ most) : ∃ l, best (prQ (q1 most)) [] = some (0, [], l) := by
 exact ⟨_, rfl⟩
end Go.Proofs.YtcclbpcifohhkaaGreat.Cp
namespace Go.Proofs.YtcclbpcifohhkaaGreat.Bm
open Go Go.RowKit
open Rg (Rect Pt Zn areaL comA opL)
open Cp (Q Br prQ validQ best upZ q1)
theorem common25_spec (y : Bool) (z : Zn) (a : List Rect) (ra : regB a = true) (hz : z.cs.length ≤ 64) :
  ∃ k l e, Rec.Ok k l ∧ (e ≠ 0 ∨ (e = 0 ∧ regB l = true ∧ areaL l = comA a (cellsZ z))) ∧ pureCall E.P (L E) 8 [rectR.o (some false) a, (znR y).val z] = some (.tuple ⟨[rectR.o k l, .int .i64 e]⟩) := by
 have pz := pregion_o y z.cs (by omega)
 have sv : settled depth (lst y (spanR.vals z.cs)) = true := rfl
 have so : ∀ k l, settled depth (rectR.o k l) = true := fun _ _ => Rec.o_set
 have rr : ∀ h k l, reify E.P 8 h (rectR.o k l) = some (rectR.o k l) := fun _ _ _ => Rec.o_reify
 have rz : regB (lR (polyX z.cs)) = true := polyX_reg z.cs
 have la := (reg_ok ra).2
 have cz := common2_spec (some false) (kR (polyX z.cs)) a (lR (polyX z.cs)) Rec.ok_some (kR_ok _) (by omega) (by have := (reg_ok rz).2; omega)
 have eZ : opR andF a (lR (polyX z.cs)) = limR (opL andF a (lR (polyX z.cs))) := by unfold opR; rw [ra, rz]; rfl
 rw [eZ] at cz
 obtain ⟨g1, g2, g3⟩ := opl_ok andF rfl ra rz
 have eCZ : cellsZ z = lR (polyX z.cs) := rfl
 have e0 : rectR.o none ([] : List Rect) = .slice none 0 0 := rfl
 rw [pureCall_fn F8 rfl, zn_val]
 by_cases hE : eR (polyX z.cs) = 0
 case neg =>
  obtain ⟨q1, q2⟩ := polyX_err hE
  refine ⟨none, [], 0, fun _ => rfl, .inr ⟨rfl, regB_iff.2 ⟨rfl, Nat.zero_le _, Rg.Form.nil⟩, by rw [eCZ, q2, Rg.comA_nil_r]; rfl⟩, ?_⟩
  simp -implicitDefEqProofs [r8, p8, ret1 m19, sv, pz, hE, e0]
 rw [hE] at pz
 by_cases hF : 200 < (opL andF a (lR (polyX z.cs))).length
 ·rw [limR_err hF, resL_er] at cz
  refine ⟨none, [], 6, fun _ => rfl, .inl (by decide), ?_⟩
  simp -implicitDefEqProofs [r8, p8, ret1 m19, sv, pz, ret1 m20, so, cz, e0]
 ·rw [limR_ok hF, resL_ok] at cz
  have rg : regB (opL andF a (lR (polyX z.cs))) = true := regB_iff.2 ⟨List.all_eq_true.2 fun r hr => okR_iff.2 (g3 r hr), by omega, g1⟩
  refine ⟨some false, _, 0, Rec.ok_some, .inr ⟨rfl, rg, ?_⟩, ?_⟩
  ·rw [eCZ]
   exact (Rg.share_area (reg_box ra) g3 (reg_box rz) (reg_once ra) (reg_once rz) g1 g2).symm
  ·simp -implicitDefEqProofs [r8, p8, ret1 m19, sv, pz, ret1 m20, so, cz, rr]
theorem names_one (n : ByteArray) (cs : List Pt) (a : List Rect) (ra : regB a = true) : (namesZ [⟨n, true, cs⟩] a).length = if 0 < comA a (cellsZ ⟨n, true, cs⟩) then 1 else 0 := by
 unfold namesZ
 have eW : wZ [⟨n, true, cs⟩] a = [(⟨n, true, cs⟩, comA a (cellsZ ⟨n, true, cs⟩))] := by unfold wZ; rw [if_pos ra]; rfl
 rw [eW]
 generalize comA a (cellsZ ⟨n, true, cs⟩) = s
 have hc := Rg.chosen_eq (W := [((⟨n, true, cs⟩ : Zn), s)]) (i := 0) Nat.zero_lt_one
 show (Rg.namesF _ 0 [((⟨n, true, cs⟩ : Zn), s)]).length = _
 have e : Rg.namesF (Rg.bestW 0 none [((⟨n, true, cs⟩ : Zn), s)]) 0 [((⟨n, true, cs⟩ : Zn), s)] = (if (Rg.isO (Rg.bestW 0 none [((⟨n, true, cs⟩ : Zn), s)]) 0 || (true && decide (0 < s))) = true then [n] else []) ++ [] := rfl
 rw [e, List.append_nil]
 have hc : (Rg.isO (Rg.bestW 0 none [((⟨n, true, cs⟩ : Zn), s)]) 0 || (true && decide (0 < s))) = (decide (0 < s) && (true || _)) := hc
 rw [hc, Bool.true_or, Bool.and_true]
 by_cases h : 0 < s
 ·rw [if_pos h, if_pos (decide_eq_true h)]; rfl
 ·rw [if_neg h, if_neg (by simpa using h)]; rfl
end Go.Proofs.YtcclbpcifohhkaaGreat.Bm
