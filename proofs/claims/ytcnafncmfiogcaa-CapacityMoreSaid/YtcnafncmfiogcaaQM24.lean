/-
  Chapter 25: the statement that what is less strict allows as much. Conditions: what the types say of the arguments.
-/
import Derived.Test.YtcnafncmfiogcaaQM23
namespace Go.Proofs.Ytcnafncmfiogcaa.Bm
open Go Go.RowKit
open Rg (Rect)
open Cp (Q Br prQ validQ best)
def rm (n : Int) : Option Bool × List Rect := (some true, [⟨0, 0, n, 1⟩])
def three : Rooms := [rm 10, rm 8, rm 5]
def V3 : Value := lst true [lst true [.agg ⟨[.int .i64 0, .int .i64 0, .int .i64 10, .int .i64 1]⟩], lst true [.agg ⟨[.int .i64 0, .int .i64 0, .int .i64 8, .int .i64 1]⟩], lst true [.agg ⟨[.int .i64 0, .int .i64 0, .int .i64 5, .int .i64 1]⟩]]
theorem three_ok : RoomsOk three := ⟨fun r hr => by
    simp only [three, rm, List.mem_cons, List.not_mem_nil, or_false] at hr
    rcases hr with rfl | rfl | rfl <;> exact Rec.ok_some, fun r hr => by
    simp only [three, rm, List.mem_cons, List.not_mem_nil, or_false] at hr
    rcases hr with rfl | rfl | rfl <;> decide, by decide⟩
theorem three_areas : areasF (lists three) = some [10, 8, 5] := by kernel_rfl
set_option maxRecDepth 100000 in
theorem three_spec : pureCall E.P (L E) 36 [] = some V3 := pureCall_le (evF_L 20) (by kernel_rfl)
set_option maxRecDepth 100000 in
theorem row4_spec : pureCall E.P (L E) 37 [.int .i64 4] = some (lst true [.agg ⟨[.int .i64 0, .int .i64 0, .int .i64 4, .int .i64 1]⟩]) := pureCall_le (evF_L 20) (by kernel_rfl)
def p25a : Pb := ⟨3, none, [], 100, none, []⟩
def p25b : Pb := ⟨3, some true, [(⟨⟨[104, 111, 109, 101]⟩⟩, 12)], 100, some true, [(0, 1)]⟩
def p25c : Pb := ⟨1, none, [], 20, none, []⟩
def p25d : Pb := ⟨3, some true, [(⟨⟨[104, 111, 109, 101]⟩⟩, 9), (⟨⟨[115, 104, 111, 112]⟩⟩, 14)], 100, none, []⟩
theorem p25a_ok : PbOk p25a := ⟨fun _ => rfl, fun _ => rfl, by decide, by decide, by decide, by decide⟩
theorem p25b_ok : PbOk p25b := ⟨Rec.ok_some, Rec.ok_some, by decide, by decide, by decide, by decide⟩
theorem p25c_ok : PbOk p25c := ⟨fun _ => rfl, fun _ => rfl, by decide, by decide, by decide, by decide⟩
theorem p25d_ok : PbOk p25d := ⟨Rec.ok_some, fun _ => rfl, by decide, by decide, by decide, by decide⟩
theorem bs25a : best (prQ p25a.q) [10, 8, 5] = some (23, [0, 0, 0], [⟨2, 23⟩, ⟨2, 23⟩, ⟨2, 23⟩, ⟨0, 23⟩, ⟨0, 23⟩, ⟨0, 23⟩, ⟨0, 23⟩]) := by kernel_rfl
theorem bs25b : best (prQ p25b.q) [10, 8, 5] = some (23, [1, 1, 0], [⟨2, 23⟩, ⟨0, 23⟩, ⟨2, 23⟩, ⟨0, 23⟩, ⟨2, 23⟩, ⟨0, 23⟩, ⟨0, 23⟩]) := by kernel_rfl
theorem bs25c : best (prQ p25c.q) [10, 8, 5] = some (18, [0, 0], [⟨1, 20⟩, ⟨1, 20⟩, ⟨0, 20⟩]) := by kernel_rfl
theorem bs25d : best (prQ p25d.q) [10, 8, 5] = some (18, [1, 0], [⟨1, 23⟩, ⟨1, 23⟩, ⟨0, 23⟩]) := by kernel_rfl
theorem best3 (p : Pb) (hp : PbOk p) (hv : validQ p.q = true) {v : Int} {c : List Int} {t : List Br} (hb : best (prQ p.q) [10, 8, 5] = some (v, c, t)) : ∃ k, Enc.Ok k c ∧ pureCall E.P (L E) 15 [V3, .agg ⟨p.cells⟩] = some (.tuple ⟨[intE.o k c, .int .i64 v, lst false (brR.vals t), .int .i64 0]⟩) := by
  obtain ⟨k, h1, h2⟩ := best_ok true three three_ok p hp [10, 8, 5] three_areas hv
  rw [hb] at h2
  exact ⟨k, h1 _ hb, h2⟩
theorem pb_b2 (a b : Int) : buildT (.fs ⟨[.int .i64 0, .slice none 0 0, .int .i64 0, .slice none 0 0]⟩ ⟨[(0, 1), (1, 1), (2, 1), (3, 1)]⟩) #[(0, .int .i64 a), (2, .int .i64 b)] = some (.agg ⟨[.int .i64 a, .slice none 0 0, .int .i64 b, .slice none 0 0]⟩) := rfl
theorem pb_b3 (a b : Int) (l : List Value) : buildT (.fs ⟨[.int .i64 0, .slice none 0 0, .int .i64 0, .slice none 0 0]⟩ ⟨[(0, 1), (1, 1), (2, 1), (3, 1)]⟩) #[(0, .int .i64 a), (2, .int .i64 b), (1, lst true l)] = some (.agg ⟨[.int .i64 a, lst true l, .int .i64 b, .slice none 0 0]⟩) := rfl
theorem pb_b4 (a b : Int) (l m : List Value) : buildT (.fs ⟨[.int .i64 0, .slice none 0 0, .int .i64 0, .slice none 0 0]⟩ ⟨[(0, 1), (1, 1), (2, 1), (3, 1)]⟩) #[(0, .int .i64 a), (2, .int .i64 b), (1, lst true l), (3, lst true m)] = some (.agg ⟨[.int .i64 a, lst true l, .int .i64 b, lst true m]⟩) := rfl
theorem en_b (a : ByteArray) (b : Int) : buildT (.fs ⟨[.string ⟨⟨[]⟩⟩, .int .i64 0]⟩ ⟨[(0, 1), (1, 1)]⟩) #[(0, .string a), (1, .int .i64 b)] = some (.agg ⟨[.string a, .int .i64 b]⟩) := rfl
theorem sg2 (a b : Int) : settled depth (.agg ⟨[.int .i64 a, .slice none 0 0, .int .i64 b, .slice none 0 0]⟩) = true := rfl
theorem sg3 (a b : Int) (l : List Value) : settled depth (.agg ⟨[.int .i64 a, lst true l, .int .i64 b, .slice none 0 0]⟩) = true := rfl
theorem sg4 (a b : Int) (l m : List Value) : settled depth (.agg ⟨[.int .i64 a, lst true l, .int .i64 b, lst true m]⟩) = true := rfl
theorem lit_e1 (h : Heap) (s : ByteArray) (z : Int) : buildSliceT (some ⟨60, 2, 24, .agg ⟨[.string ⟨⟨[]⟩⟩, .int .i64 0]⟩, ⟨some true, some 2⟩⟩) false h 1 #[(0, .agg ⟨[.string s, .int .i64 z]⟩)] = some (lst true [.agg ⟨[.string s, .int .i64 z]⟩], h) :=
  (build_lit' (n := 1) (l := [(0, .agg ⟨[.string s, .int .i64 z]⟩)]) rfl rfl (by decide) (by decide) (by decide)).trans rfl
theorem lit_e2 (h : Heap) (s t : ByteArray) (z w : Int) : buildSliceT (some ⟨60, 2, 24, .agg ⟨[.string ⟨⟨[]⟩⟩, .int .i64 0]⟩, ⟨some true, some 2⟩⟩) false h 2 #[(0, .agg ⟨[.string s, .int .i64 z]⟩), (1, .agg ⟨[.string t, .int .i64 w]⟩)] = some (lst true [.agg ⟨[.string s, .int .i64 z]⟩, .agg ⟨[.string t, .int .i64 w]⟩], h) :=
  (build_lit' (n := 2) (l := [(0, .agg ⟨[.string s, .int .i64 z]⟩), (1, .agg ⟨[.string t, .int .i64 w]⟩)]) rfl rfl (by decide) (by decide) (by decide)).trans rfl
theorem lit_p1 (h : Heap) (z w : Int) : buildSliceT (some ⟨61, 2, 16, .agg ⟨[.int .i64 0, .int .i64 0]⟩, ⟨some true, some 2⟩⟩) false h 1 #[(0, .agg ⟨[.int .i64 z, .int .i64 w]⟩)] = some (lst true [.agg ⟨[.int .i64 z, .int .i64 w]⟩], h) :=
  (build_lit' (n := 1) (l := [(0, .agg ⟨[.int .i64 z, .int .i64 w]⟩)]) rfl rfl (by decide) (by decide) (by decide)).trans rfl
theorem arr_b (a b : Int) : buildT (.arr ⟨[.int .i64 0, .int .i64 0]⟩ 1) #[(0, .int .i64 a), (1, .int .i64 b)] = some (.agg ⟨[.int .i64 a, .int .i64 b]⟩) := rfl
theorem lit_i3 (h : Heap) (a b c : Int) : buildSliceT (some elInt) false h 3 #[(0, .int .i64 a), (1, .int .i64 b), (2, .int .i64 c)] = some (lst true [.int .i64 a, .int .i64 b, .int .i64 c], h) :=
  (build_lit' (n := 3) (l := [(0, .int .i64 a), (1, .int .i64 b), (2, .int .i64 c)]) rfl rfl (by decide) (by decide) (by decide)).trans rfl
theorem lit_i2 (h : Heap) (a b : Int) : buildSliceT (some elInt) false h 2 #[(0, .int .i64 a), (1, .int .i64 b)] = some (lst true [.int .i64 a, .int .i64 b], h) :=
  (build_lit' (n := 2) (l := [(0, .int .i64 a), (1, .int .i64 b)]) rfl rfl (by decide) (by decide) (by decide)).trans rfl
abbrev R4 : Value := .agg ⟨[.int .i64 0, .int .i64 0, .int .i64 4, .int .i64 1]⟩
abbrev elRs : El := ⟨62, 1, 24, .slice none 0 0, ⟨some false, some 1⟩⟩
theorem lit_r2 (h : Heap) : buildSliceT (some elRs) false h 2 #[(0, .slice none 0 0), (1, lst true [R4])] = some (lst true [.slice none 0 0, lst true [R4]], h) :=
  (build_lit' (n := 2) (l := [(0, .slice none 0 0), (1, lst true [R4])]) rfl rfl (by decide) (by decide) (by decide)).trans rfl
def H5 : AObj := .cells 62 [roomR (rm 10), roomR (rm 8), roomR (rm 5), .slice none 0 0, roomR (rm 4)] 1
theorem app_r2 : appendT (some elRs) [] 0 false V3 (lst true [.slice none 0 0, lst true [R4]]) = some (.slice (some ⟨0, 0, some 5⟩) 5 5, [H5]) := rfl
def five : Rooms := [rm 10, rm 8, rm 5, (none, []), rm 4]
theorem five_ok : RoomsOk five := ⟨fun r hr => by
    simp only [five, rm, List.mem_cons, List.not_mem_nil, or_false] at hr
    rcases hr with rfl | rfl | rfl | rfl | rfl <;> first | exact Rec.ok_some | exact fun _ => rfl, fun r hr => by
    simp only [five, rm, List.mem_cons, List.not_mem_nil, or_false] at hr
    rcases hr with rfl | rfl | rfl | rfl | rfl <;> decide, by decide⟩
theorem five_areas : areasF (lists five) = some [10, 8, 5] := by kernel_rfl
theorem frz5 : frzAll E.P 0 [.slice (some ⟨0, 0, some 5⟩) 5 5] [H5] = some ([roomsV false five], [.dead]) := by kernel_rfl
theorem areas5 : retCall E (L E) 0 false 14 [.slice (some ⟨0, 0, some 5⟩) 5 5] [H5] = some (.tuple ⟨[lst false (intE.vals [10, 8, 5]), .int .i64 0]⟩, [.dead]) := by
  have := areas_spec false five five_ok
  rw [five_areas] at this
  rw [ret4 m14, frz5, Option.bind_some, this]; rfl
theorem ints_of (k : Option Bool) (l : List Int) (hk : Enc.Ok k l) (hl : l.length ≤ 1000000) : pureCall E.P (L E) 21 [intE.o k l, lst true (intE.vals l)] = some (.bool true) := by
  have := ints25 k (some true) l l hk Enc.ok_some hl
  rw [decide_eq_true rfl] at this
  exact this
set_option maxHeartbeats 2000000 in
theorem small25_spec : pureCall E.P (L E) 12 [] = some (.bool true) := by
  obtain ⟨ka, qa, ba⟩ := best3 p25a p25a_ok (by kernel_rfl) bs25a
  obtain ⟨kb, qb, bb⟩ := best3 p25b p25b_ok (by kernel_rfl) bs25b
  obtain ⟨kc, qc, bc⟩ := best3 p25c p25c_ok (by kernel_rfl) bs25c
  obtain ⟨kd, qd, bd⟩ := best3 p25d p25d_ok (by kernel_rfl) bs25d
  have ba : pureCall E.P (L E) 15 [V3, .agg ⟨[.int .i64 3, .slice none 0 0, .int .i64 100, .slice none 0 0]⟩] = _ := ba
  have bb : pureCall E.P (L E) 15 [V3, .agg ⟨[.int .i64 3, lst true [.agg ⟨[.string ⟨⟨[104, 111, 109, 101]⟩⟩, .int .i64 12]⟩], .int .i64 100, lst true [.agg ⟨[.int .i64 0, .int .i64 1]⟩]]⟩] = _ := bb
  have bc : pureCall E.P (L E) 15 [V3, .agg ⟨[.int .i64 1, .slice none 0 0, .int .i64 20, .slice none 0 0]⟩] = _ := bc
  have bd : pureCall E.P (L E) 15 [V3, .agg ⟨[.int .i64 3, lst true [.agg ⟨[.string ⟨⟨[104, 111, 109, 101]⟩⟩, .int .i64 9]⟩, .agg ⟨[.string ⟨⟨[115, 104, 111, 112]⟩⟩, .int .i64 14]⟩], .int .i64 100, .slice none 0 0]⟩] = _ := bd
  have t3 := three_spec
  have rw4 := row4_spec
  have s3 : settled depth V3 = true := rfl
  have b7 : (brR.vals [⟨2, 23⟩, ⟨2, 23⟩, ⟨2, 23⟩, ⟨0, 23⟩, ⟨0, 23⟩, ⟨0, 23⟩, ⟨0, 23⟩]).length = 7 := rfl
  have x7 : indexAddrT (.sl 41 ⟨some true, some 2⟩) (lst false (brR.vals [⟨2, 23⟩, ⟨2, 23⟩, ⟨2, 23⟩, ⟨0, 23⟩, ⟨0, 23⟩, ⟨0, 23⟩, ⟨0, 23⟩])) (.int .i64 0) = some (cptr (.agg ⟨[.int .i64 2, .int .i64 23]⟩)) := rfl
  have l7 : ∀ h, loadT ⟨some true, some 2⟩ h (cptr (.agg ⟨[.int .i64 2, .int .i64 23]⟩)) = some (.agg ⟨[.int .i64 2, .int .i64 23]⟩) := fun _ => rfl
  have bb7 : buildT (.fs ⟨[.int .i64 0, .int .i64 0]⟩ ⟨[(0, 1), (1, 1)]⟩) #[(0, .int .i64 2), (1, .int .i64 23)] = some (.agg ⟨[.int .i64 2, .int .i64 23]⟩) := rfl
  have s4 : settled depth (.int .i64 4) = true := rfl
  have ia : pureCall E.P (L E) 21 [intE.o ka [0, 0, 0], lst true [.int .i64 0, .int .i64 0, .int .i64 0]] = _ := ints_of ka [0, 0, 0] qa (by decide)
  have ib : pureCall E.P (L E) 21 [intE.o kb [1, 1, 0], lst true [.int .i64 1, .int .i64 1, .int .i64 0]] = _ := ints_of kb [1, 1, 0] qb (by decide)
  have ic : pureCall E.P (L E) 21 [intE.o kc [0, 0], lst true [.int .i64 0, .int .i64 0]] = _ := ints_of kc [0, 0] qc (by decide)
  have id : pureCall E.P (L E) 21 [intE.o kd [1, 0], lst true [.int .i64 1, .int .i64 0]] = _ := ints_of kd [1, 0] qd (by decide)
  have i5 : pureCall E.P (L E) 21 [lst false (intE.vals [10, 8, 5]), lst true [.int .i64 10, .int .i64 8, .int .i64 5]] = _ := ints_of (some false) [10, 8, 5] Enc.ok_some (by decide)
  have ra : ∀ h, reify E.P 8 h (intE.o ka [0, 0, 0]) = some (intE.o ka [0, 0, 0]) := fun h => Enc.o_reify
  have rb : ∀ h, reify E.P 8 h (intE.o kb [1, 1, 0]) = some (intE.o kb [1, 1, 0]) := fun h => Enc.o_reify
  have rc : ∀ h, reify E.P 8 h (intE.o kc [0, 0]) = some (intE.o kc [0, 0]) := fun h => Enc.o_reify
  have rd : ∀ h, reify E.P 8 h (intE.o kd [1, 0]) = some (intE.o kd [1, 0]) := fun h => Enc.o_reify
  have beq : aBin E.P .eql 41 (.agg ⟨[.int .i64 2, .int .i64 23]⟩) (.agg ⟨[.int .i64 2, .int .i64 23]⟩) = some (.bool true) := by kernel_rfl
  rw [pureCall_fn F12 rfl]
  simp -implicitDefEqProofs [r12, p12, ret1 m36, t3, ret1 m37, rw4, ret1 m15, s3, s4, pb_b2, pb_b3, pb_b4, en_b, sg2, sg3, sg4, lit_e1, lit_e2, lit_p1, arr_b, ba, bb, bc, bd, lit_i3, lit_i2, lit_r2, app_r2, areas5, ret0 m21, ia, ib, ic, id, i5, ra, rb, rc, rd, beq, b7, x7, l7, bb7]
end Go.Proofs.Ytcnafncmfiogcaa.Bm
namespace Go.Proofs.Ytcnafncmfiogcaa.Bm
open Go Go.RowKit
open Rg (Rect)
open Cp (Q Br Nd VB prQ validQ best sr kidsU conts us inA)
theorem run_us {q : Q} : ∀ {c : List Int} {s t : Nd}, Cp.run (prQ q) s c = some t → ∀ u ∈ c, 0 ≤ u ∧ u ≤ 5
  | [], _, _, _ => fun u hu => by cases hu
  | w :: c, s, t, h => fun u hu => by
    obtain ⟨s1, h1, h2⟩ := Cp.run_step h
    rcases List.mem_cons.1 hu with rfl | hu
    · obtain ⟨_, _, _, _, hm, _⟩ := Cp.next_some h1
      have hm : Cp.mayQ q s.c.getLast? u = true := hm
      have := Cp.may_ge hm
      omega
    · exact run_us h2 u hu
theorem fitR_us {q : Q} {A c : List Int} (h : Cp.fitR q A c = true) : ∀ u ∈ c, 0 ≤ u ∧ u ≤ 5 := by
  rw [Cp.fit_eq] at h
  unfold Cp.fitS Cp.fits at h
  simp only [Bool.and_eq_true] at h
  obtain ⟨t, ht⟩ := Option.isSome_iff_exists.1 h.2.2.2.2
  exact run_us ht
structure Args (P : Rooms) (p : Pb) : Prop where
  ok : ∀ r ∈ P, Rec.Ok r.1 r.2
  len : P.length ≤ maxLen
  kl : Rec.Ok p.kl p.left
  kn : Rec.Ok p.kn p.never
  u : -9223372036854775808 ≤ p.uses ∧ p.uses ≤ 9223372036854775807
  m : -9223372036854775808 ≤ p.most ∧ p.most ≤ 9223372036854775807
def fewB (P : Rooms) (p : Pb) : Bool := P.all (fun r => decide (r.2.length ≤ 16)) && (decide (P.length ≤ 13) && (decide (p.left.length ≤ 40) && decide (p.never.length ≤ 40)))
theorem Args.few {P : Rooms} {p : Pb} (a : Args P p) (x : Bool) : pureCall E.P (L E) 13 [roomsV x P, .agg ⟨p.cells⟩] = some (.bool (fewB P p)) := few_spec x P p a.kl a.kn a.ok a.len
theorem Args.get {P : Rooms} {p : Pb} (a : Args P p) (h : fewB P p = true) : RoomsOk P ∧ PbOk p := by
  unfold fewB at h
  simp only [Bool.and_eq_true, decide_eq_true_eq, List.all_eq_true] at h
  exact ⟨⟨a.ok, h.1, h.2.1⟩, ⟨a.kl, a.kn, a.u, a.m, h.2.2.1, h.2.2.2⟩⟩
theorem rooms_reify (x : Bool) (P : Rooms) (h : Heap) : reify E.P 8 h (roomsV x P) = some (roomsV x P) := by unfold roomsV; rfl
end Go.Proofs.Ytcnafncmfiogcaa.Bm
namespace Go.Proofs.Ytcnafncmfiogcaa.Bm
open Go Go.RowKit
open Rg (Rect)
open Cp (Q Br prQ validQ best fitS fitR)
end Go.Proofs.Ytcnafncmfiogcaa.Bm
namespace Go.Proofs.Ytcnafncmfiogcaa.Cp
theorem goR_mono {q q' : Q} (hm : ∀ l u, mayQ q l u = true → mayQ q' l u = true) (hl : ∀ u x, leftOk q u x = true → leftOk q' u x = true) : ∀ (c A : List Int) (p : Option Int) (f : Int → Int), goR q p f A c = true → goR q' p f A c = true
  | [], A, p, f, _ => go_nil q' p f A
  | u :: c, [], p, f, h => by cases h
  | u :: c, a :: A, p, f, h => by
    unfold goR at h ⊢
    simp only [Bool.and_eq_true] at h ⊢
    exact ⟨hm _ _ h.1, hl _ _ h.2.1, goR_mono hm hl c A _ _ h.2.2⟩
theorem fitR_mono {q q' : Q} (hv : validQ q' = true) (hm : ∀ l u, mayQ q l u = true → mayQ q' l u = true) (hl : ∀ u x, leftOk q u x = true → leftOk q' u x = true) (hM : q.most ≤ q'.most) {A c : List Int} (h : fitR q A c = true) : fitR q' A c = true := by
  unfold fitR at h ⊢
  simp only [Bool.and_eq_true, decide_eq_true_eq] at h ⊢
  exact ⟨hv, h.2.1, h.2.2.1, h.2.2.2.1, goR_mono hm hl _ _ _ _ h.2.2.2.2.1, by omega⟩
theorem fitR_take {q : Q} {A c : List Int} (h : fitR q A c = true) (i : Nat) : fitR q A (c.take i) = true := by
  rw [fit_eq] at h ⊢
  unfold fitS fits at h ⊢
  simp only [Bool.and_eq_true, decide_eq_true_eq] at h ⊢
  refine ⟨h.1, h.2.1, by rw [List.length_take]; omega, h.2.2.2.1, ?_⟩
  have e := run_append (prQ q) (c.take i) (c.drop i) (root (prQ q) A)
  rw [List.take_append_drop] at e
  have h5 := h.2.2.2.2
  rw [e] at h5
  cases hr : run (prQ q) (root (prQ q) A) (c.take i) with
  | none => rw [hr] at h5; cases h5
  | some t => rfl
theorem bit_add : ∀ (w : Fin 64) (k : Fin 6), bitB (w.val : Int) (k.val : Int) = false → (w.val : Int) + 2 ^ k.val ≤ 63 ∧ ∀ u : Fin 6, bitB (w.val : Int) (u.val : Int) = true → bitB ((w.val : Int) + 2 ^ k.val) (u.val : Int) = true := by decide +kernel
theorem more_use {q : Q} (hv : validQ q = true) {k : Int} (h0 : 0 ≤ k) (h6 : k < 6) (hb : bitB q.uses k = false) : q.uses + 2 ^ k.toNat ≤ 63 ∧ validQ ⟨q.uses + 2 ^ k.toNat, q.left, q.most, q.never⟩ = true ∧ ∀ A c, fitR q A c = true → fitR ⟨q.uses + 2 ^ k.toNat, q.left, q.most, q.never⟩ A c = true := by
  obtain ⟨v1, v2, v3, v4, v5, v6⟩ := validQ_iff.1 hv
  have hw : ((q.uses.toNat : Nat) : Int) = q.uses := by omega
  have hk : ((k.toNat : Nat) : Int) = k := by omega
  have h := bit_add ⟨q.uses.toNat, by omega⟩ ⟨k.toNat, by omega⟩ (by simp only [hw, hk]; exact hb)
  simp only [hw] at h
  have hp : 0 ≤ (2 : Int) ^ k.toNat := Int.pow_nonneg (by decide)
  have hv' : validQ ⟨q.uses + 2 ^ k.toNat, q.left, q.most, q.never⟩ = true := validQ_iff.2 ⟨by show 0 ≤ q.uses + 2 ^ k.toNat; omega, h.1, v3, v4, v5, v6⟩
  refine ⟨h.1, hv', fun A c hc => fitR_mono (q := q) hv' (fun l u hu => ?_) (fun u x hx => hx) (Int.le_refl _) hc⟩
  have h06 := may_ge hu
  unfold mayQ at hu ⊢
  simp only [Bool.and_eq_true, decide_eq_true_eq] at hu ⊢
  refine ⟨hu.1, hu.2.1, ?_, hu.2.2.2⟩
  have eu : ((u.toNat : Nat) : Int) = u := by omega
  have := h.2 ⟨u.toNat, by omega⟩
  simp only [eu] at this
  exact this hu.2.2.1
theorem more_most {q : Q} (hv : validQ q = true) {m : Int} (h0 : 0 ≤ m) : validQ ⟨q.uses, q.left, q.most + m, q.never⟩ = true ∧ ∀ A c, fitR q A c = true → fitR ⟨q.uses, q.left, q.most + m, q.never⟩ A c = true := by
  obtain ⟨v1, v2, v3, v4, v5, v6⟩ := validQ_iff.1 hv
  have hv' : validQ ⟨q.uses, q.left, q.most + m, q.never⟩ = true := validQ_iff.2 ⟨v1, v2, by show 0 ≤ q.most + m; omega, v4, v5, v6⟩
  exact ⟨hv', fun A c hc => fitR_mono (q := q) hv' (fun l u hu => hu) (fun u x hx => hx) (by show q.most ≤ q.most + m; omega) hc⟩
theorem more_left {q : Q} (hv : validQ q = true) (n : Nat) : validQ ⟨q.uses, q.left.take n, q.most, q.never⟩ = true ∧ ∀ A c, fitR q A c = true → fitR ⟨q.uses, q.left.take n, q.most, q.never⟩ A c = true := by
  obtain ⟨v1, v2, v3, v4, v5, v6⟩ := validQ_iff.1 hv
  have hv' : validQ ⟨q.uses, q.left.take n, q.most, q.never⟩ = true := validQ_iff.2 ⟨v1, v2, v3, by show (q.left.take n).length ≤ 30; rw [List.length_take]; omega, v5, v6⟩
  refine ⟨hv', fun A c hc => fitR_mono (q := q) hv' (fun l u hu => hu) (fun u x hx => ?_) (Int.le_refl _) hc⟩
  rw [leftOk_iff] at hx ⊢
  exact fun e he => hx e (List.mem_of_mem_take he)
theorem any_take {α : Type} {f : α → Bool} {l : List α} (n : Nat) (h : l.any f = false) : (l.take n).any f = false := by
  rw [List.any_eq_false] at h ⊢
  exact fun x hx => h x (List.mem_of_mem_take hx)
theorem more_never {q : Q} (hv : validQ q = true) (n : Nat) : validQ ⟨q.uses, q.left, q.most, q.never.take n⟩ = true ∧ ∀ A c, fitR q A c = true → fitR ⟨q.uses, q.left, q.most, q.never.take n⟩ A c = true := by
  obtain ⟨v1, v2, v3, v4, v5, v6⟩ := validQ_iff.1 hv
  have hv' : validQ ⟨q.uses, q.left, q.most, q.never.take n⟩ = true := validQ_iff.2 ⟨v1, v2, v3, v4, by show (q.never.take n).length ≤ 36; rw [List.length_take]; omega, any_take n v6⟩
  refine ⟨hv', fun A c hc => fitR_mono (q := q) hv' (fun l u hu => ?_) (fun u x hx => hx) (Int.le_refl _) hc⟩
  unfold mayQ at hu ⊢
  simp only [Bool.and_eq_true, decide_eq_true_eq] at hu ⊢
  refine ⟨hu.1, hu.2.1, hu.2.2.1, ?_⟩
  have h := hu.2.2.2
  cases l with
  | none => rfl
  | some w =>
    have h : (!hasP q.never (w, u)) = true := h
    show (!hasP (q.never.take n) (w, u)) = true
    unfold hasP at h ⊢
    rw [Bool.not_eq_true'] at h ⊢
    exact any_take n h
end Go.Proofs.Ytcnafncmfiogcaa.Cp
namespace Go.Proofs.Ytcnafncmfiogcaa.Bm
open Go Go.RowKit
open Rg (Rect)
open Cp (Q Br prQ validQ best fitS fitR bitB)
theorem best_ge {q : Q} (hv : validQ q = true) {A : List Int} (h12 : A.length ≤ 12) (hin : Cp.inA A = true) {v : Int} {b : List Int} {t : List Br} (hb : best (prQ q) A = some (v, b, t)) (c : List Int) (hc : fitR q A c = true) : valF A c.length ≤ v := by
  obtain ⟨h1, _, h3⟩ := betF_no hv h12 hin hb
  have h := h3 1 c
  rw [betF.eq_2, hc, Bool.true_and, Bool.or_eq_false_iff, Bool.or_eq_false_iff, decide_eq_false_iff_not] at h
  omega
theorem best_as (P : Rooms) (hP : RoomsOk P) (p' : Pb) (hp : PbOk p') (A : List Int) (hA : areasF (lists P) = some A) (hv : validQ p'.q = true) (n : Nat) (v : Int) (hn : valF A n = v) (hf : ∃ c, c.length = n ∧ fitR p'.q A c = true) :
    ∃ (cv : Value) (w : Int) (tv : Value) (e : Int), pureCall E.P (L E) 15 [roomsV false P, .agg ⟨p'.cells⟩] = some (.tuple ⟨[cv, .int .i64 w, tv, .int .i64 e]⟩) ∧ (e = 0 → v ≤ w) := by
  obtain ⟨k, _, h2⟩ := best_ok false P hP p' hp A hA hv
  have pe : p'.val = .agg ⟨p'.cells⟩ := rfl
  rw [pe] at h2
  cases hb : best (prQ p'.q) A with
  | none =>
    rw [hb] at h2
    exact ⟨_, _, _, _, h2, fun h => absurd h (by decide)⟩
  | some r =>
    obtain ⟨w, c, t⟩ := r
    rw [hb] at h2
    refine ⟨_, _, _, _, h2, fun _ => ?_⟩
    obtain ⟨c0, rfl, h4⟩ := hf
    rw [← hn]
    exact best_ge hv (areas_told hA).1 (Cp.inA_iff.2 (areas_told hA).2) hb c0 h4
theorem rem_u8 {u : Int} (h0 : 0 ≤ u) : aBin E.P .rem 5 (.int .u8 u) (.int .u8 6) = some (.int .u8 (u % 6)) := by
  show (if (6 : Int) = 0 then none else some (Value.int .u8 (u.tmod 6))) = _
  rw [if_neg (by decide), Int.tmod_eq_emod_of_nonneg h0]
theorem shl_u8 {k : Int} (h0 : 0 ≤ k) (h6 : k < 6) : aBin E.P .shl 3 (.int .i64 1) (.int .u8 k) = some (.int .i64 (2 ^ k.toNat)) := by
  have : k = 0 ∨ k = 1 ∨ k = 2 ∨ k = 3 ∨ k = 4 ∨ k = 5 := by omega
  rcases this with rfl | rfl | rfl | rfl | rfl | rfl <;> rfl
theorem shr_u8 (w k : Int) : aBin E.P .shr 3 (.int .i64 w) (.int .u8 k) = aBin E.P .shr 3 (.int .i64 w) (.int .i64 k) := rfl
set_option maxHeartbeats 4000000 in
theorem more_law (P : Rooms) (p : Pb) (u m : Int) (ha : Args P p) (hkl : p.kl = some false) (hkn : p.kn = some false) (hu : 0 ≤ u ∧ u ≤ 255) (hm : 0 ≤ m ∧ m ≤ 65535) : ∃ h', L E 6 [roomsV false P, p.val, .int .u8 u, .int .u16 m] [] 0 = some (.bool true, h') := by
  have fw := ha.few false
  have sm := small25_spec
  have rr := rooms_reify false P
  have sr : settled depth (roomsV false P) = true := rfl
  have rcp : ∀ h, reifyC E.P 7 h p.cells = some p.cells := fun h => reifyC_set (pb_all p)
  have pe : p.val = .agg ⟨p.cells⟩ := rfl
  have ps : settled depth (.agg ⟨p.cells⟩) = true := p.set
  have lp : ∀ t, loadT ⟨some true, some 4⟩ (AObj.cells 26 p.cells 0 :: t) (.pointer (some ⟨0, 0, none⟩)) = some (.agg ⟨p.cells⟩) := fun t => obj_all (b := 0) rfl rfl
  have lm : ∀ t, loadT ⟨some false, some 1⟩ (AObj.cells 26 p.cells 0 :: t) (.pointer (some ⟨0, 2, none⟩)) = some (.int .i64 p.most) := fun t => obj_load (b := 0) (j := 2) rfl rfl
  rw [L_fn F6 rfl, pe]
  cases hF : fewB P p
  · rw [hF] at fw
    simp -implicitDefEqProofs [r6, p6, ret0 m12, sm, ret0 m13, rr, lp, rcp, fw, lm]
  rw [hF] at fw
  obtain ⟨hPo, hp⟩ := ha.get hF
  by_cases q1 : 1125899906842624 < p.most
  · simp -implicitDefEqProofs [r6, p6, ret0 m12, sm, ret0 m13, rr, lp, rcp, fw, lm, q1]
  by_cases hbad : areasF (lists P) = none ∨ validQ p.q = false
  · have bb := best_bad false P hPo p hp hbad
    rw [pe] at bb
    simp -implicitDefEqProofs [r6, p6, ret0 m12, sm, ret0 m13, rr, lp, rcp, fw, lm, q1, ret1 m15, sr, ps, bb]
  obtain ⟨A, hA⟩ : ∃ A, areasF (lists P) = some A := Option.ne_none_iff_exists'.1 fun e => hbad (.inl e)
  have hv : validQ p.q = true := by cases hv : validQ p.q with | true => rfl | false => exact absurd (.inr hv) hbad
  obtain ⟨k, hk, bs⟩ := best_ok false P hPo p hp A hA hv
  rw [pe] at bs
  cases hb : best (prQ p.q) A with
  | none =>
    rw [hb] at bs
    unfold bestV at bs
    simp only at bs
    simp -implicitDefEqProofs [r6, p6, ret0 m12, sm, ret0 m13, rr, lp, rcp, fw, lm, q1, ret1 m15, sr, ps, bs]
  | some r =>
    obtain ⟨v, c, t⟩ := r
    have hk : Enc.Ok k c := hk _ hb
    rw [hb] at bs
    unfold bestV at bs
    simp only at bs
    have ar := areas_call false P hPo
    rw [hA] at ar
    unfold areasV at ar
    obtain ⟨h12, hA2⟩ := areas_told hA
    have hin : Cp.inA A = true := Cp.inA_iff.2 hA2
    obtain ⟨b1, b2, b3⟩ := betF_no hv h12 hin hb
    have hcl := (fitR_len b2).1
    have lc := fun h => Enc.o_len (O := intE) (h := h) hk
    have rA : ∀ h, reify E.P 8 h (lst false (intE.vals A)) = some (lst false (intE.vals A)) := fun h => rfl
    simp -implicitDefEqProofs [r6, p6, ret0 m12, sm, ret0 m13, rr, lp, rcp, fw, lm, q1, ret1 m15, sr, ps, bs, ar]
    rw [LL_for (γ := Unit) c () (fun i _ => [(16, .int .i64 (i : Int))]) (fun _ _ => [.cells 26 p.cells 0]) (fun _ _ _ => (.exit 0, [(16, undef)], [.cells 26 p.cells 0])) (fun _ _ => True) (by omega) trivial]
    · have hvq := Cp.validQ_iff.1 hv
      have v1 : 0 ≤ p.uses := hvq.1
      have v2 : p.uses ≤ 63 := hvq.2.1
      have v3 : 0 ≤ p.most := hvq.2.2.1
      have hK0 : 0 ≤ u % 6 := Int.emod_nonneg _ (by decide)
      have hK6 : u % 6 < 6 := Int.emod_lt_of_pos _ (by decide)
      have rem6 := rem_u8 hu.1
      have sh1 := shr_u8 p.uses (u % 6)
      have sh3 := shl_u8 hK0 hK6
      have l0 : ∀ t, loadT ⟨some false, some 1⟩ (AObj.cells 26 p.cells 0 :: t) (.pointer (some ⟨0, 0, none⟩)) = some (.int .i64 p.uses) := fun t => obj_load (b := 0) (j := 0) rfl rfl
      have l1 : ∀ t, loadT ⟨some false, some 1⟩ (AObj.cells 26 p.cells 0 :: t) (.pointer (some ⟨0, 1, none⟩)) = some (entR.o (some false) p.left) := fun t => hkl ▸ obj_load (b := 0) (j := 1) rfl rfl
      have l3 : ∀ t, loadT ⟨some false, some 1⟩ (AObj.cells 26 p.cells 0 :: t) (.pointer (some ⟨0, 3, none⟩)) = some (pairR.o (some false) p.never) := fun t => hkn ▸ obj_load (b := 0) (j := 3) rfl rfl
      have n1 := fun h => Rec.o_len (R := entR) (h := h) (k := some false) (l := p.left) Rec.ok_some
      have n3 := fun h => Rec.o_len (R := pairR) (h := h) (k := some false) (l := p.never) Rec.ok_some
      have nl := hp.nl
      have nn := hp.nn
      have wl : IntKind.i64.wrap ((p.left.length : Int) - 1) = (p.left.length : Int) - 1 := wrap64 (by omega) (by omega)
      have wn : IntKind.i64.wrap ((p.never.length : Int) - 1) = (p.never.length : Int) - 1 := wrap64 (by omega) (by omega)
      have mx1 : max ((p.left.length : Int) - 1) 0 = ((p.left.length - 1 : Nat) : Int) := by omega
      have mx3 : max ((p.never.length : Int) - 1) 0 = ((p.never.length - 1 : Nat) : Int) := by omega
      have tk1 : ∀ h, sliceT (.sl 60 ⟨some true, some 2⟩) h (entR.o (some false) p.left) none (some (.int .i64 ((p.left.length - 1 : Nat) : Int))) none = some (lst false (entR.vals (p.left.take (p.left.length - 1)))) := fun h => by
        have := slice_take (h := h) (t := 60) (g := some true) (s := 2) (x := false) (l := entR.vals p.left) (k := .i64) (n := p.left.length - 1) (Rec.vals_all (R := entR) p.left) (by rw [Rec.vals_len]; omega)
        unfold Rec.vals at this ⊢
        rw [← List.map_take, List.length_map] at this
        have e : (false && (p.left.length - 1 == p.left.length)) = false := rfl
        rw [e] at this
        exact this
      have tk3 : ∀ h, sliceT (.sl 61 ⟨some true, some 2⟩) h (pairR.o (some false) p.never) none (some (.int .i64 ((p.never.length - 1 : Nat) : Int))) none = some (lst false (pairR.vals (p.never.take (p.never.length - 1)))) := fun h => by
        have := slice_take (h := h) (t := 61) (g := some true) (s := 2) (x := false) (l := pairR.vals p.never) (k := .i64) (n := p.never.length - 1) (Rec.vals_all (R := pairR) p.never) (by rw [Rec.vals_len]; omega)
        unfold Rec.vals at this ⊢
        rw [← List.map_take, List.length_map] at this
        have e : (false && (p.never.length - 1 == p.never.length)) = false := rfl
        rw [e] at this
        exact this
      have cvm : convertT (.int .i64) (.int .u16 m) = some (.int .i64 m) := by
        show some (Value.int .i64 (IntKind.i64.wrap m)) = _
        rw [wrap64 (by omega) (by omega)]
      have wm : IntKind.i64.wrap (p.most + m) = p.most + m := wrap64 (by omega) (by omega)
      have hf : ∃ c', c'.length = c.length ∧ fitR p.q A c' = true := ⟨c, rfl, b2⟩
      let p2 : Pb := ⟨p.uses, p.kl, p.left, p.most + m, p.kn, p.never⟩
      let p3 : Pb := ⟨p.uses, some false, p.left.take (p.left.length - 1), p.most, p.kn, p.never⟩
      let p4 : Pb := ⟨p.uses, p.kl, p.left, p.most, some false, p.never.take (p.never.length - 1)⟩
      have m2 := Cp.more_most hv hm.1
      have m3 := Cp.more_left hv (p.left.length - 1)
      have m4 := Cp.more_never hv (p.never.length - 1)
      obtain ⟨c2, w2, t2, x2, e2, g2⟩ := best_as P hPo p2 ⟨hp.kl, hp.kn, hp.u, by show _ ≤ p.most + m ∧ p.most + m ≤ _; omega, hp.nl, hp.nn⟩ A hA m2.1 c.length v b1 ⟨c, rfl, m2.2 A c b2⟩
      obtain ⟨c3, w3, t3, x3, e3, g3⟩ := best_as P hPo p3 ⟨Rec.ok_some, hp.kn, hp.u, hp.m, by show (p.left.take _).length ≤ 40; rw [List.length_take]; omega, hp.nn⟩ A hA m3.1 c.length v b1 ⟨c, rfl, m3.2 A c b2⟩
      obtain ⟨c4, w4, t4, x4, e4, g4⟩ := best_as P hPo p4 ⟨hp.kl, Rec.ok_some, hp.u, hp.m, hp.nl, by show (p.never.take _).length ≤ 40; rw [List.length_take]; omega⟩ A hA m4.1 c.length v b1 ⟨c, rfl, m4.2 A c b2⟩
      have ps2 : settled depth (.agg ⟨p2.cells⟩) = true := p2.set
      have ps3 : settled depth (.agg ⟨p3.cells⟩) = true := p3.set
      have ps4 : settled depth (.agg ⟨p4.cells⟩) = true := p4.set
      obtain ⟨z, sh2, sh4, _⟩ := shr_bit (w := p.uses) (u := u % 6) ⟨v1, v2⟩ ⟨hK0, hK6⟩
      by_cases kb : bitB p.uses (u % 6) = true
      · rw [if_pos kb] at sh4
        obtain ⟨c1, w1, t1, x1, e1, g1⟩ := best_as P hPo p hp A hA hv c.length v b1 ⟨c, rfl, b2⟩
        have sa1 : storeT (some 4) ([(.cells 26 p.cells 0), (.cells 26 [.int .i64 0, .slice none 0 0, .int .i64 0, .slice none 0 0] 0)] : Heap) 0 (.agg ⟨p.cells⟩) (.pointer (some ⟨1, 0, none⟩)) = some ([(.cells 26 p.cells 0), (.cells 26 p.cells 0)] : Heap) := obj_put (b := 1) rfl rfl rfl (by decide) (Nat.zero_le _)
        have sa2 : storeT (some 4) ([(.cells 26 p.cells 0), (.cells 26 p.cells 0), (.cells 26 [.int .i64 0, .slice none 0 0, .int .i64 0, .slice none 0 0] 0)] : Heap) 0 (.agg ⟨p.cells⟩) (.pointer (some ⟨2, 0, none⟩)) = some ([(.cells 26 p.cells 0), (.cells 26 p.cells 0), (.cells 26 p.cells 0)] : Heap) := obj_put (b := 2) rfl rfl rfl (by decide) (Nat.zero_le _)
        have sb2 : storeT (some 1) ([(.cells 26 p.cells 0), (.cells 26 p.cells 0), (.cells 26 p.cells 0)] : Heap) 0 (.int .i64 (p.most + m)) (.pointer (some ⟨2, 2, none⟩)) = some ([(.cells 26 p.cells 0), (.cells 26 p.cells 0), (.cells 26 p2.cells 0)] : Heap) := obj_store (t := 26) (c := p.cells) (b := 2) (j := 2) rfl (by show 2 < 4; decide) (Nat.zero_le _) rfl
        have sa3 : storeT (some 4) ([(.cells 26 p.cells 0), (.cells 26 p.cells 0), (.cells 26 p2.cells 0), (.cells 26 [.int .i64 0, .slice none 0 0, .int .i64 0, .slice none 0 0] 0)] : Heap) 0 (.agg ⟨p.cells⟩) (.pointer (some ⟨3, 0, none⟩)) = some ([(.cells 26 p.cells 0), (.cells 26 p.cells 0), (.cells 26 p2.cells 0), (.cells 26 p.cells 0)] : Heap) := obj_put (b := 3) rfl rfl rfl (by decide) (Nat.zero_le _)
        have sb3 : storeT (some 1) ([(.cells 26 p.cells 0), (.cells 26 p.cells 0), (.cells 26 p2.cells 0), (.cells 26 p.cells 0)] : Heap) 0 (lst false (entR.vals (p.left.take (p.left.length - 1)))) (.pointer (some ⟨3, 1, none⟩)) = some ([(.cells 26 p.cells 0), (.cells 26 p.cells 0), (.cells 26 p2.cells 0), (.cells 26 p3.cells 0)] : Heap) := obj_store (t := 26) (c := p.cells) (b := 3) (j := 1) rfl (by show 1 < 4; decide) (Nat.zero_le _) rfl
        have sa4 : storeT (some 4) ([(.cells 26 p.cells 0), (.cells 26 p.cells 0), (.cells 26 p2.cells 0), (.cells 26 p3.cells 0), (.cells 26 [.int .i64 0, .slice none 0 0, .int .i64 0, .slice none 0 0] 0)] : Heap) 0 (.agg ⟨p.cells⟩) (.pointer (some ⟨4, 0, none⟩)) = some ([(.cells 26 p.cells 0), (.cells 26 p.cells 0), (.cells 26 p2.cells 0), (.cells 26 p3.cells 0), (.cells 26 p.cells 0)] : Heap) := obj_put (b := 4) rfl rfl rfl (by decide) (Nat.zero_le _)
        have sb4 : storeT (some 1) ([(.cells 26 p.cells 0), (.cells 26 p.cells 0), (.cells 26 p2.cells 0), (.cells 26 p3.cells 0), (.cells 26 p.cells 0)] : Heap) 0 (lst false (pairR.vals (p.never.take (p.never.length - 1)))) (.pointer (some ⟨4, 3, none⟩)) = some ([(.cells 26 p.cells 0), (.cells 26 p.cells 0), (.cells 26 p2.cells 0), (.cells 26 p3.cells 0), (.cells 26 p4.cells 0)] : Heap) := obj_store (t := 26) (c := p.cells) (b := 4) (j := 3) rfl (by show 3 < 4; decide) (Nat.zero_le _) rfl
        have ld1 : loadT ⟨some true, some 4⟩ ([(.cells 26 p.cells 0), (.cells 26 p.cells 0), (.cells 26 p2.cells 0), (.cells 26 p3.cells 0), (.cells 26 p4.cells 0)] : Heap) (.pointer (some ⟨1, 0, none⟩)) = some (.agg ⟨p.cells⟩) := obj_all (b := 1) rfl rfl
        have ld2 : loadT ⟨some true, some 4⟩ ([(.cells 26 p.cells 0), (.cells 26 p.cells 0), (.cells 26 p2.cells 0), (.cells 26 p3.cells 0), (.cells 26 p4.cells 0)] : Heap) (.pointer (some ⟨2, 0, none⟩)) = some (.agg ⟨p2.cells⟩) := obj_all (b := 2) rfl rfl
        have ld3 : loadT ⟨some true, some 4⟩ ([(.cells 26 p.cells 0), (.cells 26 p.cells 0), (.cells 26 p2.cells 0), (.cells 26 p3.cells 0), (.cells 26 p4.cells 0)] : Heap) (.pointer (some ⟨3, 0, none⟩)) = some (.agg ⟨p3.cells⟩) := obj_all (b := 3) rfl rfl
        have ld4 : loadT ⟨some true, some 4⟩ ([(.cells 26 p.cells 0), (.cells 26 p.cells 0), (.cells 26 p2.cells 0), (.cells 26 p3.cells 0), (.cells 26 p4.cells 0)] : Heap) (.pointer (some ⟨4, 0, none⟩)) = some (.agg ⟨p4.cells⟩) := obj_all (b := 4) rfl rfl
        clear_value p2 p3 p4
        simp -implicitDefEqProofs [k6_9, lp, lm, l0, l1, l3, rem6, sh1, sh2, sh3, sh4, cvm, wm, n1, n3, wl, wn, maxI, mx1, mx3, tk1, tk3, sa1, sa2, sb2, sa3, sb3, sa4, sb4, ret1 m15, sr, ps, ps2, ps3, ps4, ld1, ld2, ld3, ld4, e1, e2, e3, e4]
        by_cases y1 : x1 = 0 <;> by_cases y2 : x2 = 0 <;> by_cases y3 : x3 = 0 <;> by_cases y4 : x4 = 0 <;> simp -implicitDefEqProofs [*]
      · have kb' : bitB p.uses (u % 6) = false := Bool.eq_false_iff.2 kb
        rw [if_neg kb] at sh4
        let p1 : Pb := ⟨p.uses + 2 ^ (u % 6).toNat, p.kl, p.left, p.most, p.kn, p.never⟩
        obtain ⟨m0, m1a, m1b⟩ := Cp.more_use hv hK0 hK6 kb'
        have m0 : p.uses + 2 ^ (u % 6).toNat ≤ 63 := m0
        have hp2 : 0 ≤ (2 : Int) ^ (u % 6).toNat := Int.pow_nonneg (by decide)
        have wu : IntKind.i64.wrap (p.uses + 2 ^ (u % 6).toNat) = p.uses + 2 ^ (u % 6).toNat := wrap64 (by omega) (by omega)
        obtain ⟨c1, w1, t1, x1, e1, g1⟩ := best_as P hPo p1 ⟨hp.kl, hp.kn, by show _ ≤ p.uses + 2 ^ (u % 6).toNat ∧ p.uses + 2 ^ (u % 6).toNat ≤ _; omega, hp.m, hp.nl, hp.nn⟩ A hA m1a c.length v b1 ⟨c, rfl, m1b A c b2⟩
        have sa1 : storeT (some 4) ([(.cells 26 p.cells 0), (.cells 26 [.int .i64 0, .slice none 0 0, .int .i64 0, .slice none 0 0] 0)] : Heap) 0 (.agg ⟨p.cells⟩) (.pointer (some ⟨1, 0, none⟩)) = some ([(.cells 26 p.cells 0), (.cells 26 p.cells 0)] : Heap) := obj_put (b := 1) rfl rfl rfl (by decide) (Nat.zero_le _)
        have sb1 : storeT (some 1) ([(.cells 26 p.cells 0), (.cells 26 p.cells 0)] : Heap) 0 (.int .i64 (p.uses + 2 ^ (u % 6).toNat)) (.pointer (some ⟨1, 0, none⟩)) = some ([(.cells 26 p.cells 0), (.cells 26 p1.cells 0)] : Heap) := obj_store (t := 26) (c := p.cells) (b := 1) (j := 0) rfl (by show 0 < 4; decide) (Nat.zero_le _) rfl
        have sa2 : storeT (some 4) ([(.cells 26 p.cells 0), (.cells 26 p1.cells 0), (.cells 26 [.int .i64 0, .slice none 0 0, .int .i64 0, .slice none 0 0] 0)] : Heap) 0 (.agg ⟨p.cells⟩) (.pointer (some ⟨2, 0, none⟩)) = some ([(.cells 26 p.cells 0), (.cells 26 p1.cells 0), (.cells 26 p.cells 0)] : Heap) := obj_put (b := 2) rfl rfl rfl (by decide) (Nat.zero_le _)
        have sb2 : storeT (some 1) ([(.cells 26 p.cells 0), (.cells 26 p1.cells 0), (.cells 26 p.cells 0)] : Heap) 0 (.int .i64 (p.most + m)) (.pointer (some ⟨2, 2, none⟩)) = some ([(.cells 26 p.cells 0), (.cells 26 p1.cells 0), (.cells 26 p2.cells 0)] : Heap) := obj_store (t := 26) (c := p.cells) (b := 2) (j := 2) rfl (by show 2 < 4; decide) (Nat.zero_le _) rfl
        have sa3 : storeT (some 4) ([(.cells 26 p.cells 0), (.cells 26 p1.cells 0), (.cells 26 p2.cells 0), (.cells 26 [.int .i64 0, .slice none 0 0, .int .i64 0, .slice none 0 0] 0)] : Heap) 0 (.agg ⟨p.cells⟩) (.pointer (some ⟨3, 0, none⟩)) = some ([(.cells 26 p.cells 0), (.cells 26 p1.cells 0), (.cells 26 p2.cells 0), (.cells 26 p.cells 0)] : Heap) := obj_put (b := 3) rfl rfl rfl (by decide) (Nat.zero_le _)
        have sb3 : storeT (some 1) ([(.cells 26 p.cells 0), (.cells 26 p1.cells 0), (.cells 26 p2.cells 0), (.cells 26 p.cells 0)] : Heap) 0 (lst false (entR.vals (p.left.take (p.left.length - 1)))) (.pointer (some ⟨3, 1, none⟩)) = some ([(.cells 26 p.cells 0), (.cells 26 p1.cells 0), (.cells 26 p2.cells 0), (.cells 26 p3.cells 0)] : Heap) := obj_store (t := 26) (c := p.cells) (b := 3) (j := 1) rfl (by show 1 < 4; decide) (Nat.zero_le _) rfl
        have sa4 : storeT (some 4) ([(.cells 26 p.cells 0), (.cells 26 p1.cells 0), (.cells 26 p2.cells 0), (.cells 26 p3.cells 0), (.cells 26 [.int .i64 0, .slice none 0 0, .int .i64 0, .slice none 0 0] 0)] : Heap) 0 (.agg ⟨p.cells⟩) (.pointer (some ⟨4, 0, none⟩)) = some ([(.cells 26 p.cells 0), (.cells 26 p1.cells 0), (.cells 26 p2.cells 0), (.cells 26 p3.cells 0), (.cells 26 p.cells 0)] : Heap) := obj_put (b := 4) rfl rfl rfl (by decide) (Nat.zero_le _)
        have sb4 : storeT (some 1) ([(.cells 26 p.cells 0), (.cells 26 p1.cells 0), (.cells 26 p2.cells 0), (.cells 26 p3.cells 0), (.cells 26 p.cells 0)] : Heap) 0 (lst false (pairR.vals (p.never.take (p.never.length - 1)))) (.pointer (some ⟨4, 3, none⟩)) = some ([(.cells 26 p.cells 0), (.cells 26 p1.cells 0), (.cells 26 p2.cells 0), (.cells 26 p3.cells 0), (.cells 26 p4.cells 0)] : Heap) := obj_store (t := 26) (c := p.cells) (b := 4) (j := 3) rfl (by show 3 < 4; decide) (Nat.zero_le _) rfl
        have ld1 : loadT ⟨some true, some 4⟩ ([(.cells 26 p.cells 0), (.cells 26 p1.cells 0), (.cells 26 p2.cells 0), (.cells 26 p3.cells 0), (.cells 26 p4.cells 0)] : Heap) (.pointer (some ⟨1, 0, none⟩)) = some (.agg ⟨p1.cells⟩) := obj_all (b := 1) rfl rfl
        have ld2 : loadT ⟨some true, some 4⟩ ([(.cells 26 p.cells 0), (.cells 26 p1.cells 0), (.cells 26 p2.cells 0), (.cells 26 p3.cells 0), (.cells 26 p4.cells 0)] : Heap) (.pointer (some ⟨2, 0, none⟩)) = some (.agg ⟨p2.cells⟩) := obj_all (b := 2) rfl rfl
        have ld3 : loadT ⟨some true, some 4⟩ ([(.cells 26 p.cells 0), (.cells 26 p1.cells 0), (.cells 26 p2.cells 0), (.cells 26 p3.cells 0), (.cells 26 p4.cells 0)] : Heap) (.pointer (some ⟨3, 0, none⟩)) = some (.agg ⟨p3.cells⟩) := obj_all (b := 3) rfl rfl
        have ld4 : loadT ⟨some true, some 4⟩ ([(.cells 26 p.cells 0), (.cells 26 p1.cells 0), (.cells 26 p2.cells 0), (.cells 26 p3.cells 0), (.cells 26 p4.cells 0)] : Heap) (.pointer (some ⟨4, 0, none⟩)) = some (.agg ⟨p4.cells⟩) := obj_all (b := 4) rfl rfl
        have ps1 : settled depth (.agg ⟨p1.cells⟩) = true := p1.set
        clear_value p1 p2 p3 p4
        simp -implicitDefEqProofs [k6_9, lp, lm, l0, l1, l3, rem6, sh1, sh2, sh3, sh4, wu, cvm, wm, n1, n3, wl, wn, maxI, mx1, mx3, tk1, tk3, sa1, sb1, sa2, sb2, sa3, sb3, sa4, sb4, ret1 m15, sr, ps1, ps2, ps3, ps4, ld1, ld2, ld3, ld4, e1, e2, e3, e4]
        by_cases y1 : x1 = 0 <;> by_cases y2 : x2 = 0 <;> by_cases y3 : x3 = 0 <;> by_cases y4 : x4 = 0 <;> simp -implicitDefEqProofs [*]
    · simp -implicitDefEqProofs [k6_9]
    · rfl
    · intro nx i _ hi _
      simp -implicitDefEqProofs [r6_9, k6_9, lc, hi, trim_le]
    · intro nx i w rest _ hi hw hd hwr _ ih
      have hi' : (i : Int) < (c.length : Int) := by omega
      have ih := ih () trivial
      obtain ⟨y, rfl⟩ : ∃ y, k = some y := by
        cases k with
        | none => rw [hk rfl] at hi; exact absurd hi (Nat.not_lt_zero i)
        | some y => exact ⟨y, rfl⟩
      have tk : ∀ h, sliceT (.sl 3 ⟨some false, some 1⟩) h (intE.o (some y) c) none (some (.int .i64 (i : Int))) none = some (lst (y && i == c.length) (intE.vals (c.take i))) := fun h => Enc.take_tree (O := intE) (by omega)
      have fs := fits_spec p hp (some false) A (c.take i) (y && i == c.length) Enc.ok_some (by omega) (by rw [List.length_take]; omega) (fun x hx => by have := fitR_us b2 x (List.mem_of_mem_take hx); omega)
      rw [← Cp.fit_eq, Cp.fitR_take b2 i, pe] at fs
      have fs : pureCall E.P (L E) 22 [lst false (intE.vals A), .agg ⟨p.cells⟩, lst (y && i == c.length) (intE.vals (c.take i))] = _ := fs
      have rk : ∀ h, reify E.P 8 h (lst (y && i == c.length) (intE.vals (c.take i))) = some (lst (y && i == c.length) (intE.vals (c.take i))) := fun h => rfl
      simp -implicitDefEqProofs [k6_9] at ih
      simp -implicitDefEqProofs [r6_9, k6_9, lc, hi', lp, tk, ret0 m22, rA, rcp, rk, fs, hwr, trim_le]
      exact ih
end Go.Proofs.Ytcnafncmfiogcaa.Bm
