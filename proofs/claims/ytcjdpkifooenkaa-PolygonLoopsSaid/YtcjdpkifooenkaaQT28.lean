/-
 Chapter 07: the examples of the document. Conditions: none.
-/
import Derived.Test.YtcjdpkifooenkaaQT27
import Derived.Test.YtcjdpkifooenkaaQT17
namespace Go.Proofs.Ytcjdpkifooenkaa.Bm
open Go Go.RowKit
open Rg (Rect Pt turnI gtS fromI pickI nxI cornF trc freeN waysF waysL loopsL rotM minP bdL Net)
def encP (p : Pt) : Value := .agg ⟨[.int .i64 p.1, .int .i64 p.2]⟩
theorem p_ok (k : Pt) : keyOk E.P 4 32 (encP k) = true := by kernel_rfl
theorem p_eq0 (a b : Pt) : aKeyEq E.P 32 (encP a) (encP b) = allOf [some (a.1 == b.1), some (a.2 == b.2)] := by kernel_rfl
theorem keyP : KeyEnc E.P 32 encP where
 flat k := by simp [encP, flat, atom]
 ok := p_ok
 eq a b := by
  rw [p_eq0, allOf_two]
  obtain ⟨a1, a2⟩ := a
  obtain ⟨b1, b2⟩ := b
  by_cases h1 : a1 = b1 <;> by_cases h2 : a2 = b2 <;> simp [h1, h2]
 bits a := by
  obtain ⟨a1, a2⟩ := a
  show Instr.sameBits 10000 (.agg ⟨[.int .i64 a1, .int .i64 a2]⟩) (.agg ⟨[.int .i64 a1, .int .i64 a2]⟩) = true
  simp [Instr.sameBits]
theorem obj_sub7 {h : Heap} {b j n : Nat} {t : TypeId} {c : List Value} (hob : h[b]? = some (.cells t c 0)) (hn : j + n ≤ c.length) : loadT ⟨some true, some n⟩ h (cAt b j) = some (.agg ⟨(c.drop j).take n⟩) := by
 unfold cAt
 rw [load_agg, obj_row hob, Option.bind_some]
 show (if j + n ≤ c.length then some (Value.agg ((c.drop j).take n).toArray) else none) = _
 rw [if_pos hn]
def elI : El := ⟨3, 1, 8, .int .i64 0, ⟨some false, some 1⟩⟩
def frI (l : List (Pt × Pt)) (n : Nat) (p : Pt) : List Int := ((List.range n).filter fun i => decide ((gtS l i).1 = p)).map fun (i : Nat) => (i : Int)
theorem fr_all (l : List (Pt × Pt)) (p : Pt) : frI l l.length p = (fromI l p).map fun (i : Nat) => (i : Int) := rfl
theorem fr_snoc {l : List (Pt × Pt)} {i : Nat} (hi : i < l.length) (p : Pt) : upd (fun p => frI l i p) l[i].1 (frI l i l[i].1 ++ [(i : Int)]) p = frI l (i + 1) p := by
 unfold upd frI
 rw [List.range_succ, List.filter_append, List.map_append]
 by_cases q : l[i].1 = p
 ·rw [if_pos q, q]; simp [Rg.gt_get hi, q]
 ·rw [if_neg q]; simp [Rg.gt_get hi, q]
theorem fr_len (l : List (Pt × Pt)) (i : Nat) (p : Pt) : (frI l i p).length ≤ i := by
 unfold frI
 rw [List.length_map]
 have h := List.length_filter_le (fun i => decide ((gtS l i).1 = p)) (List.range i)
 rw [List.length_range] at h
 exact h
def ptsE : Enc (List Pt) := ⟨fun p => lst false (spanR.vals p), fun _ => rfl, fun _ _ => rfl, fun _ _ _ => rfl, fun _ _ => rfl⟩
def elPts : El := ⟨29, 1, 24, .slice none 0 0, ⟨some false, some 1⟩⟩
theorem lit_pts1 (h : Heap) (x : Bool) (p : List Value) : buildSliceT (some ⟨29, 1, 24, .slice none 0 0, ⟨some false, some 1⟩⟩) false h 1 #[(0, lst x p)] = some (lst true [lst x p], h) :=
 (build_lit' (n := 1) (l := [(0, _)]) rfl rfl (by decide) (by decide) (by decide)).trans rfl
theorem lit_pts2 (h : Heap) (x y : Bool) (p q : List Value) : buildSliceT (some ⟨29, 1, 24, .slice none 0 0, ⟨some false, some 1⟩⟩) false h 2 #[(0, lst x p), (1, lst y q)] = some (lst true [lst x p, lst y q], h) :=
 (build_lit' (n := 2) (l := [(0, _), (1, _)]) rfl rfl (by decide) (by decide) (by decide)).trans rfl
theorem lit_pt (h : Heap) (a b : Int) : buildSliceT (some ⟨32, 2, 16, .agg ⟨[.int .i64 0, .int .i64 0]⟩, ⟨some true, some 2⟩⟩) false h 1 #[(0, .agg ⟨[.int .i64 a, .int .i64 b]⟩)] = some (lst true [.agg ⟨[.int .i64 a, .int .i64 b]⟩], h) :=
 (build_lit' (n := 1) (l := [(0, .agg ⟨[.int .i64 a, .int .i64 b]⟩)]) rfl rfl (by decide) (by decide) (by decide)).trans rfl
theorem app_pt {h : Heap} {b lo : Nat} {c : List Pt} (s : Pt) (hob : h[b]? = some (spanR.row 32 c)) (hlo : lo ≤ b) (hc : c.length ≤ 1000000) :
  appendT (some ⟨32, 2, 16, .agg ⟨[.int .i64 0, .int .i64 0]⟩, ⟨some true, some 2⟩⟩) h lo false (spanR.sl b c) (lst true [.agg ⟨[.int .i64 s.1, .int .i64 s.2]⟩]) = some (spanR.sl b (c ++ [s]), h.set b (spanR.row 32 (c ++ [s]))) :=
 Rec.app (R := spanR) (m := [s]) rfl hob (Rec.cells_tree (R := spanR) rfl [s]) hlo (by show (c.length + 1) * 16 ≤ 2 ^ 47; omega)
theorem pts_set {x y : Bool} {p q : List Pt} : settled depth (lst true [lst x (spanR.vals p), lst y (spanR.vals q)]) = true := rfl
theorem zP : szOf E.P 32 = some 2 := by kernel_rfl
theorem aPt7 : aggT E.P 32 = some true := by kernel_rfl
theorem zPs : szOf E.P 29 = some 1 := by kernel_rfl
theorem aPs : aggT E.P 29 = some false := by kernel_rfl
theorem rot_spec (h : Heap) (P : List Pt) (hP : P ≠ []) (hl : P.length ≤ 500000) :
  ∃ (m : Pt) (k : Nat), pureCall E.P (L E) 24 [lst false (spanR.vals P), .func (.func 25) ⟨[]⟩ ⟨[]⟩] = some (.agg ⟨[.int .i64 m.1, .int .i64 m.2]⟩) ∧
   pureCall E.P (L E) 23 [lst false (spanR.vals P), .agg ⟨[.int .i64 m.1, .int .i64 m.2]⟩] = some (.int .i64 ((k : Nat) : Int)) ∧
   ∃ x y, sliceT (.sl 32 ⟨some true, some 2⟩) h (lst false (spanR.vals P)) (some (.int .i64 ((k : Nat) : Int))) none none = some (lst x (spanR.vals (P.drop k))) ∧
    sliceT (.sl 32 ⟨some true, some 2⟩) h (lst false (spanR.vals P)) none (some (.int .i64 ((k : Nat) : Int))) none = some (lst y (spanR.vals (P.take k))) ∧
    pureCall E.P (L E) 26 [lst true [lst x (spanR.vals (P.drop k)), lst y (spanR.vals (P.take k))]] = some (lst false (spanR.vals (rotM P))) := by
 cases P with
 | nil => exact absurd rfl hP
 | cons a l =>
  have ll : (a :: l).length = l.length + 1 := rfl
  have hm : minP a l ∈ a :: l := by
   rcases (Rg.minP_told l a).1 with e | e
   ·rw [e]; exact List.mem_cons_self ..
   ·exact List.mem_cons_of_mem _ e
  have hk : (a :: l).idxOf (minP a l) < (a :: l).length := List.idxOf_lt_length_iff.2 hm
  have e : rotM (a :: l) = (a :: l).drop ((a :: l).idxOf (minP a l)) ++ (a :: l).take ((a :: l).idxOf (minP a l)) := rfl
  refine ⟨minP a l, (a :: l).idxOf (minP a l), min_spec false a l (by omega), indexP_spec false (a :: l) (minP a l) (by omega) hm, false, (false && (a :: l).idxOf (minP a l) == (spanR.vals (a :: l)).length), ?_, ?_, ?_⟩
  ·rw [slice_drop (s := 2) (Rec.vals_all (R := spanR) _) rfl (by rw [Rec.vals_len]; omega)]
   unfold Rec.vals; rw [List.map_drop]
  ·rw [slice_take (s := 2) (Rec.vals_all (R := spanR) _) (by rw [Rec.vals_len]; omega)]
   unfold Rec.vals; rw [List.map_take]
  ·have pc := points_concat true [(some false, (a :: l).drop ((a :: l).idxOf (minP a l))), (some (false && (a :: l).idxOf (minP a l) == (spanR.vals (a :: l)).length), (a :: l).take ((a :: l).idxOf (minP a l)))] (by
    intro p hp
    rcases List.mem_cons.1 hp with e | e
    ·subst e; exact Rec.ok_some
    ·rw [List.mem_singleton] at e; subst e; exact Rec.ok_some) (by show 2 ≤ 1000; decide) (by
    show (List.drop _ _).length + ((List.take _ _).length + 0) ≤ 1000000
    rw [List.length_drop, List.length_take]; omega)
   have ht : tot [(some false, (a :: l).drop ((a :: l).idxOf (minP a l))), (some (false && (a :: l).idxOf (minP a l) == (spanR.vals (a :: l)).length), (a :: l).take ((a :: l).idxOf (minP a l)))] ≠ 0 := by
    show (List.drop _ _).length + ((List.take _ _).length + 0) ≠ 0
    rw [List.length_drop]; omega
   rw [if_neg ht] at pc
   have ea : allP [((some false : Option Bool), (a :: l).drop ((a :: l).idxOf (minP a l))), (some (false && (a :: l).idxOf (minP a l) == (spanR.vals (a :: l)).length), (a :: l).take ((a :: l).idxOf (minP a l)))] = rotM (a :: l) := by
    rw [e]
    show _ ++ (_ ++ []) = _
    rw [List.append_nil]
   rw [ea] at pc
   exact pc
def rowB (d : List Bool) : AObj := .cells 4 (d.map .bool) 0
theorem key_pts (p : List Pt) : keyD (ptsE.e p) = p.headD (0, 0) := by cases p <;> rfl
theorem key_some {p : List Pt} (h : p ≠ []) : (keyT (ptsE.e p)).isSome = true := by
 cases p with
 | nil => exact absurd rfl h
 | cons a l => rfl
def leP (p q : List Pt) : Bool := leV (ptsE.e p) (ptsE.e q)
def outL (l : List (Pt × Pt)) : List (List Pt) := (loopsL l).mergeSort leP
theorem sort_pts {l : List (Pt × Pt)} (hl : Net l) : sortPF (ptsE.vals (loopsL l)) = some (ptsE.vals (outL l)) := by
 have h1 : okK (ptsE.vals (loopsL l)) = true := by
  unfold okK
  rw [Bool.and_eq_true, List.all_eq_true, decide_eq_true_eq]
  refine ⟨fun v hv => ?_, ?_⟩
  ·obtain ⟨p, hp, rfl⟩ := List.mem_map.1 hv
   obtain ⟨m, r, e, _⟩ := (Rg.loops_ok hl p hp).least
   exact key_some (by rw [e]; simp)
  ·have e : (ptsE.vals (loopsL l)).map keyD = (loopsL l).map fun p => p.headD (0, 0) := by
    unfold Enc.vals
    rw [List.map_map]
    exact List.map_congr_left fun p _ => key_pts p
   rw [e]; exact Rg.loops_heads hl
 unfold sortPF
 rw [if_pos h1]
 congr 1
 exact (List.map_mergeSort (r := leP) (s := leV) (f := ptsE.e) (l := loopsL l) fun a _ b _ => rfl).symm
theorem sortP_spec {h : Heap} {b lo : Nat} {l : List (Pt × Pt)} (hl : Net l) (hob : h[b]? = some (ptsE.row 29 (loopsL l))) (hlo : lo ≤ b) (hn : (loopsL l).length ≤ 1000000) :
  L E 27 [Enc.sl b (loopsL l), .func (.func 28) ⟨[]⟩ ⟨[]⟩] h lo = some (.tuple #[], h.set b (ptsE.row 29 (outL l))) := by
 rw [L_orc (g := inC 28 1 sortPF) rfl]
 unfold inC Enc.sl
 simp only
 rw [if_pos ⟨trivial, Nat.le_refl _⟩]
 have hso := sort_pts hl
 by_cases h0 : (loopsL l).length = 0
 ·rw [if_pos h0]
  have e0 : loopsL l = [] := List.eq_nil_of_length_eq_zero h0
  have e : outL l = loopsL l := by unfold outL; rw [e0, List.mergeSort_nil]
  rw [e, set_same hob]
 ·rw [if_neg h0]
  have hob' : h[b]? = some (.cells 29 (ptsE.vals (loopsL l)) 1) := hob
  have hl2 : (ptsE.vals (loopsL l)).length = (loopsL l).length := Enc.vals_len
  unfold inCR
  simp only [hob']
  rw [List.take_of_length_le (by omega), hso, Option.bind_some, if_pos ⟨hlo, by unfold stampOk; rw [hl2]; simp, trivial, by omega, by omega⟩]
  rw [List.drop_of_length_le (by omega), List.append_nil]; rfl
theorem outline_walk (k : Option Bool) (a : List Rect) (hk : Rec.Ok k a) (ha : a.length ≤ 200) (hr : regB a = true) (hnet : Net (bdL a)) (hlen : (bdL a).length ≤ 400000) (hnear : ∀ s ∈ bdL a, nearS s) : pureCall E.P (L E) 6 [rectR.o k a] = some (lst false (ptsE.vals (outL (bdL a)))) := by
 have hR := right2_spec k a hk (by omega)
 have hB := boundary_one k a hk ha
 rw [hr] at hR
 have rf : ∀ h, reify E.P 8 h (rectR.o k a) = some (rectR.o k a) := fun _ => Rec.o_reify
 have st : settled depth (rectR.o k a) = true := Rec.o_set
 have bA : ∀ d n, below (d + 1) n (rectR.o k a) = true := fun d n => Rec.o_bel
 have lS : ∀ h, lenT .sl h (lst false (sideR.vals (bdL a))) = some (.int .i64 (bdL a).length) := fun h => Rec.tree_len
 have ix : ∀ (i : Nat) (hi : i < (bdL a).length), indexAddrT (.sl 53 ⟨some true, some 4⟩) (lst false (sideR.vals (bdL a))) (.int .i64 (i : Int)) = some (cptr (sideR.val (bdL a)[i])) := fun i hi => Rec.index_tree rfl hi
 have bS : ∀ d n, below (d + 1) n (lst false (sideR.vals (bdL a))) = true := fun d n => rfl
 rw [pureCall_fn F6 rfl]
 generalize rectR.o k a = VA at *
 generalize lst false (sideR.vals (bdL a)) = VS at *
 generalize bdL a = l at *
 simp -implicitDefEqProofs [r6, p6, ret0 m20, rf, hR, ret1 m21, st, hB, lS]
 generalize hX : LL _ _ _ _ = X
 obtain ⟨u, g, rfl, g0, gM⟩ := LL_uxk hX (α := Nat × List (Pt × Value) × (Pt → Nat) × Heap) (U := List (Pt × Value) × (Pt → Nat)) (0, [], fun _ => 0, [mapB encP []]) (fun c => [(24, .int .i64 (c.1 : Int))]) (fun c => c.2.2.2) (.exit 0) (fun _ => [(24, undef)])
   (fun u g => g[0]? = some (mapB encP u.1) ∧ MR intR 3 1 g u.1 u.2 (fun p => frI l l.length p))
   (fun c => c.1 ≤ l.length ∧ c.2.2.2[0]? = some (mapB encP c.2.1) ∧ MR intR 3 1 c.2.2.2 c.2.1 c.2.2.1 (fun p => frI l c.1 p)) (fun c => l.length - c.1)
  ⟨Nat.zero_le _, rfl, MR.init.congr fun p => rfl⟩
  (by simp -implicitDefEqProofs [k6_6]) rfl (by
  intro nx c hc ih
  obtain ⟨i, m, bl, g⟩ := c
  obtain ⟨h1, h2, h3⟩ := hc
  simp only at h1 h2 h3
  have hgl := get_lt h2
  by_cases hi : i < l.length
  ·have e0 := ix i hi
   rw [side_val] at e0
   have eP : l[i].1 = (l[i].1.1, l[i].1.2) := rfl
   have q0 : (g ++ [.cells 53 [.int .i64 l[i].1.1, .int .i64 l[i].1.2, .int .i64 l[i].2.1, .int .i64 l[i].2.2] 0])[0]? = some (mapB encP m) := by rw [List.getElem?_append_left hgl]; exact h2
   have en := entry_map (P := E.P) (lo := 0) (zv := .slice none 0 0) (k := l[i].1) keyP q0 (Nat.le_refl _)
   have ld : loadT ⟨some true, some 2⟩ (g ++ [.cells 53 [.int .i64 l[i].1.1, .int .i64 l[i].1.2, .int .i64 l[i].2.1, .int .i64 l[i].2.2] 0]) (.pointer (some ⟨g.length, 0, none⟩)) = some (encP l[i].1) := obj_sub7 (b := g.length) (j := 0) (n := 2) (c := [.int .i64 l[i].1.1, .int .i64 l[i].1.2, .int .i64 l[i].2.1, .int .i64 l[i].2.2]) end0 (by show 0 + 2 ≤ 4; omega)
   have M0 : MR intR 3 1 (g ++ [.cells 53 [.int .i64 l[i].1.1, .int .i64 l[i].1.2, .int .i64 l[i].2.1, .int .i64 l[i].2.2] 0]) m bl (fun p => frI l i p) := h3.keep fun o x _ hx => by rw [List.getElem?_append_left (get_lt hx)]; exact hx
   generalize hG : g ++ [AObj.cells 53 [.int .i64 l[i].1.1, .int .i64 l[i].1.2, .int .i64 l[i].2.1, .int .i64 l[i].2.2] 0] = G at *
   generalize hu : (aget m l[i].1).getD (.slice none 0 0) = u at *
   have M1 : MR intR 3 1 (G.set 0 (mapB encP (aset m l[i].1 u))) m bl (fun p => frI l i p) := M0.keep fun o x ho hx => by rw [List.getElem?_set_ne (by omega)]; exact hx
   have m1 : (G.set 0 (mapB encP (aset m l[i].1 u)))[0]? = some (mapB encP (aset m l[i].1 u)) := by rw [List.getElem?_set_self (get_lt q0)]
   obtain ⟨h', bl', ap, M2, hl1, hk1⟩ := M1.add (el := elI) (l0 := 0) (Nat.zero_le _) (get_lt m1) l[i].1 (i : Int) (u := lst true [.int .i64 (i : Int)]) rfl (fun h => cells_lst (by rfl)) (by have := fr_len l i l[i].1; show (_ + 1) * 8 ≤ 2 ^ 47; omega)
   rw [hu] at ap
   have m2 := hk1 _ _ (by omega) m1
   have st := store_map (lo := 0) (k := l[i].1) (x := intR.sl (bl' l[i].1) (frI l i l[i].1 ++ [(i : Int)])) (n := (aidx m l[i].1 : Int)) m2 (Nat.le_refl _) (by rw [aget_set, if_pos rfl]; simp) (by rw [aidx_set])
   rw [aset_set] at st
   have M2 := M2.congr (fr_snoc hi)
   generalize intR.sl (bl' l[i].1) (frI l i l[i].1 ++ [(i : Int)]) = v at *
   generalize aset m l[i].1 v = m' at *
   have m3 : (h'.set 0 (mapB encP m'))[0]? = some (mapB encP m') := by rw [List.getElem?_set_self (get_lt m2)]
   have M3 : MR intR 3 1 (h'.set 0 (mapB encP m')) m' bl' (fun p => frI l (i + 1) p) := M2.keep fun o x ho hx => by rw [List.getElem?_set_ne (by omega)]; exact hx
   have wi : IntKind.i64.wrap ((i : Int) + 1) = ((i + 1 : Nat) : Int) := (wrap64 (by omega) (by omega)).trans (by omega)
   unfold elI at ap
   have ih := fun vs => ih (i + 1, m', bl', trim g.length vs (h'.set 0 (mapB encP m'))) (by show l.length - (i + 1) < l.length - i; omega) ⟨hi, trim_get hgl m3, M3.trim m3 hgl⟩
   generalize encP l[i].1 = kp at *
   simp -implicitDefEqProofs [k6_6] at ih
   simp -implicitDefEqProofs [r6_6, k6_6, hi, e0, hG, ld, lit_num, en, ap, st, wi]
   exact ih _
  ·have e : i = l.length := by omega
   refine ⟨(m, bl), g, ?_, h2, by rw [e] at h3; exact h3⟩
   simp -implicitDefEqProofs [r6_6, k6_6, hi, trim_le])
 obtain ⟨lm, bl⟩ := u
 simp only at g0 gM
 have mk := make_one (h := g) (el := ⟨4, 1, 1, .bool false, ⟨some false, some 1⟩⟩) (n := l.length) (k := .i64) (k' := .i64) rfl rfl (by omega) (by decide)
 have ez : List.replicate l.length (Value.bool false) = (List.replicate l.length false).map .bool := by rw [List.map_replicate]
 rw [ez] at mk
 have rB : ∀ k, aget lm k ≠ none → 1 ≤ bl k ∧ bl k < g.length := fun k hk => gM.lt hk
 have hgl := get_lt g0
 have wl : waysF (nxI l) l.length l.length 0 (List.replicate l.length false) = waysL l := rfl
 generalize hD : g.length = D at *
 have M0 : MR intR 3 1 (g ++ [rowB (List.replicate l.length false), ptsE.row 29 []]) lm bl (fun p => frI l l.length p) := gM.keepB fun k x hk hx => by rw [List.getElem?_append_left (get_lt hx)]; exact hx
 simp -implicitDefEqProofs [k6_6, lS, mk, prep_new, newK_nil zPs, hD]
 generalize hX : LL _ _ _ _ = X
 obtain ⟨o, h, rfl, oe, hB, hol⟩ := LL_uxk hX (α := Nat × List Bool × List (List Pt) × Heap) (U := List (List Pt)) (0, List.replicate l.length false, [], g ++ [rowB (List.replicate l.length false), ptsE.row 29 []]) (fun c => [(8, Enc.sl (D + 1) c.2.2.1), (44, .int .i64 (c.1 : Int))]) (fun c => c.2.2.2) (.exit 2) (fun o => [(8, Enc.sl (D + 1) o), (44, undef)])
   (fun o h => o = loopsL l ∧ h[D + 1]? = some (ptsE.row 29 o) ∧ o.length ≤ l.length)
   (fun c => c.1 ≤ l.length ∧ c.2.1.length = l.length ∧ c.2.2.1.length ≤ c.1 ∧ c.2.2.1 ++ ((waysF (nxI l) l.length (l.length - c.1) c.1 c.2.1).map fun w => rotM (cornF l w)).filter (fun p => !p.isEmpty) = loopsL l ∧
    c.2.2.2[0]? = some (mapB encP lm) ∧ MR intR 3 1 c.2.2.2 lm bl (fun p => frI l l.length p) ∧ c.2.2.2[D]? = some (rowB c.2.1) ∧ c.2.2.2[D + 1]? = some (ptsE.row 29 c.2.2.1)) (fun c => l.length - c.1)
  ⟨Nat.zero_le _, List.length_replicate, Nat.zero_le _, rfl, by rw [List.getElem?_append_left (by omega)]; exact g0, M0, by rw [← hD]; exact end1, by rw [← hD]; exact end2⟩
  (by simp -implicitDefEqProofs [k6_13, show Enc.sl (D + 1) ([] : List (List Pt)) = .slice (some ⟨D + 1, 0, some 0⟩) 0 0 from rfl]) (by simp [rowB, Enc.row, Enc.vals]) (by
  intro nx c hc ih
  obtain ⟨i, d, o, h⟩ := c
  obtain ⟨h1, h2, h3, h4, h5, h6, h7, h8⟩ := hc
  simp only at h1 h2 h3 h4 h5 h6 h7 h8
  by_cases hi : i < l.length
  ·have hBl := get_lt h8
   have ew : waysF (nxI l) l.length (l.length - i) i d = (trc (nxI l) (l.length + 1) d i).2 :: waysF (nxI l) l.length (l.length - (i + 1)) (i + 1) (trc (nxI l) (l.length + 1) d i).1 := by
    rw [show l.length - i = (l.length - (i + 1)) + 1 by omega]; rfl
   rw [ew] at h4
   obtain ⟨D', hD'⟩ : ∃ D', (trc (nxI l) (l.length + 1) d i).1 = D' := ⟨_, rfl⟩
   obtain ⟨W, hW⟩ : ∃ W, (trc (nxI l) (l.length + 1) d i).2 = W := ⟨_, rfl⟩
   have hf0 : freeN d < l.length + 1 := by have := Rg.freeN_le d; omega
   have hf1 := Rg.freeN_le d
   rw [hD', hW] at h4
   have wi : IntKind.i64.wrap ((i : Int) + 1) = ((i + 1 : Nat) : Int) := (wrap64 (by omega) (by omega)).trans (by omega)
   simp -implicitDefEqProofs [r6_13, k6_13, hi, prep_new, newK_nil zP]
   generalize hX2 : LL _ _ _ _ = X2
   obtain ⟨_, g1, rfl, p1, p2, p3, p4, p5, p6, p7⟩ := LL_uxk hX2 (α := Nat × List Bool × Nat × List Pt × Heap) (U := Unit) (l.length + 1, d, i, [], h ++ [spanR.row 32 []]) (fun c => [(10, spanR.sl h.length c.2.2.2.1), (11, .int .i64 (c.2.2.1 : Int))]) (fun c => c.2.2.2.2) (.exit 4) (fun _ => [(10, spanR.sl h.length (cornF l W)), (11, undef)])
    (fun _ g => D'.length = l.length ∧ (cornF l W).length ≤ l.length ∧ g[0]? = some (mapB encP lm) ∧ MR intR 3 1 g lm bl (fun p => frI l l.length p) ∧ g[D]? = some (rowB D') ∧ g[D + 1]? = some (ptsE.row 29 o) ∧ g[h.length]? = some (spanR.row 32 (cornF l W)))
    (fun c => freeN c.2.1 < c.1 ∧ c.2.1.length = l.length ∧ c.2.2.1 < l.length ∧ (trc (nxI l) c.1 c.2.1 c.2.2.1).1 = D' ∧ c.2.2.2.1 ++ cornF l (trc (nxI l) c.1 c.2.1 c.2.2.1).2 = cornF l W ∧ c.2.2.2.1.length + freeN c.2.1 ≤ l.length ∧
     c.2.2.2.2[0]? = some (mapB encP lm) ∧ MR intR 3 1 c.2.2.2.2 lm bl (fun p => frI l l.length p) ∧ c.2.2.2.2[D]? = some (rowB c.2.1) ∧ c.2.2.2.2[D + 1]? = some (ptsE.row 29 o) ∧ c.2.2.2.2[h.length]? = some (spanR.row 32 c.2.2.2.1)) (fun c => c.1)
    ⟨hf0, h2, hi, hD', by rw [hW]; rfl, by show 0 + freeN d ≤ l.length; omega, by rw [List.getElem?_append_left (by omega)]; exact h5, h6.keep fun o x _ hx => by rw [List.getElem?_append_left (get_lt hx)]; exact hx, by rw [List.getElem?_append_left (by omega)]; exact h7, by rw [List.getElem?_append_left (by omega)]; exact h8, end0⟩
    (by simp -implicitDefEqProofs [k6_17, Rec.sl_nil]) (by simp [Rec.row_nil]; rfl) (by
    intro nx c hc ih
    obtain ⟨k, d1, j, p, g1⟩ := c
    obtain ⟨i1, i2, i3, i4, i5, i6, i7, i8, i9, i10, i11⟩ := hc
    simp only at i1 i2 i3 i4 i5 i6 i7 i8 i9 i10 i11
    obtain ⟨k, rfl⟩ : ∃ k', k = k' + 1 := ⟨k - 1, by omega⟩
    have dl := get_lt i9
    have dx : ∀ u : Nat, u < l.length → indexAddrT (.sl 4 ⟨some false, some 1⟩) (.slice (some ⟨D, 0, none⟩) l.length l.length) (.int .i64 (u : Int)) = some (cAt D u) := fun u hu => by
     rw [index_slice, if_pos ⟨by omega, by omega⟩]; simp [shift, cAt]
    have dxj := dx j i3
    have hdj : j < d1.length := by omega
    have ld := obj_load (b := D) (j := j) (sz := some 1) i9 (v := .bool d1[j]) (by rw [List.getElem?_map, List.getElem?_eq_getElem hdj]; rfl)
    cases hdv : d1[j]
    ·have hgt : gtS l j = l[j] := Rg.gt_get i3
     have hnx := (hnet.next i3).1
     have hd0 : d1[j]? = some false := by rw [List.getElem?_eq_getElem hdj, hdv]
     have hfr := Rg.freeN_set hd0
     have e : trc (nxI l) (k + 1) d1 j = ((trc (nxI l) k (d1.set j true) (nxI l j)).1, j :: (trc (nxI l) k (d1.set j true) (nxI l j)).2) := by
      conv => lhs; unfold trc
      rw [if_pos hd0]
     rw [e] at i4 i5
     simp only at i4 i5
     have ec : cornF l (j :: (trc (nxI l) k (d1.set j true) (nxI l j)).2) = (if turnI l[j] (gtS l (nxI l j)) = 0 then [] else [l[j].2]) ++ cornF l (trc (nxI l) k (d1.set j true) (nxI l j)).2 := by rw [← hgt]; rfl
     rw [ec, ← List.append_assoc] at i5
     rw [hdv] at ld
     have st := obj_store (b := D) (j := j) (lo := 0) (v := .bool true) i9 (by rw [List.length_map]; exact hdj) (Nat.zero_le _) rfl
     have es : (d1.map Value.bool).set j (.bool true) = (d1.set j true).map .bool := (List.map_set ..).symm
     rw [es] at st
     have st : storeT (some 1) g1 0 (.bool true) (cAt D j) = some (g1.set D (rowB (d1.set j true))) := st
     have old : ∀ o x, o ≠ D → g1[o]? = some x → (g1.set D (rowB (d1.set j true)))[o]? = some x := fun o x ho hx => by rw [List.getElem?_set_ne (by omega)]; exact hx
     have w7 := old _ _ (by omega) i7
     have w8 : MR intR 3 1 (g1.set D (rowB (d1.set j true))) lm bl (fun p => frI l l.length p) := i8.keepB fun q x hq hx => old _ _ (by have := rB q hq; omega) hx
     have w9 : (g1.set D (rowB (d1.set j true)))[D]? = some (rowB (d1.set j true)) := List.getElem?_set_self dl
     have w10 := old _ _ (by omega) i10
     have w11 := old h.length _ (by omega) i11
     have hGl : (g1.set D (rowB (d1.set j true))).length = g1.length := List.length_set
     generalize hG : g1.set D (rowB (d1.set j true)) = G at *
     have ej := ix j i3
     rw [side_val] at ej
     -- the pieces that go on
     have hne : fromI l l[j].2 ≠ [] := fun q => by
      have hn2 := hnet.next i3
      have : nxI l j ∈ fromI l (gtS l j).2 := Rg.from_mem.2 ⟨hn2.1, hn2.2.1⟩
      rw [hgt, q] at this; cases this
     obtain ⟨v, hv⟩ : ∃ v, aget lm l[j].2 = some v := by
      cases q : aget lm l[j].2 with
      | some v => exact ⟨v, rfl⟩
      | none =>
       have := w8.non _ q
       rw [fr_all] at this
       exact absurd (List.map_eq_nil_iff.1 this) hne
     obtain ⟨v1, v2, v3⟩ := w8.val _ v hv
     have lk := lookup_get (P := E.P) (h := G) (zv := .slice none 0 0) (k := l[j].2) keyP w7
     rw [hv, v1] at lk
     have lk : lookupT E.P (some ⟨32, some (.slice none 0 0)⟩) G (.map (some 0)) (.agg ⟨[.int .i64 l[j].2.1, .int .i64 l[j].2.2]⟩) false = some (intR.sl (bl l[j].2) ((fromI l l[j].2).map fun (i : Nat) => (i : Int))) := lk
     have v2 : G[bl l[j].2]? = some (intR.row 3 ((fromI l l[j].2).map fun (i : Nat) => (i : Int))) := v2
     have hmem : ∀ u ∈ fromI l l[j].2, u < l.length := fun u hu => (Rg.from_mem.1 hu).1
     have enx : nxI l j = pickI l l[j] (fromI l l[j].2) ((fromI l l[j].2).headD 0) := by unfold nxI; rw [hgt]
     have hFl : (fromI l l[j].2).length ≤ l.length := by
      have := fr_len l l.length l[j].2
      rw [fr_all, List.length_map] at this
      exact this
     generalize fromI l l[j].2 = Fl at *
     generalize bl l[j].2 = bk at *
     have px : ∀ (u : Nat) (hu : u < Fl.length), indexAddrT (.sl 3 ⟨some false, some 1⟩) (intR.sl bk (Fl.map fun (i : Nat) => (i : Int))) (.int .i64 (u : Int)) = some (Rec.at_ (R := intR) bk (Fl.map fun (i : Nat) => (i : Int)) u 0) := fun u hu => int_index (by rw [List.length_map]; exact hu)
     have pl : ∀ (u : Nat) (hu : u < Fl.length), loadT ⟨some false, some 1⟩ G (Rec.at_ (R := intR) bk (Fl.map fun (i : Nat) => (i : Int)) u 0) = some (.int .i64 (Fl[u] : Int)) := fun u hu => by
      have := int_load (h := G) (b := bk) (l := Fl.map fun (i : Nat) => (i : Int)) (i := u) (sz := some 1) v2 (by rw [List.length_map]; exact hu)
      rw [List.getElem_map] at this
      exact this
     have ln : lenT .sl G (intR.sl bk (Fl.map fun (i : Nat) => (i : Int))) = some (.int .i64 Fl.length) := (Rec.sl_len (R := intR)).trans (by rw [List.length_map])
     have hF0 : 0 < Fl.length := List.length_pos_iff.2 hne
     have px0 := px 0 hF0
     have pl0 := pl 0 hF0
     have eh : Fl[0] = Fl.headD 0 := by cases Fl with | nil => exact absurd rfl hne | cons a F => rfl
     rw [eh] at pl0
     have px0 : indexAddrT (.sl 3 ⟨some false, some 1⟩) (intR.sl bk (Fl.map fun (i : Nat) => (i : Int))) (.int .i64 0) = _ := px0
     generalize hVR : intR.sl bk (Fl.map fun (i : Nat) => (i : Int)) = VR at *
     generalize Rec.at_ (R := intR) bk (Fl.map fun (i : Nat) => (i : Int)) = at_ at *
     have hnj : nearS l[j] := hnear _ (List.getElem_mem i3)
     have nxl : pickI l l[j] Fl (Fl.headD 0) < l.length := by rw [← enx]; exact hnx
     have tx := turn_spec l[j] l[nxI l j] hnj (hnear _ (List.getElem_mem hnx))
     have egn : gtS l (nxI l j) = l[nxI l j] := Rg.gt_get hnx
     have ejn := ix (nxI l j) hnx
     rw [side_val] at ejn
     rw [egn] at i5
     simp -implicitDefEqProofs [r6_17, k6_17, dxj, ld, st, ej, lk, ln, px0, pl0]
     rw [LL_for (γ := Nat) Fl (Fl.headD 0) (fun u nx => [(12, .int .i64 (nx : Int)), (73, .int .i64 u)]) (fun _ _ => G) (fun _ rest nx => (.exit 6, [(12, .int .i64 (pickI l l[j] rest nx : Int)), (73, undef)], G)) (fun _ nx => nx < l.length) (by omega) (hmem _ (by rw [← eh]; exact List.getElem_mem hF0))]
     ·rw [← enx]
      by_cases ht : turnI l[j] l[nxI l j] = 0
      ·rw [if_pos ht, List.append_nil] at i5
       have ih := ih (k, d1.set j true, nxI l j, p, G) (Nat.lt_succ_self k) ⟨by show freeN (d1.set j true) < k; omega, by show (d1.set j true).length = _; rw [List.length_set]; exact i2, hnx, i4, i5, by show p.length + freeN (d1.set j true) ≤ _; omega, w7, w8, w9, w10, w11⟩
       simp -implicitDefEqProofs [k6_17] at ih
       simp -implicitDefEqProofs [k6_21, ej, ejn, ret0 m22, tx, ht, trim_le, hGl]
       exact ih
      ·rw [if_neg ht] at i5
       have ap := app_pt (h := G) (b := h.length) (lo := 0) (c := p) l[j].2 w11 (Nat.zero_le _) (by omega)
       have ih := ih (k, d1.set j true, nxI l j, p ++ [l[j].2], G.set h.length (spanR.row 32 (p ++ [l[j].2]))) (Nat.lt_succ_self k) ⟨by show freeN (d1.set j true) < k; omega, by show (d1.set j true).length = _; rw [List.length_set]; exact i2, hnx, i4, i5, by show (p ++ [l[j].2]).length + freeN (d1.set j true) ≤ _; rw [List.length_append]; show p.length + 1 + _ ≤ _; omega,
        by rw [List.getElem?_set_ne (by omega)]; exact w7, w8.keepB fun q x hq hx => by rw [List.getElem?_set_ne (by have := rB q hq; omega)]; exact hx, by rw [List.getElem?_set_ne (by omega)]; exact w9, by rw [List.getElem?_set_ne (by omega)]; exact w10, List.getElem?_set_self (get_lt w11)⟩
       simp -implicitDefEqProofs [k6_17] at ih
       simp -implicitDefEqProofs [k6_21, ej, ejn, ret0 m22, tx, ht, lit_pt, ap, trim_le, hGl]
       exact ih
     ·simp -implicitDefEqProofs [k6_21]
     ·rfl
     ·intro nx u c hu _
      have e0 : pickI l l[j] [] c = c := rfl
      rw [e0]
      simp -implicitDefEqProofs [r6_21, k6_21, hu, trim_le]
     ·intro nx u q rest c hu hv hd hw hc ih
      have pxu := px u hu
      have plu := pl u hu
      rw [hv] at plu
      have hq : q < l.length := hmem q (by rw [← hv]; exact List.getElem_mem hu)
      have eq := ix q hq
      rw [side_val] at eq
      have tq := turn_spec l[j] l[q] hnj (hnear _ (List.getElem_mem hq))
      have egq : gtS l q = l[q] := Rg.gt_get hq
      have e1 : pickI l l[j] (q :: rest) c = pickI l l[j] rest (if 0 < turnI l[j] l[q] then q else c) := by rw [← egq]; rfl
      rw [e1]
      have ih1 := ih q hq
      have ih2 := ih c hc
      simp -implicitDefEqProofs [k6_21] at ih1 ih2
      by_cases ht : 0 < turnI l[j] l[q]
      ·rw [if_pos ht]
       simp -implicitDefEqProofs [r6_21, k6_21, hu, pxu, plu, ej, eq, ret0 m22, tq, ht, hw, trim_le]
       exact ih1
      ·rw [if_neg ht]
       simp -implicitDefEqProofs [r6_21, k6_21, hu, pxu, plu, ej, eq, ret0 m22, tq, ht, hw, trim_le]
       exact ih2
    ·have e : trc (nxI l) (k + 1) d1 j = (d1, []) := by
      unfold trc
      rw [if_neg (by rw [List.getElem?_eq_getElem hdj, hdv]; simp)]
     rw [e] at i4 i5
     have i4 : d1 = D' := i4
     have i5 : p ++ [] = cornF l W := i5
     rw [List.append_nil] at i5
     subst i4
     rw [hdv] at ld
     refine ⟨(), g1, ?_, i2, by rw [← i5]; omega, i7, i8, i9, i10, by rw [← i5]; exact i11⟩
     simp -implicitDefEqProofs [r6_17, k6_17, dxj, ld, i5, trim_le])
   by_cases hP : cornF l W = []
   ·rw [List.map_cons, hP] at h4
    have h4 : o ++ ((waysF (nxI l) l.length (l.length - (i + 1)) (i + 1) D').map fun w => rotM (cornF l w)).filter (fun p => !p.isEmpty) = loopsL l := h4
    have ih := fun vs => ih (i + 1, D', o, trim h.length vs g1) (by show l.length - (i + 1) < l.length - i; omega) ⟨hi, p1, by show o.length ≤ i + 1; omega, h4, trim_get (by omega) p3, p4.trim p3 (by omega), trim_get (by omega) p5, trim_get hBl p6⟩
    have hs : spanR.sl h.length (cornF l W) = spanR.sl h.length [] := by rw [hP]
    have hs2 : ∀ g, lenT .sl g (spanR.sl h.length []) = some (.int .i64 0) := fun g => rfl
    rw [hs]
    simp -implicitDefEqProofs [k6_13] at ih
    simp -implicitDefEqProofs [k6_17, hs2, wi]
    exact ih _
   ·have hPl : 0 < (cornF l W).length := List.length_pos_iff.2 hP
    have hPi : 0 < ((cornF l W).length : Int) := by omega
    have fz := Rec.freeze_row (R := spanR) (P := E.P) (lo := 0) p7 zP aPt7 (Nat.zero_le _)
    rw [if_neg (by omega)] at fz
    have q3 : (g1.set h.length .dead)[0]? = some (mapB encP lm) := by rw [List.getElem?_set_ne (by omega)]; exact p3
    have q4 : MR intR 3 1 (g1.set h.length .dead) lm bl (fun p => frI l l.length p) := p4.keepB fun q x hq hx => by rw [List.getElem?_set_ne (by have := rB q hq; omega)]; exact hx
    have q5 : (g1.set h.length .dead)[D]? = some (rowB D') := by rw [List.getElem?_set_ne (by omega)]; exact p5
    have q6 : (g1.set h.length .dead)[D + 1]? = some (ptsE.row 29 o) := by rw [List.getElem?_set_ne (by omega)]; exact p6
    generalize hG : g1.set h.length .dead = G at *
    obtain ⟨m, kk, r1, r2, x, y, r3, r4, r5⟩ := rot_spec G (cornF l W) hP (by omega)
    have ne : (rotM (cornF l W)).isEmpty = false := by
     have := (Rg.rotM_rot (cornF l W)).len
     cases hq : rotM (cornF l W) with
     | nil => rw [hq] at this; simp at this; exact absurd this (by omega)
     | cons a q => rfl
    rw [List.map_cons, List.filter_cons_of_pos (by rw [ne]; rfl)] at h4
    have ap := Enc.app (O := ptsE) (el := elPts) (h := G) (lo := 0) (b := D + 1) (m := [rotM (cornF l W)]) (u := lst true [lst false (spanR.vals (rotM (cornF l W)))]) rfl q6 (Enc.cells_tree (O := ptsE) (l := [rotM (cornF l W)])) (Nat.zero_le _) (by show (_ + 1) * 24 ≤ 2 ^ 47; omega)
    have h4 : (o ++ [rotM (cornF l W)]) ++ ((waysF (nxI l) l.length (l.length - (i + 1)) (i + 1) D').map fun w => rotM (cornF l w)).filter (fun p => !p.isEmpty) = loopsL l := by rw [List.append_assoc]; exact h4
    generalize hG2 : G.set (D + 1) (ptsE.row 29 (o ++ [rotM (cornF l W)])) = G2 at *
    have s3 : G2[0]? = some (mapB encP lm) := by rw [← hG2, List.getElem?_set_ne (by omega)]; exact q3
    have s4 : MR intR 3 1 G2 lm bl (fun p => frI l l.length p) := q4.keepB fun q x hq hx => by rw [← hG2, List.getElem?_set_ne (by have := rB q hq; omega)]; exact hx
    have s5 : G2[D]? = some (rowB D') := by rw [← hG2, List.getElem?_set_ne (by omega)]; exact q5
    have s6 : G2[D + 1]? = some (ptsE.row 29 (o ++ [rotM (cornF l W)])) := by rw [← hG2]; exact List.getElem?_set_self (get_lt q6)
    have ih := fun vs => ih (i + 1, D', o ++ [rotM (cornF l W)], trim h.length vs G2) (by show l.length - (i + 1) < l.length - i; omega) ⟨hi, p1, by show (o ++ [_]).length ≤ i + 1; rw [List.length_append]; show o.length + 1 ≤ i + 1; omega, h4, trim_get (by omega) s3, s4.trim s3 (by omega), trim_get (by omega) s5, trim_get hBl s6⟩
    have ln : lenT .sl g1 (spanR.sl h.length (cornF l W)) = some (.int .i64 ((cornF l W).length : Int)) := Rec.sl_len
    have rf : ∀ g, reify E.P 8 g (lst false (spanR.vals (cornF l W))) = some (lst false (spanR.vals (cornF l W))) := fun _ => rfl
    have sc : scalar (.agg ⟨[.int .i64 m.1, .int .i64 m.2]⟩) = true := by simp [scalar, flat, atom]
    unfold elPts at ap
    simp -implicitDefEqProofs [k6_13] at ih
    simp -implicitDefEqProofs [k6_17, ln, hPi, hPl, prep_frz, fz, ret0 m24, rf, r1, sc, ret0 m23, r2, r3, r4, lit_pts2, ret1 m26, pts_set, r5, lit_pts1, ap, wi]
    exact ih _
  ·have e : l.length - i = 0 := by omega
   rw [e] at h4
   have h4 : o ++ [] = loopsL l := h4
   rw [List.append_nil] at h4
   refine ⟨o, h, ?_, h4, h8, by omega⟩
   simp -implicitDefEqProofs [r6_13, k6_13, hi, trim_le])
 subst oe
 have so := sortP_spec (lo := 0) hnet hB (Nat.zero_le _) (by omega)
 have el : (outL l).length = (loopsL l).length := List.length_mergeSort ..
 have es : Enc.sl (D + 1) (loopsL l) = Enc.sl (D + 1) (outL l) := by unfold Enc.sl; rw [el]
 have rr := Enc.reifyR_sl (O := ptsE) (P := E.P) (h := h.set (D + 1) (ptsE.row 29 (outL l))) (b := D + 1) (t := 29) (l := outL l) (List.getElem?_set_self (get_lt hB)) zPs aPs
 rw [← es] at rr
 simp -implicitDefEqProofs [k6_13, ret2 (E := E) (f := 27) rfl, so, rr]
end Go.Proofs.Ytcjdpkifooenkaa.Bm
namespace Go.Proofs.Ytcjdpkifooenkaa.Bm
open Go Go.RowKit
open Rg (Rect Pt Sd bdL bdH botR topR xsB ysB endsX begsX upL loopsL Net ltPo csum ssum Addt Form Apart)
theorem wrap_wrap (a : Int) : ∃ k : Int, IntKind.i64.wrap a = a + k * 18446744073709551616 := by
 unfold IntKind.wrap
 simp [IntKind.bits, IntKind.signed]
 split
 ·exact ⟨-(a / 18446744073709551616) - 1, by omega⟩
 ·exact ⟨-(a / 18446744073709551616), by omega⟩
theorem wrap_same {a b k : Int} (h : a = b + k * 18446744073709551616) : IntKind.i64.wrap a = IntKind.i64.wrap b := by
 have e : a % 18446744073709551616 = b % 18446744073709551616 := by omega
 unfold IntKind.wrap
 simp [IntKind.bits, IntKind.signed, e]
theorem wrap_add1 (a b : Int) : IntKind.i64.wrap (IntKind.i64.wrap a + b) = IntKind.i64.wrap (a + b) := by
 obtain ⟨k, e⟩ := wrap_wrap a
 rw [e]
 exact wrap_same (k := k) (by omega)
theorem wrap_sub1 (a b : Int) : IntKind.i64.wrap (IntKind.i64.wrap a - b) = IntKind.i64.wrap (a - b) := by
 obtain ⟨k, e⟩ := wrap_wrap a
 rw [e]
 exact wrap_same (k := k) (by omega)
theorem wrap_twice (t a b : Int) : IntKind.i64.wrap (IntKind.i64.wrap (IntKind.i64.wrap t + IntKind.i64.wrap a) - IntKind.i64.wrap b) = IntKind.i64.wrap (t + (a - b)) := by
 obtain ⟨k, e⟩ := wrap_wrap t
 obtain ⟨m, f⟩ := wrap_wrap a
 obtain ⟨n, g⟩ := wrap_wrap b
 rw [wrap_sub1, e, f, g]
 exact wrap_same (k := k + m - n) (by omega)
theorem upL_mem {x : Int} {A B : List Rect} {s : Sd} : ∀ {ys : List Int}, s ∈ upL x A B ys → s.1.1 = x ∧ s.2.1 = x ∧ s.1.2 ∈ ys ∧ s.2.2 ∈ ys
 | [], h => absurd h List.not_mem_nil
 | [_], h => absurd h List.not_mem_nil
 | u :: v :: ys, h => by
  have e : upL x A B (u :: v :: ys) = (if (Rg.inY A u && !Rg.inY B u) = true then [((x, u), (x, v))] else if (Rg.inY B u && !Rg.inY A u) = true then [((x, v), (x, u))] else []) ++ upL x A B (v :: ys) := rfl
  rw [e] at h
  rcases List.mem_append.1 h with q | q
  ·split at q
   ·rw [List.mem_singleton.1 q]; simp
   ·split at q
    ·rw [List.mem_singleton.1 q]; simp
    ·cases q
  ·obtain ⟨a, b, c, d⟩ := upL_mem q
   exact ⟨a, b, List.mem_cons_of_mem _ c, List.mem_cons_of_mem _ d⟩
theorem bd_near {a : List Rect} (h : ∀ r ∈ a, okR r = true) : ∀ s ∈ bdL a, nearS s := by
 have hb : ∀ r ∈ a, 0 ≤ r.x0 ∧ r.x0 ≤ 1048576 ∧ 0 ≤ r.y0 ∧ r.y0 ≤ 1048576 ∧ 0 ≤ r.x1 ∧ r.x1 ≤ 1048576 ∧ 0 ≤ r.y1 ∧ r.y1 ≤ 1048576 := fun r hr => by
  have := okR_iff.1 (h r hr)
  unfold Rect.inBox at this
  omega
 intro s hs
 unfold bdL at hs
 rcases List.mem_append.1 hs with q | q
 ·unfold bdH at q
  obtain ⟨r, hr, q⟩ := List.mem_flatMap.1 q
  have := hb r hr
  rcases List.mem_cons.1 q with e | e
  ·rw [e]; unfold nearS botR; simp only; omega
  ·rw [List.mem_singleton.1 e]; unfold nearS topR; simp only; omega
 ·obtain ⟨x, hx, q⟩ := List.mem_flatMap.1 q
  obtain ⟨r, hr, hxr⟩ := Rg.xs_mem.1 hx
  obtain ⟨e1, e2, e3, e4⟩ := upL_mem q
  have hy : ∀ y ∈ ysB (endsX a x) (begsX a x), 0 ≤ y ∧ y ≤ 1048576 := fun y hy => by
   obtain ⟨t, ht, hty⟩ := Rg.ys_mem.1 hy
   have hta : t ∈ a := by
    rcases ht with ht | ht
    ·exact (List.mem_filter.1 ht).1
    ·exact (List.mem_filter.1 ht).1
   have := hb t hta
   omega
  have h1 := hy _ e3
  have h2 := hy _ e4
  have := hb r hr
  unfold nearS
  omega
theorem bd_len {a : List Rect} (ha : a.length ≤ 200) : (bdL a).length ≤ 400000 := by
 have h1 := bdH_len a
 have h2 := flatMap_le (fun x => colX_len a x ha) (xsB a)
 have h3 : (xsB a).length ≤ (xsL a).length := Rg.sortU_le _
 have h4 := xsL_len a
 show (bdH a ++ (xsB a).flatMap (Rg.colX a)).length ≤ 400000
 rw [List.length_append]
 have h5 : (xsB a).length ≤ 400 := by omega
 have h6 : (xsB a).length * 800 ≤ 400 * 800 := Nat.mul_le_mul_right _ h5
 omega
theorem regB_net {a : List Rect} (hr : regB a = true) : Net (bdL a) := Rg.bd_net (regB_iff.1 hr).2.2.apart
theorem outline_spec (k : Option Bool) (a : List Rect) (hk : Rec.Ok k a) (hr : regB a = true) : pureCall E.P (L E) 6 [rectR.o k a] = some (lst false (ptsE.vals (outL (bdL a)))) := by
 obtain ⟨h1, h2, h3⟩ := regB_iff.1 hr
 exact outline_walk k a hk h2 hr (regB_net hr) (bd_len h2) (bd_near (List.all_eq_true.1 h1))
section
variable {l : List Sd} (hl : Net l)
include hl
theorem out_loop : ∀ p ∈ outL l, Rg.Loop p := fun p hp => Rg.loops_ok hl p (List.mem_mergeSort.1 hp)
theorem out_sum {φ : Sd → Int} (hφ : Addt φ) : ((outL l).map (csum φ)).sum = ssum φ l := by
 rw [← Rg.loops_sum hl hφ]
 have key : ∀ {a b : List Int}, a.Perm b → a.sum = b.sum := fun h => by
  induction h with
  | nil => rfl
  | cons x _ ih => rw [List.sum_cons, List.sum_cons, ih]
  | swap x y l => rw [List.sum_cons, List.sum_cons, List.sum_cons, List.sum_cons]; omega
  | trans _ _ ih1 ih2 => exact ih1.trans ih2
 exact key ((List.mergeSort_perm _ _).map _)
theorem out_nil : outL l = [] ↔ l = [] := by
 rw [← Rg.loops_nil hl]
 unfold outL
 constructor
 ·intro h
  exact List.eq_nil_of_length_eq_zero (by rw [← List.length_mergeSort (le := leP), h]; rfl)
 ·intro h; rw [h, List.mergeSort_nil]
theorem out_asc : (outL l).Pairwise fun p q => ltPo (p.headD (0, 0)) (q.headD (0, 0)) = true := by
 have hle : ∀ p q, leP p q = !ltK (q.headD (0, 0)) (p.headD (0, 0)) := fun p q => by
  unfold leP leV
  rw [key_pts, key_pts]
 have hlt : ∀ a b : Pt, ltK a b = ltPo a b := fun _ _ => rfl
 have h1 : (outL l).Pairwise fun p q => leP p q = true := by
  refine List.pairwise_mergeSort (fun a b c h1 h2 => ?_) (fun a b => ?_) _
  ·rw [hle, Bool.not_eq_true', ltK_false] at *
   omega
  ·rw [hle, hle]
   cases q : ltK (b.headD (0, 0)) (a.headD (0, 0))
   ·rfl
   ·have := Rg.ltP_asym (a := b.headD (0, 0)) (b := a.headD (0, 0)) q
    rw [hlt, this]; rfl
 have h2 : ((outL l).map fun p => p.headD (0, 0)).Nodup := ((List.mergeSort_perm (loopsL l) leP).map _).nodup_iff.2 (Rg.loops_heads hl)
 have h3 : (outL l).Pairwise fun p q => p.headD (0, 0) ≠ q.headD (0, 0) := List.pairwise_map.1 h2
 refine (h1.and h3).imp ?_
 rintro p q ⟨a, b⟩
 rw [hle, hlt] at a
 rcases Rg.ltP_tri (p.headD (0, 0)) (q.headD (0, 0)) with c | c | c
 ·exact c
 ·exact absurd c b
 ·rw [c] at a; cases a
end
end Go.Proofs.Ytcjdpkifooenkaa.Bm
namespace Go.Proofs.Ytcjdpkifooenkaa.Bm
open Go Go.RowKit
open Rg (Rect)
set_option maxRecDepth 100000 in
theorem ring_reg : regB [⟨0, 0, 1, 3⟩, ⟨1, 0, 2, 1⟩, ⟨1, 2, 2, 3⟩, ⟨2, 0, 3, 3⟩] = true := by kernel_rfl
set_option maxRecDepth 100000 in
theorem two_reg : regB [⟨0, 0, 1, 1⟩, ⟨1, 1, 2, 2⟩] = true := by kernel_rfl
set_option maxRecDepth 100000 in
theorem ring_loops : Rg.loopsL (Rg.bdL [⟨0, 0, 1, 3⟩, ⟨1, 0, 2, 1⟩, ⟨1, 2, 2, 3⟩, ⟨2, 0, 3, 3⟩]) = [[(0, 0), (3, 0), (3, 3), (0, 3)], [(1, 1), (1, 2), (2, 2), (2, 1)]] := by kernel_rfl
set_option maxRecDepth 100000 in
theorem two_loops : Rg.loopsL (Rg.bdL [⟨0, 0, 1, 1⟩, ⟨1, 1, 2, 2⟩]) = [[(0, 0), (1, 0), (1, 1), (0, 1)], [(1, 1), (2, 1), (2, 2), (1, 2)]] := by kernel_rfl
theorem out_two {l : List (Rg.Pt × Rg.Pt)} {p q : List Rg.Pt} (h : Rg.loopsL l = [p, q]) (hle : leP p q = true) : ptsE.vals (outL l) = [lst false (spanR.vals p), lst false (spanR.vals q)] := by
 unfold outL
 rw [h, List.mergeSort_of_pairwise (by simp [hle])]
 rfl
theorem xo1 : pureCall E.P (L E) 6 [lst true (rectR.vals [⟨0, 0, 1, 3⟩, ⟨1, 0, 2, 1⟩, ⟨1, 2, 2, 3⟩, ⟨2, 0, 3, 3⟩])] = some (lst false [lst false (spanR.vals [(0, 0), (3, 0), (3, 3), (0, 3)]), lst false (spanR.vals [(1, 1), (1, 2), (2, 2), (2, 1)])]) := by
 have h := outline_spec (some true) [⟨0, 0, 1, 3⟩, ⟨1, 0, 2, 1⟩, ⟨1, 2, 2, 3⟩, ⟨2, 0, 3, 3⟩] Rec.ok_some ring_reg
 rw [out_two ring_loops (by decide)] at h
 exact h
theorem xo2 : pureCall E.P (L E) 6 [lst true (rectR.vals [⟨0, 0, 1, 1⟩, ⟨1, 1, 2, 2⟩])] = some (lst false [lst false (spanR.vals [(0, 0), (1, 0), (1, 1), (0, 1)]), lst false (spanR.vals [(1, 1), (2, 1), (2, 2), (1, 2)])]) := by
 have h := outline_spec (some true) [⟨0, 0, 1, 1⟩, ⟨1, 1, 2, 2⟩] Rec.ok_some two_reg
 rw [out_two two_loops (by decide)] at h
 exact h
theorem lp1 (h : Heap) : buildSliceT (some ⟨3, 1, 8, .int .i64 0, ⟨some false, some 1⟩⟩) false h 12 #[(0, .int .i64 0), (1, .int .i64 0), (2, .int .i64 3), (3, .int .i64 0), (4, .int .i64 3), (5, .int .i64 1), (6, .int .i64 1), (7, .int .i64 1), (8, .int .i64 1), (9, .int .i64 2), (10, .int .i64 0), (11, .int .i64 2)] = some (lst true [.int .i64 0, .int .i64 0, .int .i64 3, .int .i64 0, .int .i64 3, .int .i64 1, .int .i64 1, .int .i64 1, .int .i64 1, .int .i64 2, .int .i64 0, .int .i64 2], h) :=
 (build_lit' (n := 12) (l := [(0, .int .i64 0), (1, .int .i64 0), (2, .int .i64 3), (3, .int .i64 0), (4, .int .i64 3), (5, .int .i64 1), (6, .int .i64 1), (7, .int .i64 1), (8, .int .i64 1), (9, .int .i64 2), (10, .int .i64 0), (11, .int .i64 2)]) rfl rfl (by decide) (by decide) (by decide)).trans rfl
set_option maxRecDepth 100000 in
theorem xp1 : pureCall E.P (L E) 10 [lst true [.int .i64 0, .int .i64 0, .int .i64 3, .int .i64 0, .int .i64 3, .int .i64 1, .int .i64 1, .int .i64 1, .int .i64 1, .int .i64 2, .int .i64 0, .int .i64 2]] = some (lst false (spanR.vals [(0, 0), (3, 0), (3, 1), (1, 1), (1, 2), (0, 2)])) := pureCall_le (evF_L 60) (by kernel_rfl)
theorem lp2 (h : Heap) : buildSliceT (some ⟨3, 1, 8, .int .i64 0, ⟨some false, some 1⟩⟩) false h 8 #[(0, .int .i64 0), (1, .int .i64 0), (2, .int .i64 0), (3, .int .i64 2), (4, .int .i64 1), (5, .int .i64 2), (6, .int .i64 1), (7, .int .i64 0)] = some (lst true [.int .i64 0, .int .i64 0, .int .i64 0, .int .i64 2, .int .i64 1, .int .i64 2, .int .i64 1, .int .i64 0], h) :=
 (build_lit' (n := 8) (l := [(0, .int .i64 0), (1, .int .i64 0), (2, .int .i64 0), (3, .int .i64 2), (4, .int .i64 1), (5, .int .i64 2), (6, .int .i64 1), (7, .int .i64 0)]) rfl rfl (by decide) (by decide) (by decide)).trans rfl
set_option maxRecDepth 100000 in
theorem xp2 : pureCall E.P (L E) 10 [lst true [.int .i64 0, .int .i64 0, .int .i64 0, .int .i64 2, .int .i64 1, .int .i64 2, .int .i64 1, .int .i64 0]] = some (lst false (spanR.vals [(0, 0), (0, 2), (1, 2), (1, 0)])) := pureCall_le (evF_L 60) (by kernel_rfl)
theorem lp3 (h : Heap) : buildSliceT (some ⟨3, 1, 8, .int .i64 0, ⟨some false, some 1⟩⟩) false h 8 #[(0, .int .i64 0), (1, .int .i64 0), (2, .int .i64 3), (3, .int .i64 0), (4, .int .i64 3), (5, .int .i64 3), (6, .int .i64 0), (7, .int .i64 3)] = some (lst true [.int .i64 0, .int .i64 0, .int .i64 3, .int .i64 0, .int .i64 3, .int .i64 3, .int .i64 0, .int .i64 3], h) :=
 (build_lit' (n := 8) (l := [(0, .int .i64 0), (1, .int .i64 0), (2, .int .i64 3), (3, .int .i64 0), (4, .int .i64 3), (5, .int .i64 3), (6, .int .i64 0), (7, .int .i64 3)]) rfl rfl (by decide) (by decide) (by decide)).trans rfl
set_option maxRecDepth 100000 in
theorem xp3 : pureCall E.P (L E) 10 [lst true [.int .i64 0, .int .i64 0, .int .i64 3, .int .i64 0, .int .i64 3, .int .i64 3, .int .i64 0, .int .i64 3]] = some (lst false (spanR.vals [(0, 0), (3, 0), (3, 3), (0, 3)])) := pureCall_le (evF_L 60) (by kernel_rfl)
theorem lp4 (h : Heap) : buildSliceT (some ⟨3, 1, 8, .int .i64 0, ⟨some false, some 1⟩⟩) false h 8 #[(0, .int .i64 1), (1, .int .i64 1), (2, .int .i64 1), (3, .int .i64 2), (4, .int .i64 2), (5, .int .i64 2), (6, .int .i64 2), (7, .int .i64 1)] = some (lst true [.int .i64 1, .int .i64 1, .int .i64 1, .int .i64 2, .int .i64 2, .int .i64 2, .int .i64 2, .int .i64 1], h) :=
 (build_lit' (n := 8) (l := [(0, .int .i64 1), (1, .int .i64 1), (2, .int .i64 1), (3, .int .i64 2), (4, .int .i64 2), (5, .int .i64 2), (6, .int .i64 2), (7, .int .i64 1)]) rfl rfl (by decide) (by decide) (by decide)).trans rfl
set_option maxRecDepth 100000 in
theorem xp4 : pureCall E.P (L E) 10 [lst true [.int .i64 1, .int .i64 1, .int .i64 1, .int .i64 2, .int .i64 2, .int .i64 2, .int .i64 2, .int .i64 1]] = some (lst false (spanR.vals [(1, 1), (1, 2), (2, 2), (2, 1)])) := pureCall_le (evF_L 60) (by kernel_rfl)
theorem lp5 (h : Heap) : buildSliceT (some ⟨3, 1, 8, .int .i64 0, ⟨some false, some 1⟩⟩) false h 8 #[(0, .int .i64 0), (1, .int .i64 0), (2, .int .i64 1), (3, .int .i64 0), (4, .int .i64 1), (5, .int .i64 1), (6, .int .i64 0), (7, .int .i64 1)] = some (lst true [.int .i64 0, .int .i64 0, .int .i64 1, .int .i64 0, .int .i64 1, .int .i64 1, .int .i64 0, .int .i64 1], h) :=
 (build_lit' (n := 8) (l := [(0, .int .i64 0), (1, .int .i64 0), (2, .int .i64 1), (3, .int .i64 0), (4, .int .i64 1), (5, .int .i64 1), (6, .int .i64 0), (7, .int .i64 1)]) rfl rfl (by decide) (by decide) (by decide)).trans rfl
set_option maxRecDepth 100000 in
theorem xp5 : pureCall E.P (L E) 10 [lst true [.int .i64 0, .int .i64 0, .int .i64 1, .int .i64 0, .int .i64 1, .int .i64 1, .int .i64 0, .int .i64 1]] = some (lst false (spanR.vals [(0, 0), (1, 0), (1, 1), (0, 1)])) := pureCall_le (evF_L 60) (by kernel_rfl)
theorem lp6 (h : Heap) : buildSliceT (some ⟨3, 1, 8, .int .i64 0, ⟨some false, some 1⟩⟩) false h 8 #[(0, .int .i64 1), (1, .int .i64 1), (2, .int .i64 2), (3, .int .i64 1), (4, .int .i64 2), (5, .int .i64 2), (6, .int .i64 1), (7, .int .i64 2)] = some (lst true [.int .i64 1, .int .i64 1, .int .i64 2, .int .i64 1, .int .i64 2, .int .i64 2, .int .i64 1, .int .i64 2], h) :=
 (build_lit' (n := 8) (l := [(0, .int .i64 1), (1, .int .i64 1), (2, .int .i64 2), (3, .int .i64 1), (4, .int .i64 2), (5, .int .i64 2), (6, .int .i64 1), (7, .int .i64 2)]) rfl rfl (by decide) (by decide) (by decide)).trans rfl
set_option maxRecDepth 100000 in
theorem xp6 : pureCall E.P (L E) 10 [lst true [.int .i64 1, .int .i64 1, .int .i64 2, .int .i64 1, .int .i64 2, .int .i64 2, .int .i64 1, .int .i64 2]] = some (lst false (spanR.vals [(1, 1), (2, 1), (2, 2), (1, 2)])) := pureCall_le (evF_L 60) (by kernel_rfl)
theorem lr1 (h : Heap) : buildSliceT (some ⟨39, 4, 32, .agg ⟨[.int .i64 0, .int .i64 0, .int .i64 0, .int .i64 0]⟩, ⟨some true, some 4⟩⟩) false h 4 #[(0, .agg ⟨[.int .i64 0, .int .i64 0, .int .i64 1, .int .i64 3]⟩), (1, .agg ⟨[.int .i64 1, .int .i64 0, .int .i64 2, .int .i64 1]⟩), (2, .agg ⟨[.int .i64 1, .int .i64 2, .int .i64 2, .int .i64 3]⟩), (3, .agg ⟨[.int .i64 2, .int .i64 0, .int .i64 3, .int .i64 3]⟩)] = some (lst true (rectR.vals [⟨0, 0, 1, 3⟩, ⟨1, 0, 2, 1⟩, ⟨1, 2, 2, 3⟩, ⟨2, 0, 3, 3⟩]), h) :=
 (build_lit' (n := 4) (l := [(0, .agg ⟨[.int .i64 0, .int .i64 0, .int .i64 1, .int .i64 3]⟩), (1, .agg ⟨[.int .i64 1, .int .i64 0, .int .i64 2, .int .i64 1]⟩), (2, .agg ⟨[.int .i64 1, .int .i64 2, .int .i64 2, .int .i64 3]⟩), (3, .agg ⟨[.int .i64 2, .int .i64 0, .int .i64 3, .int .i64 3]⟩)]) rfl rfl (by decide) (by decide) (by decide)).trans rfl
theorem lr2 (h : Heap) : buildSliceT (some ⟨39, 4, 32, .agg ⟨[.int .i64 0, .int .i64 0, .int .i64 0, .int .i64 0]⟩, ⟨some true, some 4⟩⟩) false h 2 #[(0, .agg ⟨[.int .i64 0, .int .i64 0, .int .i64 1, .int .i64 1]⟩), (1, .agg ⟨[.int .i64 1, .int .i64 1, .int .i64 2, .int .i64 2]⟩)] = some (lst true (rectR.vals [⟨0, 0, 1, 1⟩, ⟨1, 1, 2, 2⟩]), h) :=
 (build_lit' (n := 2) (l := [(0, .agg ⟨[.int .i64 0, .int .i64 0, .int .i64 1, .int .i64 1]⟩), (1, .agg ⟨[.int .i64 1, .int .i64 1, .int .i64 2, .int .i64 2]⟩)]) rfl rfl (by decide) (by decide) (by decide)).trans rfl
theorem lr3 (h : Heap) : buildSliceT (some ⟨39, 4, 32, .agg ⟨[.int .i64 0, .int .i64 0, .int .i64 0, .int .i64 0]⟩, ⟨some true, some 4⟩⟩) false h 2 #[(0, .agg ⟨[.int .i64 0, .int .i64 0, .int .i64 1, .int .i64 2]⟩), (1, .agg ⟨[.int .i64 1, .int .i64 0, .int .i64 3, .int .i64 1]⟩)] = some (lst true (rectR.vals [⟨0, 0, 1, 2⟩, ⟨1, 0, 3, 1⟩]), h) :=
 (build_lit' (n := 2) (l := [(0, .agg ⟨[.int .i64 0, .int .i64 0, .int .i64 1, .int .i64 2]⟩), (1, .agg ⟨[.int .i64 1, .int .i64 0, .int .i64 3, .int .i64 1]⟩)]) rfl rfl (by decide) (by decide) (by decide)).trans rfl
set_option maxRecDepth 100000 in
theorem xs3 : pureCall E.P (L E) 15 [lst false (spanR.vals [(0, 0), (3, 0), (3, 3), (0, 3)]), lst false (spanR.vals [(0, 0), (3, 0), (3, 3), (0, 3)])] = some (.bool true) := pureCall_le (evF_L 60) (by kernel_rfl)
set_option maxRecDepth 100000 in
theorem xs4 : pureCall E.P (L E) 15 [lst false (spanR.vals [(1, 1), (1, 2), (2, 2), (2, 1)]), lst false (spanR.vals [(1, 1), (1, 2), (2, 2), (2, 1)])] = some (.bool true) := pureCall_le (evF_L 60) (by kernel_rfl)
set_option maxRecDepth 100000 in
theorem xs5 : pureCall E.P (L E) 15 [lst false (spanR.vals [(0, 0), (1, 0), (1, 1), (0, 1)]), lst false (spanR.vals [(0, 0), (1, 0), (1, 1), (0, 1)])] = some (.bool true) := pureCall_le (evF_L 60) (by kernel_rfl)
set_option maxRecDepth 100000 in
theorem xs6 : pureCall E.P (L E) 15 [lst false (spanR.vals [(1, 1), (2, 1), (2, 2), (1, 2)]), lst false (spanR.vals [(1, 1), (2, 1), (2, 2), (1, 2)])] = some (.bool true) := pureCall_le (evF_L 60) (by kernel_rfl)
theorem xr1 : polyX [(0, 0), (3, 0), (3, 1), (1, 1), (1, 2), (0, 2)] = .ok [⟨0, 0, 1, 2⟩, ⟨1, 0, 3, 1⟩] := by kernel_rfl
theorem xr2 : polyX [(0, 0), (0, 2), (1, 2), (1, 0)] = .error 10 := by kernel_rfl
theorem xa1 : areaP [(0, 0), (3, 0), (3, 1), (1, 1), (1, 2), (0, 2)] = 4 := by kernel_rfl
theorem xg1 : Rg.rightP [(0, 0), (3, 0), (3, 1), (1, 1), (1, 2), (0, 2)] = true := by kernel_rfl
theorem ix_two (A B : Value) (hA : cellsL A = [A]) (hB : cellsL B = [B]) (fA : fitsTT ⟨some false, some 1⟩ A = true) (fB : fitsTT ⟨some false, some 1⟩ B = true) : indexAddrT (.sl 29 ⟨some false, some 1⟩) (lst false [A, B]) (.int .i64 0) = some (cptr A) ∧ indexAddrT (.sl 29 ⟨some false, some 1⟩) (lst false [A, B]) (.int .i64 1) = some (cptr B) := by
 constructor
 ·rw [index_lst]; simp [hA, fA]
 ·rw [index_lst]; simp [hB, fB]
theorem small_spec : pureCall E.P (L E) 4 [] = some (.bool true) := by
 have g1 := pregion_spec false [(0, 0), (3, 0), (3, 1), (1, 1), (1, 2), (0, 2)] (by decide)
 have g2 := pregion_spec false [(0, 0), (0, 2), (1, 2), (1, 0)] (by decide)
 have a1 := parea_spec false [(0, 0), (3, 0), (3, 1), (1, 1), (1, 2), (0, 2)] (by decide)
 have r1 := pright_spec false [(0, 0), (3, 0), (3, 1), (1, 1), (1, 2), (0, 2)] (by decide)
 rw [xr1] at g1
 rw [xr2] at g2
 rw [xa1] at a1
 rw [xg1] at r1
 have c1 := same_rects (some false) (some true) [⟨0, 0, 1, 2⟩, ⟨1, 0, 3, 1⟩] [⟨0, 0, 1, 2⟩, ⟨1, 0, 3, 1⟩] Rec.ok_some Rec.ok_some (by decide)
 rw [decide_eq_true rfl] at c1
 simp only [resL, Rec.o] at g1 g2 c1
 have so : ∀ b l, settled depth (lst b l) = true := fun _ _ => rfl
 have rp : ∀ h b l, reify E.P 8 h (lst b (spanR.vals l)) = some (lst b (spanR.vals l)) := fun _ _ _ => rfl
 have rr : ∀ h b l, reify E.P 8 h (lst b (rectR.vals l)) = some (lst b (rectR.vals l)) := fun _ _ _ => rfl
 obtain ⟨i1, i2⟩ := ix_two (lst false (spanR.vals [(0, 0), (3, 0), (3, 3), (0, 3)])) (lst false (spanR.vals [(1, 1), (1, 2), (2, 2), (2, 1)])) rfl rfl rfl rfl
 obtain ⟨i3, i4⟩ := ix_two (lst false (spanR.vals [(0, 0), (1, 0), (1, 1), (0, 1)])) (lst false (spanR.vals [(1, 1), (2, 1), (2, 2), (1, 2)])) rfl rfl rfl rfl
 have l1 := xo1
 have l2 := xo2
 have q1 := xp1
 have q2 := xp2
 have q3 := xp3
 have q4 := xp4
 have q5 := xp5
 have q6 := xp6
 have s3 := xs3
 have s4 := xs4
 have s5 := xs5
 have s6 := xs6
 rw [pureCall_fn F4 rfl]
 simp -implicitDefEqProofs [r4, p4, lp1, lp2, lp3, lp4, lp5, lp6, so, ret1 m10, q1, q2, q3, q4, q5, q6, ret1 m11, g1, g2, b4_all, lr1, lr2, lr3, ret1 m6, l1, l2, ret0 m12, rr, c1, ret0 m13, rp, a1, ret0 m14, r1, i1, i2, i3, i4, ret0 m15, s3, s4, s5, s6]
end Go.Proofs.Ytcjdpkifooenkaa.Bm
