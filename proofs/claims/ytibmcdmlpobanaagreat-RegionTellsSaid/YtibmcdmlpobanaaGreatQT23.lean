/-
 The reference of regions, plain: sorting by insertion, and the combination of two columns. Conditions: none. No program in sight.
-/
import Derived.Test.YtibmcdmlpobanaaGreatQT22
namespace Go.Proofs.YtibmcdmlpobanaaGreat.Bm
open Go Go.RowKit
open Rg (Rect Slab runs runsF outT emit ofL stripsL edgesX colC)
theorem ret3 {E : Env} {C : Callee} {lo : Nat} {h : Heap} {f : FuncId} (hm : E.mode f = 3) {args : List Value} : retCall E C lo false f args h = (C f args h lo).map fun r => (r.1, trim h.length [r.1] r.2) := by
 unfold retCall; rw [hm]; rfl
theorem trim_no {n : Nat} {v : Value} {h : Heap} (hv : below depth n v = false) : trim n [v] h = h := by
 unfold trim
 split
 ·rfl
 ·rw [if_neg]; simp [hv]
theorem frzAll_row {h h' : Heap} {lo : Nat} {v u : Value} (hf : freezeV E.P depth lo h v = some (u, h')) : frzAll E.P lo [v] h = some ([u], h') := by
 unfold frzAll
 simp [List.foldlM, hf]
theorem strips_len (l : List Rect) : (stripsL l).length ≤ 2 * l.length := by
 have h1 := Rg.edgesX_len l
 have h2 := Rg.stripL_len (colC l) (edgesX l)
 unfold stripsL
 omega
theorem stripL_mem (c : Int → List (Int × Int)) : ∀ (xs : List Int) s, s ∈ Rg.stripL c xs → s.col = c s.x0
 | [], s, h => by cases h
 | [_], s, h => by cases h
 | a :: b :: xs, s, h => by
  rcases List.mem_cons.1 h with rfl | h
  ·rfl
  ·exact stripL_mem c (b :: xs) s h
theorem strips_col (l : List Rect) : ∀ s ∈ stripsL l, s.col.length ≤ l.length := fun s hs => by
 rw [stripL_mem _ _ s hs]
 exact Rg.colC_len l _
theorem lit_list1 (h : Heap) (k : Option Bool) (l : List Rect) : buildSliceT (some ⟨22, 1, 24, .slice none 0 0, ⟨some false, some 1⟩⟩) false h 1 #[(0, rectR.o k l)] = some (lst true [rectR.o k l], h) := by
 cases k <;> exact (build_lit' (n := 1) (l := [(0, _)]) rfl rfl (by decide) (by decide) (by decide)).trans rfl
theorem lit_list2 (h : Heap) (k m : Option Bool) (l r : List Rect) : buildSliceT (some ⟨22, 1, 24, .slice none 0 0, ⟨some false, some 1⟩⟩) false h 2 #[(0, rectR.o k l), (1, rectR.o m r)] = some (lst true [rectR.o k l, rectR.o m r], h) := by
 cases k <;> cases m <;> exact (build_lit' (n := 2) (l := [(0, _), (1, _)]) rfl rfl (by decide) (by decide) (by decide)).trans rfl
theorem strips_one (k : Option Bool) (l : List Rect) (hk : Rec.Ok k l) (hl : l.length ≤ 1000) (h : Heap) (lo : Nat) (hlo : lo ≤ h.length) (hb : ∀ n, h.length ≤ n → h.all (belowO n) = true) :
  ∃ q, retCall E (L E) lo false 16 [lst true [rectR.o k l]] h = some (slabR.sl (h.length + 1) (stripsL l), h ++ [intR.row 3 q, slabR.row 56 (stripsL l)]) := by
 obtain ⟨q, hq⟩ := strips_spec true [(k, l)] (fun p hp => by simp at hp; subst hp; exact hk) (by show 1 ≤ 1000; omega) (by show l.length + 0 ≤ 1000; omega) (by cases k <;> rfl) h lo hlo hb
 refine ⟨q, ?_⟩
 have e : allP [(k, l)] = l := List.append_nil l
 rw [e] at hq
 rw [ret3 m16]
 show ((L E 16 [lst true [rectR.o k l]] h lo).map _) = _
 rw [show [rectR.o k l] = [(k, l)].map (fun p => rectR.o p.1 p.2) from rfl, hq]
 show some (_, trim _ _ _) = _
 rw [trim_no]
 have hn : ¬ (h.length + 1 < h.length) := by omega
 exact decide_eq_false hn
theorem strips_two (k m : Option Bool) (l r : List Rect) (hk : Rec.Ok k l) (hm : Rec.Ok m r) (hl : l.length + r.length ≤ 1000) (h : Heap) (lo : Nat) (hlo : lo ≤ h.length) (hb : ∀ n, h.length ≤ n → h.all (belowO n) = true) :
  ∃ q, retCall E (L E) lo false 16 [lst true [rectR.o k l, rectR.o m r]] h = some (slabR.sl (h.length + 1) (stripsL (l ++ r)), h ++ [intR.row 3 q, slabR.row 56 (stripsL (l ++ r))]) := by
 obtain ⟨q, hq⟩ := strips_spec true [(k, l), (m, r)] (fun p hp => by simp at hp; rcases hp with rfl | rfl <;> assumption) (by show 2 ≤ 1000; omega) (by show l.length + (r.length + 0) ≤ 1000; omega) (by cases k <;> cases m <;> rfl) h lo hlo hb
 refine ⟨q, ?_⟩
 have e : allP [(k, l), (m, r)] = l ++ r := by show l ++ (r ++ []) = _; rw [List.append_nil]
 rw [e] at hq
 rw [ret3 m16]
 show ((L E 16 [lst true [rectR.o k l, rectR.o m r]] h lo).map _) = _
 rw [show [rectR.o k l, rectR.o m r] = [(k, l), (m, r)].map (fun p => rectR.o p.1 p.2) from rfl, hq]
 show some (_, trim _ _ _) = _
 rw [trim_no]
 have hn : ¬ (h.length + 1 < h.length) := by omega
 exact decide_eq_false hn
theorem write_row {h : Heap} {b lo : Nat} (T : List Slab) (hob : h[b]? = some (slabR.row 56 T)) (hlo : lo ≤ b) (hT : T.length ≤ 10000) (hc : ∀ s ∈ T, s.col.length ≤ 10000) :
  ∃ h', retCall E (L E) lo false 15 [slabR.sl b T] h = some (lst false (rectR.vals (outT (runsF T))), h') := by
 have hf := Rec.freeze_row (R := slabR) hob s61 a61 hlo
 refine ⟨if T.length = 0 then h else h.set b .dead, ?_⟩
 rw [ret4 m15, frzAll_row hf]
 show ((pureCall E.P (L E) 15 [lst false (slabR.vals T)]).map _) = _
 rw [write_spec T hT hc]
 rfl
def ofR (l : List Rect) : Except Int (List Rect) := if l.all okR then if 400 < l.length then .error 6 else if (ofL l).length ≤ 200 then .ok (ofL l) else .error 6 else .error 1
def resL : Except Int (List Rect) → Value
 | .error e => .tuple ⟨[.slice none 0 0, .int .i64 e]⟩
 | .ok l => .tuple ⟨[lst false (rectR.vals l), .int .i64 0]⟩
theorem of_spec (k : Option Bool) (l : List Rect) (hk : Rec.Ok k l) (hl : l.length ≤ 1000000) : pureCall E.P (L E) 5 [rectR.o k l] = some (resL (ofR l)) := by
 rw [pureCall_fn F5 rfl]
 simp -implicitDefEqProofs [r5, padS, Rec.o_len hk]
 rw [LL_for (γ := Unit) l () (fun i _ => [(8, .int .i64 i)]) (fun _ _ => []) (fun _ rest _ => if rest.all okR then (.exit 0, [(8, undef)], []) else (.ret, [(2, .slice none 0 0), (3, .int .i64 1), (8, undef)], [])) (fun _ _ => True) (by omega) trivial]
 ·unfold ofR
  cases ha : l.all okR
  ·simp -implicitDefEqProofs [k5_2, resL]
  ·by_cases h4 : 400 < l.length
   ·have h4i : 400 < (l.length : Int) := by omega
    simp -implicitDefEqProofs [k5_2, resL, h4, h4i, Rec.o_len hk]
   ·have h4' : ¬ (400 < (l.length : Int)) := by omega
    obtain ⟨q, hs⟩ := strips_one k l hk (by omega) [] 0 (Nat.le_refl _) fun _ _ => rfl
    obtain ⟨h', hw⟩ := write_row (h := [intR.row 3 q, slabR.row 56 (stripsL l)]) (b := 1) (lo := 0) (stripsL l) rfl (Nat.zero_le _) (by have := strips_len l; omega) (fun s hs => by have := strips_col l s hs; omega)
    have e : outT (runsF (stripsL l)) = ofL l := rfl
    rw [e] at hw
    have hlim := limited_spec false (ofL l)
    by_cases h2 : (ofL l).length ≤ 200 <;> simp -implicitDefEqProofs [k5_2, resL, h4, h4', Rec.o_len hk, lit_list1, hs, hw, ret1s m14, hlim, h2]
 ·simp -implicitDefEqProofs [k5_2]
 ·rfl
 ·intro nx i c hi _
  simp -implicitDefEqProofs [r5_2, k5_2, hi, trim_le]
 ·intro nx i r rest c hi hv hd hw _ ih
  have ih := ih () trivial
  have ixi := Rec.o_index (R := rectR) (t := 30) (kk := .i64) (s := 4) rfl hk hi
  rw [hv] at ixi
  have hr := right_s r
  cases h : okR r
  ·simp -implicitDefEqProofs [r5_2, k5_2, hi, ixi, rect_val, ret0 m13, hr, h, trim_cut, Rec.o_bel]
  ·simp -implicitDefEqProofs [k5_2] at ih
   simp -implicitDefEqProofs [r5_2, k5_2, hi, ixi, rect_val, ret0 m13, hr, h, hw, trim_cut, Rec.o_bel]
   exact ih
end Go.Proofs.YtibmcdmlpobanaaGreat.Bm
namespace Go.Proofs.YtibmcdmlpobanaaGreat.Bm
open Go Go.RowKit
open Rg (Rect Slab runs runsF outT emit ofL stripsL edgesX colC opL opC mergeC keepS addS sortU ends stripL)
def regB (l : List Rect) : Bool := match ofR l with
 | .ok m => decide (m = l)
 | .error _ => false
theorem right2_spec (k : Option Bool) (l : List Rect) (hk : Rec.Ok k l) (hl : l.length ≤ 1000000) : pureCall E.P (L E) 12 [rectR.o k l] = some (.bool (regB l)) := by
 have ho := of_spec k l hk hl
 have hf : freezeV E.P depth 0 [] (rectR.o k l) = some (rectR.o k l, []) := frz_set8 Rec.o_set Rec.o_one
 have hr : retCall E (L E) 0 false 5 [rectR.o k l] [] = some (resL (ofR l), []) := by
  rw [ret4 m5, frzAll_row hf]
  show ((pureCall E.P (L E) 5 [rectR.o k l]).map _) = _
  rw [ho]; rfl
 rw [pureCall_fn F12 rfl]
 unfold regB
 have hle : ∀ m, ofR l = .ok m → m.length ≤ 200 := fun m h => by
  unfold ofR at h
  split at h
  ·split at h
   ·cases h
   ·split at h
    ·cases h; assumption
    ·cases h
  ·cases h
 have hne : ∀ e, ofR l = .error e → e = 1 ∨ e = 6 := fun m h => by
  unfold ofR at h
  split at h
  ·split at h
   ·cases h; exact .inr rfl
   ·split at h
    ·cases h
    ·cases h; exact .inr rfl
  ·cases h; exact .inl rfl
 cases h : ofR l with
 | error e =>
  rw [h] at hr
  have e0 : ¬ (e = 0) := by have := hne e h; omega
  simp -implicitDefEqProofs [r12, p12, hr, resL, e0]
 | ok m =>
  rw [h] at hr
  have he := equal_rects (some false) k m l Rec.ok_some hk (by have := hle m h; omega)
  rw [show rectR.o (some false) m = lst false (rectR.vals m) from rfl] at he
  simp -implicitDefEqProofs [r12, p12, hr, resL, ret0 m41, Rec.o_reify, he]
theorem ofL_ok' {l : List Rect} (h : l.all okR = true) : ∀ r ∈ l, r.y0 < r.y1 := fun r hr => by
 have := okR_iff.1 (List.all_eq_true.1 h r hr)
 unfold Rect.inBox at this
 omega
theorem regB_iff {l : List Rect} : regB l = true ↔ l.all okR = true ∧ l.length ≤ 200 ∧ Rg.Form l := by
 unfold regB ofR
 by_cases ha : l.all okR = true
 ·have hy := ofL_ok' ha
  rw [if_pos ha]
  by_cases h4 : 400 < l.length
  ·rw [if_pos h4]; simp; omega
  ·rw [if_neg h4]
   by_cases h2 : (ofL l).length ≤ 200
   ·rw [if_pos h2]
    simp only [decide_eq_true_eq]
    constructor
    ·intro e
     exact ⟨ha, e ▸ h2, e ▸ (Rg.ofL_ok hy).1⟩
    ·intro ⟨_, _, hf⟩
     exact (Rg.ofL_ok hy).1.ext hf (Rg.ofL_ok hy).2
   ·rw [if_neg h2]
    simp only [Bool.false_eq_true, false_iff]
    rintro ⟨_, hl, hf⟩
    rw [(Rg.ofL_ok hy).1.ext hf (Rg.ofL_ok hy).2] at h2
    omega
 ·rw [if_neg ha]; simp [ha]
def limR (l : List Rect) : Except Int (List Rect) := if l.length ≤ 200 then .ok l else .error 6
def opR (f : Bool → Bool → Bool) (a b : List Rect) : Except Int (List Rect) := if regB a && regB b then limR (opL f a b) else .error 1
theorem freeze_slab {h : Heap} {b lo : Nat} (T : List Slab) (hob : h[b]? = some (slabR.row 56 T)) (hlo : lo ≤ b) :
  ∃ g, freezeV E.P depth lo h (slabR.sl b T) = some (lst false (slabR.vals T), g) ∧ g.length = h.length ∧ (∀ j, j ≠ b → g[j]? = h[j]?) ∧ ∀ n, h.all (belowO n) = true → g.all (belowO n) = true := by
 refine ⟨_, Rec.freeze_row (R := slabR) hob s61 a61 hlo, ?_, fun j hj => ?_, fun n hn => ?_⟩
 ·split
  ·rfl
  ·exact List.length_set ..
 ·split
  ·rfl
  ·exact List.getElem?_set_ne (Ne.symm hj)
 ·split
  ·exact hn
  ·rw [List.all_eq_true] at hn ⊢
   intro o ho
   rcases List.mem_or_eq_of_mem_set ho with h1 | h1
   ·exact hn o h1
   ·subst h1; rfl
theorem atO_len {T : List Slab} {n : Nat} (h : ∀ s ∈ T, s.col.length ≤ n) (x : Int) : (colL (atO T x)).length ≤ n := by
 unfold atO
 split
 ·rename_i hlt
  split
  ·rw [List.getD_eq_getElem?_getD, List.getElem?_eq_getElem hlt]
   exact h _ (List.getElem_mem hlt)
  ·exact Nat.zero_le _
 ·exact Nat.zero_le _
theorem addS_len (o : List (Int × Int)) (a b : Int) : (addS o a b).length ≤ o.length + 1 := by
 unfold addS
 split
 ·split
  ·simp
  ·simp
 ·simp
theorem keepS_len (k : Int → Bool) : ∀ (ys : List Int) (o : List (Int × Int)), (keepS k o ys).length ≤ o.length + ys.length
 | [], o => by simp [keepS]
 | [a], o => by simp [keepS]
 | a :: b :: ys, o => by
  unfold keepS
  have h1 := keepS_len k (b :: ys) (if k a then addS o a b else o)
  have h2 : (if k a then addS o a b else o).length ≤ o.length + 1 := by
   split
   ·exact addS_len o a b
   ·omega
  have h3 : (a :: b :: ys).length = (b :: ys).length + 1 := rfl
  omega
theorem sortU_len (l : List Int) : (sortU l).length ≤ l.length := by
 rw [← Rg.comp_sort]
 have h := compF_len (sortI l)
 have h2 := sortI_len l
 unfold compF at h
 rw [List.length_append] at h
 omega
theorem mergeC_len (f : Bool → Bool → Bool) (a b : List (Int × Int)) : (mergeC f a b).length ≤ 2 * (a.length + b.length) := by
 unfold mergeC
 have h1 := keepS_len (fun y => f (inB a y) (inB b y)) (sortU (ends (a ++ b))) []
 have h2 := sortU_len (ends (a ++ b))
 rw [Rg.ends_len, List.length_append] at h2
 have h3 : ([] : List (Int × Int)).length = 0 := rfl
 omega
theorem opR_map (f : Bool → Bool → Bool) (a b : List Rect) : (stripsL (a ++ b)).map (fun s => (⟨s.x0, s.x1, opC f a b s.x0⟩ : Slab)) = stripL (opC f a b) (edgesX (a ++ b)) :=
 Rg.stripL_map _ _ (fun s => opC f a b s.x0) _ fun _ _ => rfl
theorem app3 {h : Heap} {a b c : AObj} : (h ++ [a, b]) ++ [c] = h ++ [a, b, c] := by rw [List.append_assoc]; rfl
theorem get31 {h : Heap} {a b c : AObj} : (h ++ [a, b, c])[h.length + 1]? = some b := by
 rw [List.getElem?_append_right (by omega), Nat.add_sub_cancel_left]; rfl
theorem get32 {h : Heap} {a b c : AObj} : (h ++ [a, b, c])[h.length + 2]? = some c := by
 rw [List.getElem?_append_right (by omega), Nat.add_sub_cancel_left]; rfl
theorem set31 {h : Heap} {a b c d : AObj} : (h ++ [a, b, c]).set (h.length + 1) d = h ++ [a, d, c] := by
 rw [List.set_append_right _ _ (by omega), Nat.add_sub_cancel_left]; rfl
theorem set32 {h : Heap} {a b c d : AObj} : (h ++ [a, b, c]).set (h.length + 2) d = h ++ [a, b, d] := by
 rw [List.set_append_right _ _ (by omega), Nat.add_sub_cancel_left]; rfl
theorem take3 {h : Heap} {a b c : AObj} : (h ++ [a, b, c]).take (h.length + 2) = h ++ [a, b] := by
 rw [List.take_append, List.take_of_length_le (by omega), Nat.add_sub_cancel_left]; rfl
theorem combine_spec (k m : Option Bool) (a b : List Rect) (q : FuncId) (f : Bool → Bool → Bool) (hk : Rec.Ok k a) (hm : Rec.Ok m b) (hq0 : E.mode q = 0) (hq : ∀ x y, pureCall E.P (L E) q [.bool x, .bool y] = some (.bool (f x y))) (ha : a.length ≤ 1000000) (hb : b.length ≤ 1000000) :
  pureCall E.P (L E) 34 [rectR.o k a, rectR.o m b, .func (.func q) ⟨[]⟩ ⟨[]⟩] = some (resL (opR f a b)) := by
 have ra := right2_spec k a hk ha
 have rb := right2_spec m b hm hb
 rw [pureCall_fn F34 rfl]
 unfold opR
 cases h1 : regB a
 ·simp -implicitDefEqProofs [r34, p34, ret0 m12, Rec.o_reify, ra, h1, resL]
 cases h2 : regB b
 ·simp -implicitDefEqProofs [r34, p34, ret0 m12, Rec.o_reify, ra, rb, h1, h2, resL]
 have la := (regB_iff.1 h1).2.1
 have lb := (regB_iff.1 h2).2.1
 obtain ⟨q1, e1⟩ := strips_one k a hk (by omega) [] 0 (Nat.le_refl _) fun _ _ => rfl
 have bel1 : ∀ (q : List Int) (T : List Slab) n, [intR.row 3 q, slabR.row 56 T].all (belowO n) = true := fun q T n => by
  simp only [List.all_cons, List.all_nil, Rec.row_bel, Bool.and_self]
 obtain ⟨q2, e2⟩ := strips_one m b hm (by omega) [intR.row 3 q1, slabR.row 56 (stripsL a)] 0 (Nat.zero_le _) fun n _ => bel1 _ _ n
 obtain ⟨g1, f1, l1, n1, u1⟩ := freeze_slab (h := [intR.row 3 q1, slabR.row 56 (stripsL a), intR.row 3 q2, slabR.row 56 (stripsL b)]) (b := 1) (lo := 0) (stripsL a) rfl (Nat.zero_le _)
 obtain ⟨g2, f2, l2, n2, u2⟩ := freeze_slab (h := g1) (b := 3) (lo := 0) (stripsL b) (by rw [n1 3 (by decide)]; rfl) (Nat.zero_le _)
 have bel2 : ∀ n, g2.all (belowO n) = true := fun n => u2 n (u1 n (by simp only [List.all_cons, List.all_nil, Rec.row_bel, Bool.and_self]))
 obtain ⟨q3, e3⟩ := strips_two k m a b hk hm (by omega) g2 0 (Nat.zero_le _) fun n _ => bel2 n
 clear n1 u1 n2 u2
 have hg : g2.length = 4 := by rw [l2, l1]; rfl
 have mp := opR_map f a b
 have hT := strips_len (a ++ b)
 rw [List.length_append] at hT
 have hTa := strips_len a
 have hTb := strips_len b
 have hca := fun x => atO_len (strips_col a) x
 have hcb := fun x => atO_len (strips_col b) x
 simp only [List.nil_append, List.cons_append, List.length_cons, List.length_nil, Nat.zero_add, Nat.reduceAdd] at e1 e2 e3
 simp -implicitDefEqProofs [r34, p34, ret0 m12, Rec.o_reify, ra, rb, h1, h2, lit_list1, lit_list2, e1, e2, e3, prep_frz, f1, f2, Rec.sl_len]
 generalize hTT : stripsL (a ++ b) = T at *
 have hT' : T.length ≤ 800 := by omega
 clear e1 e2 e3 f1 f2
 rw [LL_for (γ := List Slab) T [] (fun i _ => [(33, .int .i64 i)]) (fun i P => g2 ++ [intR.row 3 q3, slabR.row 56 (P ++ T.drop i)])
  (fun _ rest P => (.exit 0, [(33, undef)], g2 ++ [intR.row 3 q3, slabR.row 56 (P ++ rest.map (fun s => (⟨s.x0, s.x1, opC f a b s.x0⟩ : Slab)))])) (fun i P => P.length = i) (by omega) rfl]
 ·rw [List.nil_append, mp]
  have hlen : (stripL (opC f a b) (edgesX (a ++ b))).length = T.length := by rw [← mp, List.length_map]
  have esl : slabR.sl (g2.length + 1) T = slabR.sl (g2.length + 1) (stripL (opC f a b) (edgesX (a ++ b))) := slab_sl_len hlen.symm
  obtain ⟨h', hw⟩ := write_row (h := g2 ++ [intR.row 3 q3, slabR.row 56 (stripL (opC f a b) (edgesX (a ++ b)))]) (b := g2.length + 1) (lo := 0) (stripL (opC f a b) (edgesX (a ++ b))) end2 (Nat.zero_le _) (by omega) (fun s hs => by
   rw [stripL_mem _ _ s hs]
   have := mergeC_len f (colL (atO (stripsL a) s.x0)) (colL (atO (stripsL b) s.x0))
   have := hca s.x0
   have := hcb s.x0
   unfold opC; omega)
  rw [← esl] at hw
  have eo : outT (runsF (stripL (opC f a b) (edgesX (a ++ b)))) = opL f a b := rfl
  rw [eo] at hw
  have hlim := limited_spec false (opL f a b)
  unfold limR
  by_cases h2 : (opL f a b).length ≤ 200 <;> simp -implicitDefEqProofs [k34_6, resL, hw, ret1s m14, hlim, h2]
 ·simp -implicitDefEqProofs [k34_6]
 ·rfl
 ·intro nx i P hi hP
  simp -implicitDefEqProofs [r34_6, k34_6, hi, trim_le, List.drop_of_length_le]
 ·intro nx i s rest P hi hv hd hw hP ih
  have hil : i < (P ++ T.drop i).length := by rw [List.length_append, List.length_drop]; omega
  have hlT : T.length = (P ++ T.drop i).length := by rw [List.length_append, List.length_drop]; omega
  have hr : T.drop (i + 1) = rest := by rw [← List.drop_drop, hd]; rfl
  have el : slabR.sl (g2.length + 1) T = slabR.sl (g2.length + 1) (P ++ T.drop i) := slab_sl_len hlT
  have eg : (P ++ T.drop i)[i] = s := by
   rw [List.getElem_append_right (by omega)]
   simp only [hP, Nat.sub_self, List.getElem_drop, Nat.add_zero, hv]
  have es : (P ++ T.drop i).set i ⟨s.x0, s.x1, opC f a b s.x0⟩ = P ++ [⟨s.x0, s.x1, opC f a b s.x0⟩] ++ T.drop (i + 1) := by
   rw [List.set_append_right _ _ (by omega), hP, Nat.sub_self, hd, hr, List.append_assoc]; rfl
  have ih := ih (P ++ [⟨s.x0, s.x1, opC f a b s.x0⟩]) (by simp; omega)
  have ix := Rec.index_row (R := slabR) (h0 := 3) (t := 56) (g := some true) (b := g2.length + 1) (l := P ++ T.drop i) (i := i) (k := .i64) rfl hil
  rw [← el] at ix
  have ld := Rec.load_row (R := slabR) (h := g2 ++ [intR.row 3 q3, slabR.row 56 (P ++ T.drop i)]) (b := g2.length + 1) (n := 3) (t := 56) (l := P ++ T.drop i) (i := i) rfl end2 hil
  rw [eg, slab_val] at ld
  have fd := Rec.field_row (R := slabR) (b := g2.length + 1) (n := 0) (f := 2) (l := P ++ T.drop i) (i := i) (k := ⟨some true, some 3⟩) (g := some false)
  have st := fun q => Rec.store_cell (R := slabR) (h := g2 ++ [intR.row 3 q3, slabR.row 56 (P ++ T.drop i), q]) (b := g2.length + 1) (j := 2) (lo := 0) (t := 56) (l := P ++ T.drop i) (i := i) (v := colV (opC f a b s.x0)) (a := ⟨s.x0, s.x1, opC f a b s.x0⟩) rfl get31 (Nat.zero_le _) hil (by decide) (by rw [eg]; rfl)
  simp only [es, set31] at st
  have ca := at_spec (stripsL a) s.x0 (by omega)
  have cb := at_spec (stripsL b) s.x0 (by omega)
  have cm := merge_spec (atO (stripsL a) s.x0) (atO (stripsL b) s.x0) q f hq0 hq (by have := hca s.x0; omega) (by have := hcb s.x0; omega)
  have so1 : settled depth (lst false (slabR.vals (stripsL a))) = true := rfl
  have so2 : settled depth (lst false (slabR.vals (stripsL b))) = true := rfl
  have so3 : ∀ z, settled depth (.int .i64 z) = true := fun _ => rfl
  have sb1 : ∀ d, below (d + 1) (g2.length + 2) (slabR.sl 1 (stripsL a)) = true := fun d => Rec.sl_bel (by omega)
  have sb3 : ∀ d, below (d + 1) (g2.length + 2) (slabR.sl 3 (stripsL b)) = true := fun d => Rec.sl_bel (by omega)
  have so5 : ∀ c, settled depth (colX c) = true := fun c => colX_set c (n := 7)
  have so4 : settled depth (.func (.func q) ⟨[]⟩ ⟨[]⟩) = true := rfl
  have b2 := bel2 (g2.length + 2)
  have eR : P ++ (s :: rest).map (fun s => (⟨s.x0, s.x1, opC f a b s.x0⟩ : Slab)) = P ++ [⟨s.x0, s.x1, opC f a b s.x0⟩] ++ rest.map (fun s => (⟨s.x0, s.x1, opC f a b s.x0⟩ : Slab)) := by
   rw [List.map_cons, List.append_assoc]; rfl
  rw [eR]
  change pureCall _ _ _ _ = some (colV (opC f a b s.x0)) at cm
  simp -implicitDefEqProofs [k34_6, -List.append_assoc] at ih
  simp -implicitDefEqProofs [r34_6, k34_6, hi, ix, ld, fd, st, app3, get32, set32, take3, ret1 m61, ret1 m60, so1, so2, so3, so4, so5, ca, cb, cm, hw, trim_cut, Rec.sl_bel, Rec.row_bel, Rec.o_bel, b2, sb1, sb3, -List.append_assoc, -List.all_eq_true]
  exact ih
end Go.Proofs.YtibmcdmlpobanaaGreat.Bm
namespace Go.Proofs.YtibmcdmlpobanaaGreat.Bm
open Go Go.RowKit
open Rg (Rect areaL cell)
def orF (a b : Bool) : Bool := a || b
def andF (a b : Bool) : Bool := a && b
def subF (a b : Bool) : Bool := a && !b
theorem union2_spec (k m : Option Bool) (a b : List Rect) (hk : Rec.Ok k a) (hm : Rec.Ok m b) (ha : a.length ≤ 1000000) (hb : b.length ≤ 1000000) :
  pureCall E.P (L E) 19 [rectR.o k a, rectR.o m b] = some (resL (opR orF a b)) := by
 have key := combine_spec k m a b 51 orF hk hm rfl union_spec ha hb
 have so : ∀ k l, settled depth (rectR.o k l) = true := fun k l => Rec.o_set
 have so4 : settled depth (.func (.func 51) ⟨[]⟩ ⟨[]⟩) = true := rfl
 rw [pureCall_fn F19 rfl]
 cases h : opR orF a b <;> rw [h] at key <;> simp -implicitDefEqProofs [r19, padS, ret1 m34, so, so4, key, resL]
theorem common2_spec (k m : Option Bool) (a b : List Rect) (hk : Rec.Ok k a) (hm : Rec.Ok m b) (ha : a.length ≤ 1000000) (hb : b.length ≤ 1000000) :
  pureCall E.P (L E) 21 [rectR.o k a, rectR.o m b] = some (resL (opR andF a b)) := by
 have key := combine_spec k m a b 53 andF hk hm rfl common_spec ha hb
 have so : ∀ k l, settled depth (rectR.o k l) = true := fun k l => Rec.o_set
 have so4 : settled depth (.func (.func 53) ⟨[]⟩ ⟨[]⟩) = true := rfl
 rw [pureCall_fn F21 rfl]
 cases h : opR andF a b <;> rw [h] at key <;> simp -implicitDefEqProofs [r21, padS, ret1 m34, so, so4, key, resL]
theorem minus2_spec (k m : Option Bool) (a b : List Rect) (hk : Rec.Ok k a) (hm : Rec.Ok m b) (ha : a.length ≤ 1000000) (hb : b.length ≤ 1000000) :
  pureCall E.P (L E) 9 [rectR.o k a, rectR.o m b] = some (resL (opR subF a b)) := by
 have key := combine_spec k m a b 35 subF hk hm rfl minus_spec ha hb
 have so : ∀ k l, settled depth (rectR.o k l) = true := fun k l => Rec.o_set
 have so4 : settled depth (.func (.func 35) ⟨[]⟩ ⟨[]⟩) = true := rfl
 rw [pureCall_fn F9 rfl]
 cases h : opR subF a b <;> rw [h] at key <;> simp -implicitDefEqProofs [r9, padS, ret1 m34, so, so4, key, resL]
theorem area_s (r : Rect) (h : okR r = true) : pureCall E.P (L E) 40 [.agg ⟨[.int .i64 r.x0, .int .i64 r.y0, .int .i64 r.x1, .int .i64 r.y1]⟩] = some (.int .i64 r.area) := area_spec r h
theorem area2_spec (k : Option Bool) (l : List Rect) (hk : Rec.Ok k l) (hl : l.length ≤ 1000000) : pureCall E.P (L E) 11 [rectR.o k l] = some (.int .i64 (if regB l then areaL l else 0)) := by
 have hr := right2_spec k l hk hl
 rw [pureCall_fn F11 rfl]
 cases h : regB l
 ·simp -implicitDefEqProofs [r11, p11, ret0 m12, Rec.o_reify, hr, h]
 ·obtain ⟨h1, h2, _⟩ := regB_iff.1 h
  have hok : ∀ r ∈ l, okR r = true := List.all_eq_true.1 h1
  simp -implicitDefEqProofs [r11, p11, ret0 m12, Rec.o_reify, hr, h, Rec.o_len hk]
  rw [LL_for (γ := Int) l 0 (fun i n => [(3, .int .i64 n), (11, .int .i64 i)]) (fun _ _ => []) (fun _ rest n => (.exit 0, [(3, .int .i64 (n + areaL rest)), (11, undef)], [])) (fun i n => 0 ≤ n ∧ n ≤ i * 1099511627776) (by omega) ⟨Int.le_refl _, by omega⟩]
  ·simp -implicitDefEqProofs [k11_5]
  ·simp -implicitDefEqProofs [k11_5]
  ·rfl
  ·intro nx i c hi _
   simp -implicitDefEqProofs [r11_5, k11_5, hi, Rec.o_len hk, trim_le, areaL]
  ·intro nx i r rest n hi hv hd hw hn ih
   have hrr := hok r (by rw [← hv]; exact List.getElem_mem hi)
   have hb := area_bound hrr
   have ixi := Rec.o_index (R := rectR) (t := 30) (kk := .i64) (s := 4) rfl hk hi
   rw [hv] at ixi
   have ar := area_s r hrr
   have w1 : IntKind.i64.wrap (n + r.area) = n + r.area := wrap64 (by omega) (by omega)
   have ih := ih (n + r.area) ⟨by omega, by push_cast; omega⟩
   have e : n + areaL (r :: rest) = n + r.area + areaL rest := by show n + (r.area + areaL rest) = _; omega
   rw [e]
   simp -implicitDefEqProofs [k11_5] at ih
   simp -implicitDefEqProofs [r11_5, k11_5, hi, ixi, Rec.o_len hk, rect_val, ret0 m40, ar, w1, hw, trim_cut, Rec.o_bel]
   exact ih
def firstP (p : Rect → Bool) (l : List Rect) : Nat → Int
 | i => match l with
  | [] => -1
  | r :: l => if p r then i else firstP p l (i + 1)
theorem firstP_nonneg (p : Rect → Bool) : ∀ (l : List Rect) (i : Nat), decide (0 ≤ firstP p l i) = l.any p
 | [], i => rfl
 | r :: l, i => by
  show decide (0 ≤ if p r then (i : Int) else firstP p l (i + 1)) = (p r || l.any p)
  cases h : p r
  ·simpa using firstP_nonneg p l (i + 1)
  ·simp
theorem firstP_none (p : Rect → Bool) : ∀ (l : List Rect) (i : Nat), l.any p = false → firstP p l i = -1
 | [], i, _ => rfl
 | r :: l, i, h => by
  rw [List.any_cons, Bool.or_eq_false_iff] at h
  show (if p r then (i : Int) else firstP p l (i + 1)) = -1
  rw [h.1]
  exact firstP_none p l (i + 1) h.2
def hasO (r : Rect) (x y : Int) : Bool := okR r && r.has x y
theorem hasO_spec (r : Rect) (x y : Int) : pureCall E.P (L E) 59 [rectR.val r, .int .i64 x, .int .i64 y] = some (.bool (hasO r x y)) := by
 unfold hasO
 cases h : okR r
 ·rw [pureCall_fn F59 rfl]
  simp -implicitDefEqProofs [r59, padS, rect_val, ret0 m64, checked_s, h, zeroR]
  by_cases h1 : 0 ≤ x
  ·have h2 : ¬ (x < 0) := by omega
   simp -implicitDefEqProofs [h1, h2]
  ·simp -implicitDefEqProofs [h1]
 ·rw [has_spec r x y h]; rfl
theorem hasO1_spec (r : Rect) (x y : Int) : pureCall E.P (L E) 58 [rectR.val r, cptr (.int .i64 x), cptr (.int .i64 y)] = some (.bool (hasO r x y)) := by
 have key := hasO_spec r x y
 rw [rect_val] at key
 rw [pureCall_fn F58 rfl]
 simp -implicitDefEqProofs [r58, padS, rect_val, ret0 m59, key]
theorem index_spec (k : Option Bool) (l : List Rect) (x y : Int) (hk : Rec.Ok k l) (hl : l.length ≤ 1000000) : L E 62 [rectR.o k l, .func (.func 58) ⟨[]⟩ ⟨[cptr (.int .i64 x), cptr (.int .i64 y)]⟩] [] 0 = some (.int .i64 (firstP (fun r => hasO r x y) l 0), []) := by
 rw [L_fn F62 rfl]
 simp -implicitDefEqProofs [r62, padS, Rec.o_len hk]
 rw [LL_for (γ := Unit) l () (fun i _ => [(8, .int .i64 i)]) (fun _ _ => []) (fun i rest _ => if rest.any (fun r => hasO r x y) then (.ret, [(4, .int .i64 (firstP (fun r => hasO r x y) rest i)), (8, undef)], []) else (.exit 0, [(8, undef)], [])) (fun _ _ => True) (by omega) trivial]
 ·have hf := firstP_nonneg (fun r => hasO r x y) l 0
  cases h : l.any (fun r => hasO r x y)
  ·have hm := firstP_none (fun r => hasO r x y) l 0 h
   simp -implicitDefEqProofs [k62_2, hm]
  ·simp -implicitDefEqProofs [k62_2, h]
 ·simp -implicitDefEqProofs [k62_2]
 ·rfl
 ·intro nx i c hi _
  simp -implicitDefEqProofs [r62_2, k62_2, hi, Rec.o_len hk, trim_le]
 ·intro nx i r rest c hi hv hd hw _ ih
  have ih := ih () trivial
  have ixi := Rec.o_index (R := rectR) (t := 30) (kk := .i64) (s := 4) rfl hk hi
  rw [hv] at ixi
  have h1 := hasO1_spec r x y
  rw [rect_val] at h1
  have e : (r :: rest).any (fun r => hasO r x y) = (hasO r x y || rest.any (fun r => hasO r x y)) := rfl
  have e2 : firstP (fun r => hasO r x y) (r :: rest) i = if hasO r x y then (i : Int) else firstP (fun r => hasO r x y) rest (i + 1) := rfl
  rw [e, e2]
  simp -implicitDefEqProofs [k62_2] at ih
  cases h : hasO r x y
  ·simp -implicitDefEqProofs [r62_2, k62_2, hi, ixi, Rec.o_len hk, rect_val, ret0 m58, h1, h, hw, trim_le]
   exact ih
  ·simp -implicitDefEqProofs [r62_2, k62_2, hi, ixi, Rec.o_len hk, rect_val, ret0 m58, h1, h, trim_le]
theorem contains_spec (k : Option Bool) (l : List Rect) (x y : Int) (hk : Rec.Ok k l) (hl : l.length ≤ 1000000) : pureCall E.P (L E) 57 [rectR.o k l, .func (.func 58) ⟨[]⟩ ⟨[cptr (.int .i64 x), cptr (.int .i64 y)]⟩] = some (.bool (l.any fun r => hasO r x y)) := by
 have key := index_spec k l x y hk hl
 have hn := firstP_nonneg (fun r => hasO r x y) l 0
 rw [pureCall_fn F57 rfl]
 simp -implicitDefEqProofs [r57, padS, ret2 m62, key, hn]
theorem has2_spec (k : Option Bool) (l : List Rect) (x y : Int) (hk : Rec.Ok k l) (hl : l.length ≤ 1000000) : pureCall E.P (L E) 31 [rectR.o k l, .int .i64 x, .int .i64 y] = some (.bool (regB l && cell l x y)) := by
 have h1 := contains_spec k l x y hk hl
 have h2 := right2_spec k l hk hl
 have a3 : aggT E.P 3 = some false := by kernel_rfl
 have wp : ∀ v, wrapP (some false) [v] = some (cptr v) := fun _ => rfl
 have e : ∀ q, regB l = q → (q && cell l x y) = (q && l.any fun r => hasO r x y) := fun q hq => by
  cases q
  ·rfl
  ·have hok := List.all_eq_true.1 (regB_iff.1 hq).1
   exact Rg.any_ext fun r hr => by unfold hasO; rw [hok r hr]; rfl
 rw [e _ rfl, pureCall_fn F31 rfl]
 cases h3 : regB l <;> cases h4 : l.any (fun r => hasO r x y) <;> simp -implicitDefEqProofs [r31, padS, ret0 m57, ret0 m12, Rec.o_reify, h1, h2, h3, h4, s3, a3, wp]
end Go.Proofs.YtibmcdmlpobanaaGreat.Bm
namespace Go.Proofs.YtibmcdmlpobanaaGreat.Rg
theorem canS_all : ∀ {c : List (Int × Int)} {b : Int}, canS b c → ∀ s ∈ c, s.1 < s.2
 | [], _, _, s, hs => by cases hs
 | (f, t) :: c, b, h, s, hs => by
  rcases List.mem_cons.1 hs with rfl | hs
  ·exact h.2.1
  ·exact canS_all h.2.2 s hs
theorem Can.all {c : List (Int × Int)} (h : Can c) : ∀ s ∈ c, s.1 < s.2 := by
 obtain ⟨b, hb, _⟩ := low_ex c []
 exact canS_all (canS_ex h b hb)
theorem Form.pos {l : List Rect} (h : Form l) : ∀ r ∈ l, r.x0 < r.x1 ∧ r.y0 < r.y1 := by
 obtain ⟨b, T, hT, rfl⟩ := h
 intro r hr
 obtain ⟨s, hs, hr⟩ := List.mem_flatMap.1 hr
 obtain ⟨c, hc, rfl⟩ := List.mem_map.1 hr
 have h1 := (canT_facts hT).2 s hs
 exact ⟨h1.2.1, h1.2.2.all c hc⟩
theorem cell_true {l : List Rect} {x y : Int} : cell l x y = true ↔ ∃ r ∈ l, r.x0 ≤ x ∧ x < r.x1 ∧ r.y0 ≤ y ∧ y < r.y1 := by
 unfold cell Rect.has
 rw [List.any_eq_true]
 simp only [Bool.and_eq_true, decide_eq_true_eq]
 exact ⟨fun ⟨r, hr, h⟩ => ⟨r, hr, h.1.1, h.1.2, h.2.1, h.2.2⟩, fun ⟨r, hr, h1, h2, h3, h4⟩ => ⟨r, hr, ⟨h1, h2⟩, h3, h4⟩⟩
theorem Form.box {l : List Rect} (h : Form l) {n : Int} (hb : ∀ x y, cell l x y = true → 0 ≤ x ∧ x < n ∧ 0 ≤ y ∧ y < n) : ∀ r ∈ l, r.inBox n := by
 intro r hr
 have hp := h.pos r hr
 have h1 := hb r.x0 r.y0 (cell_true.2 ⟨r, hr, by omega, by omega, by omega, by omega⟩)
 have h2 := hb (r.x1 - 1) (r.y1 - 1) (cell_true.2 ⟨r, hr, by omega, by omega, by omega, by omega⟩)
 unfold Rect.inBox
 omega
end Go.Proofs.YtibmcdmlpobanaaGreat.Rg
namespace Go.Proofs.YtibmcdmlpobanaaGreat.Rg
def scan (gt : Nat → Bool) : Nat → Nat
 | 0 => 0
 | k + 1 => if gt k then scan gt k else k + 1
theorem scan_le (gt : Nat → Bool) : ∀ n, scan gt n ≤ n
 | 0 => Nat.le_refl _
 | n + 1 => by
  unfold scan
  split
  ·exact Nat.le_succ_of_le (scan_le gt n)
  ·exact Nat.le_refl _
theorem scan_gt (gt : Nat → Bool) : ∀ n k, scan gt n ≤ k → k < n → gt k = true
 | 0, k, _, h => by omega
 | n + 1, k, h1, h2 => by
  unfold scan at h1
  split at h1
  ·rename_i h
   by_cases e : k = n
   ·subst e; exact h
   ·exact scan_gt gt n k h1 (by omega)
  ·omega
theorem scan_stop (gt : Nat → Bool) : ∀ n, 0 < scan gt n → gt (scan gt n - 1) = false
 | 0, h => by simp [scan] at h
 | n + 1, h => by
  unfold scan at h ⊢
  split at h
  ·rename_i hg
   rw [if_pos hg]
   exact scan_stop gt n h
  ·rename_i hg
   rw [if_neg hg]
   simpa using hg
def putAt {α : Type} (o : List α) (k : Nat) (z : α) : List α := o.take k ++ z :: o.drop k
theorem putAt_perm {α : Type} (o : List α) (k : Nat) (z : α) : (putAt o k z).Perm (z :: o) := by
 unfold putAt
 refine List.perm_middle.trans ?_
 rw [List.take_append_drop]
theorem putAt_len {α : Type} (o : List α) (k : Nat) (z : α) : (putAt o k z).length = o.length + 1 := by
 rw [(putAt_perm o k z).length_eq]; rfl
theorem putAt_sorted {α : Type} {key : α → Int} {o : List α} {z : α} (h : o.Pairwise fun a b => key a ≤ key b) :
  (putAt o (scan (fun j => decide (key z < (o.map key).getD j 0)) o.length) z).Pairwise fun a b => key a ≤ key b := by
 have hle := scan_le (fun j => decide (key z < (o.map key).getD j 0)) o.length
 have hgt := scan_gt (fun j => decide (key z < (o.map key).getD j 0)) o.length
 have hst := scan_stop (fun j => decide (key z < (o.map key).getD j 0)) o.length
 generalize scan (fun j => decide (key z < (o.map key).getD j 0)) o.length = k at *
 have kj : ∀ j (hj : j < o.length), (o.map key).getD j 0 = key o[j] := fun j hj => by
  rw [List.getD_eq_getElem?_getD, List.getElem?_map, List.getElem?_eq_getElem hj]; rfl
 unfold putAt
 rw [List.pairwise_append]
 refine ⟨h.sublist (List.take_sublist _ _), List.pairwise_cons.2 ⟨fun b hb => ?_, h.sublist (List.drop_sublist _ _)⟩, fun a ha b hb => ?_⟩
 ·obtain ⟨j, hj, rfl⟩ := List.mem_iff_getElem.1 hb
  rw [List.getElem_drop]
  rw [List.length_drop] at hj
  have := hgt (k + j) (by omega) (by omega)
  rw [decide_eq_true_eq, kj _ (by omega)] at this
  omega
 ·have ha' : key a ≤ key z := by
   obtain ⟨j, hj, rfl⟩ := List.mem_iff_getElem.1 ha
   rw [List.getElem_take]
   rw [List.length_take] at hj
   have h0 := hst (by omega)
   rw [decide_eq_false_iff_not, kj _ (by omega)] at h0
   by_cases e : j = k - 1
   ·subst e; omega
   ·have := List.pairwise_iff_getElem.1 h j (k - 1) (by omega) (by omega) (by omega)
    omega
  rcases List.mem_cons.1 hb with rfl | hb
  ·exact ha'
  ·obtain ⟨j, hj, rfl⟩ := List.mem_iff_getElem.1 hb
   rw [List.getElem_drop]
   rw [List.length_drop] at hj
   have := hgt (k + j) (by omega) (by omega)
   rw [decide_eq_true_eq, kj _ (by omega)] at this
   omega
def insN (o : List Int) (z : Int) : List Int :=
 let k := scan (fun j => decide (z < o.getD j 0)) o.length
 if 0 < k ∧ o.getD (k - 1) 0 = z then o else putAt o k z
theorem insN_eq {o : List Int} (h : o.Pairwise (· < ·)) (z : Int) : insN o z = insU z o := by
 refine asc_ext ?_ (insU_asc h) fun w => ?_
 ·unfold insN
  have hle := scan_le (fun j => decide (z < o.getD j 0)) o.length
  have hgt := scan_gt (fun j => decide (z < o.getD j 0)) o.length
  have hst := scan_stop (fun j => decide (z < o.getD j 0)) o.length
  simp only
  generalize scan (fun j => decide (z < o.getD j 0)) o.length = k at *
  have kj : ∀ j (hj : j < o.length), o.getD j 0 = o[j] := fun j hj => by
   rw [List.getD_eq_getElem?_getD, List.getElem?_eq_getElem hj]; rfl
  split
  ·exact h
  ·rename_i hne
   unfold putAt
   rw [List.pairwise_append]
   have ha : ∀ a ∈ o.take k, a < z := fun a ha => by
    obtain ⟨j, hj, rfl⟩ := List.mem_iff_getElem.1 ha
    rw [List.getElem_take]
    rw [List.length_take] at hj
    have h0 := hst (by omega)
    rw [decide_eq_false_iff_not] at h0
    have h1 : ¬ o.getD (k - 1) 0 = z := fun e => hne ⟨by omega, e⟩
    rw [kj _ (by omega)] at h0 h1
    by_cases e : j = k - 1
    ·subst e; omega
    ·have := List.pairwise_iff_getElem.1 h j (k - 1) (by omega) (by omega) (by omega)
     omega
   have hb : ∀ b ∈ o.drop k, z < b := fun b hb => by
    obtain ⟨j, hj, rfl⟩ := List.mem_iff_getElem.1 hb
    rw [List.getElem_drop]
    rw [List.length_drop] at hj
    have := hgt (k + j) (by omega) (by omega)
    rw [decide_eq_true_eq, kj _ (by omega)] at this
    exact this
   refine ⟨h.sublist (List.take_sublist _ _), List.pairwise_cons.2 ⟨hb, h.sublist (List.drop_sublist _ _)⟩, fun a haa b hbb => ?_⟩
   rcases List.mem_cons.1 hbb with rfl | hbb
   ·exact ha a haa
   ·have := ha a haa; have := hb b hbb; omega
 ·rw [insU_mem]
  unfold insN
  simp only
  split
  ·rename_i h1
   have hle := scan_le (fun j => decide (z < o.getD j 0)) o.length
   constructor
   ·exact .inr
   ·rintro (rfl | hw)
    ·obtain ⟨h0, h1⟩ := h1
     rw [List.getD_eq_getElem?_getD, List.getElem?_eq_getElem (by omega)] at h1
     have h1 : o[scan (fun j => decide (w < o.getD j 0)) o.length - 1]'(by omega) = w := h1
     rw [← h1]; exact List.getElem_mem _
    ·exact hw
  ·rw [(putAt_perm o _ z).mem_iff, List.mem_cons]
theorem insN_fold : ∀ (l o : List Int), o.Pairwise (· < ·) → (l.foldl insN o).Pairwise (· < ·) ∧ ∀ w, w ∈ l.foldl insN o ↔ w ∈ l ∨ w ∈ o
 | [], o, h => ⟨h, fun w => by simp⟩
 | z :: l, o, h => by
  have e := insN_eq h z
  have h1 : (insN o z).Pairwise (· < ·) := by rw [e]; exact insU_asc h
  obtain ⟨h2, h3⟩ := insN_fold l (insN o z) h1
  refine ⟨h2, fun w => ?_⟩
  rw [List.foldl_cons, h3, e, insU_mem, List.mem_cons]
  exact ⟨fun h => h.elim (fun h => .inl (.inr h)) fun h => h.elim (fun h => .inl (.inl h)) .inr, fun h => h.elim (fun h => h.elim (fun h => .inr (.inl h)) .inl) fun h => .inr (.inr h)⟩
theorem insN_sortU (l : List Int) : l.foldl insN [] = sortU l := by
 obtain ⟨h1, h2⟩ := insN_fold l [] .nil
 refine asc_ext h1 (sortU_asc l) fun w => ?_
 rw [h2, sortU_mem]; simp
def inE : List Int → Int → Bool
 | [], _ => false
 | e :: l, y => xor (decide (e ≤ y)) (inE l y)
theorem inE_low {l : List Int} {y : Int} (h : ∀ e ∈ l, y < e) : inE l y = false := by
 induction l with
 | nil => rfl
 | cons e l ih =>
  have he := h e (by simp)
  have h1 : ¬ e ≤ y := by omega
  unfold inE
  rw [ih fun e he => h e (by simp [he])]
  simp [h1]
theorem inE_ends : ∀ {c : List (Int × Int)} {b : Int}, canS b c → ∀ y, inE (ends c) y = hasS c y
 | [], _, _, _ => rfl
 | (f, t) :: c, b, h, y => by
  have ih := inE_ends h.2.2 y
  have h2 := h.2.1
  show xor (decide (f ≤ y)) (xor (decide (t ≤ y)) (inE (ends c) y)) = ((decide (f ≤ y) && decide (y < t)) || hasS c y)
  rw [ih]
  by_cases h1 : f ≤ y
  ·by_cases h3 : t ≤ y
   ·have h4 : ¬ y < t := by omega
    simp [h1, h3, h4]
   ·have h4 : y < t := by omega
    rw [canS_low h.2.2 (by omega)]
    simp [h1, h3, h4]
  ·have h3 : ¬ t ≤ y := by omega
   simp [h1, h3]
def pairs : List Int → List (Int × Int)
 | f :: t :: l => (f, t) :: pairs l
 | _ => []
theorem pairs_ends (c : List (Int × Int)) : pairs (ends c) = c := by
 induction c with
 | nil => rfl
 | cons s c ih => show (s.1, s.2) :: pairs (ends c) = _; rw [ih]
theorem ends_pairs : ∀ {l : List Int}, l.length % 2 = 0 → ends (pairs l) = l
 | [], _ => rfl
 | [_], h => by simp at h
 | f :: t :: l, h => by
  show f :: t :: ends (pairs l) = _
  rw [ends_pairs (by simp at h; omega)]
theorem pairs_can : ∀ {l : List Int} {b : Int}, l.Pairwise (· < ·) → (∀ e ∈ l, b < e) → canS b (pairs l)
 | [], _, _, _ => trivial
 | [_], _, _, _ => trivial
 | f :: t :: l, b, h, hb => by
  rw [List.pairwise_cons, List.pairwise_cons] at h
  exact ⟨hb f (by simp), h.1 t (by simp), pairs_can h.2.2 h.2.1⟩
def swp (f : Bool → Bool → Bool) : List Int → List Int → Bool → Bool → Bool → List Int
 | [], [], _, _, _ => []
 | a :: A, [], p, q, w => (if f (!p) q = w then [] else [a]) ++ swp f A [] (!p) q (f (!p) q)
 | [], b :: B, p, q, w => (if f p (!q) = w then [] else [b]) ++ swp f [] B p (!q) (f p (!q))
 | a :: A, b :: B, p, q, w =>
  if a < b then (if f (!p) q = w then [] else [a]) ++ swp f A (b :: B) (!p) q (f (!p) q)
  else if b < a then (if f p (!q) = w then [] else [b]) ++ swp f (a :: A) B p (!q) (f p (!q))
  else (if f (!p) (!q) = w then [] else [a]) ++ swp f A B (!p) (!q) (f (!p) (!q))
theorem swp_low (f : Bool → Bool → Bool) : ∀ (A B : List Int) (p q w : Bool) (m : Int), (∀ e ∈ A, m < e) → (∀ e ∈ B, m < e) → ∀ e ∈ swp f A B p q w, m < e
 | [], [], _, _, _, _, _, _, e, h => by simp [swp] at h
 | a :: A, [], p, q, w, m, h1, h2, e, h => by
  rw [swp, List.mem_append] at h
  rcases h with h | h
  ·split at h
   ·cases h
   ·rw [List.mem_singleton.1 h]; exact h1 a (by simp)
  ·exact swp_low f A [] _ _ _ m (fun e he => h1 e (by simp [he])) h2 e h
 | [], b :: B, p, q, w, m, h1, h2, e, h => by
  rw [swp, List.mem_append] at h
  rcases h with h | h
  ·split at h
   ·cases h
   ·rw [List.mem_singleton.1 h]; exact h2 b (by simp)
  ·exact swp_low f [] B _ _ _ m h1 (fun e he => h2 e (by simp [he])) e h
 | a :: A, b :: B, p, q, w, m, h1, h2, e, h => by
  have g1 : ∀ e ∈ A, m < e := fun e he => h1 e (by simp [he])
  have g2 : ∀ e ∈ B, m < e := fun e he => h2 e (by simp [he])
  rw [swp] at h
  split at h
  ·rcases List.mem_append.1 h with h | h
   ·split at h
    ·cases h
    ·rw [List.mem_singleton.1 h]; exact h1 a (by simp)
   ·exact swp_low f A (b :: B) _ _ _ m g1 h2 e h
  ·split at h
   ·rcases List.mem_append.1 h with h | h
    ·split at h
     ·cases h
     ·rw [List.mem_singleton.1 h]; exact h2 b (by simp)
    ·exact swp_low f (a :: A) B _ _ _ m h1 g2 e h
   ·rcases List.mem_append.1 h with h | h
    ·split at h
     ·cases h
     ·rw [List.mem_singleton.1 h]; exact h1 a (by simp)
    ·exact swp_low f A B _ _ _ m g1 g2 e h
termination_by A B => A.length + B.length
theorem step_asc {x : Int} {c : Prop} [Decidable c] {L : List Int} (h : L.Pairwise (· < ·)) (hx : ∀ e ∈ L, x < e) : ((if c then [] else [x]) ++ L).Pairwise (· < ·) := by
 split
 ·exact h
 ·exact List.pairwise_cons.2 ⟨hx, h⟩
theorem step_in {x y : Int} {s w : Bool} {L : List Int} (hx : ∀ e ∈ L, x < e) {r : Bool} (h : x ≤ y → inE L y = xor s r) (hr : y < x → r = w) : inE ((if s = w then [] else [x]) ++ L) y = xor w r := by
 by_cases hy : y < x
 ·have h1 : inE ((if s = w then [] else [x]) ++ L) y = false := inE_low fun e he => by
   rcases List.mem_append.1 he with he | he
   ·split at he
    ·cases he
    ·rw [List.mem_singleton.1 he]; exact hy
   ·have := hx e he; omega
  rw [h1, hr hy]; cases w <;> rfl
 ·have h1 : x ≤ y := by omega
  have h := h h1
  split
  ·rename_i e; subst e; exact h
  ·rename_i e
   show xor (decide (x ≤ y)) (inE L y) = _
   rw [h, decide_eq_true h1]
   cases s <;> cases w <;> simp_all
theorem inE_at {a y : Int} {A : List Int} (h : a ≤ y) (p : Bool) : xor p (inE (a :: A) y) = xor (!p) (inE A y) := by
 show xor p (xor (decide (a ≤ y)) (inE A y)) = _
 rw [decide_eq_true h]
 cases p <;> cases inE A y <;> rfl
theorem xor_low {A : List Int} {y : Int} (h : ∀ e ∈ A, y < e) (p : Bool) : xor p (inE A y) = p := by rw [inE_low h, Bool.xor_false]
theorem swp_ok (f : Bool → Bool → Bool) : ∀ (A B : List Int) (p q : Bool), A.Pairwise (· < ·) → B.Pairwise (· < ·) →
  (swp f A B p q (f p q)).Pairwise (· < ·) ∧ ∀ y, inE (swp f A B p q (f p q)) y = xor (f p q) (f (xor p (inE A y)) (xor q (inE B y)))
 | [], [], p, q, _, _ => ⟨by simp [swp], fun y => by simp [swp, inE]⟩
 | a :: A, [], p, q, hA, hB => by
  have hA' := List.pairwise_cons.1 hA
  obtain ⟨i1, i2⟩ := swp_ok f A [] (!p) q hA'.2 hB
  have hlow := swp_low f A [] (!p) q (f (!p) q) a hA'.1 (fun e he => by cases he)
  refine ⟨by rw [swp]; exact step_asc i1 hlow, fun y => ?_⟩
  rw [swp]
  refine step_in hlow (fun hy => ?_) fun hy => ?_
  ·rw [i2, inE_at hy]
  ·have la : ∀ e ∈ a :: A, y < e := fun e he => by
    rcases List.mem_cons.1 he with rfl | he
    ·exact hy
    ·have := hA'.1 e he; omega
   rw [xor_low la, xor_low (A := []) (fun e he => by cases he)]
 | [], b :: B, p, q, hA, hB => by
  have hB' := List.pairwise_cons.1 hB
  obtain ⟨i1, i2⟩ := swp_ok f [] B p (!q) hA hB'.2
  have hlow := swp_low f [] B p (!q) (f p (!q)) b (fun e he => by cases he) hB'.1
  refine ⟨by rw [swp]; exact step_asc i1 hlow, fun y => ?_⟩
  rw [swp]
  refine step_in hlow (fun hy => ?_) fun hy => ?_
  ·rw [i2, inE_at hy]
  ·have lb : ∀ e ∈ b :: B, y < e := fun e he => by
    rcases List.mem_cons.1 he with rfl | he
    ·exact hy
    ·have := hB'.1 e he; omega
   rw [xor_low lb, xor_low (A := []) (fun e he => by cases he)]
 | a :: A, b :: B, p, q, hA, hB => by
  have hA' := List.pairwise_cons.1 hA
  have hB' := List.pairwise_cons.1 hB
  have la : ∀ y, y < a → ∀ e ∈ a :: A, y < e := fun y hy e he => by
   rcases List.mem_cons.1 he with rfl | he
   ·exact hy
   ·have := hA'.1 e he; omega
  have lb : ∀ y, y < b → ∀ e ∈ b :: B, y < e := fun y hy e he => by
   rcases List.mem_cons.1 he with rfl | he
   ·exact hy
   ·have := hB'.1 e he; omega
  by_cases h1 : a < b
  ·obtain ⟨i1, i2⟩ := swp_ok f A (b :: B) (!p) q hA'.2 hB
   have hlow := swp_low f A (b :: B) (!p) q (f (!p) q) a hA'.1 (lb a h1)
   refine ⟨by rw [swp, if_pos h1]; exact step_asc i1 hlow, fun y => ?_⟩
   rw [swp, if_pos h1]
   refine step_in hlow (fun hy => ?_) fun hy => ?_
   ·rw [i2, inE_at hy]
   ·rw [xor_low (la y hy), xor_low (lb y (by omega))]
  ·by_cases h2 : b < a
   ·obtain ⟨i1, i2⟩ := swp_ok f (a :: A) B p (!q) hA hB'.2
    have hlow := swp_low f (a :: A) B p (!q) (f p (!q)) b (la b h2) hB'.1
    refine ⟨by rw [swp, if_neg h1, if_pos h2]; exact step_asc i1 hlow, fun y => ?_⟩
    rw [swp, if_neg h1, if_pos h2]
    refine step_in hlow (fun hy => ?_) fun hy => ?_
    ·rw [i2, inE_at (A := B) hy]
    ·rw [xor_low (la y (by omega)), xor_low (lb y hy)]
   ·have hab : a = b := by omega
    subst hab
    obtain ⟨i1, i2⟩ := swp_ok f A B (!p) (!q) hA'.2 hB'.2
    have hlow := swp_low f A B (!p) (!q) (f (!p) (!q)) a hA'.1 hB'.1
    refine ⟨by rw [swp, if_neg h1, if_neg h2]; exact step_asc i1 hlow, fun y => ?_⟩
    rw [swp, if_neg h1, if_neg h2]
    refine step_in hlow (fun hy => ?_) fun hy => ?_
    ·rw [i2, inE_at (A := A) hy, inE_at (A := B) hy]
    ·rw [xor_low (la y hy), xor_low (lb y hy)]
termination_by A B => A.length + B.length
theorem inE_len : ∀ {l : List Int} {y : Int}, (∀ e ∈ l, e ≤ y) → inE l y = decide (l.length % 2 = 1)
 | [], _, _ => rfl
 | e :: l, y, h => by
  unfold inE
  rw [inE_len fun e he => h e (by simp [he]), decide_eq_true (h e (by simp))]
  rw [List.length_cons]
  by_cases q : l.length % 2 = 1
  ·have : ¬ (l.length + 1) % 2 = 1 := by omega
   simp [q, this]
  ·have : (l.length + 1) % 2 = 1 := by omega
   simp [q, this]
theorem upper (l : List Int) : ∃ m, ∀ e ∈ l, e ≤ m := by
 induction l with
 | nil => exact ⟨0, fun e he => by cases he⟩
 | cons a l ih =>
  obtain ⟨m, h⟩ := ih
  refine ⟨max a m, fun e he => ?_⟩
  rcases List.mem_cons.1 he with rfl | he
  ·omega
  ·have := h e he; omega
theorem lower (l : List Int) : ∃ m, ∀ e ∈ l, m < e := by
 induction l with
 | nil => exact ⟨0, fun e he => by cases he⟩
 | cons a l ih =>
  obtain ⟨m, h⟩ := ih
  refine ⟨min (a - 1) m, fun e he => ?_⟩
  rcases List.mem_cons.1 he with rfl | he
  ·omega
  ·have := h e he; omega
theorem Can.canS {c : List (Int × Int)} (h : Can c) : ∃ b, canS b c := by
 obtain ⟨b, hb, _⟩ := low_ex c []
 exact ⟨b, canS_ex h b hb⟩
theorem swp_col (f : Bool → Bool → Bool) (hf : f false false = false) {a b c : List (Int × Int)} (ha : Can a) (hb : Can b) (hc : Can c) (h : ∀ y, hasS c y = f (hasS a y) (hasS b y)) :
  swp f (ends a) (ends b) false false false = ends c := by
 obtain ⟨ba, ha'⟩ := ha.canS
 obtain ⟨bb, hb'⟩ := hb.canS
 have key := swp_ok f (ends a) (ends b) false false (ends_asc ha').1 (ends_asc hb').1
 rw [hf] at key
 obtain ⟨h1, h2⟩ := key
 generalize swp f (ends a) (ends b) false false false = L at *
 have h3 : ∀ y, inE L y = f (hasS a y) (hasS b y) := fun y => by rw [h2, inE_ends ha', inE_ends hb']; simp
 have he : L.length % 2 = 0 := by
  obtain ⟨m, hm⟩ := upper (L ++ (ends a ++ ends b))
  have h4 := h2 m
  rw [inE_len (l := L) fun e he => hm e (by simp [he]), inE_len (l := ends a) fun e he => hm e (by simp [he]), inE_len (l := ends b) fun e he => hm e (by simp [he]), ends_len, ends_len] at h4
  have e1 : ¬ (2 * a.length % 2 = 1) := by omega
  have e2 : ¬ (2 * b.length % 2 = 1) := by omega
  simp [e1, e2, hf] at h4
  omega
 obtain ⟨m, hm⟩ := lower L
 have h5 := pairs_can h1 hm
 have h6 : pairs L = c := (Can.of h5).unique hc fun y => by
  rw [h, ← h3, ← inE_ends h5, ends_pairs he]
 rw [← h6, ends_pairs he]
theorem runs_none {s : Slab} (h : s.col = []) : ∀ (T : List Slab), outT (runs s T) = outT (runsF T)
 | [] => by rw [runs_end, emit_nil h]; rfl
 | u :: T => by
  by_cases e : u.col = s.col
  ·have h1 : (⟨s.x0, u.x1, s.col⟩ : Slab).col = [] := h
   have h2 : u.col = [] := by rw [e, h]
   rw [runs_step e, runs_none h1 T]
   show _ = outT (runs u T)
   rw [runs_none h2 T]
  ·rw [runs_stop e, emit_nil h]; rfl
end Go.Proofs.YtibmcdmlpobanaaGreat.Rg
