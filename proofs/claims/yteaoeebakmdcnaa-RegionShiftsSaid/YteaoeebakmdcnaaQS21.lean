/-
  Rows of records made at a known length, and whole records stored. Conditions: each lemma says its own.
-/
import Derived.Test.YteaoeebakmdcnaaQS20
import Derived.Test.YteaoeebakmdcnaaQS13
import Derived.Test.YteaoeebakmdcnaaQS18
namespace Go.Proofs.Yteaoeebakmdcnaa.Bm
open Go Go.RowKit
open Rg (Rect Slab runs runsF outT emit ofL stripsL edgesX colC)

theorem ret3 {E : Env} {C : Callee} {lo : Nat} {h : Heap} {f : FuncId} (hm : E.mode f = 3) {args : List Value} : retCall E C lo false f args h = (C f args h lo).map fun r => (r.1, trim h.length [r.1] r.2) := by
  unfold retCall; rw [hm]; rfl
theorem trim_no {n : Nat} {v : Value} {h : Heap} (hv : below depth n v = false) : trim n [v] h = h := by
  unfold trim
  split
  · rfl
  · rw [if_neg]; simp [hv]
theorem frzAll_row {h h' : Heap} {lo : Nat} {v u : Value} (hf : freezeV E.P depth lo h v = some (u, h')) : frzAll E.P lo [v] h = some ([u], h') := by
  unfold frzAll
  simp [List.foldlM, hf]

theorem strips_len (l : List Rect) : (stripsL l).length ≤ 2 * l.length := by
  have h1 := Rg.edgesX_len l
  have h2 := Rg.stripL_len (colC l) (edgesX l)
  unfold stripsL
  omega
theorem stripL_mem (c : Int → List (Int × Int)) : ∀ (xs : List Int) s, s ∈ Rg.stripL c xs → s.col = c s.x0
  | [], s, h => by cases h
  | [_], s, h => by cases h
  | a :: b :: xs, s, h => by
    rcases List.mem_cons.1 h with rfl | h
    · rfl
    · exact stripL_mem c (b :: xs) s h
theorem strips_col (l : List Rect) : ∀ s ∈ stripsL l, s.col.length ≤ l.length := fun s hs => by
  rw [stripL_mem _ _ s hs]
  exact Rg.colC_len l _
theorem lit_list1 (h : Heap) (k : Option Bool) (l : List Rect) : buildSliceT (some ⟨22, 1, 24, .slice none 0 0, ⟨some false, some 1⟩⟩) false h 1 #[(0, rectR.o k l)] = some (lst true [rectR.o k l], h) := by
  cases k <;> exact (build_lit' (n := 1) (l := [(0, _)]) rfl rfl (by decide) (by decide) (by decide)).trans rfl
theorem lit_list2 (h : Heap) (k m : Option Bool) (l r : List Rect) : buildSliceT (some ⟨22, 1, 24, .slice none 0 0, ⟨some false, some 1⟩⟩) false h 2 #[(0, rectR.o k l), (1, rectR.o m r)] = some (lst true [rectR.o k l, rectR.o m r], h) := by
  cases k <;> cases m <;> exact (build_lit' (n := 2) (l := [(0, _), (1, _)]) rfl rfl (by decide) (by decide) (by decide)).trans rfl
/-- Strips of one list, on any heap. -/
theorem strips_one (k : Option Bool) (l : List Rect) (hk : Rec.Ok k l) (hl : l.length ≤ 1000) (h : Heap) (lo : Nat) (hlo : lo ≤ h.length) (hb : ∀ n, h.length ≤ n → h.all (belowO n) = true) :
    ∃ q, retCall E (L E) lo false 18 [lst true [rectR.o k l]] h = some (slabR.sl (h.length + 1) (stripsL l), h ++ [intR.row 3 q, slabR.row 54 (stripsL l)]) := by
  obtain ⟨q, hq⟩ := strips_spec true [(k, l)] (fun p hp => by simp at hp; subst hp; exact hk) (by show 1 ≤ 1000; omega) (by show l.length + 0 ≤ 1000; omega) (by cases k <;> rfl) h lo hlo hb
  refine ⟨q, ?_⟩
  have e : allP [(k, l)] = l := List.append_nil l
  rw [e] at hq
  rw [ret3 m18]
  show ((L E 18 [lst true [rectR.o k l]] h lo).map _) = _
  rw [show [rectR.o k l] = [(k, l)].map (fun p => rectR.o p.1 p.2) from rfl, hq]
  show some (_, trim _ _ _) = _
  rw [trim_no]
  have hn : ¬ (h.length + 1 < h.length) := by omega
  exact decide_eq_false hn
theorem strips_two (k m : Option Bool) (l r : List Rect) (hk : Rec.Ok k l) (hm : Rec.Ok m r) (hl : l.length + r.length ≤ 1000) (h : Heap) (lo : Nat) (hlo : lo ≤ h.length) (hb : ∀ n, h.length ≤ n → h.all (belowO n) = true) :
    ∃ q, retCall E (L E) lo false 18 [lst true [rectR.o k l, rectR.o m r]] h = some (slabR.sl (h.length + 1) (stripsL (l ++ r)), h ++ [intR.row 3 q, slabR.row 54 (stripsL (l ++ r))]) := by
  obtain ⟨q, hq⟩ := strips_spec true [(k, l), (m, r)] (fun p hp => by simp at hp; rcases hp with rfl | rfl <;> assumption) (by show 2 ≤ 1000; omega) (by show l.length + (r.length + 0) ≤ 1000; omega) (by cases k <;> cases m <;> rfl) h lo hlo hb
  refine ⟨q, ?_⟩
  have e : allP [(k, l), (m, r)] = l ++ r := by show l ++ (r ++ []) = _; rw [List.append_nil]
  rw [e] at hq
  rw [ret3 m18]
  show ((L E 18 [lst true [rectR.o k l, rectR.o m r]] h lo).map _) = _
  rw [show [rectR.o k l, rectR.o m r] = [(k, l), (m, r)].map (fun p => rectR.o p.1 p.2) from rfl, hq]
  show some (_, trim _ _ _) = _
  rw [trim_no]
  have hn : ¬ (h.length + 1 < h.length) := by omega
  exact decide_eq_false hn
/-- What is written of strips that stand in the heap. -/
theorem write_row {h : Heap} {b lo : Nat} (T : List Slab) (hob : h[b]? = some (slabR.row 54 T)) (hlo : lo ≤ b) (hT : T.length ≤ 10000) (hc : ∀ s ∈ T, s.col.length ≤ 10000) :
    ∃ h', retCall E (L E) lo false 17 [slabR.sl b T] h = some (lst false (rectR.vals (outT (runsF T))), h') := by
  have hf := Rec.freeze_row (R := slabR) hob s61 a61 hlo
  refine ⟨if T.length = 0 then h else h.set b .dead, ?_⟩
  rw [ret4 m17, frzAll_row hf]
  show ((pureCall E.P (L E) 17 [lst false (slabR.vals T)]).map _) = _
  rw [write_spec T hT hc]
  rfl

/-! ### The region of a list -/
def ofR (l : List Rect) : Except Int (List Rect) := if l.all okR then if 400 < l.length then .error 6 else if (ofL l).length ≤ 200 then .ok (ofL l) else .error 6 else .error 1
def resL : Except Int (List Rect) → Value
  | .error e => .tuple ⟨[.slice none 0 0, .int .i64 e]⟩
  | .ok l => .tuple ⟨[lst false (rectR.vals l), .int .i64 0]⟩

theorem of_spec (k : Option Bool) (l : List Rect) (hk : Rec.Ok k l) (hl : l.length ≤ 1000000) : pureCall E.P (L E) 6 [rectR.o k l] = some (resL (ofR l)) := by
  rw [pureCall_fn F6 rfl]
  simp -implicitDefEqProofs [r6, padS, Rec.o_len hk]
  rw [LL_for (γ := Unit) l () (fun i _ => [(8, .int .i64 i)]) (fun _ _ => []) (fun _ rest _ => if rest.all okR then (.exit 0, [(8, undef)], []) else (.ret, [(2, .slice none 0 0), (3, .int .i64 1), (8, undef)], [])) (fun _ _ => True) (by omega) trivial]
  · unfold ofR
    cases ha : l.all okR
    · simp -implicitDefEqProofs [k6_2, resL]
    · by_cases h4 : 400 < l.length
      · have h4i : 400 < (l.length : Int) := by omega
        simp -implicitDefEqProofs [k6_2, resL, h4, h4i, Rec.o_len hk]
      · have h4' : ¬ (400 < (l.length : Int)) := by omega
        obtain ⟨q, hs⟩ := strips_one k l hk (by omega) [] 0 (Nat.le_refl _) fun _ _ => rfl
        obtain ⟨h', hw⟩ := write_row (h := [intR.row 3 q, slabR.row 54 (stripsL l)]) (b := 1) (lo := 0) (stripsL l) rfl (Nat.zero_le _) (by have := strips_len l; omega) (fun s hs => by have := strips_col l s hs; omega)
        have e : outT (runsF (stripsL l)) = ofL l := rfl
        rw [e] at hw
        have hlim := limited_spec false (ofL l)
        by_cases h2 : (ofL l).length ≤ 200 <;> simp -implicitDefEqProofs [k6_2, resL, h4, h4', Rec.o_len hk, lit_list1, hs, hw, ret1s m16, hlim, h2]
  · simp -implicitDefEqProofs [k6_2]
  · rfl
  · intro nx i c hi _
    simp -implicitDefEqProofs [r6_2, k6_2, hi, trim_le]
  · intro nx i r rest c hi hv hd hw _ ih
    have ih := ih () trivial
    have ixi := Rec.o_index (R := rectR) (t := 32) (kk := .i64) (s := 4) rfl hk hi
    rw [hv] at ixi
    have hr := right_s r
    cases h : okR r
    · simp -implicitDefEqProofs [r6_2, k6_2, hi, ixi, rect_val, ret0 m15, hr, h, trim_cut, Rec.o_bel]
    · simp -implicitDefEqProofs [k6_2] at ih
      simp -implicitDefEqProofs [r6_2, k6_2, hi, ixi, rect_val, ret0 m15, hr, h, hw, trim_cut, Rec.o_bel]
      exact ih
end Go.Proofs.Yteaoeebakmdcnaa.Bm
namespace Go.Proofs.Yteaoeebakmdcnaa.Bm
open Go Go.RowKit
open Rg (Rect Slab runs runsF outT emit ofL stripsL edgesX colC opL opC mergeC keepS addS sortU ends stripL)

/-! ### What is a region -/
def regB (l : List Rect) : Bool := match ofR l with
  | .ok m => decide (m = l)
  | .error _ => false
theorem right2_spec (k : Option Bool) (l : List Rect) (hk : Rec.Ok k l) (hl : l.length ≤ 1000000) : pureCall E.P (L E) 8 [rectR.o k l] = some (.bool (regB l)) := by
  have ho := of_spec k l hk hl
  have hf : freezeV E.P depth 0 [] (rectR.o k l) = some (rectR.o k l, []) := frz_set8 Rec.o_set Rec.o_one
  have hr : retCall E (L E) 0 false 6 [rectR.o k l] [] = some (resL (ofR l), []) := by
    rw [ret4 m6, frzAll_row hf]
    show ((pureCall E.P (L E) 6 [rectR.o k l]).map _) = _
    rw [ho]; rfl
  rw [pureCall_fn F8 rfl]
  unfold regB
  have hle : ∀ m, ofR l = .ok m → m.length ≤ 200 := fun m h => by
    unfold ofR at h
    split at h
    · split at h
      · cases h
      · split at h
        · cases h; assumption
        · cases h
    · cases h
  have hne : ∀ e, ofR l = .error e → e = 1 ∨ e = 6 := fun m h => by
    unfold ofR at h
    split at h
    · split at h
      · cases h; exact .inr rfl
      · split at h
        · cases h
        · cases h; exact .inr rfl
    · cases h; exact .inl rfl
  cases h : ofR l with
  | error e =>
    rw [h] at hr
    have e0 : ¬ (e = 0) := by have := hne e h; omega
    simp -implicitDefEqProofs [r8, p8, hr, resL, e0]
  | ok m =>
    rw [h] at hr
    have he := equal_rects (some false) k m l Rec.ok_some hk (by have := hle m h; omega)
    rw [show rectR.o (some false) m = lst false (rectR.vals m) from rfl] at he
    simp -implicitDefEqProofs [r8, p8, hr, resL, ret0 m23, Rec.o_reify, he]
theorem ofL_ok' {l : List Rect} (h : l.all okR = true) : ∀ r ∈ l, r.y0 < r.y1 := fun r hr => by
  have := okR_iff.1 (List.all_eq_true.1 h r hr)
  unfold Rect.inBox at this
  omega
theorem regB_iff {l : List Rect} : regB l = true ↔ l.all okR = true ∧ l.length ≤ 200 ∧ Rg.Form l := by
  unfold regB ofR
  by_cases ha : l.all okR = true
  · have hy := ofL_ok' ha
    rw [if_pos ha]
    by_cases h4 : 400 < l.length
    · rw [if_pos h4]; simp; omega
    · rw [if_neg h4]
      by_cases h2 : (ofL l).length ≤ 200
      · rw [if_pos h2]
        simp only [decide_eq_true_eq]
        constructor
        · intro e
          exact ⟨ha, e ▸ h2, e ▸ (Rg.ofL_ok hy).1⟩
        · intro ⟨_, _, hf⟩
          exact (Rg.ofL_ok hy).1.ext hf (Rg.ofL_ok hy).2
      · rw [if_neg h2]
        simp only [Bool.false_eq_true, false_iff]
        rintro ⟨_, hl, hf⟩
        rw [(Rg.ofL_ok hy).1.ext hf (Rg.ofL_ok hy).2] at h2
        omega
  · rw [if_neg ha]; simp [ha]

/-! ### Two regions -/
def limR (l : List Rect) : Except Int (List Rect) := if l.length ≤ 200 then .ok l else .error 6
def opR (f : Bool → Bool → Bool) (a b : List Rect) : Except Int (List Rect) := if regB a && regB b then limR (opL f a b) else .error 1
theorem freeze_slab {h : Heap} {b lo : Nat} (T : List Slab) (hob : h[b]? = some (slabR.row 54 T)) (hlo : lo ≤ b) :
    ∃ g, freezeV E.P depth lo h (slabR.sl b T) = some (lst false (slabR.vals T), g) ∧ g.length = h.length ∧ (∀ j, j ≠ b → g[j]? = h[j]?) ∧ ∀ n, h.all (belowO n) = true → g.all (belowO n) = true := by
  refine ⟨_, Rec.freeze_row (R := slabR) hob s61 a61 hlo, ?_, fun j hj => ?_, fun n hn => ?_⟩
  · split
    · rfl
    · exact List.length_set ..
  · split
    · rfl
    · exact List.getElem?_set_ne (Ne.symm hj)
  · split
    · exact hn
    · rw [List.all_eq_true] at hn ⊢
      intro o ho
      rcases List.mem_or_eq_of_mem_set ho with h1 | h1
      · exact hn o h1
      · subst h1; rfl
theorem atO_len {T : List Slab} {n : Nat} (h : ∀ s ∈ T, s.col.length ≤ n) (x : Int) : (colL (atO T x)).length ≤ n := by
  unfold atO
  split
  · rename_i hlt
    split
    · rw [List.getD_eq_getElem?_getD, List.getElem?_eq_getElem hlt]
      exact h _ (List.getElem_mem hlt)
    · exact Nat.zero_le _
  · exact Nat.zero_le _
theorem addS_len (o : List (Int × Int)) (a b : Int) : (addS o a b).length ≤ o.length + 1 := by
  unfold addS
  split
  · split
    · simp
    · simp
  · simp
theorem keepS_len (k : Int → Bool) : ∀ (ys : List Int) (o : List (Int × Int)), (keepS k o ys).length ≤ o.length + ys.length
  | [], o => by simp [keepS]
  | [a], o => by simp [keepS]
  | a :: b :: ys, o => by
    unfold keepS
    have h1 := keepS_len k (b :: ys) (if k a then addS o a b else o)
    have h2 : (if k a then addS o a b else o).length ≤ o.length + 1 := by
      split
      · exact addS_len o a b
      · omega
    have h3 : (a :: b :: ys).length = (b :: ys).length + 1 := rfl
    omega
theorem sortU_len (l : List Int) : (sortU l).length ≤ l.length := by
  rw [← Rg.comp_sort]
  have h := compF_len (sortI l)
  have h2 := sortI_len l
  unfold compF at h
  rw [List.length_append] at h
  omega
theorem mergeC_len (f : Bool → Bool → Bool) (a b : List (Int × Int)) : (mergeC f a b).length ≤ 2 * (a.length + b.length) := by
  unfold mergeC
  have h1 := keepS_len (fun y => f (inB a y) (inB b y)) (sortU (ends (a ++ b))) []
  have h2 := sortU_len (ends (a ++ b))
  rw [Rg.ends_len, List.length_append] at h2
  have h3 : ([] : List (Int × Int)).length = 0 := rfl
  omega
theorem opR_map (f : Bool → Bool → Bool) (a b : List Rect) : (stripsL (a ++ b)).map (fun s => (⟨s.x0, s.x1, opC f a b s.x0⟩ : Slab)) = stripL (opC f a b) (edgesX (a ++ b)) :=
  Rg.stripL_map _ _ (fun s => opC f a b s.x0) _ fun _ _ => rfl
theorem app3 {h : Heap} {a b c : AObj} : (h ++ [a, b]) ++ [c] = h ++ [a, b, c] := by rw [List.append_assoc]; rfl
theorem get31 {h : Heap} {a b c : AObj} : (h ++ [a, b, c])[h.length + 1]? = some b := by
  rw [List.getElem?_append_right (by omega), Nat.add_sub_cancel_left]; rfl
theorem get32 {h : Heap} {a b c : AObj} : (h ++ [a, b, c])[h.length + 2]? = some c := by
  rw [List.getElem?_append_right (by omega), Nat.add_sub_cancel_left]; rfl
theorem set31 {h : Heap} {a b c d : AObj} : (h ++ [a, b, c]).set (h.length + 1) d = h ++ [a, d, c] := by
  rw [List.set_append_right _ _ (by omega), Nat.add_sub_cancel_left]; rfl
theorem set32 {h : Heap} {a b c d : AObj} : (h ++ [a, b, c]).set (h.length + 2) d = h ++ [a, b, d] := by
  rw [List.set_append_right _ _ (by omega), Nat.add_sub_cancel_left]; rfl
theorem take3 {h : Heap} {a b c : AObj} : (h ++ [a, b, c]).take (h.length + 2) = h ++ [a, b] := by
  rw [List.take_append, List.take_of_length_le (by omega), Nat.add_sub_cancel_left]; rfl
theorem combine_spec (k m : Option Bool) (a b : List Rect) (q : FuncId) (f : Bool → Bool → Bool) (hk : Rec.Ok k a) (hm : Rec.Ok m b) (hq0 : E.mode q = 0) (hq : ∀ x y, pureCall E.P (L E) q [.bool x, .bool y] = some (.bool (f x y))) (ha : a.length ≤ 1000000) (hb : b.length ≤ 1000000) :
    pureCall E.P (L E) 26 [rectR.o k a, rectR.o m b, .func (.func q) ⟨[]⟩ ⟨[]⟩] = some (resL (opR f a b)) := by
  have ra := right2_spec k a hk ha
  have rb := right2_spec m b hm hb
  rw [pureCall_fn F26 rfl]
  unfold opR
  cases h1 : regB a
  · simp -implicitDefEqProofs [r26, p26, ret0 m8, Rec.o_reify, ra, h1, resL]
  cases h2 : regB b
  · simp -implicitDefEqProofs [r26, p26, ret0 m8, Rec.o_reify, ra, rb, h1, h2, resL]
  have la := (regB_iff.1 h1).2.1
  have lb := (regB_iff.1 h2).2.1
  obtain ⟨q1, e1⟩ := strips_one k a hk (by omega) [] 0 (Nat.le_refl _) fun _ _ => rfl
  have bel1 : ∀ (q : List Int) (T : List Slab) n, [intR.row 3 q, slabR.row 54 T].all (belowO n) = true := fun q T n => by
    simp only [List.all_cons, List.all_nil, Rec.row_bel, Bool.and_self]
  obtain ⟨q2, e2⟩ := strips_one m b hm (by omega) [intR.row 3 q1, slabR.row 54 (stripsL a)] 0 (Nat.zero_le _) fun n _ => bel1 _ _ n
  obtain ⟨g1, f1, l1, n1, u1⟩ := freeze_slab (h := [intR.row 3 q1, slabR.row 54 (stripsL a), intR.row 3 q2, slabR.row 54 (stripsL b)]) (b := 1) (lo := 0) (stripsL a) rfl (Nat.zero_le _)
  obtain ⟨g2, f2, l2, n2, u2⟩ := freeze_slab (h := g1) (b := 3) (lo := 0) (stripsL b) (by rw [n1 3 (by decide)]; rfl) (Nat.zero_le _)
  have bel2 : ∀ n, g2.all (belowO n) = true := fun n => u2 n (u1 n (by simp only [List.all_cons, List.all_nil, Rec.row_bel, Bool.and_self]))
  obtain ⟨q3, e3⟩ := strips_two k m a b hk hm (by omega) g2 0 (Nat.zero_le _) fun n _ => bel2 n
  clear n1 u1 n2 u2
  have hg : g2.length = 4 := by rw [l2, l1]; rfl
  have mp := opR_map f a b
  have hT := strips_len (a ++ b)
  rw [List.length_append] at hT
  have hTa := strips_len a
  have hTb := strips_len b
  have hca := fun x => atO_len (strips_col a) x
  have hcb := fun x => atO_len (strips_col b) x
  simp only [List.nil_append, List.cons_append, List.length_cons, List.length_nil, Nat.zero_add, Nat.reduceAdd] at e1 e2 e3
  simp -implicitDefEqProofs [r26, p26, ret0 m8, Rec.o_reify, ra, rb, h1, h2, lit_list1, lit_list2, e1, e2, e3, prep_frz, f1, f2, Rec.sl_len]
  generalize hTT : stripsL (a ++ b) = T at *
  have hT' : T.length ≤ 800 := by omega
  clear e1 e2 e3 f1 f2
  rw [LL_for (γ := List Slab) T [] (fun i _ => [(33, .int .i64 i)]) (fun i P => g2 ++ [intR.row 3 q3, slabR.row 54 (P ++ T.drop i)])
    (fun _ rest P => (.exit 0, [(33, undef)], g2 ++ [intR.row 3 q3, slabR.row 54 (P ++ rest.map (fun s => (⟨s.x0, s.x1, opC f a b s.x0⟩ : Slab)))])) (fun i P => P.length = i) (by omega) rfl]
  · rw [List.nil_append, mp]
    have hlen : (stripL (opC f a b) (edgesX (a ++ b))).length = T.length := by rw [← mp, List.length_map]
    have esl : slabR.sl (g2.length + 1) T = slabR.sl (g2.length + 1) (stripL (opC f a b) (edgesX (a ++ b))) := slab_sl_len hlen.symm
    obtain ⟨h', hw⟩ := write_row (h := g2 ++ [intR.row 3 q3, slabR.row 54 (stripL (opC f a b) (edgesX (a ++ b)))]) (b := g2.length + 1) (lo := 0) (stripL (opC f a b) (edgesX (a ++ b))) end2 (Nat.zero_le _) (by omega) (fun s hs => by
      rw [stripL_mem _ _ s hs]
      have := mergeC_len f (colL (atO (stripsL a) s.x0)) (colL (atO (stripsL b) s.x0))
      have := hca s.x0
      have := hcb s.x0
      unfold opC; omega)
    rw [← esl] at hw
    have eo : outT (runsF (stripL (opC f a b) (edgesX (a ++ b)))) = opL f a b := rfl
    rw [eo] at hw
    have hlim := limited_spec false (opL f a b)
    unfold limR
    by_cases h2 : (opL f a b).length ≤ 200 <;> simp -implicitDefEqProofs [k26_6, resL, hw, ret1s m16, hlim, h2]
  · simp -implicitDefEqProofs [k26_6]
  · rfl
  · intro nx i P hi hP
    simp -implicitDefEqProofs [r26_6, k26_6, hi, trim_le, List.drop_of_length_le]
  · intro nx i s rest P hi hv hd hw hP ih
    have hil : i < (P ++ T.drop i).length := by rw [List.length_append, List.length_drop]; omega
    have hlT : T.length = (P ++ T.drop i).length := by rw [List.length_append, List.length_drop]; omega
    have hr : T.drop (i + 1) = rest := by rw [← List.drop_drop, hd]; rfl
    have el : slabR.sl (g2.length + 1) T = slabR.sl (g2.length + 1) (P ++ T.drop i) := slab_sl_len hlT
    have eg : (P ++ T.drop i)[i] = s := by
      rw [List.getElem_append_right (by omega)]
      simp only [hP, Nat.sub_self, List.getElem_drop, Nat.add_zero, hv]
    have es : (P ++ T.drop i).set i ⟨s.x0, s.x1, opC f a b s.x0⟩ = P ++ [⟨s.x0, s.x1, opC f a b s.x0⟩] ++ T.drop (i + 1) := by
      rw [List.set_append_right _ _ (by omega), hP, Nat.sub_self, hd, hr, List.append_assoc]; rfl
    have ih := ih (P ++ [⟨s.x0, s.x1, opC f a b s.x0⟩]) (by simp; omega)
    have ix := Rec.index_row (R := slabR) (h0 := 3) (t := 54) (g := some true) (b := g2.length + 1) (l := P ++ T.drop i) (i := i) (k := .i64) rfl hil
    rw [← el] at ix
    have ld := Rec.load_row (R := slabR) (h := g2 ++ [intR.row 3 q3, slabR.row 54 (P ++ T.drop i)]) (b := g2.length + 1) (n := 3) (t := 54) (l := P ++ T.drop i) (i := i) rfl end2 hil
    rw [eg, slab_val] at ld
    have fd := Rec.field_row (R := slabR) (b := g2.length + 1) (n := 0) (f := 2) (l := P ++ T.drop i) (i := i) (k := ⟨some true, some 3⟩) (g := some false)
    have st := fun q => Rec.store_cell (R := slabR) (h := g2 ++ [intR.row 3 q3, slabR.row 54 (P ++ T.drop i), q]) (b := g2.length + 1) (j := 2) (lo := 0) (t := 54) (l := P ++ T.drop i) (i := i) (v := colV (opC f a b s.x0)) (a := ⟨s.x0, s.x1, opC f a b s.x0⟩) rfl get31 (Nat.zero_le _) hil (by decide) (by rw [eg]; rfl)
    simp only [es, set31] at st
    have ca := at_spec (stripsL a) s.x0 (by omega)
    have cb := at_spec (stripsL b) s.x0 (by omega)
    have cm := merge_spec (atO (stripsL a) s.x0) (atO (stripsL b) s.x0) q f hq0 hq (by have := hca s.x0; omega) (by have := hcb s.x0; omega)
    have so1 : settled depth (lst false (slabR.vals (stripsL a))) = true := rfl
    have so2 : settled depth (lst false (slabR.vals (stripsL b))) = true := rfl
    have so3 : ∀ z, settled depth (.int .i64 z) = true := fun _ => rfl
    have sb1 : ∀ d, below (d + 1) (g2.length + 2) (slabR.sl 1 (stripsL a)) = true := fun d => Rec.sl_bel (by omega)
    have sb3 : ∀ d, below (d + 1) (g2.length + 2) (slabR.sl 3 (stripsL b)) = true := fun d => Rec.sl_bel (by omega)
    have so5 : ∀ c, settled depth (colX c) = true := fun c => colX_set c (n := 7)
    have so4 : settled depth (.func (.func q) ⟨[]⟩ ⟨[]⟩) = true := rfl
    have b2 := bel2 (g2.length + 2)
    have eR : P ++ (s :: rest).map (fun s => (⟨s.x0, s.x1, opC f a b s.x0⟩ : Slab)) = P ++ [⟨s.x0, s.x1, opC f a b s.x0⟩] ++ rest.map (fun s => (⟨s.x0, s.x1, opC f a b s.x0⟩ : Slab)) := by
      rw [List.map_cons, List.append_assoc]; rfl
    rw [eR]
    change pureCall _ _ _ _ = some (colV (opC f a b s.x0)) at cm
    simp -implicitDefEqProofs [k26_6, -List.append_assoc] at ih
    simp -implicitDefEqProofs [r26_6, k26_6, hi, ix, ld, fd, st, app3, get32, set32, take3, ret1 m37, ret1 m36, so1, so2, so3, so4, so5, ca, cb, cm, hw, trim_cut, Rec.sl_bel, Rec.row_bel, Rec.o_bel, b2, sb1, sb3, -List.append_assoc, -List.all_eq_true]
    exact ih
end Go.Proofs.Yteaoeebakmdcnaa.Bm

namespace Go.Proofs.Yteaoeebakmdcnaa.Bm
open Go Go.RowKit
open Rg (Rect areaL cell)

def subF (a b : Bool) : Bool := a && !b
theorem minus2_spec (k m : Option Bool) (a b : List Rect) (hk : Rec.Ok k a) (hm : Rec.Ok m b) (ha : a.length ≤ 1000000) (hb : b.length ≤ 1000000) :
    pureCall E.P (L E) 14 [rectR.o k a, rectR.o m b] = some (resL (opR subF a b)) := by
  have key := combine_spec k m a b 27 subF hk hm rfl minus_spec ha hb
  have so : ∀ k l, settled depth (rectR.o k l) = true := fun k l => Rec.o_set
  have so4 : settled depth (.func (.func 27) ⟨[]⟩ ⟨[]⟩) = true := rfl
  rw [pureCall_fn F14 rfl]
  cases h : opR subF a b <;> rw [h] at key <;> simp -implicitDefEqProofs [r14, padS, ret1 m26, so, so4, key, resL]

/-! ### Areas -/
theorem area_s (r : Rect) (h : okR r = true) : pureCall E.P (L E) 24 [.agg ⟨[.int .i64 r.x0, .int .i64 r.y0, .int .i64 r.x1, .int .i64 r.y1]⟩] = some (.int .i64 r.area) := area_spec r h
theorem area2_spec (k : Option Bool) (l : List Rect) (hk : Rec.Ok k l) (hl : l.length ≤ 1000000) : pureCall E.P (L E) 11 [rectR.o k l] = some (.int .i64 (if regB l then areaL l else 0)) := by
  have hr := right2_spec k l hk hl
  rw [pureCall_fn F11 rfl]
  cases h : regB l
  · simp -implicitDefEqProofs [r11, p11, ret0 m8, Rec.o_reify, hr, h]
  · obtain ⟨h1, h2, _⟩ := regB_iff.1 h
    have hok : ∀ r ∈ l, okR r = true := List.all_eq_true.1 h1
    simp -implicitDefEqProofs [r11, p11, ret0 m8, Rec.o_reify, hr, h, Rec.o_len hk]
    rw [LL_for (γ := Int) l 0 (fun i n => [(3, .int .i64 n), (11, .int .i64 i)]) (fun _ _ => []) (fun _ rest n => (.exit 0, [(3, .int .i64 (n + areaL rest)), (11, undef)], [])) (fun i n => 0 ≤ n ∧ n ≤ i * 1099511627776) (by omega) ⟨Int.le_refl _, by omega⟩]
    · simp -implicitDefEqProofs [k11_5]
    · simp -implicitDefEqProofs [k11_5]
    · rfl
    · intro nx i c hi _
      simp -implicitDefEqProofs [r11_5, k11_5, hi, Rec.o_len hk, trim_le, areaL]
    · intro nx i r rest n hi hv hd hw hn ih
      have hrr := hok r (by rw [← hv]; exact List.getElem_mem hi)
      have hb := area_bound hrr
      have ixi := Rec.o_index (R := rectR) (t := 32) (kk := .i64) (s := 4) rfl hk hi
      rw [hv] at ixi
      have ar := area_s r hrr
      have w1 : IntKind.i64.wrap (n + r.area) = n + r.area := wrap64 (by omega) (by omega)
      have ih := ih (n + r.area) ⟨by omega, by push_cast; omega⟩
      have e : n + areaL (r :: rest) = n + r.area + areaL rest := by show n + (r.area + areaL rest) = _; omega
      rw [e]
      simp -implicitDefEqProofs [k11_5] at ih
      simp -implicitDefEqProofs [r11_5, k11_5, hi, ixi, Rec.o_len hk, rect_val, ret0 m24, ar, w1, hw, trim_cut, Rec.o_bel]
      exact ih

/-! ### Cells -/
end Go.Proofs.Yteaoeebakmdcnaa.Bm

namespace Go.Proofs.Yteaoeebakmdcnaa.Rg

/-! ### The box around a form -/
theorem canS_all : ∀ {c : List (Int × Int)} {b : Int}, canS b c → ∀ s ∈ c, s.1 < s.2
  | [], _, _, s, hs => by cases hs
  | (f, t) :: c, b, h, s, hs => by
    rcases List.mem_cons.1 hs with rfl | hs
    · exact h.2.1
    · exact canS_all h.2.2 s hs
theorem Can.all {c : List (Int × Int)} (h : Can c) : ∀ s ∈ c, s.1 < s.2 := by
  obtain ⟨b, hb, _⟩ := low_ex c []
  exact canS_all (canS_ex h b hb)
theorem Form.pos {l : List Rect} (h : Form l) : ∀ r ∈ l, r.x0 < r.x1 ∧ r.y0 < r.y1 := by
  obtain ⟨b, T, hT, rfl⟩ := h
  intro r hr
  obtain ⟨s, hs, hr⟩ := List.mem_flatMap.1 hr
  obtain ⟨c, hc, rfl⟩ := List.mem_map.1 hr
  have h1 := (canT_facts hT).2 s hs
  exact ⟨h1.2.1, h1.2.2.all c hc⟩
theorem cell_true {l : List Rect} {x y : Int} : cell l x y = true ↔ ∃ r ∈ l, r.x0 ≤ x ∧ x < r.x1 ∧ r.y0 ≤ y ∧ y < r.y1 := by
  unfold cell Rect.has
  rw [List.any_eq_true]
  simp only [Bool.and_eq_true, decide_eq_true_eq]
  exact ⟨fun ⟨r, hr, h⟩ => ⟨r, hr, h.1.1, h.1.2, h.2.1, h.2.2⟩, fun ⟨r, hr, h1, h2, h3, h4⟩ => ⟨r, hr, ⟨h1, h2⟩, h3, h4⟩⟩
theorem Form.box {l : List Rect} (h : Form l) {n : Int} (hb : ∀ x y, cell l x y = true → 0 ≤ x ∧ x < n ∧ 0 ≤ y ∧ y < n) : ∀ r ∈ l, r.inBox n := by
  intro r hr
  have hp := h.pos r hr
  have h1 := hb r.x0 r.y0 (cell_true.2 ⟨r, hr, by omega, by omega, by omega, by omega⟩)
  have h2 := hb (r.x1 - 1) (r.y1 - 1) (cell_true.2 ⟨r, hr, by omega, by omega, by omega, by omega⟩)
  unfold Rect.inBox
  omega
theorem cell_box {l : List Rect} {n : Int} (h : ∀ r ∈ l, r.inBox n) {x y : Int} (hc : cell l x y = true) : 0 ≤ x ∧ x < n ∧ 0 ≤ y ∧ y < n := by
  obtain ⟨r, hr, h1, h2, h3, h4⟩ := cell_true.1 hc
  have := h r hr
  unfold Rect.inBox at this
  omega

/-! ### Sums over a grid with a border -/
/-! ### Lengths -/
end Go.Proofs.Yteaoeebakmdcnaa.Rg

namespace Go.Proofs.Yteaoeebakmdcnaa.Rg

def gapX (r s : Rect) : Int := max r.x0 s.x0 - min r.x1 s.x1
def gapY (r s : Rect) : Int := max r.y0 s.y0 - min r.y1 s.y1
/-- Rectangles with a piece of a side in common. -/
def touchB (r s : Rect) : Bool := (decide (gapX r s = 0) && decide (gapY r s < 0)) || (decide (gapY r s = 0) && decide (gapX r s < 0))
/-- A part grows by what touches its members, from the one with index 'i' on. -/
def absorb : Nat → Nat → List Rect → List Rect → List Rect × List Rect
  | 0, _, part, left => (part, left)
  | n + 1, i, part, left => match part[i]? with
    | none => (part, left)
    | some r => absorb n (i + 1) (part ++ left.filter (touchB r)) (left.filter fun s => !touchB r s)
theorem filter_both {α : Type} (p : α → Bool) : ∀ l : List α, (l.filter p).length + (l.filter fun a => !p a).length = l.length
  | [] => rfl
  | a :: l => by
    have ih := filter_both p l
    cases h : p a
    · rw [List.filter_cons_of_neg (by simp [h]), List.filter_cons_of_pos (by simp [h]), List.length_cons, List.length_cons]; omega
    · rw [List.filter_cons_of_pos h, List.filter_cons_of_neg (by simp [h]), List.length_cons, List.length_cons]; omega
theorem absorb_len : ∀ (n i : Nat) (part left : List Rect), (absorb n i part left).1.length + (absorb n i part left).2.length = part.length + left.length
  | 0, _, _, _ => rfl
  | n + 1, i, part, left => by
    unfold absorb
    cases h : part[i]? with
    | none => rfl
    | some r =>
      simp only
      rw [absorb_len n, List.length_append]
      have := filter_both (touchB r) left
      omega
theorem absorb_part : ∀ (n i : Nat) (part left : List Rect), ∃ t, (absorb n i part left).1 = part ++ t
  | 0, _, part, _ => ⟨[], (List.append_nil part).symm⟩
  | n + 1, i, part, left => by
    unfold absorb
    cases h : part[i]? with
    | none => exact ⟨[], (List.append_nil part).symm⟩
    | some r =>
      obtain ⟨t, e⟩ := absorb_part n (i + 1) (part ++ left.filter (touchB r)) (left.filter fun s => !touchB r s)
      exact ⟨left.filter (touchB r) ++ t, by simp only; rw [e, List.append_assoc]⟩
/-- The parts of a list, each as it is gathered. -/
def partsF : Nat → List Rect → List (List Rect)
  | 0, _ => []
  | _ + 1, [] => []
  | n + 1, r :: l => (absorb (l.length + 2) 0 [r] l).1 :: partsF n (absorb (l.length + 2) 0 [r] l).2
def partsL (a : List Rect) : List (List Rect) := partsF a.length a
/-- More rounds change nothing. -/
theorem absorb_more : ∀ (n m i : Nat) (part left : List Rect), part.length + left.length ≤ i + n → n ≤ m → absorb m i part left = absorb n i part left
  | 0, m, i, part, left, h, _ => by
    cases m with
    | zero => rfl
    | succ m =>
      have : part[i]? = none := List.getElem?_eq_none (by omega)
      unfold absorb
      rw [this]
  | n + 1, m, i, part, left, h, hm => by
    obtain ⟨m, rfl⟩ : ∃ m', m = m' + 1 := ⟨m - 1, by omega⟩
    unfold absorb
    cases hp : part[i]? with
    | none => rfl
    | some r =>
      simp only
      have := filter_both (touchB r) left
      exact absorb_more n m (i + 1) _ _ (by rw [List.length_append]; omega) (by omega)
theorem partsF_more : ∀ (n m : Nat) (a : List Rect), a.length ≤ n → n ≤ m → partsF m a = partsF n a
  | 0, m, a, h, _ => by
    have : a = [] := List.eq_nil_of_length_eq_zero (by omega)
    subst this
    cases m <;> rfl
  | n + 1, m, [], _, _ => by cases m <;> rfl
  | n + 1, m, r :: l, h, hm => by
    obtain ⟨m, rfl⟩ : ∃ m', m = m' + 1 := ⟨m - 1, by omega⟩
    unfold partsF
    obtain ⟨t, e⟩ := absorb_part (l.length + 2) 0 [r] l
    have hl := absorb_len (l.length + 2) 0 [r] l
    rw [e, List.length_append, List.length_singleton] at hl
    rw [List.length_cons] at h
    rw [partsF_more n m _ (by omega) (by omega)]

/-! ### Moved -/
section
variable {f : Rect → Rect} (hf : ∀ r s, touchB (f r) (f s) = touchB r s)
include hf
theorem absorb_map : ∀ (n i : Nat) (part left : List Rect), absorb n i (part.map f) (left.map f) = ((absorb n i part left).1.map f, (absorb n i part left).2.map f)
  | 0, _, _, _ => rfl
  | n + 1, i, part, left => by
    unfold absorb
    rw [List.getElem?_map]
    cases h : part[i]? with
    | none => rfl
    | some r =>
      have e1 : (left.map f).filter (touchB (f r)) = (left.filter (touchB r)).map f := by
        rw [List.filter_map]
        congr 1
        exact List.filter_congr fun s _ => hf r s
      have e2 : (left.map f).filter (fun s => !touchB (f r) s) = (left.filter fun s => !touchB r s).map f := by
        rw [List.filter_map]
        congr 1
        exact List.filter_congr fun s _ => by show (!touchB (f r) (f s)) = _; rw [hf]
      simp only [Option.map_some]
      rw [e1, e2, ← List.map_append, absorb_map n]
theorem partsF_map : ∀ (n : Nat) (a : List Rect), partsF n (a.map f) = (partsF n a).map (·.map f)
  | 0, _ => rfl
  | n + 1, [] => rfl
  | n + 1, r :: l => by
    have e := absorb_map hf (l.length + 2) 0 [r] l
    rw [List.map_singleton] at e
    show (absorb ((l.map f).length + 2) 0 [f r] (l.map f)).1 :: partsF n (absorb ((l.map f).length + 2) 0 [f r] (l.map f)).2 = _
    rw [List.length_map, e]
    simp only
    rw [partsF_map n]; rfl
theorem partsL_map (a : List Rect) : partsL (a.map f) = (partsL a).map (·.map f) := by
  unfold partsL
  rw [List.length_map, partsF_map hf]
end
end Go.Proofs.Yteaoeebakmdcnaa.Rg

namespace Go.Proofs.Yteaoeebakmdcnaa.Bm
open Go Go.RowKit
theorem LL_ex {k : List Nat × List Nat} {b : Body} {σ₀ : Slots} {h₀ : Heap} {α : Type} (a₀ : α) (up : α → List (Nat × Value)) (H : α → Heap) (Q : Exit × Slots × Heap → Prop) (I : α → Prop) (ms : α → Nat)
    (hI : I a₀) (e0 : sets (up a₀) (forget k.1 σ₀) = forget k.1 σ₀) (e1 : H a₀ = h₀)
    (step : ∀ (nx : Body) a, I a → (∀ a', ms a' < ms a → I a' → ∃ r, nx (sets (up a') (forget k.1 σ₀)) (H a') = some r ∧ Q r) →
      ∃ r, lopK k.1 k.2 nx (H a).length (b (forget k.1 (sets (up a) (forget k.1 σ₀))) (H a)) = some r ∧ Q r) :
    ∃ r, LL k b σ₀ h₀ = some r ∧ Q r := by
  have key : ∀ n a, ms a = n → I a → ∃ r, LL k b (sets (up a) (forget k.1 σ₀)) (H a) = some r ∧ Q r := by
    intro n
    induction n using Nat.strongRecOn with
    | _ n ih =>
      intro a ha hi
      rw [LL_go]
      exact step (LL k b) a hi fun a' hlt hi' => ih (ms a') (by omega) a' rfl hi'
  have h := key _ a₀ rfl hI
  rw [e0, e1] at h
  have e : LL k b (forget k.1 σ₀) h₀ = LL k b σ₀ h₀ := by
    rw [LL_go, LL_go, forget_twice]
  rw [e] at h
  exact h
end Go.Proofs.Yteaoeebakmdcnaa.Bm

namespace Go.Proofs.Yteaoeebakmdcnaa.Bm
open Go Go.RowKit
open Rg (Rect touchB gapX gapY)

theorem min_int6 (a b : Int) : aMinMax false [.int .i64 a, .int .i64 b] = some (.int .i64 (min a b)) := by
  show some (Value.int .i64 (if b < a then b else a)) = _
  congr 2
  omega
theorem gaps6 (r s : Rect) (hr : okR r = true) (hs : okR s = true) : pureCall E.P (L E) 34 [.agg ⟨[.int .i64 r.x0, .int .i64 r.y0, .int .i64 r.x1, .int .i64 r.y1]⟩, .agg ⟨[.int .i64 s.x0, .int .i64 s.y0, .int .i64 s.x1, .int .i64 s.y1]⟩] = some (.tuple ⟨[.int .i64 (gapX r s), .int .i64 (gapY r s)]⟩) := by
  have hb := okR_iff.1 hr
  have hc := okR_iff.1 hs
  unfold Rect.inBox at hb hc
  unfold gapX gapY
  have w1 : IntKind.i64.wrap (max r.x0 s.x0 - min r.x1 s.x1) = max r.x0 s.x0 - min r.x1 s.x1 := wrap64 (by omega) (by omega)
  have w2 : IntKind.i64.wrap (max r.y0 s.y0 - min r.y1 s.y1) = max r.y0 s.y0 - min r.y1 s.y1 := wrap64 (by omega) (by omega)
  rw [pureCall_fn F34 rfl]
  simp -implicitDefEqProofs [r34, padS, min_int6, max_int, w1, w2]
theorem touch6 (r s : Rect) (hr : okR r = true) (hs : okR s = true) : pureCall E.P (L E) 22 [.agg ⟨[.int .i64 r.x0, .int .i64 r.y0, .int .i64 r.x1, .int .i64 r.y1]⟩, .agg ⟨[.int .i64 s.x0, .int .i64 s.y0, .int .i64 s.x1, .int .i64 s.y1]⟩] = some (.bool (touchB r s)) := by
  have q1 := right_s r
  have q2 := right_s s
  rw [hr] at q1
  rw [hs] at q2
  have g := gaps6 r s hr hs
  unfold touchB
  generalize gapX r s = x at *
  generalize gapY r s = y at *
  rw [pureCall_fn F22 rfl]
  by_cases h1 : x = 0
  · by_cases h2 : y < 0
    · have h3 : ¬ y = 0 := by omega
      simp -implicitDefEqProofs [r22, p22, ret0 m15, q1, q2, ret0 m34, g, h1, h2, h3]
    · by_cases h3 : y = 0
      · simp -implicitDefEqProofs [r22, p22, ret0 m15, q1, q2, ret0 m34, g, h1, h3]
      · simp -implicitDefEqProofs [r22, p22, ret0 m15, q1, q2, ret0 m34, g, h1, h2, h3]
  · by_cases h3 : y = 0
    · by_cases h4 : x < 0
      · simp -implicitDefEqProofs [r22, p22, ret0 m15, q1, q2, ret0 m34, g, h1, h3, h4]
      · simp -implicitDefEqProofs [r22, p22, ret0 m15, q1, q2, ret0 m34, g, h1, h3, h4]
    · simp -implicitDefEqProofs [r22, p22, ret0 m15, q1, q2, ret0 m34, g, h1, h3]

/-! ### The function that gathers -/
def ptr (b : Nat) : Value := .pointer (some ⟨b, 0, none⟩)
def cellV (t : TypeId) (v : Value) : AObj := .cells t [v] 0
def boxR (r : Rect) : AObj := .cells 32 [.int .i64 r.x0, .int .i64 r.y0, .int .i64 r.x1, .int .i64 r.y1] 0
theorem cell_load {h : Heap} {b : Nat} {t : TypeId} {v : Value} {sz : Option Nat} (hb : h[b]? = some (cellV t v)) : loadT ⟨some false, sz⟩ h (ptr b) = some v := by
  unfold ptr
  rw [load_one]
  unfold rowOf
  show ((match h[b]? with | some (.cells _ c g) => _ | _ => none) : Option (List Value)).bind _ = _
  rw [hb]; rfl
theorem cell_store {h : Heap} {b lo : Nat} {t : TypeId} {u v : Value} (hb : h[b]? = some (cellV t u)) (hlo : lo ≤ b) (hv : cellsOf v = some [v]) : storeT (some 1) h lo v (ptr b) = some (h.set b (cellV t v)) := by
  unfold ptr
  rw [store_ptr, hv, Option.bind_some, if_pos (show 1 = [v].length from rfl)]
  unfold wrN
  show (match h[b]? with | some (.cells t c g) => _ | _ => none) = _
  rw [hb]
  show (if _ then _ else none) = _
  rw [if_pos ⟨hlo, rfl, by simp, by simp⟩]; rfl
theorem get_app {h : Heap} {q : AObj} {b : Nat} {o : AObj} (hb : h[b]? = some o) : (h ++ [q])[b]? = some o := by
  have : b < h.length := (List.getElem?_eq_some_iff.1 hb).1
  rw [List.getElem?_append_left this, hb]
theorem gather_no {h : Heap} {lo bc bi i : Nat} {pv : Value} {part : List Rect} (s : Rect) (hc : h[bc]? = some (cellV 22 pv)) (hi : h[bi]? = some (cellV 3 (.int .i64 i))) (hip : i < part.length)
    (hp : pv = lst true (rectR.vals part) ∨ ∃ bp, pv = rectR.sl bp part ∧ h[bp]? = some (rectR.row 32 part)) (hr : okR part[i] = true) (hs : okR s = true) (ht : touchB part[i] s = false) :
    L E 21 [rectR.val s, ptr bc, ptr bi] h lo = some (.bool false, h ++ [boxR s]) := by
  have tc := touch6 part[i] s hr hs
  rw [ht] at tc
  have lc := cell_load (sz := some 1) (get_app (q := boxR s) hc)
  have li := cell_load (sz := some 1) (get_app (q := boxR s) hi)
  have hidx : ∃ a, indexAddrT (.sl 32 ⟨some true, some 4⟩) pv (.int .i64 (i : Int)) = some a ∧ loadT ⟨some true, some 4⟩ (h ++ [boxR s]) a = some (rectR.val part[i]) := by
    rcases hp with rfl | ⟨bp, rfl, hbp⟩
    · exact ⟨_, Rec.index_tree rfl hip, rfl⟩
    · exact ⟨_, Rec.index_row (R := rectR) rfl hip, Rec.load_row (R := rectR) rfl (get_app hbp) hip⟩
  obtain ⟨a, ia, la⟩ := hidx
  rw [rect_val] at la
  rw [L_fn F21 rfl]
  unfold boxR at *
  simp -implicitDefEqProofs [r21, padS, rect_val, lc, li, ia, la, ret0 m22, tc]
theorem get_set {h : Heap} {b c : Nat} {q o : AObj} (hb : h[b]? = some o) (hne : b ≠ c) : (h.set c q)[b]? = some o := by
  rw [List.getElem?_set_ne (Ne.symm hne)]; exact hb
theorem get_setE {h : Heap} {b : Nat} {q : AObj} (hb : b < h.length) : (h.set b q)[b]? = some q := by
  rw [List.getElem?_set_self hb]
theorem o_cell (b : Nat) (l : List Rect) : cellsOf (rectR.sl b l) = some [rectR.sl b l] := rfl
/-- The first one that a part takes up: the part moves into a row of its own. -/
theorem gather_new {h : Heap} {lo bc bi i : Nat} {part : List Rect} (s : Rect) (hc : h[bc]? = some (cellV 22 (lst true (rectR.vals part)))) (hi : h[bi]? = some (cellV 3 (.int .i64 i))) (hip : i < part.length) (hl : part.length ≤ 1000000)
    (hlo : lo ≤ bc) (hr : okR part[i] = true) (hs : okR s = true) (ht : touchB part[i] s = true) :
    L E 21 [rectR.val s, ptr bc, ptr bi] h lo = some (.bool true, (h ++ [boxR s, rectR.row 32 (part ++ [s])]).set bc (cellV 22 (rectR.sl (h.length + 1) (part ++ [s])))) := by
  have tc := touch6 part[i] s hr hs
  rw [ht] at tc
  have lc := cell_load (sz := some 1) (get_app (q := boxR s) hc)
  have li := cell_load (sz := some 1) (get_app (q := boxR s) hi)
  have ia : indexAddrT (.sl 32 ⟨some true, some 4⟩) (lst true (rectR.vals part)) (.int .i64 (i : Int)) = some (cptr (rectR.val part[i])) := Rec.index_tree rfl hip
  have hlc : (h ++ [boxR s]).length = h.length + 1 := by simp
  have ap : appendT (some ⟨32, 4, 32, .agg ⟨[.int .i64 0, .int .i64 0, .int .i64 0, .int .i64 0]⟩, ⟨some true, some 4⟩⟩) (h ++ [boxR s]) lo false (lst true (rectR.vals part)) (lst true (rectR.vals [s])) = some (rectR.sl (h.length + 1) (part ++ [s]), h ++ [boxR s, rectR.row 32 (part ++ [s])]) := by
    have ct : sliceCells (h ++ [boxR s]) 4 (lst true (rectR.vals [s])) = some (rectR.flat [s], 1) := Rec.cells_tree (R := rectR) rfl [s]
    rw [append_lst]
    show ((sliceCells (h ++ [boxR s]) 4 (lst true (rectR.vals [s]))).bind _) = _
    rw [ct, Option.bind_some]
    show (if (1 : Nat) = 0 then _ else _) = _
    rw [if_neg (by decide)]
    have hv : (rectR.vals part).length = part.length := Rec.vals_len
    rw [if_pos ⟨Rec.vals_all part, by rw [hv]; show (part.length + 1) * 32 ≤ 2 ^ 47; omega⟩]
    rw [Rec.vals_flat, ← Rec.flat_app, hlc, hv]
    unfold Rec.sl Rec.row
    rw [Rec.flat_len, List.length_append, List.append_assoc]; rfl
  have hc2 : (h ++ [boxR s, rectR.row 32 (part ++ [s])])[bc]? = some (cellV 22 (lst true (rectR.vals part))) := by
    have : bc < h.length := (List.getElem?_eq_some_iff.1 hc).1
    rw [List.getElem?_append_left this, hc]
  have st := cell_store (lo := lo) (v := rectR.sl (h.length + 1) (part ++ [s])) hc2 hlo (o_cell _ _)
  rw [L_fn F21 rfl]
  rw [show rectR.vals [s] = [.agg ⟨[.int .i64 s.x0, .int .i64 s.y0, .int .i64 s.x1, .int .i64 s.y1]⟩] from rfl] at ap
  unfold boxR at *
  simp -implicitDefEqProofs [r21, padS, rect_val, lc, li, ia, ret0 m22, tc, lit_rect, ap, st, -append_lst]
/-- Each further one: the row grows. -/
theorem gather_more {h : Heap} {lo bc bi bp i : Nat} {part : List Rect} (s : Rect) (hc : h[bc]? = some (cellV 22 (rectR.sl bp part))) (hi : h[bi]? = some (cellV 3 (.int .i64 i))) (hbp : h[bp]? = some (rectR.row 32 part)) (hip : i < part.length) (hl : part.length ≤ 1000000)
    (hne : bc ≠ bp) (hlo : lo ≤ bc) (hlp : lo ≤ bp) (hr : okR part[i] = true) (hs : okR s = true) (ht : touchB part[i] s = true) :
    L E 21 [rectR.val s, ptr bc, ptr bi] h lo = some (.bool true, ((h ++ [boxR s]).set bp (rectR.row 32 (part ++ [s]))).set bc (cellV 22 (rectR.sl bp (part ++ [s])))) := by
  have tc := touch6 part[i] s hr hs
  rw [ht] at tc
  have lc := cell_load (sz := some 1) (get_app (q := boxR s) hc)
  have li := cell_load (sz := some 1) (get_app (q := boxR s) hi)
  have ia := Rec.index_row (R := rectR) (h0 := 4) (t := 32) (g := some true) (b := bp) (k := .i64) rfl hip
  have la := Rec.load_row (R := rectR) (n := 4) rfl (get_app (q := boxR s) hbp) hip
  rw [rect_val] at la
  have ap := app_rect (h := h ++ [boxR s]) (b := bp) (lo := lo) (c := part) s (get_app (q := boxR s) hbp) hlp (by omega)
  have hc2 := get_set (q := rectR.row 32 (part ++ [s])) (get_app (q := boxR s) hc) hne
  have st := cell_store (lo := lo) (v := rectR.sl bp (part ++ [s])) hc2 hlo (o_cell _ _)
  rw [L_fn F21 rfl]
  unfold boxR at *
  simp -implicitDefEqProofs [r21, padS, rect_val, lc, li, ia, la, ret0 m22, tc, lit_rect, ap, st]
end Go.Proofs.Yteaoeebakmdcnaa.Bm

namespace Go.Proofs.Yteaoeebakmdcnaa.Bm
open Go Go.RowKit
open Rg (Rect touchB)

theorem below_mono : ∀ (d : Nat) {n m : Nat} {v : Value}, n ≤ m → below d n v = true → below d m v = true
  | 0, _, _, _, _, h => absurd h Bool.false_ne_true
  | d + 1, n, m, v, hnm, h => by
    have ih : ∀ l : List Value, l.all (below d n) = true → l.all (below d m) = true := fun l hl => List.all_eq_true.2 fun x hx => below_mono d hnm (List.all_eq_true.1 hl x hx)
    unfold below at h ⊢
    split at h
    · exact decide_eq_true (by have := of_decide_eq_true h; omega)
    · exact decide_eq_true (by have := of_decide_eq_true h; omega)
    · exact decide_eq_true (by have := of_decide_eq_true h; omega)
    · exact ih _ h
    · exact ih _ h
    · rfl
    · rw [Bool.and_eq_true] at h ⊢; exact ⟨ih _ h.1, ih _ h.2⟩
    · exact below_mono d hnm h
    · simp_all
theorem belO_mono {n m : Nat} {o : AObj} (hnm : n ≤ m) (h : belowO n o = true) : belowO m o = true := by
  unfold belowO at h ⊢
  cases o with
  | cells t c g => exact List.all_eq_true.2 fun x hx => below_mono _ hnm (List.all_eq_true.1 h x hx)
  | dead => rfl
  | map es k =>
    refine List.all_eq_true.2 fun x hx => ?_
    have := List.all_eq_true.1 h x hx
    rw [Bool.and_eq_true] at this ⊢
    exact ⟨below_mono _ hnm this.1, below_mono _ hnm this.2⟩
theorem all_set {h : Heap} {f : AObj → Bool} {i : Nat} {o : AObj} (hh : h.all f = true) (ho : f o = true) : (h.set i o).all f = true :=
  List.all_eq_true.2 fun x hx => by
    rcases List.mem_or_eq_of_mem_set hx with q | q
    · exact List.all_eq_true.1 hh x q
    · rw [q]; exact ho
theorem box_bel (n : Nat) (s : Rect) : belowO n (boxR s) = true := rfl
/-- What stands where while a part is gathered: the list that is left in block 'bl', the part in the cell 'bc', its index in the cell 'bi'. -/
structure St (bo : Nat) (O : AObj) (h : Heap) (bl bc bi : Nat) (C part : List Rect) (i : Nat) : Prop where
  left : h[bl]? = some (rectR.row 32 C)
  icell : h[bi]? = some (cellV 3 (.int .i64 i))
  part : ∃ pv, h[bc]? = some (cellV 22 pv) ∧ (pv = lst true (rectR.vals part) ∨ ∃ bp, pv = rectR.sl bp part ∧ h[bp]? = some (rectR.row 32 part) ∧ bp ≠ bl ∧ bp ≠ bc ∧ bp ≠ bi ∧ bp ≠ bo)
  ne : bl ≠ bc ∧ bl ≠ bi ∧ bc ≠ bi
  bel : ∀ n, h.length ≤ n → h.all (belowO n) = true
  oth : h[bo]? = some O ∧ bo ≠ bl ∧ bo ≠ bc ∧ bo ≠ bi
variable {bo : Nat} {O : AObj}
theorem lt_of_get {h : Heap} {b : Nat} {o : AObj} (hb : h[b]? = some o) : b < h.length := (List.getElem?_eq_some_iff.1 hb).1
theorem get_app2 {h : Heap} {p q : AObj} {b : Nat} {o : AObj} (hb : h[b]? = some o) : (h ++ [p, q])[b]? = some o := by
  rw [List.getElem?_append_left (lt_of_get hb), hb]
/-- One rectangle is looked at. -/
theorem gather {h : Heap} {bl bc bi i : Nat} {C part : List Rect} (s : Rect) (hS : St bo O h bl bc bi C part i) (hip : i < part.length) (hl : part.length ≤ 1000000) (hr : okR part[i] = true) (hs : okR s = true) :
    ∃ h', L E 21 [rectR.val s, ptr bc, ptr bi] h 0 = some (.bool (touchB part[i] s), h') ∧ St bo O h' bl bc bi C (part ++ if touchB part[i] s then [s] else []) i ∧ h.length ≤ h'.length ∧ (touchB part[i] s = false → ∀ (b : Nat) (o : AObj), h[b]? = some o → h'[b]? = some o) := by
  obtain ⟨h1, h2, ⟨pv, h3, h4⟩, ⟨n1, n2, n3⟩, hb, o1, o2, o3, o4⟩ := hS
  have hb1 : ∀ n, (h ++ [boxR s]).length ≤ n → (h ++ [boxR s]).all (belowO n) = true := fun n hn => by
    rw [List.length_append, List.length_singleton] at hn
    rw [List.all_append, hb n (by omega)]; rfl
  cases ht : touchB part[i] s
  · refine ⟨_, gather_no s h3 h2 hip (by rcases h4 with rfl | ⟨bp, rfl, hbp, _⟩; exact .inl rfl; exact .inr ⟨bp, rfl, hbp⟩) hr hs ht, ?_, by simp, fun _ b o ho => get_app ho⟩
    have e : part ++ (if false = true then [s] else []) = part := List.append_nil part
    rw [e]
    refine ⟨get_app h1, get_app h2, ⟨pv, get_app h3, ?_⟩, ⟨n1, n2, n3⟩, hb1, get_app o1, o2, o3, o4⟩
    rcases h4 with rfl | ⟨bp, rfl, hbp, q⟩
    · exact .inl rfl
    · exact .inr ⟨bp, rfl, get_app hbp, q⟩
  · have e : part ++ (if true = true then [s] else []) = part ++ [s] := rfl
    rw [e]
    rcases h4 with rfl | ⟨bp, rfl, hbp, q1, q2, q3, q4⟩
    · refine ⟨_, gather_new s h3 h2 hip hl (Nat.zero_le _) hr hs ht, ?_, by simp, fun h => absurd h (by simp)⟩
      have hlc : (h ++ [boxR s, rectR.row 32 (part ++ [s])]).length = h.length + 2 := by simp
      have b1 := lt_of_get h1
      have b2 := lt_of_get h2
      have b3 := lt_of_get h3
      have b4 := lt_of_get o1
      refine ⟨get_set (get_app2 h1) n1, get_set (get_app2 h2) (Ne.symm n3), ⟨_, get_setE (by rw [hlc]; omega), .inr ⟨h.length + 1, rfl, get_set end2 (by omega), by omega, by omega, by omega, by omega⟩⟩, ⟨n1, n2, n3⟩, fun n hn => by
        rw [List.length_set, hlc] at hn
        refine all_set ?_ ?_
        · rw [List.all_append, hb n (by omega)]
          show (belowO n (boxR s) && (belowO n (rectR.row 32 (part ++ [s])) && true)) = true
          rw [Rec.row_bel]; rfl
        · show (below depth n (rectR.sl (h.length + 1) (part ++ [s])) && true) = true
          rw [Bool.and_true]; exact Rec.sl_bel (d := 7) (by omega), get_set (get_app2 o1) o3, o2, o3, o4⟩
    · refine ⟨_, gather_more s h3 h2 hbp hip hl (Ne.symm q2) (Nat.zero_le _) (Nat.zero_le _) hr hs ht, ?_, by simp, fun h => absurd h (by simp)⟩
      have b3 := lt_of_get h3
      have bb := lt_of_get hbp
      have hlc : ((h ++ [boxR s]).set bp (rectR.row 32 (part ++ [s]))).length = h.length + 1 := by simp
      have hlc1 : (h ++ [boxR s]).length = h.length + 1 := by simp
      refine ⟨get_set (get_set (get_app h1) (Ne.symm q1)) n1, get_set (get_set (get_app h2) (Ne.symm q3)) (Ne.symm n3), ⟨_, get_setE (by rw [hlc]; omega), .inr ⟨bp, rfl, get_set (get_setE (by rw [hlc1]; omega)) q2, q1, q2, q3, q4⟩⟩, ⟨n1, n2, n3⟩, fun n hn => by
        rw [List.length_set, hlc] at hn
        refine all_set (all_set (hb1 n (by rw [hlc1]; exact hn)) (Rec.row_bel _)) ?_
        show (below depth n (rectR.sl bp (part ++ [s])) && true) = true
        rw [Bool.and_true]; exact Rec.sl_bel (d := 7) (by omega), get_set (get_set (get_app o1) (Ne.symm q4)) o3, o2, o3, o4⟩
theorem St.clt {h : Heap} {bl bc bi i : Nat} {C part : List Rect} (hS : St bo O h bl bc bi C part i) : bc < h.length := by
  obtain ⟨pv, q, _⟩ := hS.part
  exact lt_of_get q
/-- What stands so stands so still when the rest is cut off. -/
theorem St.trim {h : Heap} {bl bc bi i : Nat} {C part : List Rect} (hS : St bo O h bl bc bi C part i) (n : Nat) (vs : List Value) (q1 : bl < n) (q2 : bc < n) (q3 : bi < n) (q4 : bo < n) : St bo O (Bm.trim n vs h) bl bc bi C part i := by
  unfold Bm.trim
  split
  · exact hS
  split
  · rename_i hl hc
    rw [Bool.and_eq_true] at hc
    have ht : ∀ {b : Nat} {o : AObj}, b < n → h[b]? = some o → (h.take n)[b]? = some o := fun hb ho => by
      rw [List.getElem?_take_of_lt hb]; exact ho
    obtain ⟨h1, h2, ⟨pv, h3, h4⟩, hn, hb, o1, o2⟩ := hS
    refine ⟨ht q1 h1, ht q3 h2, ⟨pv, ht q2 h3, ?_⟩, hn, fun m hm => List.all_eq_true.2 fun o ho => belO_mono (by rw [List.length_take] at hm; omega) (List.all_eq_true.1 hc.2 o ho), ht q4 o1, o2⟩
    rcases h4 with rfl | ⟨bp, rfl, hbp, qq⟩
    · exact .inl rfl
    · have hm := List.all_eq_true.1 hc.2 _ (List.mem_of_getElem? (ht q2 h3))
      have hbn : bp < n := by
        unfold cellV belowO at hm
        simp only [List.all_cons, List.all_nil, Bool.and_true] at hm
        exact of_decide_eq_true hm
      exact .inr ⟨bp, rfl, ht hbn hbp, qq⟩
  · exact hS

theorem trim_ge {n : Nat} {vs : List Value} {h : Heap} (hn : n ≤ h.length) : n ≤ (Bm.trim n vs h).length := by
  unfold Bm.trim
  split
  · exact hn
  split
  · rw [List.length_take]; omega
  · exact hn
/-! ### Searching -/
def lsl (bl off len cap N : Nat) : Value := .slice (some ⟨bl, off * 4, some (N * 4)⟩) len cap
def clo (bc bi : Nat) : Value := .func (.func 21) ⟨[]⟩ ⟨[ptr bc, ptr bi]⟩
theorem lsl_len {h : Heap} {bl off len cap n : Nat} : lenT .sl h (lsl bl off len cap n) = some (.int .i64 len) := rfl
theorem lsl_index {bl off len cap j : Nat} {C : List Rect} (hj : j < len) : indexAddrT (.sl 32 ⟨some true, some 4⟩) (lsl bl off len cap C.length) (.int .i64 (j : Int)) = some (rectR.at_ bl C (off + j) 0) := by
  unfold lsl
  rw [index_slice, if_pos ⟨by omega, by omega⟩]
  have e : off * 4 + ((j : Int)).toNat * 4 = (off + j) * (rectR.m + 1) + 0 := by
    show off * 4 + j * 4 = (off + j) * 4 + 0
    omega
  unfold Rec.at_
  rw [← e]; rfl
theorem ex_loop {g : CRes → Option (Value × Heap)} {x : CRes} {P : Value × Heap → Prop} (h : ∃ r, x = some r ∧ ∃ v, g (some r) = some v ∧ P v) : ∃ v, g x = some v ∧ P v := by
  obtain ⟨r, rfl, hq⟩ := h
  exact hq
/-- What a search finds: nothing, or the first one that touches, which the part has taken up. -/
def Found (bo : Nat) (O : AObj) (bl bc bi i : Nat) (C part : List Rect) (p : Rect) (off len : Nat) (v : Value) (h : Heap) : Prop :=
  (v = .int .i64 (-1) ∧ St bo O h bl bc bi C part i ∧ ∀ k, k < len → ∀ hk : off + k < C.length, touchB p C[off + k] = false) ∨
  ∃ j, ∃ hj : off + j < C.length, j < len ∧ v = .int .i64 (j : Int) ∧ St bo O h bl bc bi C (part ++ [C[off + j]]) i ∧ touchB p C[off + j] = true ∧ ∀ k, k < j → ∀ hk : off + k < C.length, touchB p C[off + k] = false
set_option maxHeartbeats 1000000 in
theorem search {h : Heap} {bl bc bi i off len cap : Nat} {C part : List Rect} (hS : St bo O h bl bc bi C part i) (hip : i < part.length) (hl : part.length ≤ 1000000) (hlen : len ≤ 1000000) (hoff : off + len ≤ C.length) (hr : okR part[i] = true) (hC : ∀ k, k < len → ∀ hk : off + k < C.length, okR C[off + k] = true) :
    ∃ r, L E 33 [lsl bl off len cap C.length, clo bc bi] h 0 = some r ∧ Found bo O bl bc bi i C part part[i] off len r.1 r.2 ∧ h.length ≤ r.2.length := by
  rw [L_fn F33 rfl]
  simp -implicitDefEqProofs [r33, p33, lsl_len, -Prod.exists]
  refine ex_loop (g := fun x => retK _ (seqC _ _ _ _ (blkK _ x) _)) (LL_ex (α := Nat × Heap) (0, h) (fun c => [(8, .int .i64 (c.1 : Int))]) (fun c => c.2) _ (fun c => c.1 ≤ len ∧ St bo O c.2 bl bc bi C part i ∧ h.length ≤ c.2.length ∧ ∀ k, k < c.1 → ∀ hk : off + k < C.length, touchB part[i] C[off + k] = false) (fun c => len - c.1) ⟨Nat.zero_le _, hS, Nat.le_refl _, fun k hk => absurd hk (Nat.not_lt_zero k)⟩ ?_ rfl ?_)
  · simp -implicitDefEqProofs [k33_2]
  · intro nx c hc ih
    obtain ⟨j, h1⟩ := c
    obtain ⟨g1, g2, g3, g4⟩ := hc
    simp only at g1 g2 g3 g4
    by_cases hj : j < len
    · have hjC : off + j < C.length := by omega
      have hj' : (j : Int) < (len : Int) := by omega
      have b1 := lt_of_get g2.left
      have b2 : bc < h1.length := g2.clt
      have b3 := lt_of_get g2.icell
      have wj : IntKind.i64.wrap ((j : Int) + 1) = ((j + 1 : Nat) : Int) := (wrap64 (by omega) (by omega)).trans (by omega)
      have ix := lsl_index (bl := bl) (off := off) (cap := cap) (C := C) hj
      have ld := Rec.load_row (R := rectR) (n := 4) (b := bl) (l := C) (i := off + j) rfl g2.left hjC
      obtain ⟨h2, eg, sg, lg, _⟩ := gather C[off + j] g2 hip hl hr (hC j hj hjC)
      simp -implicitDefEqProofs [r33_2, k33_2, lsl_len, hj, hj', ix, ld, clo, ret2 m21, eg, -Prod.exists]
      cases ht : touchB part[i] C[off + j]
      · rw [ht] at sg
        have e0 : part ++ (if false = true then [C[off + j]] else []) = part := List.append_nil part
        rw [e0] at sg
        have s2 := fun vs => sg.trim h1.length vs b1 b2 b3 (lt_of_get g2.oth.1)
        have l2 := fun vs => trim_ge (vs := vs) lg
        have ih := fun vs => ih (j + 1, Bm.trim h1.length vs h2) (by show len - (j + 1) < len - j; omega) ⟨by show j + 1 ≤ len; omega, s2 vs, Nat.le_trans g3 (l2 vs), fun k hk hk' => by
          by_cases e : k = j
          · subst e; exact ht
          · exact g4 k (by simp only at hk; omega) hk'⟩
        simp -implicitDefEqProofs [k33_2, clo, -Prod.exists] at ih
        simp -implicitDefEqProofs [wj, -Prod.exists]
        exact ih _
      · rw [ht] at sg
        have e0 : part ++ (if true = true then [C[off + j]] else []) = part ++ [C[off + j]] := rfl
        rw [e0] at sg
        have s2 := fun vs => sg.trim h1.length vs b1 b2 b3 (lt_of_get g2.oth.1)
        have l2 := fun vs => trim_ge (vs := vs) lg
        simp -implicitDefEqProofs [-Prod.exists]
        exact ⟨.inr ⟨j, hjC, hj, rfl, s2 _, ht, fun k hk hk' => g4 k hk hk'⟩, Nat.le_trans g3 (l2 _)⟩
    · simp -implicitDefEqProofs [r33_2, k33_2, lsl_len, hj, show ¬ ((j : Int) < (len : Int)) by omega, trim_le, -Prod.exists]
      exact ⟨.inl ⟨rfl, g2, fun k hk hk' => g4 k (by omega) hk'⟩, g3⟩
end Go.Proofs.Yteaoeebakmdcnaa.Bm

namespace Go.Proofs.Yteaoeebakmdcnaa.Bm
open Go Go.RowKit

theorem flat_take {α : Type} {R : Rec α} {l : List α} {i : Nat} (h : i ≤ l.length) : (R.flat l).take (i * (R.m + 1)) = R.flat (l.take i) := by
  have e : R.flat l = R.flat (l.take i) ++ R.flat (l.drop i) := by rw [← Rec.flat_app, List.take_append_drop]
  have hl : (R.flat (l.take i)).length = i * (R.m + 1) := by rw [Rec.flat_len, List.length_take, Nat.min_eq_left h]
  rw [e, ← hl, List.take_left]
theorem flat_splice {α : Type} {R : Rec α} {l : List α} {i : Nat} {a : α} (h : i < l.length) : splice (R.flat l) (i * (R.m + 1)) (R.enc a) = R.flat (l.set i a) := by
  unfold splice
  have e : i * (R.m + 1) + (R.enc a).length = (i + 1) * (R.m + 1) := by rw [R.len, Nat.add_mul, Nat.one_mul]
  rw [e, flat_take (by omega), Rec.flat_drop, List.set_eq_take_append_cons_drop, if_pos h, Rec.flat_app]
  show _ = R.flat (l.take i) ++ (R.enc a ++ R.flat (l.drop (i + 1)))
  rw [List.append_assoc]
theorem store_row {α : Type} {R : Rec α} {h : Heap} {b lo n : Nat} {t : TypeId} {l : List α} {i : Nat} {a : α} (hn : n = R.m + 1) (hob : h[b]? = some (R.row t l)) (hlo : lo ≤ b) (h1 : i < l.length) :
    storeT (some n) h lo (R.val a) (R.at_ b l i 0) = some (h.set b (R.row t (l.set i a))) := by
  subst hn
  unfold Rec.at_
  have hv : cellsOf (R.val a) = some (R.enc a) := rfl
  rw [store_ptr, hv, Option.bind_some, if_pos (by rw [R.len])]
  have hin := Rec.in_row (R := R) h1
  have hob' : h[b]? = some (.cells t (R.flat l) (R.m + 1)) := hob
  unfold wrN
  show (match h[b]? with | some (.cells t c g) => _ | _ => none) = _
  rw [hob']
  show (if _ then _ else none) = _
  rw [if_pos ⟨hlo, by unfold stampOk; rw [Rec.flat_len]; simp, by rw [R.len]; omega, by rw [R.len, Rec.flat_len]; simpa using hin⟩]
  show some (h.set b (.cells t (splice (R.flat l) (i * (R.m + 1) + 0) (R.enc a)) (R.m + 1))) = _
  rw [Nat.add_zero, flat_splice h1]; rfl

/-! ### A row that was made, not grown -/
namespace Rec
variable {α : Type}
variable {R : Rec α}
end Rec
end Go.Proofs.Yteaoeebakmdcnaa.Bm
