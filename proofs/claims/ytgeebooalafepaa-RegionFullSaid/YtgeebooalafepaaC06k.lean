/-
  Chapter 06: the region of a list, and what is one. Conditions: lists that are not too long.
-/
import Derived.Test.YtgeebooalafepaaC06i
namespace Go.Proofs.Ytgeebooalafepaa.Bm
open Go Go.RowKit
open Rg (Rect Slab runs runsF outT emit ofL stripsL edgesX colC)

theorem ret3 {E : Env} {C : Callee} {lo : Nat} {h : Heap} {f : FuncId} (hm : E.mode f = 3) {args : List Value} : retCall E C lo false f args h = (C f args h lo).map fun r => (r.1, trim h.length [r.1] r.2) := by
  unfold retCall; rw [hm]; rfl
theorem trim_no {n : Nat} {v : Value} {h : Heap} (hv : below depth n v = false) : trim n [v] h = h := by
  unfold trim
  split
  · rfl
  · rw [if_neg]; simp [hv]
theorem frzAll_row {h h' : Heap} {lo : Nat} {v u : Value} (hf : freezeV E.P depth lo h v = some (u, h')) : frzAll E.P lo [v] h = some ([u], h') := by
  unfold frzAll
  simp [List.foldlM, hf]

theorem strips_len (l : List Rect) : (stripsL l).length ≤ 2 * l.length := by
  have h1 := Rg.edgesX_len l
  have h2 := Rg.stripL_len (colC l) (edgesX l)
  unfold stripsL
  omega
theorem stripL_mem (c : Int → List (Int × Int)) : ∀ (xs : List Int) s, s ∈ Rg.stripL c xs → s.col = c s.x0
  | [], s, h => by cases h
  | [_], s, h => by cases h
  | a :: b :: xs, s, h => by
    rcases List.mem_cons.1 h with rfl | h
    · rfl
    · exact stripL_mem c (b :: xs) s h
theorem strips_col (l : List Rect) : ∀ s ∈ stripsL l, s.col.length ≤ l.length := fun s hs => by
  rw [stripL_mem _ _ s hs]
  exact Rg.colC_len l _
theorem lit_list1 (h : Heap) (k : Option Bool) (l : List Rect) : buildSliceT (some ⟨22, 1, 24, .slice none 0 0, ⟨some false, some 1⟩⟩) false h 1 #[(0, rectR.o k l)] = some (lst true [rectR.o k l], h) := by
  cases k <;> exact (build_lit' (n := 1) (l := [(0, _)]) rfl rfl (by decide) (by decide) (by decide)).trans rfl
theorem lit_list2 (h : Heap) (k m : Option Bool) (l r : List Rect) : buildSliceT (some ⟨22, 1, 24, .slice none 0 0, ⟨some false, some 1⟩⟩) false h 2 #[(0, rectR.o k l), (1, rectR.o m r)] = some (lst true [rectR.o k l, rectR.o m r], h) := by
  cases k <;> cases m <;> exact (build_lit' (n := 2) (l := [(0, _), (1, _)]) rfl rfl (by decide) (by decide) (by decide)).trans rfl
/-- Strips of one list, on any heap. -/
theorem strips_one (k : Option Bool) (l : List Rect) (hk : Rec.Ok k l) (hl : l.length ≤ 1000) (h : Heap) (lo : Nat) (hlo : lo ≤ h.length) (hb : ∀ n, h.length ≤ n → h.all (belowO n) = true) :
    ∃ q, retCall E (L E) lo false 27 [lst true [rectR.o k l]] h = some (slabR.sl (h.length + 1) (stripsL l), h ++ [intR.row 3 q, slabR.row 61 (stripsL l)]) := by
  obtain ⟨q, hq⟩ := strips_spec true [(k, l)] (fun p hp => by simp at hp; subst hp; exact hk) (by show 1 ≤ 1000; omega) (by show l.length + 0 ≤ 1000; omega) (by cases k <;> rfl) h lo hlo hb
  refine ⟨q, ?_⟩
  have e : allP [(k, l)] = l := List.append_nil l
  rw [e] at hq
  rw [ret3 m27]
  show ((L E 27 [lst true [rectR.o k l]] h lo).map _) = _
  rw [show [rectR.o k l] = [(k, l)].map (fun p => rectR.o p.1 p.2) from rfl, hq]
  show some (_, trim _ _ _) = _
  rw [trim_no]
  have hn : ¬ (h.length + 1 < h.length) := by omega
  exact decide_eq_false hn
theorem strips_two (k m : Option Bool) (l r : List Rect) (hk : Rec.Ok k l) (hm : Rec.Ok m r) (hl : l.length + r.length ≤ 1000) (h : Heap) (lo : Nat) (hlo : lo ≤ h.length) (hb : ∀ n, h.length ≤ n → h.all (belowO n) = true) :
    ∃ q, retCall E (L E) lo false 27 [lst true [rectR.o k l, rectR.o m r]] h = some (slabR.sl (h.length + 1) (stripsL (l ++ r)), h ++ [intR.row 3 q, slabR.row 61 (stripsL (l ++ r))]) := by
  obtain ⟨q, hq⟩ := strips_spec true [(k, l), (m, r)] (fun p hp => by simp at hp; rcases hp with rfl | rfl <;> assumption) (by show 2 ≤ 1000; omega) (by show l.length + (r.length + 0) ≤ 1000; omega) (by cases k <;> cases m <;> rfl) h lo hlo hb
  refine ⟨q, ?_⟩
  have e : allP [(k, l), (m, r)] = l ++ r := by show l ++ (r ++ []) = _; rw [List.append_nil]
  rw [e] at hq
  rw [ret3 m27]
  show ((L E 27 [lst true [rectR.o k l, rectR.o m r]] h lo).map _) = _
  rw [show [rectR.o k l, rectR.o m r] = [(k, l), (m, r)].map (fun p => rectR.o p.1 p.2) from rfl, hq]
  show some (_, trim _ _ _) = _
  rw [trim_no]
  have hn : ¬ (h.length + 1 < h.length) := by omega
  exact decide_eq_false hn
/-- What is written of strips that stand in the heap. -/
theorem write_row {h : Heap} {b lo : Nat} (T : List Slab) (hob : h[b]? = some (slabR.row 61 T)) (hlo : lo ≤ b) (hT : T.length ≤ 10000) (hc : ∀ s ∈ T, s.col.length ≤ 10000) :
    ∃ h', retCall E (L E) lo false 26 [slabR.sl b T] h = some (lst false (rectR.vals (outT (runsF T))), h') := by
  have hf := Rec.freeze_row (R := slabR) hob s61 a61 hlo
  refine ⟨if T.length = 0 then h else h.set b .dead, ?_⟩
  rw [ret4 m26, frzAll_row hf]
  show ((pureCall E.P (L E) 26 [lst false (slabR.vals T)]).map _) = _
  rw [write_spec T hT hc]
  rfl

/-! ### The region of a list -/
def ofR (l : List Rect) : Except Int (List Rect) := if l.all okR then if 400 < l.length then .error 6 else if (ofL l).length ≤ 200 then .ok (ofL l) else .error 6 else .error 1
def resL : Except Int (List Rect) → Value
  | .error e => .tuple ⟨[.slice none 0 0, .int .i64 e]⟩
  | .ok l => .tuple ⟨[lst false (rectR.vals l), .int .i64 0]⟩

theorem of_spec (k : Option Bool) (l : List Rect) (hk : Rec.Ok k l) (hl : l.length ≤ 1000000) : pureCall E.P (L E) 9 [rectR.o k l] = some (resL (ofR l)) := by
  rw [pureCall_fn F9 rfl]
  simp -implicitDefEqProofs [r9, padS, Rec.o_len hk]
  rw [LL_for (γ := Unit) l () (fun i _ => [(8, .int .i64 i)]) (fun _ _ => []) (fun _ rest _ => if rest.all okR then (.exit 0, [(8, undef)], []) else (.ret, [(2, .slice none 0 0), (3, .int .i64 1), (8, undef)], [])) (fun _ _ => True) (by omega) trivial]
  · unfold ofR
    cases ha : l.all okR
    · simp -implicitDefEqProofs [k9_2, resL]
    · by_cases h4 : 400 < l.length
      · have h4i : 400 < (l.length : Int) := by omega
        simp -implicitDefEqProofs [k9_2, resL, h4, h4i, Rec.o_len hk]
      · have h4' : ¬ (400 < (l.length : Int)) := by omega
        obtain ⟨q, hs⟩ := strips_one k l hk (by omega) [] 0 (Nat.le_refl _) fun _ _ => rfl
        obtain ⟨h', hw⟩ := write_row (h := [intR.row 3 q, slabR.row 61 (stripsL l)]) (b := 1) (lo := 0) (stripsL l) rfl (Nat.zero_le _) (by have := strips_len l; omega) (fun s hs => by have := strips_col l s hs; omega)
        have e : outT (runsF (stripsL l)) = ofL l := rfl
        rw [e] at hw
        have hlim := limited_spec false (ofL l)
        by_cases h2 : (ofL l).length ≤ 200 <;> simp -implicitDefEqProofs [k9_2, resL, h4, h4', Rec.o_len hk, lit_list1, hs, hw, ret1s m25, hlim, h2]
  · simp -implicitDefEqProofs [k9_2]
  · rfl
  · intro nx i c hi _
    simp -implicitDefEqProofs [r9_2, k9_2, hi, trim_le]
  · intro nx i r rest c hi hv hd hw _ ih
    have ih := ih () trivial
    have ixi := Rec.o_index (R := rectR) (t := 32) (kk := .i64) (s := 4) rfl hk hi
    rw [hv] at ixi
    have hr := right_s r
    cases h : okR r
    · simp -implicitDefEqProofs [r9_2, k9_2, hi, ixi, rect_val, ret0 m24, hr, h, trim_cut, Rec.o_bel]
    · simp -implicitDefEqProofs [k9_2] at ih
      simp -implicitDefEqProofs [r9_2, k9_2, hi, ixi, rect_val, ret0 m24, hr, h, hw, trim_cut, Rec.o_bel]
      exact ih
end Go.Proofs.Ytgeebooalafepaa.Bm
namespace Go.Proofs.Ytgeebooalafepaa.Bm
open Go Go.RowKit
open Rg (Rect Slab runs runsF outT emit ofL stripsL edgesX colC opL opC mergeC keepS addS sortU ends stripL)

/-! ### What is a region -/
def regB (l : List Rect) : Bool := match ofR l with
  | .ok m => decide (m = l)
  | .error _ => false
theorem right2_spec (k : Option Bool) (l : List Rect) (hk : Rec.Ok k l) (hl : l.length ≤ 1000000) : pureCall E.P (L E) 11 [rectR.o k l] = some (.bool (regB l)) := by
  have ho := of_spec k l hk hl
  have hf : freezeV E.P depth 0 [] (rectR.o k l) = some (rectR.o k l, []) := frz_set8 Rec.o_set Rec.o_one
  have hr : retCall E (L E) 0 false 9 [rectR.o k l] [] = some (resL (ofR l), []) := by
    rw [ret4 m9, frzAll_row hf]
    show ((pureCall E.P (L E) 9 [rectR.o k l]).map _) = _
    rw [ho]; rfl
  rw [pureCall_fn F11 rfl]
  unfold regB
  have hle : ∀ m, ofR l = .ok m → m.length ≤ 200 := fun m h => by
    unfold ofR at h
    split at h
    · split at h
      · cases h
      · split at h
        · cases h; assumption
        · cases h
    · cases h
  have hne : ∀ e, ofR l = .error e → e = 1 ∨ e = 6 := fun m h => by
    unfold ofR at h
    split at h
    · split at h
      · cases h; exact .inr rfl
      · split at h
        · cases h
        · cases h; exact .inr rfl
    · cases h; exact .inl rfl
  cases h : ofR l with
  | error e =>
    rw [h] at hr
    have e0 : ¬ (e = 0) := by have := hne e h; omega
    simp -implicitDefEqProofs [r11, p11, hr, resL, e0]
  | ok m =>
    rw [h] at hr
    have he := equal_rects (some false) k m l Rec.ok_some hk (by have := hle m h; omega)
    rw [show rectR.o (some false) m = lst false (rectR.vals m) from rfl] at he
    simp -implicitDefEqProofs [r11, p11, hr, resL, ret0 m32, Rec.o_reify, he]
theorem ofL_ok' {l : List Rect} (h : l.all okR = true) : ∀ r ∈ l, r.y0 < r.y1 := fun r hr => by
  have := okR_iff.1 (List.all_eq_true.1 h r hr)
  unfold Rect.inBox at this
  omega
theorem regB_iff {l : List Rect} : regB l = true ↔ l.all okR = true ∧ l.length ≤ 200 ∧ Rg.Form l := by
  unfold regB ofR
  by_cases ha : l.all okR = true
  · have hy := ofL_ok' ha
    rw [if_pos ha]
    by_cases h4 : 400 < l.length
    · rw [if_pos h4]; simp; omega
    · rw [if_neg h4]
      by_cases h2 : (ofL l).length ≤ 200
      · rw [if_pos h2]
        simp only [decide_eq_true_eq]
        constructor
        · intro e
          exact ⟨ha, e ▸ h2, e ▸ (Rg.ofL_ok hy).1⟩
        · intro ⟨_, _, hf⟩
          exact (Rg.ofL_ok hy).1.ext hf (Rg.ofL_ok hy).2
      · rw [if_neg h2]
        simp only [Bool.false_eq_true, false_iff]
        rintro ⟨_, hl, hf⟩
        rw [(Rg.ofL_ok hy).1.ext hf (Rg.ofL_ok hy).2] at h2
        omega
  · rw [if_neg ha]; simp [ha]

/-! ### Two regions -/
def limR (l : List Rect) : Except Int (List Rect) := if l.length ≤ 200 then .ok l else .error 6
def opR (f : Bool → Bool → Bool) (a b : List Rect) : Except Int (List Rect) := if regB a && regB b then limR (opL f a b) else .error 1
theorem freeze_slab {h : Heap} {b lo : Nat} (T : List Slab) (hob : h[b]? = some (slabR.row 61 T)) (hlo : lo ≤ b) :
    ∃ g, freezeV E.P depth lo h (slabR.sl b T) = some (lst false (slabR.vals T), g) ∧ g.length = h.length ∧ (∀ j, j ≠ b → g[j]? = h[j]?) ∧ ∀ n, h.all (belowO n) = true → g.all (belowO n) = true := by
  refine ⟨_, Rec.freeze_row (R := slabR) hob s61 a61 hlo, ?_, fun j hj => ?_, fun n hn => ?_⟩
  · split
    · rfl
    · exact List.length_set ..
  · split
    · rfl
    · exact List.getElem?_set_ne (Ne.symm hj)
  · split
    · exact hn
    · rw [List.all_eq_true] at hn ⊢
      intro o ho
      rcases List.mem_or_eq_of_mem_set ho with h1 | h1
      · exact hn o h1
      · subst h1; rfl
theorem atO_len {T : List Slab} {n : Nat} (h : ∀ s ∈ T, s.col.length ≤ n) (x : Int) : (colL (atO T x)).length ≤ n := by
  unfold atO
  split
  · rename_i hlt
    split
    · rw [List.getD_eq_getElem?_getD, List.getElem?_eq_getElem hlt]
      exact h _ (List.getElem_mem hlt)
    · exact Nat.zero_le _
  · exact Nat.zero_le _
theorem addS_len (o : List (Int × Int)) (a b : Int) : (addS o a b).length ≤ o.length + 1 := by
  unfold addS
  split
  · split
    · simp
    · simp
  · simp
theorem keepS_len (k : Int → Bool) : ∀ (ys : List Int) (o : List (Int × Int)), (keepS k o ys).length ≤ o.length + ys.length
  | [], o => by simp [keepS]
  | [a], o => by simp [keepS]
  | a :: b :: ys, o => by
    unfold keepS
    have h1 := keepS_len k (b :: ys) (if k a then addS o a b else o)
    have h2 : (if k a then addS o a b else o).length ≤ o.length + 1 := by
      split
      · exact addS_len o a b
      · omega
    have h3 : (a :: b :: ys).length = (b :: ys).length + 1 := rfl
    omega
theorem sortU_len (l : List Int) : (sortU l).length ≤ l.length := by
  rw [← Rg.comp_sort]
  have h := compF_len (sortI l)
  have h2 := sortI_len l
  unfold compF at h
  rw [List.length_append] at h
  omega
theorem mergeC_len (f : Bool → Bool → Bool) (a b : List (Int × Int)) : (mergeC f a b).length ≤ 2 * (a.length + b.length) := by
  unfold mergeC
  have h1 := keepS_len (fun y => f (inB a y) (inB b y)) (sortU (ends (a ++ b))) []
  have h2 := sortU_len (ends (a ++ b))
  rw [Rg.ends_len, List.length_append] at h2
  have h3 : ([] : List (Int × Int)).length = 0 := rfl
  omega
theorem opR_map (f : Bool → Bool → Bool) (a b : List Rect) : (stripsL (a ++ b)).map (fun s => (⟨s.x0, s.x1, opC f a b s.x0⟩ : Slab)) = stripL (opC f a b) (edgesX (a ++ b)) :=
  Rg.stripL_map _ _ (fun s => opC f a b s.x0) _ fun _ _ => rfl
theorem app3 {h : Heap} {a b c : AObj} : (h ++ [a, b]) ++ [c] = h ++ [a, b, c] := by rw [List.append_assoc]; rfl
theorem get31 {h : Heap} {a b c : AObj} : (h ++ [a, b, c])[h.length + 1]? = some b := by
  rw [List.getElem?_append_right (by omega), Nat.add_sub_cancel_left]; rfl
theorem get32 {h : Heap} {a b c : AObj} : (h ++ [a, b, c])[h.length + 2]? = some c := by
  rw [List.getElem?_append_right (by omega), Nat.add_sub_cancel_left]; rfl
theorem set31 {h : Heap} {a b c d : AObj} : (h ++ [a, b, c]).set (h.length + 1) d = h ++ [a, d, c] := by
  rw [List.set_append_right _ _ (by omega), Nat.add_sub_cancel_left]; rfl
theorem set32 {h : Heap} {a b c d : AObj} : (h ++ [a, b, c]).set (h.length + 2) d = h ++ [a, b, d] := by
  rw [List.set_append_right _ _ (by omega), Nat.add_sub_cancel_left]; rfl
theorem take3 {h : Heap} {a b c : AObj} : (h ++ [a, b, c]).take (h.length + 2) = h ++ [a, b] := by
  rw [List.take_append, List.take_of_length_le (by omega), Nat.add_sub_cancel_left]; rfl
theorem combine_spec (k m : Option Bool) (a b : List Rect) (q : FuncId) (f : Bool → Bool → Bool) (hk : Rec.Ok k a) (hm : Rec.Ok m b) (hq0 : E.mode q = 0) (hq : ∀ x y, pureCall E.P (L E) q [.bool x, .bool y] = some (.bool (f x y))) (ha : a.length ≤ 1000000) (hb : b.length ≤ 1000000) :
    pureCall E.P (L E) 34 [rectR.o k a, rectR.o m b, .func (.func q) ⟨[]⟩ ⟨[]⟩] = some (resL (opR f a b)) := by
  have ra := right2_spec k a hk ha
  have rb := right2_spec m b hm hb
  rw [pureCall_fn F34 rfl]
  unfold opR
  cases h1 : regB a
  · simp -implicitDefEqProofs [r34, p34, ret0 m11, Rec.o_reify, ra, h1, resL]
  cases h2 : regB b
  · simp -implicitDefEqProofs [r34, p34, ret0 m11, Rec.o_reify, ra, rb, h1, h2, resL]
  have la := (regB_iff.1 h1).2.1
  have lb := (regB_iff.1 h2).2.1
  obtain ⟨q1, e1⟩ := strips_one k a hk (by omega) [] 0 (Nat.le_refl _) fun _ _ => rfl
  have bel1 : ∀ (q : List Int) (T : List Slab) n, [intR.row 3 q, slabR.row 61 T].all (belowO n) = true := fun q T n => by
    simp only [List.all_cons, List.all_nil, Rec.row_bel, Bool.and_self]
  obtain ⟨q2, e2⟩ := strips_one m b hm (by omega) [intR.row 3 q1, slabR.row 61 (stripsL a)] 0 (Nat.zero_le _) fun n _ => bel1 _ _ n
  obtain ⟨g1, f1, l1, n1, u1⟩ := freeze_slab (h := [intR.row 3 q1, slabR.row 61 (stripsL a), intR.row 3 q2, slabR.row 61 (stripsL b)]) (b := 1) (lo := 0) (stripsL a) rfl (Nat.zero_le _)
  obtain ⟨g2, f2, l2, n2, u2⟩ := freeze_slab (h := g1) (b := 3) (lo := 0) (stripsL b) (by rw [n1 3 (by decide)]; rfl) (Nat.zero_le _)
  have bel2 : ∀ n, g2.all (belowO n) = true := fun n => u2 n (u1 n (by simp only [List.all_cons, List.all_nil, Rec.row_bel, Bool.and_self]))
  obtain ⟨q3, e3⟩ := strips_two k m a b hk hm (by omega) g2 0 (Nat.zero_le _) fun n _ => bel2 n
  clear n1 u1 n2 u2
  have hg : g2.length = 4 := by rw [l2, l1]; rfl
  have mp := opR_map f a b
  have hT := strips_len (a ++ b)
  rw [List.length_append] at hT
  have hTa := strips_len a
  have hTb := strips_len b
  have hca := fun x => atO_len (strips_col a) x
  have hcb := fun x => atO_len (strips_col b) x
  simp only [List.nil_append, List.cons_append, List.length_cons, List.length_nil, Nat.zero_add, Nat.reduceAdd] at e1 e2 e3
  simp -implicitDefEqProofs [r34, p34, ret0 m11, Rec.o_reify, ra, rb, h1, h2, lit_list1, lit_list2, e1, e2, e3, prep_frz, f1, f2, Rec.sl_len]
  generalize hTT : stripsL (a ++ b) = T at *
  have hT' : T.length ≤ 800 := by omega
  clear e1 e2 e3 f1 f2
  rw [LL_for (γ := List Slab) T [] (fun i _ => [(33, .int .i64 i)]) (fun i P => g2 ++ [intR.row 3 q3, slabR.row 61 (P ++ T.drop i)])
    (fun _ rest P => (.exit 0, [(33, undef)], g2 ++ [intR.row 3 q3, slabR.row 61 (P ++ rest.map (fun s => (⟨s.x0, s.x1, opC f a b s.x0⟩ : Slab)))])) (fun i P => P.length = i) (by omega) rfl]
  · rw [List.nil_append, mp]
    have hlen : (stripL (opC f a b) (edgesX (a ++ b))).length = T.length := by rw [← mp, List.length_map]
    have esl : slabR.sl (g2.length + 1) T = slabR.sl (g2.length + 1) (stripL (opC f a b) (edgesX (a ++ b))) := slab_sl_len hlen.symm
    obtain ⟨h', hw⟩ := write_row (h := g2 ++ [intR.row 3 q3, slabR.row 61 (stripL (opC f a b) (edgesX (a ++ b)))]) (b := g2.length + 1) (lo := 0) (stripL (opC f a b) (edgesX (a ++ b))) end2 (Nat.zero_le _) (by omega) (fun s hs => by
      rw [stripL_mem _ _ s hs]
      have := mergeC_len f (colL (atO (stripsL a) s.x0)) (colL (atO (stripsL b) s.x0))
      have := hca s.x0
      have := hcb s.x0
      unfold opC; omega)
    rw [← esl] at hw
    have eo : outT (runsF (stripL (opC f a b) (edgesX (a ++ b)))) = opL f a b := rfl
    rw [eo] at hw
    have hlim := limited_spec false (opL f a b)
    unfold limR
    by_cases h2 : (opL f a b).length ≤ 200 <;> simp -implicitDefEqProofs [k34_6, resL, hw, ret1s m25, hlim, h2]
  · simp -implicitDefEqProofs [k34_6]
  · rfl
  · intro nx i P hi hP
    simp -implicitDefEqProofs [r34_6, k34_6, hi, trim_le, List.drop_of_length_le]
  · intro nx i s rest P hi hv hd hw hP ih
    have hil : i < (P ++ T.drop i).length := by rw [List.length_append, List.length_drop]; omega
    have hlT : T.length = (P ++ T.drop i).length := by rw [List.length_append, List.length_drop]; omega
    have hr : T.drop (i + 1) = rest := by rw [← List.drop_drop, hd]; rfl
    have el : slabR.sl (g2.length + 1) T = slabR.sl (g2.length + 1) (P ++ T.drop i) := slab_sl_len hlT
    have eg : (P ++ T.drop i)[i] = s := by
      rw [List.getElem_append_right (by omega)]
      simp only [hP, Nat.sub_self, List.getElem_drop, Nat.add_zero, hv]
    have es : (P ++ T.drop i).set i ⟨s.x0, s.x1, opC f a b s.x0⟩ = P ++ [⟨s.x0, s.x1, opC f a b s.x0⟩] ++ T.drop (i + 1) := by
      rw [List.set_append_right _ _ (by omega), hP, Nat.sub_self, hd, hr, List.append_assoc]; rfl
    have ih := ih (P ++ [⟨s.x0, s.x1, opC f a b s.x0⟩]) (by simp; omega)
    have ix := Rec.index_row (R := slabR) (h0 := 3) (t := 61) (g := some true) (b := g2.length + 1) (l := P ++ T.drop i) (i := i) (k := .i64) rfl hil
    rw [← el] at ix
    have ld := Rec.load_row (R := slabR) (h := g2 ++ [intR.row 3 q3, slabR.row 61 (P ++ T.drop i)]) (b := g2.length + 1) (n := 3) (t := 61) (l := P ++ T.drop i) (i := i) rfl end2 hil
    rw [eg, slab_val] at ld
    have fd := Rec.field_row (R := slabR) (b := g2.length + 1) (n := 0) (f := 2) (l := P ++ T.drop i) (i := i) (k := ⟨some true, some 3⟩) (g := some false)
    have st := fun q => Rec.store_cell (R := slabR) (h := g2 ++ [intR.row 3 q3, slabR.row 61 (P ++ T.drop i), q]) (b := g2.length + 1) (j := 2) (lo := 0) (t := 61) (l := P ++ T.drop i) (i := i) (v := colV (opC f a b s.x0)) (a := ⟨s.x0, s.x1, opC f a b s.x0⟩) rfl get31 (Nat.zero_le _) hil (by decide) (by rw [eg]; rfl)
    simp only [es, set31] at st
    have ca := at_spec (stripsL a) s.x0 (by omega)
    have cb := at_spec (stripsL b) s.x0 (by omega)
    have cm := merge_spec (atO (stripsL a) s.x0) (atO (stripsL b) s.x0) q f hq0 hq (by have := hca s.x0; omega) (by have := hcb s.x0; omega)
    have so1 : settled depth (lst false (slabR.vals (stripsL a))) = true := rfl
    have so2 : settled depth (lst false (slabR.vals (stripsL b))) = true := rfl
    have so3 : ∀ z, settled depth (.int .i64 z) = true := fun _ => rfl
    have sb1 : ∀ d, below (d + 1) (g2.length + 2) (slabR.sl 1 (stripsL a)) = true := fun d => Rec.sl_bel (by omega)
    have sb3 : ∀ d, below (d + 1) (g2.length + 2) (slabR.sl 3 (stripsL b)) = true := fun d => Rec.sl_bel (by omega)
    have so5 : ∀ c, settled depth (colX c) = true := fun c => colX_set c (n := 7)
    have so4 : settled depth (.func (.func q) ⟨[]⟩ ⟨[]⟩) = true := rfl
    have b2 := bel2 (g2.length + 2)
    have eR : P ++ (s :: rest).map (fun s => (⟨s.x0, s.x1, opC f a b s.x0⟩ : Slab)) = P ++ [⟨s.x0, s.x1, opC f a b s.x0⟩] ++ rest.map (fun s => (⟨s.x0, s.x1, opC f a b s.x0⟩ : Slab)) := by
      rw [List.map_cons, List.append_assoc]; rfl
    rw [eR]
    change pureCall _ _ _ _ = some (colV (opC f a b s.x0)) at cm
    simp -implicitDefEqProofs [k34_6, -List.append_assoc] at ih
    simp -implicitDefEqProofs [r34_6, k34_6, hi, ix, ld, fd, st, app3, get32, set32, take3, ret1 m51, ret1 m50, so1, so2, so3, so4, so5, ca, cb, cm, hw, trim_cut, Rec.sl_bel, Rec.row_bel, Rec.o_bel, b2, sb1, sb3, -List.append_assoc, -List.all_eq_true]
    exact ih
end Go.Proofs.Ytgeebooalafepaa.Bm
