/-
  The reference of regions: numbers sorted, and the edges of rectangles. Conditions: lists that are not too long.
-/
import Derived.Test.YthnkmmbkdbdefaaQ19
namespace Go.Proofs.Ythnkmmbkdbdefaa.Bm
open Go Go.RowKit
open Rg (Rect Slab runs runsF outT emit ofL stripsL edgesX colC)

theorem ret3 {E : Env} {C : Callee} {lo : Nat} {h : Heap} {f : FuncId} (hm : E.mode f = 3) {args : List Value} : retCall E C lo false f args h = (C f args h lo).map fun r => (r.1, trim h.length [r.1] r.2) := by
  unfold retCall; rw [hm]; rfl
theorem trim_no {n : Nat} {v : Value} {h : Heap} (hv : below depth n v = false) : trim n [v] h = h := by
  unfold trim
  split
  · rfl
  · rw [if_neg]; simp [hv]
theorem frzAll_row {h h' : Heap} {lo : Nat} {v u : Value} (hf : freezeV E.P depth lo h v = some (u, h')) : frzAll E.P lo [v] h = some ([u], h') := by
  unfold frzAll
  simp [List.foldlM, hf]

theorem strips_len (l : List Rect) : (stripsL l).length ≤ 2 * l.length := by
  have h1 := Rg.edgesX_len l
  have h2 := Rg.stripL_len (colC l) (edgesX l)
  unfold stripsL
  omega
theorem stripL_mem (c : Int → List (Int × Int)) : ∀ (xs : List Int) s, s ∈ Rg.stripL c xs → s.col = c s.x0
  | [], s, h => by cases h
  | [_], s, h => by cases h
  | a :: b :: xs, s, h => by
    rcases List.mem_cons.1 h with rfl | h
    · rfl
    · exact stripL_mem c (b :: xs) s h
theorem strips_col (l : List Rect) : ∀ s ∈ stripsL l, s.col.length ≤ l.length := fun s hs => by
  rw [stripL_mem _ _ s hs]
  exact Rg.colC_len l _
theorem lit_list1 (h : Heap) (k : Option Bool) (l : List Rect) : buildSliceT (some ⟨22, 1, 24, .slice none 0 0, ⟨some false, some 1⟩⟩) false h 1 #[(0, rectR.o k l)] = some (lst true [rectR.o k l], h) := by
  cases k <;> exact (build_lit' (n := 1) (l := [(0, _)]) rfl rfl (by decide) (by decide) (by decide)).trans rfl
theorem lit_list2 (h : Heap) (k m : Option Bool) (l r : List Rect) : buildSliceT (some ⟨22, 1, 24, .slice none 0 0, ⟨some false, some 1⟩⟩) false h 2 #[(0, rectR.o k l), (1, rectR.o m r)] = some (lst true [rectR.o k l, rectR.o m r], h) := by
  cases k <;> cases m <;> exact (build_lit' (n := 2) (l := [(0, _), (1, _)]) rfl rfl (by decide) (by decide) (by decide)).trans rfl
/-- Strips of one list, on any heap. -/
theorem strips_one (k : Option Bool) (l : List Rect) (hk : Rec.Ok k l) (hl : l.length ≤ 1000) (h : Heap) (lo : Nat) (hlo : lo ≤ h.length) (hb : ∀ n, h.length ≤ n → h.all (belowO n) = true) :
    ∃ q, retCall E (L E) lo false 49 [lst true [rectR.o k l]] h = some (slabR.sl (h.length + 1) (stripsL l), h ++ [intR.row 3 q, slabR.row 82 (stripsL l)]) := by
  obtain ⟨q, hq⟩ := strips_spec true [(k, l)] (fun p hp => by simp at hp; subst hp; exact hk) (by show 1 ≤ 1000; omega) (by show l.length + 0 ≤ 1000; omega) (by cases k <;> rfl) h lo hlo hb
  refine ⟨q, ?_⟩
  have e : allP [(k, l)] = l := List.append_nil l
  rw [e] at hq
  rw [ret3 m49]
  show ((L E 49 [lst true [rectR.o k l]] h lo).map _) = _
  rw [show [rectR.o k l] = [(k, l)].map (fun p => rectR.o p.1 p.2) from rfl, hq]
  show some (_, trim _ _ _) = _
  rw [trim_no]
  have hn : ¬ (h.length + 1 < h.length) := by omega
  exact decide_eq_false hn
theorem strips_two (k m : Option Bool) (l r : List Rect) (hk : Rec.Ok k l) (hm : Rec.Ok m r) (hl : l.length + r.length ≤ 1000) (h : Heap) (lo : Nat) (hlo : lo ≤ h.length) (hb : ∀ n, h.length ≤ n → h.all (belowO n) = true) :
    ∃ q, retCall E (L E) lo false 49 [lst true [rectR.o k l, rectR.o m r]] h = some (slabR.sl (h.length + 1) (stripsL (l ++ r)), h ++ [intR.row 3 q, slabR.row 82 (stripsL (l ++ r))]) := by
  obtain ⟨q, hq⟩ := strips_spec true [(k, l), (m, r)] (fun p hp => by simp at hp; rcases hp with rfl | rfl <;> assumption) (by show 2 ≤ 1000; omega) (by show l.length + (r.length + 0) ≤ 1000; omega) (by cases k <;> cases m <;> rfl) h lo hlo hb
  refine ⟨q, ?_⟩
  have e : allP [(k, l), (m, r)] = l ++ r := by show l ++ (r ++ []) = _; rw [List.append_nil]
  rw [e] at hq
  rw [ret3 m49]
  show ((L E 49 [lst true [rectR.o k l, rectR.o m r]] h lo).map _) = _
  rw [show [rectR.o k l, rectR.o m r] = [(k, l), (m, r)].map (fun p => rectR.o p.1 p.2) from rfl, hq]
  show some (_, trim _ _ _) = _
  rw [trim_no]
  have hn : ¬ (h.length + 1 < h.length) := by omega
  exact decide_eq_false hn
/-- What is written of strips that stand in the heap. -/
theorem write_row {h : Heap} {b lo : Nat} (T : List Slab) (hob : h[b]? = some (slabR.row 82 T)) (hlo : lo ≤ b) (hT : T.length ≤ 10000) (hc : ∀ s ∈ T, s.col.length ≤ 10000) :
    ∃ h', retCall E (L E) lo false 48 [slabR.sl b T] h = some (lst false (rectR.vals (outT (runsF T))), h') := by
  have hf := Rec.freeze_row (R := slabR) hob s61 a61 hlo
  refine ⟨if T.length = 0 then h else h.set b .dead, ?_⟩
  rw [ret4 m48, frzAll_row hf]
  show ((pureCall E.P (L E) 48 [lst false (slabR.vals T)]).map _) = _
  rw [write_spec T hT hc]
  rfl

/-! ### The region of a list -/
def ofR (l : List Rect) : Except Int (List Rect) := if l.all okR then if 400 < l.length then .error 6 else if (ofL l).length ≤ 200 then .ok (ofL l) else .error 6 else .error 1
def resL : Except Int (List Rect) → Value
  | .error e => .tuple ⟨[.slice none 0 0, .int .i64 e]⟩
  | .ok l => .tuple ⟨[lst false (rectR.vals l), .int .i64 0]⟩

theorem of_spec (k : Option Bool) (l : List Rect) (hk : Rec.Ok k l) (hl : l.length ≤ 1000000) : pureCall E.P (L E) 28 [rectR.o k l] = some (resL (ofR l)) := by
  rw [pureCall_fn F28 rfl]
  simp -implicitDefEqProofs [r28, padS, Rec.o_len hk]
  rw [LL_for (γ := Unit) l () (fun i _ => [(8, .int .i64 i)]) (fun _ _ => []) (fun _ rest _ => if rest.all okR then (.exit 0, [(8, undef)], []) else (.ret, [(2, .slice none 0 0), (3, .int .i64 1), (8, undef)], [])) (fun _ _ => True) (by omega) trivial]
  · unfold ofR
    cases ha : l.all okR
    · simp -implicitDefEqProofs [k28_2, resL]
    · by_cases h4 : 400 < l.length
      · have h4i : 400 < (l.length : Int) := by omega
        simp -implicitDefEqProofs [k28_2, resL, h4, h4i, Rec.o_len hk]
      · have h4' : ¬ (400 < (l.length : Int)) := by omega
        obtain ⟨q, hs⟩ := strips_one k l hk (by omega) [] 0 (Nat.le_refl _) fun _ _ => rfl
        obtain ⟨h', hw⟩ := write_row (h := [intR.row 3 q, slabR.row 82 (stripsL l)]) (b := 1) (lo := 0) (stripsL l) rfl (Nat.zero_le _) (by have := strips_len l; omega) (fun s hs => by have := strips_col l s hs; omega)
        have e : outT (runsF (stripsL l)) = ofL l := rfl
        rw [e] at hw
        have hlim := limited_spec false (ofL l)
        by_cases h2 : (ofL l).length ≤ 200 <;> simp -implicitDefEqProofs [k28_2, resL, h4, h4', Rec.o_len hk, lit_list1, hs, hw, ret1s m47, hlim, h2]
  · simp -implicitDefEqProofs [k28_2]
  · rfl
  · intro nx i c hi _
    simp -implicitDefEqProofs [r28_2, k28_2, hi, trim_le]
  · intro nx i r rest c hi hv hd hw _ ih
    have ih := ih () trivial
    have ixi := Rec.o_index (R := rectR) (t := 39) (kk := .i64) (s := 4) rfl hk hi
    rw [hv] at ixi
    have hr := right_s r
    cases h : okR r
    · simp -implicitDefEqProofs [r28_2, k28_2, hi, ixi, rect_val, ret0 m46, hr, h, trim_cut, Rec.o_bel]
    · simp -implicitDefEqProofs [k28_2] at ih
      simp -implicitDefEqProofs [r28_2, k28_2, hi, ixi, rect_val, ret0 m46, hr, h, hw, trim_cut, Rec.o_bel]
      exact ih
end Go.Proofs.Ythnkmmbkdbdefaa.Bm
namespace Go.Proofs.Ythnkmmbkdbdefaa.Bm
open Go Go.RowKit
open Rg (Rect Slab runs runsF outT emit ofL stripsL edgesX colC opL opC mergeC keepS addS sortU ends stripL)

/-! ### What is a region -/
def regB (l : List Rect) : Bool := match ofR l with
  | .ok m => decide (m = l)
  | .error _ => false
theorem right2_spec (k : Option Bool) (l : List Rect) (hk : Rec.Ok k l) (hl : l.length ≤ 1000000) : pureCall E.P (L E) 39 [rectR.o k l] = some (.bool (regB l)) := by
  have ho := of_spec k l hk hl
  have hf : freezeV E.P depth 0 [] (rectR.o k l) = some (rectR.o k l, []) := frz_set8 Rec.o_set Rec.o_one
  have hr : retCall E (L E) 0 false 28 [rectR.o k l] [] = some (resL (ofR l), []) := by
    rw [ret4 m28, frzAll_row hf]
    show ((pureCall E.P (L E) 28 [rectR.o k l]).map _) = _
    rw [ho]; rfl
  rw [pureCall_fn F39 rfl]
  unfold regB
  have hle : ∀ m, ofR l = .ok m → m.length ≤ 200 := fun m h => by
    unfold ofR at h
    split at h
    · split at h
      · cases h
      · split at h
        · cases h; assumption
        · cases h
    · cases h
  have hne : ∀ e, ofR l = .error e → e = 1 ∨ e = 6 := fun m h => by
    unfold ofR at h
    split at h
    · split at h
      · cases h; exact .inr rfl
      · split at h
        · cases h
        · cases h; exact .inr rfl
    · cases h; exact .inl rfl
  cases h : ofR l with
  | error e =>
    rw [h] at hr
    have e0 : ¬ (e = 0) := by have := hne e h; omega
    simp -implicitDefEqProofs [r39, p39, hr, resL, e0]
  | ok m =>
    rw [h] at hr
    have he := equal_rects (some false) k m l Rec.ok_some hk (by have := hle m h; omega)
    rw [show rectR.o (some false) m = lst false (rectR.vals m) from rfl] at he
    simp -implicitDefEqProofs [r39, p39, hr, resL, ret0 m56, Rec.o_reify, he]
theorem ofL_ok' {l : List Rect} (h : l.all okR = true) : ∀ r ∈ l, r.y0 < r.y1 := fun r hr => by
  have := okR_iff.1 (List.all_eq_true.1 h r hr)
  unfold Rect.inBox at this
  omega
theorem regB_iff {l : List Rect} : regB l = true ↔ l.all okR = true ∧ l.length ≤ 200 ∧ Rg.Form l := by
  unfold regB ofR
  by_cases ha : l.all okR = true
  · have hy := ofL_ok' ha
    rw [if_pos ha]
    by_cases h4 : 400 < l.length
    · rw [if_pos h4]; simp; omega
    · rw [if_neg h4]
      by_cases h2 : (ofL l).length ≤ 200
      · rw [if_pos h2]
        simp only [decide_eq_true_eq]
        constructor
        · intro e
          exact ⟨ha, e ▸ h2, e ▸ (Rg.ofL_ok hy).1⟩
        · intro ⟨_, _, hf⟩
          exact (Rg.ofL_ok hy).1.ext hf (Rg.ofL_ok hy).2
      · rw [if_neg h2]
        simp only [Bool.false_eq_true, false_iff]
        rintro ⟨_, hl, hf⟩
        rw [(Rg.ofL_ok hy).1.ext hf (Rg.ofL_ok hy).2] at h2
        omega
  · rw [if_neg ha]; simp [ha]

/-! ### Two regions -/
def limR (l : List Rect) : Except Int (List Rect) := if l.length ≤ 200 then .ok l else .error 6
def opR (f : Bool → Bool → Bool) (a b : List Rect) : Except Int (List Rect) := if regB a && regB b then limR (opL f a b) else .error 1
theorem freeze_slab {h : Heap} {b lo : Nat} (T : List Slab) (hob : h[b]? = some (slabR.row 82 T)) (hlo : lo ≤ b) :
    ∃ g, freezeV E.P depth lo h (slabR.sl b T) = some (lst false (slabR.vals T), g) ∧ g.length = h.length ∧ (∀ j, j ≠ b → g[j]? = h[j]?) ∧ ∀ n, h.all (belowO n) = true → g.all (belowO n) = true := by
  refine ⟨_, Rec.freeze_row (R := slabR) hob s61 a61 hlo, ?_, fun j hj => ?_, fun n hn => ?_⟩
  · split
    · rfl
    · exact List.length_set ..
  · split
    · rfl
    · exact List.getElem?_set_ne (Ne.symm hj)
  · split
    · exact hn
    · rw [List.all_eq_true] at hn ⊢
      intro o ho
      rcases List.mem_or_eq_of_mem_set ho with h1 | h1
      · exact hn o h1
      · subst h1; rfl
theorem atO_len {T : List Slab} {n : Nat} (h : ∀ s ∈ T, s.col.length ≤ n) (x : Int) : (colL (atO T x)).length ≤ n := by
  unfold atO
  split
  · rename_i hlt
    split
    · rw [List.getD_eq_getElem?_getD, List.getElem?_eq_getElem hlt]
      exact h _ (List.getElem_mem hlt)
    · exact Nat.zero_le _
  · exact Nat.zero_le _
theorem addS_len (o : List (Int × Int)) (a b : Int) : (addS o a b).length ≤ o.length + 1 := by
  unfold addS
  split
  · split
    · simp
    · simp
  · simp
theorem keepS_len (k : Int → Bool) : ∀ (ys : List Int) (o : List (Int × Int)), (keepS k o ys).length ≤ o.length + ys.length
  | [], o => by simp [keepS]
  | [a], o => by simp [keepS]
  | a :: b :: ys, o => by
    unfold keepS
    have h1 := keepS_len k (b :: ys) (if k a then addS o a b else o)
    have h2 : (if k a then addS o a b else o).length ≤ o.length + 1 := by
      split
      · exact addS_len o a b
      · omega
    have h3 : (a :: b :: ys).length = (b :: ys).length + 1 := rfl
    omega
theorem sortU_len (l : List Int) : (sortU l).length ≤ l.length := by
  rw [← Rg.comp_sort]
  have h := compF_len (sortI l)
  have h2 := sortI_len l
  unfold compF at h
  rw [List.length_append] at h
  omega
theorem mergeC_len (f : Bool → Bool → Bool) (a b : List (Int × Int)) : (mergeC f a b).length ≤ 2 * (a.length + b.length) := by
  unfold mergeC
  have h1 := keepS_len (fun y => f (inB a y) (inB b y)) (sortU (ends (a ++ b))) []
  have h2 := sortU_len (ends (a ++ b))
  rw [Rg.ends_len, List.length_append] at h2
  have h3 : ([] : List (Int × Int)).length = 0 := rfl
  omega
theorem opR_map (f : Bool → Bool → Bool) (a b : List Rect) : (stripsL (a ++ b)).map (fun s => (⟨s.x0, s.x1, opC f a b s.x0⟩ : Slab)) = stripL (opC f a b) (edgesX (a ++ b)) :=
  Rg.stripL_map _ _ (fun s => opC f a b s.x0) _ fun _ _ => rfl
theorem app3 {h : Heap} {a b c : AObj} : (h ++ [a, b]) ++ [c] = h ++ [a, b, c] := by rw [List.append_assoc]; rfl
theorem get31 {h : Heap} {a b c : AObj} : (h ++ [a, b, c])[h.length + 1]? = some b := by
  rw [List.getElem?_append_right (by omega), Nat.add_sub_cancel_left]; rfl
theorem get32 {h : Heap} {a b c : AObj} : (h ++ [a, b, c])[h.length + 2]? = some c := by
  rw [List.getElem?_append_right (by omega), Nat.add_sub_cancel_left]; rfl
theorem set31 {h : Heap} {a b c d : AObj} : (h ++ [a, b, c]).set (h.length + 1) d = h ++ [a, d, c] := by
  rw [List.set_append_right _ _ (by omega), Nat.add_sub_cancel_left]; rfl
theorem set32 {h : Heap} {a b c d : AObj} : (h ++ [a, b, c]).set (h.length + 2) d = h ++ [a, b, d] := by
  rw [List.set_append_right _ _ (by omega), Nat.add_sub_cancel_left]; rfl
theorem take3 {h : Heap} {a b c : AObj} : (h ++ [a, b, c]).take (h.length + 2) = h ++ [a, b] := by
  rw [List.take_append, List.take_of_length_le (by omega), Nat.add_sub_cancel_left]; rfl
end Go.Proofs.Ythnkmmbkdbdefaa.Bm

namespace Go.Proofs.Ythnkmmbkdbdefaa.Bm
open Go Go.RowKit
open Rg (Rect areaL cell)

def orF (a b : Bool) : Bool := a || b
def andF (a b : Bool) : Bool := a && b
def subF (a b : Bool) : Bool := a && !b
/-! ### Areas -/
/-! ### Cells -/
def firstP (p : Rect → Bool) (l : List Rect) : Nat → Int
  | i => match l with
    | [] => -1
    | r :: l => if p r then i else firstP p l (i + 1)
theorem firstP_nonneg (p : Rect → Bool) : ∀ (l : List Rect) (i : Nat), decide (0 ≤ firstP p l i) = l.any p
  | [], i => rfl
  | r :: l, i => by
    show decide (0 ≤ if p r then (i : Int) else firstP p l (i + 1)) = (p r || l.any p)
    cases h : p r
    · simpa using firstP_nonneg p l (i + 1)
    · simp
theorem firstP_none (p : Rect → Bool) : ∀ (l : List Rect) (i : Nat), l.any p = false → firstP p l i = -1
  | [], i, _ => rfl
  | r :: l, i, h => by
    rw [List.any_cons, Bool.or_eq_false_iff] at h
    show (if p r then (i : Int) else firstP p l (i + 1)) = -1
    rw [h.1]
    exact firstP_none p l (i + 1) h.2
def inN (r : Rect) : Bool := decide (0 ≤ r.x0) && decide (r.x0 < r.x1) && decide (r.x1 ≤ 24) && decide (0 ≤ r.y0) && decide (r.y0 < r.y1) && decide (r.y1 ≤ 24)
/-- Whether a rectangle that may be wrong has a cell. -/
def hasO (r : Rect) (x y : Int) : Bool := okR r && r.has x y
end Go.Proofs.Ythnkmmbkdbdefaa.Bm

namespace Go.Proofs.Ythnkmmbkdbdefaa.Rg

/-! ### The box around a form -/
theorem canS_all : ∀ {c : List (Int × Int)} {b : Int}, canS b c → ∀ s ∈ c, s.1 < s.2
  | [], _, _, s, hs => by cases hs
  | (f, t) :: c, b, h, s, hs => by
    rcases List.mem_cons.1 hs with rfl | hs
    · exact h.2.1
    · exact canS_all h.2.2 s hs
theorem Can.all {c : List (Int × Int)} (h : Can c) : ∀ s ∈ c, s.1 < s.2 := by
  obtain ⟨b, hb, _⟩ := low_ex c []
  exact canS_all (canS_ex h b hb)
theorem Form.pos {l : List Rect} (h : Form l) : ∀ r ∈ l, r.x0 < r.x1 ∧ r.y0 < r.y1 := by
  obtain ⟨b, T, hT, rfl⟩ := h
  intro r hr
  obtain ⟨s, hs, hr⟩ := List.mem_flatMap.1 hr
  obtain ⟨c, hc, rfl⟩ := List.mem_map.1 hr
  have h1 := (canT_facts hT).2 s hs
  exact ⟨h1.2.1, h1.2.2.all c hc⟩
theorem cell_true {l : List Rect} {x y : Int} : cell l x y = true ↔ ∃ r ∈ l, r.x0 ≤ x ∧ x < r.x1 ∧ r.y0 ≤ y ∧ y < r.y1 := by
  unfold cell Rect.has
  rw [List.any_eq_true]
  simp only [Bool.and_eq_true, decide_eq_true_eq]
  exact ⟨fun ⟨r, hr, h⟩ => ⟨r, hr, h.1.1, h.1.2, h.2.1, h.2.2⟩, fun ⟨r, hr, h1, h2, h3, h4⟩ => ⟨r, hr, ⟨h1, h2⟩, h3, h4⟩⟩
theorem Form.box {l : List Rect} (h : Form l) {n : Int} (hb : ∀ x y, cell l x y = true → 0 ≤ x ∧ x < n ∧ 0 ≤ y ∧ y < n) : ∀ r ∈ l, r.inBox n := by
  intro r hr
  have hp := h.pos r hr
  have h1 := hb r.x0 r.y0 (cell_true.2 ⟨r, hr, by omega, by omega, by omega, by omega⟩)
  have h2 := hb (r.x1 - 1) (r.y1 - 1) (cell_true.2 ⟨r, hr, by omega, by omega, by omega, by omega⟩)
  unfold Rect.inBox
  omega
theorem cell_box {l : List Rect} {n : Int} (h : ∀ r ∈ l, r.inBox n) {x y : Int} (hc : cell l x y = true) : 0 ≤ x ∧ x < n ∧ 0 ≤ y ∧ y < n := by
  obtain ⟨r, hr, h1, h2, h3, h4⟩ := cell_true.1 hc
  have := h r hr
  unfold Rect.inBox at this
  omega

/-! ### Sums over a grid with a border -/
theorem sumN_shift (f : Int → Int) : ∀ n : Nat, sumN (n + 1) (fun k => f (k - 1)) = f (-1) + sumN n f
  | 0 => by show 0 + f (0 - 1) = f (-1) + 0; rw [show (0 : Int) - 1 = -1 from rfl]; omega
  | n + 1 => by
    show sumN (n + 1) (fun k => f (k - 1)) + f ((n + 1 : Nat) - 1) = f (-1) + (sumN n f + f n)
    rw [sumN_shift f n, show (((n + 1 : Nat) : Int) - 1) = (n : Int) by omega]; omega
theorem sumN_border {f : Int → Int} {n : Nat} (h1 : f (-1) = 0) (h2 : f n = 0) : sumN (n + 2) (fun k => f (k - 1)) = sumN n f := by
  rw [sumN_shift f (n + 1), h1]
  show 0 + (sumN n f + f n) = _
  rw [h2]; omega
/-- The cells of the grid up to 'n', with its border, counted. -/
def cntB (n : Nat) (S : Int → Int → Bool) : Int := sumN (n + 2) fun i => sumN (n + 2) fun j => bi (S (i - 1) (j - 1))
theorem cntB_cnt {n : Nat} {S : Int → Int → Bool} (h : ∀ x y, S x y = true → 0 ≤ x ∧ x < n ∧ 0 ≤ y ∧ y < n) : cntB n S = cnt n S := by
  have z : ∀ x y : Int, (x < 0 ∨ (n : Int) ≤ x ∨ y < 0 ∨ (n : Int) ≤ y) → bi (S x y) = 0 := fun x y hxy => by
    cases hs : S x y
    · rfl
    · have := h x y hs; omega
  have row : ∀ x : Int, sumN (n + 2) (fun j => bi (S x (j - 1))) = sumN n fun y => bi (S x y) := fun x =>
    sumN_border (f := fun y => bi (S x y)) (z x (-1) (by omega)) (z x n (by omega))
  unfold cntB cnt
  rw [sumN_congr (g := fun i => sumN n fun y => bi (S (i - 1) y)) fun i _ => row (i - 1)]
  have zr : ∀ x : Int, (x < 0 ∨ (n : Int) ≤ x) → sumN n (fun y => bi (S x y)) = 0 := fun x hx => by
    rw [sumN_congr (g := fun _ => 0) fun j _ => z x j (by omega), sumN_zero]
  exact sumN_border (f := fun x => sumN n fun y => bi (S x y)) (zr (-1) (by omega)) (zr n (by omega))
def allN : Nat → (Int → Bool) → Bool
  | 0, _ => true
  | n + 1, f => allN n f && f n
theorem allN_true {f : Int → Bool} : ∀ {n : Nat}, allN n f = true ↔ ∀ i : Nat, i < n → f i = true
  | 0 => by simp [allN]
  | n + 1 => by
    unfold allN
    rw [Bool.and_eq_true, allN_true]
    exact ⟨fun ⟨h1, h2⟩ i hi => by
      rcases Nat.lt_succ_iff_lt_or_eq.1 hi with h | rfl
      · exact h1 i h
      · exact h2, fun h => ⟨fun i hi => h i (by omega), h n (by omega)⟩⟩
def allB (n : Nat) (S : Int → Int → Bool) : Bool := allN (n + 2) fun i => allN (n + 2) fun j => S (i - 1) (j - 1)
theorem allB_eq {n : Nat} {S T : Int → Int → Bool} (hS : ∀ x y, S x y = true → 0 ≤ x ∧ x < n ∧ 0 ≤ y ∧ y < n) (hT : ∀ x y, T x y = true → 0 ≤ x ∧ x < n ∧ 0 ≤ y ∧ y < n) : allB n (fun x y => S x y == T x y) = true ↔ ∀ x y, S x y = T x y := by
  unfold allB
  rw [allN_true]
  constructor
  · intro h x y
    by_cases hb : 0 ≤ x ∧ x < n ∧ 0 ≤ y ∧ y < n
    · have h1 := allN_true.1 (h (x + 1).toNat (by omega)) (y + 1).toNat (by omega)
      rw [show (((x + 1).toNat : Nat) : Int) - 1 = x by omega, show (((y + 1).toNat : Nat) : Int) - 1 = y by omega] at h1
      exact eq_of_beq h1
    · cases h1 : S x y
      · cases h2 : T x y
        · rfl
        · exact absurd (hT x y h2) hb
      · exact absurd (hS x y h1) hb
  · intro h i _
    rw [allN_true]
    intro j _
    show (S _ _ == T _ _) = true
    rw [h]; exact beq_self_eq_true _
/-! ### Lengths -/
theorem norm_len {R : List Rect} {S : Int → Int → Bool} (hR : ∀ r ∈ R, r.x0 < r.x1) (h : Det R S) : (norm S).length ≤ R.length * R.length :=
  form_bound hR h h.made.form.1 h.made.form.2
end Go.Proofs.Ythnkmmbkdbdefaa.Rg

namespace Go.Proofs.Ythnkmmbkdbdefaa.Rg

/-! ### A place found from behind -/
def scan (gt : Nat → Bool) : Nat → Nat
  | 0 => 0
  | k + 1 => if gt k then scan gt k else k + 1
theorem scan_le (gt : Nat → Bool) : ∀ n, scan gt n ≤ n
  | 0 => Nat.le_refl _
  | n + 1 => by
    unfold scan
    split
    · exact Nat.le_succ_of_le (scan_le gt n)
    · exact Nat.le_refl _
theorem scan_gt (gt : Nat → Bool) : ∀ n k, scan gt n ≤ k → k < n → gt k = true
  | 0, k, _, h => by omega
  | n + 1, k, h1, h2 => by
    unfold scan at h1
    split at h1
    · rename_i h
      by_cases e : k = n
      · subst e; exact h
      · exact scan_gt gt n k h1 (by omega)
    · omega
theorem scan_stop (gt : Nat → Bool) : ∀ n, 0 < scan gt n → gt (scan gt n - 1) = false
  | 0, h => by simp [scan] at h
  | n + 1, h => by
    unfold scan at h ⊢
    split at h
    · rename_i hg
      rw [if_pos hg]
      exact scan_stop gt n h
    · rename_i hg
      rw [if_neg hg]
      simpa using hg
def putAt {α : Type} (o : List α) (k : Nat) (z : α) : List α := o.take k ++ z :: o.drop k
theorem putAt_perm {α : Type} (o : List α) (k : Nat) (z : α) : (putAt o k z).Perm (z :: o) := by
  unfold putAt
  refine List.perm_middle.trans ?_
  rw [List.take_append_drop]
theorem putAt_len {α : Type} (o : List α) (k : Nat) (z : α) : (putAt o k z).length = o.length + 1 := by
  rw [(putAt_perm o k z).length_eq]; rfl
/-- Put where it belongs: after all that are not greater. -/
theorem putAt_sorted {α : Type} {key : α → Int} {o : List α} {z : α} (h : o.Pairwise fun a b => key a ≤ key b) :
    (putAt o (scan (fun j => decide (key z < (o.map key).getD j 0)) o.length) z).Pairwise fun a b => key a ≤ key b := by
  have hle := scan_le (fun j => decide (key z < (o.map key).getD j 0)) o.length
  have hgt := scan_gt (fun j => decide (key z < (o.map key).getD j 0)) o.length
  have hst := scan_stop (fun j => decide (key z < (o.map key).getD j 0)) o.length
  generalize scan (fun j => decide (key z < (o.map key).getD j 0)) o.length = k at *
  have kj : ∀ j (hj : j < o.length), (o.map key).getD j 0 = key o[j] := fun j hj => by
    rw [List.getD_eq_getElem?_getD, List.getElem?_map, List.getElem?_eq_getElem hj]; rfl
  unfold putAt
  rw [List.pairwise_append]
  refine ⟨h.sublist (List.take_sublist _ _), List.pairwise_cons.2 ⟨fun b hb => ?_, h.sublist (List.drop_sublist _ _)⟩, fun a ha b hb => ?_⟩
  · obtain ⟨j, hj, rfl⟩ := List.mem_iff_getElem.1 hb
    rw [List.getElem_drop]
    rw [List.length_drop] at hj
    have := hgt (k + j) (by omega) (by omega)
    rw [decide_eq_true_eq, kj _ (by omega)] at this
    omega
  · have ha' : key a ≤ key z := by
      obtain ⟨j, hj, rfl⟩ := List.mem_iff_getElem.1 ha
      rw [List.getElem_take]
      rw [List.length_take] at hj
      have h0 := hst (by omega)
      rw [decide_eq_false_iff_not, kj _ (by omega)] at h0
      by_cases e : j = k - 1
      · subst e; omega
      · have := List.pairwise_iff_getElem.1 h j (k - 1) (by omega) (by omega) (by omega)
        omega
    rcases List.mem_cons.1 hb with rfl | hb
    · exact ha'
    · obtain ⟨j, hj, rfl⟩ := List.mem_iff_getElem.1 hb
      rw [List.getElem_drop]
      rw [List.length_drop] at hj
      have := hgt (k + j) (by omega) (by omega)
      rw [decide_eq_true_eq, kj _ (by omega)] at this
      omega

/-! ### Numbers, each once, by insertion -/
def insN (o : List Int) (z : Int) : List Int :=
  let k := scan (fun j => decide (z < o.getD j 0)) o.length
  if 0 < k ∧ o.getD (k - 1) 0 = z then o else putAt o k z
theorem insN_eq {o : List Int} (h : o.Pairwise (· < ·)) (z : Int) : insN o z = insU z o := by
  refine asc_ext ?_ (insU_asc h) fun w => ?_
  · unfold insN
    have hle := scan_le (fun j => decide (z < o.getD j 0)) o.length
    have hgt := scan_gt (fun j => decide (z < o.getD j 0)) o.length
    have hst := scan_stop (fun j => decide (z < o.getD j 0)) o.length
    simp only
    generalize scan (fun j => decide (z < o.getD j 0)) o.length = k at *
    have kj : ∀ j (hj : j < o.length), o.getD j 0 = o[j] := fun j hj => by
      rw [List.getD_eq_getElem?_getD, List.getElem?_eq_getElem hj]; rfl
    split
    · exact h
    · rename_i hne
      unfold putAt
      rw [List.pairwise_append]
      have ha : ∀ a ∈ o.take k, a < z := fun a ha => by
        obtain ⟨j, hj, rfl⟩ := List.mem_iff_getElem.1 ha
        rw [List.getElem_take]
        rw [List.length_take] at hj
        have h0 := hst (by omega)
        rw [decide_eq_false_iff_not] at h0
        have h1 : ¬ o.getD (k - 1) 0 = z := fun e => hne ⟨by omega, e⟩
        rw [kj _ (by omega)] at h0 h1
        by_cases e : j = k - 1
        · subst e; omega
        · have := List.pairwise_iff_getElem.1 h j (k - 1) (by omega) (by omega) (by omega)
          omega
      have hb : ∀ b ∈ o.drop k, z < b := fun b hb => by
        obtain ⟨j, hj, rfl⟩ := List.mem_iff_getElem.1 hb
        rw [List.getElem_drop]
        rw [List.length_drop] at hj
        have := hgt (k + j) (by omega) (by omega)
        rw [decide_eq_true_eq, kj _ (by omega)] at this
        exact this
      refine ⟨h.sublist (List.take_sublist _ _), List.pairwise_cons.2 ⟨hb, h.sublist (List.drop_sublist _ _)⟩, fun a haa b hbb => ?_⟩
      rcases List.mem_cons.1 hbb with rfl | hbb
      · exact ha a haa
      · have := ha a haa; have := hb b hbb; omega
  · rw [insU_mem]
    unfold insN
    simp only
    split
    · rename_i h1
      have hle := scan_le (fun j => decide (z < o.getD j 0)) o.length
      constructor
      · exact .inr
      · rintro (rfl | hw)
        · obtain ⟨h0, h1⟩ := h1
          rw [List.getD_eq_getElem?_getD, List.getElem?_eq_getElem (by omega)] at h1
          have h1 : o[scan (fun j => decide (w < o.getD j 0)) o.length - 1]'(by omega) = w := h1
          rw [← h1]; exact List.getElem_mem _
        · exact hw
    · rw [(putAt_perm o _ z).mem_iff, List.mem_cons]
theorem insN_fold : ∀ (l o : List Int), o.Pairwise (· < ·) → (l.foldl insN o).Pairwise (· < ·) ∧ ∀ w, w ∈ l.foldl insN o ↔ w ∈ l ∨ w ∈ o
  | [], o, h => ⟨h, fun w => by simp⟩
  | z :: l, o, h => by
    have e := insN_eq h z
    have h1 : (insN o z).Pairwise (· < ·) := by rw [e]; exact insU_asc h
    obtain ⟨h2, h3⟩ := insN_fold l (insN o z) h1
    refine ⟨h2, fun w => ?_⟩
    rw [List.foldl_cons, h3, e, insU_mem, List.mem_cons]
    exact ⟨fun h => h.elim (fun h => .inl (.inr h)) fun h => h.elim (fun h => .inl (.inl h)) .inr, fun h => h.elim (fun h => h.elim (fun h => .inr (.inl h)) .inl) fun h => .inr (.inr h)⟩
theorem insN_sortU (l : List Int) : l.foldl insN [] = sortU l := by
  obtain ⟨h1, h2⟩ := insN_fold l [] .nil
  refine asc_ext h1 (sortU_asc l) fun w => ?_
  rw [h2, sortU_mem]; simp

/-! ### A column by its ends -/
def inE : List Int → Int → Bool
  | [], _ => false
  | e :: l, y => xor (decide (e ≤ y)) (inE l y)
theorem inE_low {l : List Int} {y : Int} (h : ∀ e ∈ l, y < e) : inE l y = false := by
  induction l with
  | nil => rfl
  | cons e l ih =>
    have he := h e (by simp)
    have h1 : ¬ e ≤ y := by omega
    unfold inE
    rw [ih fun e he => h e (by simp [he])]
    simp [h1]
theorem inE_ends : ∀ {c : List (Int × Int)} {b : Int}, canS b c → ∀ y, inE (ends c) y = hasS c y
  | [], _, _, _ => rfl
  | (f, t) :: c, b, h, y => by
    have ih := inE_ends h.2.2 y
    have h2 := h.2.1
    show xor (decide (f ≤ y)) (xor (decide (t ≤ y)) (inE (ends c) y)) = ((decide (f ≤ y) && decide (y < t)) || hasS c y)
    rw [ih]
    by_cases h1 : f ≤ y
    · by_cases h3 : t ≤ y
      · have h4 : ¬ y < t := by omega
        simp [h1, h3, h4]
      · have h4 : y < t := by omega
        rw [canS_low h.2.2 (by omega)]
        simp [h1, h3, h4]
    · have h3 : ¬ t ≤ y := by omega
      simp [h1, h3]
def pairs : List Int → List (Int × Int)
  | f :: t :: l => (f, t) :: pairs l
  | _ => []
theorem pairs_ends (c : List (Int × Int)) : pairs (ends c) = c := by
  induction c with
  | nil => rfl
  | cons s c ih => show (s.1, s.2) :: pairs (ends c) = _; rw [ih]
theorem ends_pairs : ∀ {l : List Int}, l.length % 2 = 0 → ends (pairs l) = l
  | [], _ => rfl
  | [_], h => by simp at h
  | f :: t :: l, h => by
    show f :: t :: ends (pairs l) = _
    rw [ends_pairs (by simp at h; omega)]
theorem pairs_can : ∀ {l : List Int} {b : Int}, l.Pairwise (· < ·) → (∀ e ∈ l, b < e) → canS b (pairs l)
  | [], _, _, _ => trivial
  | [_], _, _, _ => trivial
  | f :: t :: l, b, h, hb => by
    rw [List.pairwise_cons, List.pairwise_cons] at h
    exact ⟨hb f (by simp), h.1 t (by simp), pairs_can h.2.2 h.2.1⟩
/-- The sweep over two lists of ends. -/
def swp (f : Bool → Bool → Bool) : List Int → List Int → Bool → Bool → Bool → List Int
  | [], [], _, _, _ => []
  | a :: A, [], p, q, w => (if f (!p) q = w then [] else [a]) ++ swp f A [] (!p) q (f (!p) q)
  | [], b :: B, p, q, w => (if f p (!q) = w then [] else [b]) ++ swp f [] B p (!q) (f p (!q))
  | a :: A, b :: B, p, q, w =>
    if a < b then (if f (!p) q = w then [] else [a]) ++ swp f A (b :: B) (!p) q (f (!p) q)
    else if b < a then (if f p (!q) = w then [] else [b]) ++ swp f (a :: A) B p (!q) (f p (!q))
    else (if f (!p) (!q) = w then [] else [a]) ++ swp f A B (!p) (!q) (f (!p) (!q))
theorem swp_low (f : Bool → Bool → Bool) : ∀ (A B : List Int) (p q w : Bool) (m : Int), (∀ e ∈ A, m < e) → (∀ e ∈ B, m < e) → ∀ e ∈ swp f A B p q w, m < e
  | [], [], _, _, _, _, _, _, e, h => by simp [swp] at h
  | a :: A, [], p, q, w, m, h1, h2, e, h => by
    rw [swp, List.mem_append] at h
    rcases h with h | h
    · split at h
      · cases h
      · rw [List.mem_singleton.1 h]; exact h1 a (by simp)
    · exact swp_low f A [] _ _ _ m (fun e he => h1 e (by simp [he])) h2 e h
  | [], b :: B, p, q, w, m, h1, h2, e, h => by
    rw [swp, List.mem_append] at h
    rcases h with h | h
    · split at h
      · cases h
      · rw [List.mem_singleton.1 h]; exact h2 b (by simp)
    · exact swp_low f [] B _ _ _ m h1 (fun e he => h2 e (by simp [he])) e h
  | a :: A, b :: B, p, q, w, m, h1, h2, e, h => by
    have g1 : ∀ e ∈ A, m < e := fun e he => h1 e (by simp [he])
    have g2 : ∀ e ∈ B, m < e := fun e he => h2 e (by simp [he])
    rw [swp] at h
    split at h
    · rcases List.mem_append.1 h with h | h
      · split at h
        · cases h
        · rw [List.mem_singleton.1 h]; exact h1 a (by simp)
      · exact swp_low f A (b :: B) _ _ _ m g1 h2 e h
    · split at h
      · rcases List.mem_append.1 h with h | h
        · split at h
          · cases h
          · rw [List.mem_singleton.1 h]; exact h2 b (by simp)
        · exact swp_low f (a :: A) B _ _ _ m h1 g2 e h
      · rcases List.mem_append.1 h with h | h
        · split at h
          · cases h
          · rw [List.mem_singleton.1 h]; exact h1 a (by simp)
        · exact swp_low f A B _ _ _ m g1 g2 e h
termination_by A B => A.length + B.length
theorem step_asc {x : Int} {c : Prop} [Decidable c] {L : List Int} (h : L.Pairwise (· < ·)) (hx : ∀ e ∈ L, x < e) : ((if c then [] else [x]) ++ L).Pairwise (· < ·) := by
  split
  · exact h
  · exact List.pairwise_cons.2 ⟨hx, h⟩
theorem step_in {x y : Int} {s w : Bool} {L : List Int} (hx : ∀ e ∈ L, x < e) {r : Bool} (h : x ≤ y → inE L y = xor s r) (hr : y < x → r = w) : inE ((if s = w then [] else [x]) ++ L) y = xor w r := by
  by_cases hy : y < x
  · have h1 : inE ((if s = w then [] else [x]) ++ L) y = false := inE_low fun e he => by
      rcases List.mem_append.1 he with he | he
      · split at he
        · cases he
        · rw [List.mem_singleton.1 he]; exact hy
      · have := hx e he; omega
    rw [h1, hr hy]; cases w <;> rfl
  · have h1 : x ≤ y := by omega
    have h := h h1
    split
    · rename_i e; subst e; exact h
    · rename_i e
      show xor (decide (x ≤ y)) (inE L y) = _
      rw [h, decide_eq_true h1]
      cases s <;> cases w <;> simp_all
theorem inE_at {a y : Int} {A : List Int} (h : a ≤ y) (p : Bool) : xor p (inE (a :: A) y) = xor (!p) (inE A y) := by
  show xor p (xor (decide (a ≤ y)) (inE A y)) = _
  rw [decide_eq_true h]
  cases p <;> cases inE A y <;> rfl
theorem xor_low {A : List Int} {y : Int} (h : ∀ e ∈ A, y < e) (p : Bool) : xor p (inE A y) = p := by rw [inE_low h, Bool.xor_false]
theorem swp_ok (f : Bool → Bool → Bool) : ∀ (A B : List Int) (p q : Bool), A.Pairwise (· < ·) → B.Pairwise (· < ·) →
    (swp f A B p q (f p q)).Pairwise (· < ·) ∧ ∀ y, inE (swp f A B p q (f p q)) y = xor (f p q) (f (xor p (inE A y)) (xor q (inE B y)))
  | [], [], p, q, _, _ => ⟨by simp [swp], fun y => by simp [swp, inE]⟩
  | a :: A, [], p, q, hA, hB => by
    have hA' := List.pairwise_cons.1 hA
    obtain ⟨i1, i2⟩ := swp_ok f A [] (!p) q hA'.2 hB
    have hlow := swp_low f A [] (!p) q (f (!p) q) a hA'.1 (fun e he => by cases he)
    refine ⟨by rw [swp]; exact step_asc i1 hlow, fun y => ?_⟩
    rw [swp]
    refine step_in hlow (fun hy => ?_) fun hy => ?_
    · rw [i2, inE_at hy]
    · have la : ∀ e ∈ a :: A, y < e := fun e he => by
        rcases List.mem_cons.1 he with rfl | he
        · exact hy
        · have := hA'.1 e he; omega
      rw [xor_low la, xor_low (A := []) (fun e he => by cases he)]
  | [], b :: B, p, q, hA, hB => by
    have hB' := List.pairwise_cons.1 hB
    obtain ⟨i1, i2⟩ := swp_ok f [] B p (!q) hA hB'.2
    have hlow := swp_low f [] B p (!q) (f p (!q)) b (fun e he => by cases he) hB'.1
    refine ⟨by rw [swp]; exact step_asc i1 hlow, fun y => ?_⟩
    rw [swp]
    refine step_in hlow (fun hy => ?_) fun hy => ?_
    · rw [i2, inE_at hy]
    · have lb : ∀ e ∈ b :: B, y < e := fun e he => by
        rcases List.mem_cons.1 he with rfl | he
        · exact hy
        · have := hB'.1 e he; omega
      rw [xor_low lb, xor_low (A := []) (fun e he => by cases he)]
  | a :: A, b :: B, p, q, hA, hB => by
    have hA' := List.pairwise_cons.1 hA
    have hB' := List.pairwise_cons.1 hB
    have la : ∀ y, y < a → ∀ e ∈ a :: A, y < e := fun y hy e he => by
      rcases List.mem_cons.1 he with rfl | he
      · exact hy
      · have := hA'.1 e he; omega
    have lb : ∀ y, y < b → ∀ e ∈ b :: B, y < e := fun y hy e he => by
      rcases List.mem_cons.1 he with rfl | he
      · exact hy
      · have := hB'.1 e he; omega
    by_cases h1 : a < b
    · obtain ⟨i1, i2⟩ := swp_ok f A (b :: B) (!p) q hA'.2 hB
      have hlow := swp_low f A (b :: B) (!p) q (f (!p) q) a hA'.1 (lb a h1)
      refine ⟨by rw [swp, if_pos h1]; exact step_asc i1 hlow, fun y => ?_⟩
      rw [swp, if_pos h1]
      refine step_in hlow (fun hy => ?_) fun hy => ?_
      · rw [i2, inE_at hy]
      · rw [xor_low (la y hy), xor_low (lb y (by omega))]
    · by_cases h2 : b < a
      · obtain ⟨i1, i2⟩ := swp_ok f (a :: A) B p (!q) hA hB'.2
        have hlow := swp_low f (a :: A) B p (!q) (f p (!q)) b (la b h2) hB'.1
        refine ⟨by rw [swp, if_neg h1, if_pos h2]; exact step_asc i1 hlow, fun y => ?_⟩
        rw [swp, if_neg h1, if_pos h2]
        refine step_in hlow (fun hy => ?_) fun hy => ?_
        · rw [i2, inE_at (A := B) hy]
        · rw [xor_low (la y (by omega)), xor_low (lb y hy)]
      · have hab : a = b := by omega
        subst hab
        obtain ⟨i1, i2⟩ := swp_ok f A B (!p) (!q) hA'.2 hB'.2
        have hlow := swp_low f A B (!p) (!q) (f (!p) (!q)) a hA'.1 hB'.1
        refine ⟨by rw [swp, if_neg h1, if_neg h2]; exact step_asc i1 hlow, fun y => ?_⟩
        rw [swp, if_neg h1, if_neg h2]
        refine step_in hlow (fun hy => ?_) fun hy => ?_
        · rw [i2, inE_at (A := A) hy, inE_at (A := B) hy]
        · rw [xor_low (la y hy), xor_low (lb y hy)]
termination_by A B => A.length + B.length
theorem inE_len : ∀ {l : List Int} {y : Int}, (∀ e ∈ l, e ≤ y) → inE l y = decide (l.length % 2 = 1)
  | [], _, _ => rfl
  | e :: l, y, h => by
    unfold inE
    rw [inE_len fun e he => h e (by simp [he]), decide_eq_true (h e (by simp))]
    rw [List.length_cons]
    by_cases q : l.length % 2 = 1
    · have : ¬ (l.length + 1) % 2 = 1 := by omega
      simp [q, this]
    · have : (l.length + 1) % 2 = 1 := by omega
      simp [q, this]
theorem upper (l : List Int) : ∃ m, ∀ e ∈ l, e ≤ m := by
  induction l with
  | nil => exact ⟨0, fun e he => by cases he⟩
  | cons a l ih =>
    obtain ⟨m, h⟩ := ih
    refine ⟨max a m, fun e he => ?_⟩
    rcases List.mem_cons.1 he with rfl | he
    · omega
    · have := h e he; omega
theorem lower (l : List Int) : ∃ m, ∀ e ∈ l, m < e := by
  induction l with
  | nil => exact ⟨0, fun e he => by cases he⟩
  | cons a l ih =>
    obtain ⟨m, h⟩ := ih
    refine ⟨min (a - 1) m, fun e he => ?_⟩
    rcases List.mem_cons.1 he with rfl | he
    · omega
    · have := h e he; omega
theorem Can.canS {c : List (Int × Int)} (h : Can c) : ∃ b, canS b c := by
  obtain ⟨b, hb, _⟩ := low_ex c []
  exact ⟨b, canS_ex h b hb⟩
/-- The sweep's column is the one in its form. -/
theorem swp_col (f : Bool → Bool → Bool) (hf : f false false = false) {a b c : List (Int × Int)} (ha : Can a) (hb : Can b) (hc : Can c) (h : ∀ y, hasS c y = f (hasS a y) (hasS b y)) :
    swp f (ends a) (ends b) false false false = ends c := by
  obtain ⟨ba, ha'⟩ := ha.canS
  obtain ⟨bb, hb'⟩ := hb.canS
  have key := swp_ok f (ends a) (ends b) false false (ends_asc ha').1 (ends_asc hb').1
  rw [hf] at key
  obtain ⟨h1, h2⟩ := key
  generalize swp f (ends a) (ends b) false false false = L at *
  have h3 : ∀ y, inE L y = f (hasS a y) (hasS b y) := fun y => by rw [h2, inE_ends ha', inE_ends hb']; simp
  have he : L.length % 2 = 0 := by
    obtain ⟨m, hm⟩ := upper (L ++ (ends a ++ ends b))
    have h4 := h2 m
    rw [inE_len (l := L) fun e he => hm e (by simp [he]), inE_len (l := ends a) fun e he => hm e (by simp [he]), inE_len (l := ends b) fun e he => hm e (by simp [he]), ends_len, ends_len] at h4
    have e1 : ¬ (2 * a.length % 2 = 1) := by omega
    have e2 : ¬ (2 * b.length % 2 = 1) := by omega
    simp [e1, e2, hf] at h4
    omega
  obtain ⟨m, hm⟩ := lower L
  have h5 := pairs_can h1 hm
  have h6 : pairs L = c := (Can.of h5).unique hc fun y => by
    rw [h, ← h3, ← inE_ends h5, ends_pairs he]
  rw [← h6, ends_pairs he]

/-! ### Strips, put together as they come -/
theorem runs_none {s : Slab} (h : s.col = []) : ∀ (T : List Slab), outT (runs s T) = outT (runsF T)
  | [] => by rw [runs_end, emit_nil h]; rfl
  | u :: T => by
    by_cases e : u.col = s.col
    · have h1 : (⟨s.x0, u.x1, s.col⟩ : Slab).col = [] := h
      have h2 : u.col = [] := by rw [e, h]
      rw [runs_step e, runs_none h1 T]
      show _ = outT (runs u T)
      rw [runs_none h2 T]
    · rw [runs_stop e, emit_nil h]; rfl
end Go.Proofs.Ythnkmmbkdbdefaa.Rg

namespace Go.Proofs.Ythnkmmbkdbdefaa.Bm
open Go Go.RowKit
open Rg (Rect scan scan_le putAt insN sortU edgesX)

/-! ### Lists of numbers that do not change, and rows of numbers -/
def iT (l : List Int) : Value := lst false (l.map (.int .i64))
theorem iT_len {h : Heap} {l : List Int} : lenT .sl h (iT l) = some (.int .i64 l.length) := by unfold iT; rw [len_lst]; simp
theorem iT_index {l : List Int} {i : Nat} (hi : i < l.length) : indexAddrT (.sl 3 ⟨some false, some 1⟩) (iT l) (.int .i64 (i : Int)) = some (cptr (.int .i64 l[i])) := by
  unfold iT
  have e : (l.map (Value.int .i64))[i]? = some (.int .i64 l[i]) := by simp [hi]
  rw [index_lst, if_pos (by omega), show ((i : Int)).toNat = i by omega, e, Option.bind_some, if_pos (by rfl)]
theorem iT_set (l : List Int) : settled depth (iT l) = true := rfl
theorem iT_reify (h : Heap) (l : List Int) : reify E.P 8 h (iT l) = some (iT l) := rfl
theorem iT_bel {d n : Nat} {l : List Int} : below (d + 1) n (iT l) = true := rfl
theorem g3 : aggT E.P 3 = some false := by kernel_rfl
theorem int_reifyR {h : Heap} {b : Nat} {l : List Int} (hob : h[b]? = some (intR.row 3 l)) : reifyR E.P h (intR.sl b l) = some (iT l) := by
  have e0 : intR.sl b l = .slice (some ⟨b, 0, some l.length⟩) l.length l.length := by unfold Rec.sl; simp [intR]
  show reify E.P 8 h (intR.sl b l) = _
  rw [e0, reify_slice]
  by_cases h0 : l.length = 0
  · have : l = [] := List.eq_nil_of_length_eq_zero h0
    subst this; rfl
  · rw [if_neg h0, hob]
    unfold Rec.row
    rw [int_flat]
    show reifyS E.P 7 h (some (.cells 3 (l.map (.int .i64)) 1)) _ _ = _
    rw [reifyS_cells, s3, Option.bind_some, if_pos ⟨by simp [stampOk], Nat.one_pos, by simp⟩]
    have e : ((l.map (Value.int .i64)).drop 0).take (l.length * 1) = l.map (.int .i64) := by rw [List.drop_zero, Nat.mul_one, List.take_of_length_le (by simp)]
    rw [e, reifyC_set (by simp [List.all_eq_true]), Option.bind_some, elems_one g3 s3]; rfl
theorem int_freeze {h : Heap} {lo b : Nat} {l : List Int} (hob : h[b]? = some (intR.row 3 l)) (hlo : lo ≤ b) : ∃ g, freezeV E.P depth lo h (intR.sl b l) = some (iT l, g) := by
  have e0 : intR.sl b l = .slice (some ⟨b, 0, some l.length⟩) l.length l.length := by unfold Rec.sl; simp [intR]
  have hob' : h[b]? = some (.cells 3 (l.map (.int .i64)) 1) := by rw [hob]; unfold Rec.row; rw [int_flat]; rfl
  rw [e0]
  exact ⟨_, frz_one8 hob' s3 g3 hlo (List.length_map _).symm (List.length_map _).symm (by simp [List.all_eq_true])⟩
theorem int_sl {b : Nat} {c d : List Int} (h : c.length = d.length) : intR.sl b c = intR.sl b d := by unfold Rec.sl; rw [h]
theorem int_index {g : Option Bool} {b : Nat} {l : List Int} {i : Nat} (h1 : i < l.length) : indexAddrT (.sl 3 ⟨g, some 1⟩) (intR.sl b l) (.int .i64 (i : Int)) = some (intR.at_ b l i 0) := Rec.index_row (R := intR) rfl h1
theorem int_load {h : Heap} {b : Nat} {l : List Int} {i : Nat} {sz : Option Nat} (hob : h[b]? = some (intR.row 3 l)) (h1 : i < l.length) : loadT ⟨some false, sz⟩ h (intR.at_ b l i 0) = some (.int .i64 l[i]) := Rec.load_cell (R := intR) (j := 0) hob h1 (by decide)
theorem int_store {h : Heap} {b lo : Nat} {l : List Int} {i : Nat} (z : Int) (hob : h[b]? = some (intR.row 3 l)) (hlo : lo ≤ b) (h1 : i < l.length) : storeT (some 1) h lo (.int .i64 z) (intR.at_ b l i 0) = some (h.set b (intR.row 3 (l.set i z))) :=
  Rec.store_cell (R := intR) (j := 0) rfl hob hlo h1 (by decide) rfl
theorem int_at {b : Nat} {c d : List Int} (h : c.length = d.length) {i : Nat} : intR.at_ b c i 0 = intR.at_ b d i 0 := by unfold Rec.at_; rw [h]
theorem lit_num (h : Heap) (z : Int) : buildSliceT (some ⟨3, 1, 8, .int .i64 0, ⟨some false, some 1⟩⟩) false h 1 #[(0, .int .i64 z)] = some (lst true [.int .i64 z], h) :=
  (build_lit' (n := 1) (l := [(0, .int .i64 z)]) rfl rfl (by decide) (by decide) (by decide)).trans rfl
theorem app_num {h : Heap} {b lo : Nat} {c : List Int} (z : Int) (hob : h[b]? = some (intR.row 3 c)) (hlo : lo ≤ b) (hc : c.length ≤ 1000000) :
    appendT (some ⟨3, 1, 8, .int .i64 0, ⟨some false, some 1⟩⟩) h lo false (intR.sl b c) (lst true [.int .i64 z]) = some (intR.sl b (c ++ [z]), h.set b (intR.row 3 (c ++ [z]))) :=
  Rec.app (R := intR) (m := [z]) rfl hob (cells_lst (by rfl)) hlo (by show (c.length + 1) * 8 ≤ 2 ^ 47; omega)

/-! ### A row while a place is made in it -/
def shiftRow (o : List Int) (m : Nat) : List Int := (o ++ [0]).take (m + 1) ++ o.drop m
theorem shiftRow_len {o : List Int} {m : Nat} (h : m ≤ o.length) : (shiftRow o m).length = o.length + 1 := by
  unfold shiftRow
  rw [List.length_append, List.length_take, List.length_drop, List.length_append]
  show min (m + 1) (o.length + 1) + (o.length - m) = _
  omega
theorem shiftRow_top (o : List Int) : shiftRow o o.length = o ++ [0] := by
  unfold shiftRow
  rw [List.drop_length, List.append_nil, List.take_of_length_le (by simp)]
theorem shiftRow_get {o : List Int} {m j : Nat} (h : m ≤ o.length) (hj : j < m) : (shiftRow o m)[j]'(by rw [shiftRow_len h]; omega) = o[j] := by
  unfold shiftRow
  rw [List.getElem_append_left (by rw [List.length_take, List.length_append]; simp; omega), List.getElem_take, List.getElem_append_left (by omega)]
theorem shiftRow_split {o : List Int} {m : Nat} (h : m ≤ o.length) : ∃ x, shiftRow o m = o.take m ++ x :: o.drop m := by
  refine ⟨(o ++ [0])[m]'(by simp; omega), ?_⟩
  unfold shiftRow
  rw [List.take_succ_eq_append_getElem (by simp; omega), List.take_append_of_le_length h, List.append_assoc]; rfl
theorem shiftRow_set {o : List Int} {m : Nat} (h : m ≤ o.length) (z : Int) : (shiftRow o m).set m z = putAt o m z := by
  obtain ⟨x, e⟩ := shiftRow_split h
  have hl : (o.take m).length = m := by rw [List.length_take]; omega
  rw [e, List.set_append_right _ _ (by omega), hl, Nat.sub_self]; rfl
theorem shiftRow_down {o : List Int} {m : Nat} (h : m + 1 ≤ o.length) : (shiftRow o (m + 1)).set (m + 1) (o[m]'(by omega)) = shiftRow o m := by
  rw [shiftRow_set h]
  unfold putAt shiftRow
  rw [List.take_append_of_le_length (by omega), List.drop_eq_getElem_cons (show m < o.length by omega)]
theorem sorted_spec (l : List Int) (hl : l.length ≤ 10000) : pureCall E.P (L E) 59 [iT l] = some (iT (sortU l)) := by
  rw [← Rg.insN_sortU, pureCall_fn F59 rfl]
  simp -implicitDefEqProofs [r59, p59, prep_new, newK_nil s3, iT_len]
  rw [LL_for (γ := List Int) l [] (fun i o => [(3, intR.sl 0 o), (4, .int .i64 i)]) (fun _ o => [intR.row 3 o])
    (fun _ rest o => (.exit 0, [(3, intR.sl 0 (rest.foldl insN o)), (4, undef)], [intR.row 3 (rest.foldl insN o)])) (fun i o => o.length ≤ i) (by omega) (Nat.le_refl _)]
  · have rr := int_reifyR (h := [intR.row 3 (l.foldl insN [])]) (b := 0) (l := l.foldl insN []) rfl
    simp -implicitDefEqProofs [k59_3, rr]
  · simp -implicitDefEqProofs [k59_3, Rec.sl_nil]
  · rfl
  · intro nx i o hi _
    simp -implicitDefEqProofs [r59_3, k59_3, hi, iT_len, trim_le]
  · intro nx i z rest o hi hv hd hw ho ih
    have ixl := iT_index hi
    rw [hv] at ixl
    have hle := scan_le (fun j => decide (z < o.getD j 0)) o.length
    have gd : ∀ j (hj : j < o.length), o.getD j 0 = o[j] := fun j hj => by rw [List.getD_eq_getElem?_getD, List.getElem?_eq_getElem hj]; rfl
    have ei : insN o z = if 0 < scan (fun j => decide (z < o.getD j 0)) o.length ∧ o.getD (scan (fun j => decide (z < o.getD j 0)) o.length - 1) 0 = z then o else putAt o (scan (fun j => decide (z < o.getD j 0)) o.length) z := rfl
    have ixo := fun (j : Nat) (hj : j < o.length) => int_index (g := some false) (b := 0) (l := o) hj
    have ldo := fun (j : Nat) (hj : j < o.length) => int_load (h := [intR.row 3 o]) (b := 0) (l := o) (sz := some 1) rfl hj
    rw [List.foldl_cons]
    simp -implicitDefEqProofs [r59_3, k59_3, hi, iT_len, Rec.sl_len]
    rw [LL_rec (α := Nat) o.length (fun k => [(5, .int .i64 (k : Int))]) (fun _ => [intR.row 3 o]) (fun k => (.exit 2, [(5, .int .i64 ((scan (fun j => decide (z < o.getD j 0)) k : Nat) : Int))], [intR.row 3 o])) (fun k => k ≤ o.length) (fun k => k)]
    · generalize scan (fun j => decide (z < o.getD j 0)) o.length = k at hle ei ⊢
      have hk := hle
      have ap := app_num (h := [intR.row 3 o]) (b := 0) (lo := 0) (c := o) 0 rfl (Nat.le_refl _) (by omega)
      have wl : IntKind.i64.wrap (((o ++ [0]).length : Int) - 1) = (o.length : Int) := by
        have : (o ++ [0]).length = o.length + 1 := by simp
        rw [this]; exact (wrap64 (by omega) (by omega)).trans (by omega)
      by_cases hc : 0 < k ∧ o.getD (k - 1) 0 = z
      · rw [ei, if_pos hc]
        obtain ⟨hk0, hkz⟩ := hc
        have hko : k - 1 < o.length := by omega
        rw [gd _ hko] at hkz
        have hpos : (0 : Int) < (k : Int) := by omega
        have w1 : IntKind.i64.wrap ((k : Int) - 1) = ((k - 1 : Nat) : Int) := (wrap64 (by omega) (by omega)).trans (by omega)
        have ih := ih o (by omega)
        simp -implicitDefEqProofs [k59_3] at ih
        simp -implicitDefEqProofs [k59_6, hpos, hk0, w1, ixo _ hko, ldo _ hko, ixl, hkz, hw, trim_le]
        exact ih
      · rw [ei, if_neg hc]
        have ih := ih (putAt o k z) (by rw [Rg.putAt_len]; omega)
        simp -implicitDefEqProofs [k59_3] at ih
        have es : ∀ m, m ≤ o.length → intR.sl 0 (shiftRow o m) = intR.sl 0 (o ++ [0]) := fun m hm => int_sl (by rw [shiftRow_len hm]; simp)
        have ixs := fun (m : Nat) (hm : m ≤ o.length) (j : Nat) (hj : j < o.length + 1) => (es m hm) ▸ int_index (g := some false) (b := 0) (l := shiftRow o m) (i := j) (by rw [shiftRow_len hm]; exact hj)
        have esp : intR.sl 0 (putAt o k z) = intR.sl 0 (o ++ [0]) := int_sl (by rw [Rg.putAt_len]; simp)
        rw [esp] at ih
        have two : (¬ (0 : Int) < (k : Int)) ∨ ((0 : Int) < (k : Int) ∧ ∃ hko : k - 1 < o.length, ¬ o[k - 1] = z) := by
          by_cases h0 : 0 < k
          · have hko : k - 1 < o.length := by omega
            exact .inr ⟨by omega, hko, fun e => hc ⟨h0, by rw [gd _ hko]; exact e⟩⟩
          · exact .inl (by omega)
        have w1 : 0 < k → IntKind.i64.wrap ((k : Int) - 1) = ((k - 1 : Nat) : Int) := fun h => (wrap64 (by omega) (by omega)).trans (by omega)
        have ixk := ixs k hk k (by omega)
        have stk := int_store (h := [intR.row 3 (shiftRow o k)]) (b := 0) (lo := 0) (l := shiftRow o k) (i := k) z rfl (Nat.le_refl _) (by rw [shiftRow_len hk]; omega)
        rw [shiftRow_set hk] at stk
        rcases two with h0 | ⟨h0, hko, hne⟩
        · have h0n : ¬ (0 < k) := by omega
          simp -implicitDefEqProofs [k59_6, h0, h0n, lit_num, ap, Rec.sl_len, wl, -List.length_append]
          rw [LL_rec (α := Nat) o.length (fun m => [(6, .int .i64 (m : Int))]) (fun m => [intR.row 3 (shiftRow o m)]) (fun m => (.exit 4, [(6, undef)], [intR.row 3 (shiftRow o k)])) (fun m => k ≤ m ∧ m ≤ o.length) (fun m => m)]
          · simp -implicitDefEqProofs [k59_11, ixk, stk, ixl, hw, trim_le]
            exact ih
          · exact ⟨hk, Nat.le_refl _⟩
          · simp -implicitDefEqProofs [k59_11]
          · simp only [shiftRow_top]
          · intro nx m hm ih
            by_cases hkm : k < m
            · obtain ⟨m, rfl⟩ : ∃ m', m = m' + 1 := ⟨m - 1, by omega⟩
              have hmo : m < o.length := by omega
              have ih := ih m (by omega) ⟨by omega, by omega⟩
              have w3 : IntKind.i64.wrap ((m : Int) + 1 - 1) = (m : Int) := (wrap64 (by omega) (by omega)).trans (by omega)
              have w4 : IntKind.i64.wrap (m : Int) = (m : Int) := wrap64 (by omega) (by omega)
              have hkm' : (k : Int) < (m : Int) + 1 := by omega
              have ixa := ixs (m + 1) (by omega) m (by omega)
              have ixb := ixs (m + 1) (by omega) (m + 1) (by omega)
              have lda := int_load (h := [intR.row 3 (shiftRow o (m + 1))]) (b := 0) (l := shiftRow o (m + 1)) (i := m) (sz := some 1) rfl (by rw [shiftRow_len (by omega)]; omega)
              rw [shiftRow_get (by omega) (by omega)] at lda
              have sta := int_store (h := [intR.row 3 (shiftRow o (m + 1))]) (b := 0) (lo := 0) (l := shiftRow o (m + 1)) (i := m + 1) o[m] rfl (Nat.le_refl _) (by rw [shiftRow_len (by omega)]; omega)
              rw [shiftRow_down hmo] at sta
              push_cast at ixb
              simp -implicitDefEqProofs [k59_11] at ih
              simp -implicitDefEqProofs [r59_11, k59_11, hkm, hkm', w3, w4, ixa, ixb, lda, sta, trim_le]
              exact ih
            · have e : m = k := by omega
              subst e
              simp -implicitDefEqProofs [r59_11, k59_11, trim_le]
        · have h0' : 0 < k := by omega
          simp -implicitDefEqProofs [k59_6, h0, h0', w1 h0', ixo _ hko, ldo _ hko, ixl, hne, lit_num, ap, Rec.sl_len, wl, -List.length_append]
          rw [LL_rec (α := Nat) o.length (fun m => [(6, .int .i64 (m : Int))]) (fun m => [intR.row 3 (shiftRow o m)]) (fun m => (.exit 4, [(6, undef)], [intR.row 3 (shiftRow o k)])) (fun m => k ≤ m ∧ m ≤ o.length) (fun m => m)]
          · simp -implicitDefEqProofs [k59_11, ixk, stk, ixl, hw, trim_le]
            exact ih
          · exact ⟨hk, Nat.le_refl _⟩
          · simp -implicitDefEqProofs [k59_11]
          · simp only [shiftRow_top]
          · intro nx m hm ih
            by_cases hkm : k < m
            · obtain ⟨m, rfl⟩ : ∃ m', m = m' + 1 := ⟨m - 1, by omega⟩
              have hmo : m < o.length := by omega
              have ih := ih m (by omega) ⟨by omega, by omega⟩
              have w3 : IntKind.i64.wrap ((m : Int) + 1 - 1) = (m : Int) := (wrap64 (by omega) (by omega)).trans (by omega)
              have w4 : IntKind.i64.wrap (m : Int) = (m : Int) := wrap64 (by omega) (by omega)
              have hkm' : (k : Int) < (m : Int) + 1 := by omega
              have ixa := ixs (m + 1) (by omega) m (by omega)
              have ixb := ixs (m + 1) (by omega) (m + 1) (by omega)
              have lda := int_load (h := [intR.row 3 (shiftRow o (m + 1))]) (b := 0) (l := shiftRow o (m + 1)) (i := m) (sz := some 1) rfl (by rw [shiftRow_len (by omega)]; omega)
              rw [shiftRow_get (by omega) (by omega)] at lda
              have sta := int_store (h := [intR.row 3 (shiftRow o (m + 1))]) (b := 0) (lo := 0) (l := shiftRow o (m + 1)) (i := m + 1) o[m] rfl (Nat.le_refl _) (by rw [shiftRow_len (by omega)]; omega)
              rw [shiftRow_down hmo] at sta
              push_cast at ixb
              simp -implicitDefEqProofs [k59_11] at ih
              simp -implicitDefEqProofs [r59_11, k59_11, hkm, hkm', w3, w4, ixa, ixb, lda, sta, trim_le]
              exact ih
            · have e : m = k := by omega
              subst e
              simp -implicitDefEqProofs [r59_11, k59_11, trim_le]
    · exact Nat.le_refl _
    · simp -implicitDefEqProofs [k59_6]
    · rfl
    · intro nx k hk ih
      cases k with
      | zero => simp -implicitDefEqProofs [r59_6, k59_6, scan, trim_le]
      | succ k =>
        have hko : k < o.length := by omega
        have w1 : IntKind.i64.wrap ((k : Int) + 1 - 1) = (k : Int) := (wrap64 (by omega) (by omega)).trans (by omega)
        have w2 : IntKind.i64.wrap (k : Int) = (k : Int) := wrap64 (by omega) (by omega)
        have hpos : (0 : Int) < (k : Int) + 1 := by omega
        have ih := ih k (by omega) (by omega)
        have e : scan (fun j => decide (z < o.getD j 0)) (k + 1) = if decide (z < o.getD k 0) then scan (fun j => decide (z < o.getD j 0)) k else k + 1 := rfl
        rw [e, gd k hko]
        simp -implicitDefEqProofs [k59_6] at ih
        by_cases hz : z < o[k]
        · simp -implicitDefEqProofs [r59_6, k59_6, hpos, w1, w2, ixo k hko, ldo k hko, ixl, hz, trim_le]
          exact ih
        · simp -implicitDefEqProofs [r59_6, k59_6, hpos, w1, w2, ixo k hko, ldo k hko, ixl, hz, trim_le]
end Go.Proofs.Ythnkmmbkdbdefaa.Bm
