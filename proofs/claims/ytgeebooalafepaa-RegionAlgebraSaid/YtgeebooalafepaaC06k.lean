/-
  Chapter 06: the region of a list, and what is one. Conditions: lists that are not too long.
-/
import Derived.Test.YtgeebooalafepaaC06j
namespace Go.Proofs.Ytgeebooalafepaa.Bm
open Go Go.RowKit
open Rg (Rect Slab runs runsF outT emit ofL stripsL edgesX colC)

theorem ret3 {E : Env} {C : Callee} {lo : Nat} {h : Heap} {f : FuncId} (hm : E.mode f = 3) {args : List Value} : retCall E C lo false f args h = (C f args h lo).map fun r => (r.1, trim h.length [r.1] r.2) := by
  unfold retCall; rw [hm]; rfl
theorem trim_no {n : Nat} {v : Value} {h : Heap} (hv : below depth n v = false) : trim n [v] h = h := by
  unfold trim
  split
  · rfl
  · rw [if_neg]; simp [hv]
theorem frzAll_row {h h' : Heap} {lo : Nat} {v u : Value} (hf : freezeV E.P depth lo h v = some (u, h')) : frzAll E.P lo [v] h = some ([u], h') := by
  unfold frzAll
  simp [List.foldlM, hf]

theorem strips_len (l : List Rect) : (stripsL l).length ≤ 2 * l.length := by
  have h1 := Rg.edgesX_len l
  have h2 := Rg.stripL_len (colC l) (edgesX l)
  unfold stripsL
  omega
theorem stripL_mem (c : Int → List (Int × Int)) : ∀ (xs : List Int) s, s ∈ Rg.stripL c xs → s.col = c s.x0
  | [], s, h => by cases h
  | [_], s, h => by cases h
  | a :: b :: xs, s, h => by
    rcases List.mem_cons.1 h with rfl | h
    · rfl
    · exact stripL_mem c (b :: xs) s h
theorem strips_col (l : List Rect) : ∀ s ∈ stripsL l, s.col.length ≤ l.length := fun s hs => by
  rw [stripL_mem _ _ s hs]
  exact Rg.colC_len l _
theorem lit_list1 (h : Heap) (k : Option Bool) (l : List Rect) : buildSliceT (some ⟨22, 1, 24, .slice none 0 0, ⟨some false, some 1⟩⟩) false h 1 #[(0, rectR.o k l)] = some (lst true [rectR.o k l], h) := by
  cases k <;> exact (build_lit' (n := 1) (l := [(0, _)]) rfl rfl (by decide) (by decide) (by decide)).trans rfl
theorem lit_list2 (h : Heap) (k m : Option Bool) (l r : List Rect) : buildSliceT (some ⟨22, 1, 24, .slice none 0 0, ⟨some false, some 1⟩⟩) false h 2 #[(0, rectR.o k l), (1, rectR.o m r)] = some (lst true [rectR.o k l, rectR.o m r], h) := by
  cases k <;> cases m <;> exact (build_lit' (n := 2) (l := [(0, _), (1, _)]) rfl rfl (by decide) (by decide) (by decide)).trans rfl
/-- Strips of one list, on any heap. -/
theorem strips_one (k : Option Bool) (l : List Rect) (hk : Rec.Ok k l) (hl : l.length ≤ 1000) (h : Heap) (lo : Nat) (hlo : lo ≤ h.length) (hb : ∀ n, h.length ≤ n → h.all (belowO n) = true) :
    ∃ q, retCall E (L E) lo false 27 [lst true [rectR.o k l]] h = some (slabR.sl (h.length + 1) (stripsL l), h ++ [intR.row 3 q, slabR.row 61 (stripsL l)]) := by
  obtain ⟨q, hq⟩ := strips_spec true [(k, l)] (fun p hp => by simp at hp; subst hp; exact hk) (by show 1 ≤ 1000; omega) (by show l.length + 0 ≤ 1000; omega) (by cases k <;> rfl) h lo hlo hb
  refine ⟨q, ?_⟩
  have e : allP [(k, l)] = l := List.append_nil l
  rw [e] at hq
  rw [ret3 m27]
  show ((L E 27 [lst true [rectR.o k l]] h lo).map _) = _
  rw [show [rectR.o k l] = [(k, l)].map (fun p => rectR.o p.1 p.2) from rfl, hq]
  show some (_, trim _ _ _) = _
  rw [trim_no]
  have hn : ¬ (h.length + 1 < h.length) := by omega
  exact decide_eq_false hn
theorem strips_two (k m : Option Bool) (l r : List Rect) (hk : Rec.Ok k l) (hm : Rec.Ok m r) (hl : l.length + r.length ≤ 1000) (h : Heap) (lo : Nat) (hlo : lo ≤ h.length) (hb : ∀ n, h.length ≤ n → h.all (belowO n) = true) :
    ∃ q, retCall E (L E) lo false 27 [lst true [rectR.o k l, rectR.o m r]] h = some (slabR.sl (h.length + 1) (stripsL (l ++ r)), h ++ [intR.row 3 q, slabR.row 61 (stripsL (l ++ r))]) := by
  obtain ⟨q, hq⟩ := strips_spec true [(k, l), (m, r)] (fun p hp => by simp at hp; rcases hp with rfl | rfl <;> assumption) (by show 2 ≤ 1000; omega) (by show l.length + (r.length + 0) ≤ 1000; omega) (by cases k <;> cases m <;> rfl) h lo hlo hb
  refine ⟨q, ?_⟩
  have e : allP [(k, l), (m, r)] = l ++ r := by show l ++ (r ++ []) = _; rw [List.append_nil]
  rw [e] at hq
  rw [ret3 m27]
  show ((L E 27 [lst true [rectR.o k l, rectR.o m r]] h lo).map _) = _
  rw [show [rectR.o k l, rectR.o m r] = [(k, l), (m, r)].map (fun p => rectR.o p.1 p.2) from rfl, hq]
  show some (_, trim _ _ _) = _
  rw [trim_no]
  have hn : ¬ (h.length + 1 < h.length) := by omega
  exact decide_eq_false hn
/-- What is written of strips that stand in the heap. -/
theorem write_row {h : Heap} {b lo : Nat} (T : List Slab) (hob : h[b]? = some (slabR.row 61 T)) (hlo : lo ≤ b) (hT : T.length ≤ 10000) (hc : ∀ s ∈ T, s.col.length ≤ 10000) :
    ∃ h', retCall E (L E) lo false 26 [slabR.sl b T] h = some (lst false (rectR.vals (outT (runsF T))), h') := by
  have hf := Rec.freeze_row (R := slabR) hob s61 a61 hlo
  refine ⟨if T.length = 0 then h else h.set b .dead, ?_⟩
  rw [ret4 m26, frzAll_row hf]
  show ((pureCall E.P (L E) 26 [lst false (slabR.vals T)]).map _) = _
  rw [write_spec T hT hc]
  rfl

/-! ### The region of a list -/
def ofR (l : List Rect) : Except Int (List Rect) := if l.all okR then if 400 < l.length then .error 6 else if (ofL l).length ≤ 200 then .ok (ofL l) else .error 6 else .error 1
def resL : Except Int (List Rect) → Value
  | .error e => .tuple ⟨[.slice none 0 0, .int .i64 e]⟩
  | .ok l => .tuple ⟨[lst false (rectR.vals l), .int .i64 0]⟩

theorem of_spec (k : Option Bool) (l : List Rect) (hk : Rec.Ok k l) (hl : l.length ≤ 1000000) : pureCall E.P (L E) 9 [rectR.o k l] = some (resL (ofR l)) := by
  rw [pureCall_fn F9 rfl]
  simp -implicitDefEqProofs [r9, padS, Rec.o_len hk]
  rw [LL_for (γ := Unit) l () (fun i _ => [(8, .int .i64 i)]) (fun _ _ => []) (fun _ rest _ => if rest.all okR then (.exit 0, [(8, undef)], []) else (.ret, [(2, .slice none 0 0), (3, .int .i64 1), (8, undef)], [])) (fun _ _ => True) (by omega) trivial]
  · unfold ofR
    cases ha : l.all okR
    · simp -implicitDefEqProofs [k9_2, resL]
    · by_cases h4 : 400 < l.length
      · have h4i : 400 < (l.length : Int) := by omega
        simp -implicitDefEqProofs [k9_2, resL, h4, h4i, Rec.o_len hk]
      · have h4' : ¬ (400 < (l.length : Int)) := by omega
        obtain ⟨q, hs⟩ := strips_one k l hk (by omega) [] 0 (Nat.le_refl _) fun _ _ => rfl
        obtain ⟨h', hw⟩ := write_row (h := [intR.row 3 q, slabR.row 61 (stripsL l)]) (b := 1) (lo := 0) (stripsL l) rfl (Nat.zero_le _) (by have := strips_len l; omega) (fun s hs => by have := strips_col l s hs; omega)
        have e : outT (runsF (stripsL l)) = ofL l := rfl
        rw [e] at hw
        have hlim := limited_spec false (ofL l)
        by_cases h2 : (ofL l).length ≤ 200 <;> simp -implicitDefEqProofs [k9_2, resL, h4, h4', Rec.o_len hk, lit_list1, hs, hw, ret1s m25, hlim, h2]
  · simp -implicitDefEqProofs [k9_2]
  · rfl
  · intro nx i c hi _
    simp -implicitDefEqProofs [r9_2, k9_2, hi, trim_le]
  · intro nx i r rest c hi hv hd hw _ ih
    have ih := ih () trivial
    have ixi := Rec.o_index (R := rectR) (t := 32) (kk := .i64) (s := 4) rfl hk hi
    rw [hv] at ixi
    have hr := right_s r
    cases h : okR r
    · simp -implicitDefEqProofs [r9_2, k9_2, hi, ixi, rect_val, ret0 m24, hr, h, trim_cut, Rec.o_bel]
    · simp -implicitDefEqProofs [k9_2] at ih
      simp -implicitDefEqProofs [r9_2, k9_2, hi, ixi, rect_val, ret0 m24, hr, h, hw, trim_cut, Rec.o_bel]
      exact ih
end Go.Proofs.Ytgeebooalafepaa.Bm
