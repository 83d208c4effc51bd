/-
  Chapter 36: who attacks whom: the attackers of each claim. Conditions: the case is right.
-/
import Derived.Test.YtbadgapficfbpaaC36b
namespace Go.Proofs.Ytbadgapficfbpaa.Bm
open Go Go.RowKit

/-! ### A row of rows that grow -/

def gcells : List (List Int) → Nat → List Value
  | [], _ => []
  | g :: G, b => .slice (some ⟨b, 0, some g.length⟩) g.length g.length :: gcells G (b + 1)
def grows (G : List (List Int)) : List AObj := G.map fun g => .cells 3 (g.map (.int .i64)) 1

section
variable {G : List (List Int)} {b k n : Nat} {g : List Int}
theorem gcells_len : ∀ {G : List (List Int)} {b : Nat}, (gcells G b).length = G.length
  | [], _ => rfl
  | g :: G, b => by simp [gcells, gcells_len (G := G)]
theorem grows_len : (grows G).length = G.length := by simp [grows]
theorem gcells_get : ∀ {G : List (List Int)} {b k : Nat}, G[k]? = some g → (gcells G b)[k]? = some (.slice (some ⟨b + k, 0, some g.length⟩) g.length g.length)
  | [], _, _, h => by simp at h
  | x :: G, b, 0, h => by simp at h; subst h; rfl
  | x :: G, b, k + 1, h => by
    have h : G[k]? = some g := h
    show (gcells G (b + 1))[k]? = _
    rw [gcells_get h, show b + 1 + k = b + (k + 1) by omega]
theorem gcells_mod (f : List Int → List Int) : ∀ {G : List (List Int)} {b k : Nat}, G[k]? = some g → gcells (G.modify k f) b = (gcells G b).set k (.slice (some ⟨b + k, 0, some (f g).length⟩) (f g).length (f g).length)
  | [], _, _, h => by simp at h
  | x :: G, b, 0, h => by simp at h; subst h; rfl
  | x :: G, b, k + 1, h => by
    have h : G[k]? = some g := h
    rw [List.modify_succ_cons]
    show _ :: gcells (G.modify k f) (b + 1) = _ :: (gcells G (b + 1)).set k _
    rw [gcells_mod f h, show b + 1 + k = b + (k + 1) by omega]
theorem grows_get (h : G[k]? = some g) : (grows G)[k]? = some (.cells 3 (g.map (.int .i64)) 1) := by simp [grows, h]
theorem grows_mod (f : List Int → List Int) : ∀ {G : List (List Int)} {k : Nat}, G[k]? = some g → grows (G.modify k f) = (grows G).set k (.cells 3 ((f g).map (.int .i64)) 1)
  | [], _, h => by simp at h
  | x :: G, 0, h => by simp at h; subst h; rfl
  | x :: G, k + 1, h => by
    have h : G[k]? = some g := h
    rw [List.modify_succ_cons]
    show _ :: grows (G.modify k f) = _ :: (grows G).set k _
    rw [grows_mod f h]
theorem gcells_below : ∀ {G : List (List Int)} {b : Nat}, b + G.length ≤ n → (gcells G b).all (below 8 n) = true
  | [], _, _ => rfl
  | g :: G, b, h => by
    simp only [List.length_cons] at h
    simp only [gcells, List.all_cons, bel_slice, Bool.and_eq_true, decide_eq_true_eq]
    exact ⟨by omega, gcells_below (by omega)⟩
theorem grows_below : (grows G).all (belowO n) = true := by
  simp [grows, List.all_eq_true, belO_cells]
theorem gcells_nil : ∀ {m b : Nat}, nilRows b m = gcells (List.replicate m []) b
  | 0, _ => rfl
  | m + 1, b => by
    rw [List.replicate_succ]
    show _ :: nilRows (b + 1) m = _ :: gcells _ (b + 1)
    rw [gcells_nil]; rfl
theorem grows_nil {m : Nat} : List.replicate m (AObj.cells 3 [] 1) = grows (List.replicate m []) := by simp [grows]
end

section
variable {a x y : AObj} {r : List AObj} {vs : List Value} {n k : Nat}
theorem get_one {l : Heap} : (a :: l)[1 + k]? = l[k]? := by rw [Nat.add_comm, List.getElem?_cons_succ]
theorem set_one {l : Heap} : (a :: l).set (1 + k) x = a :: l.set k x := by rw [Nat.add_comm, List.set_cons_succ]
theorem trim_g1 (hn : r.length + 1 = n) (h1 : vs.all (below 8 n) = true) (h2 : belowO n a = true) (h3 : r.all (belowO n) = true) : trim n vs (a :: (r ++ [x])) = a :: r := by
  rw [trim_cut (by simp; omega) h1 (by
    have : (a :: (r ++ [x])).take n = a :: r := by rw [← hn]; simp
    rw [this, List.all_cons, h2, h3]; rfl), ← hn]
  simp
theorem trim_g2 (hn : r.length + 2 = n) (h1 : vs.all (below 8 n) = true) (h2 : belowO n a = true) (h3 : r.all (belowO n) = true) (h4 : belowO n x = true) : trim n vs (a :: (r ++ [x, y])) = a :: (r ++ [x]) := by
  have e : (a :: (r ++ [x, y])).take n = a :: (r ++ [x]) := by
    rw [← hn, List.take_succ_cons, List.take_append, List.take_of_length_le (by omega)]
    simp
  rw [trim_cut (by simp; omega) h1 (by rw [e, List.all_cons, List.all_append, h2, h3]; simp [h4]), e]
end

theorem addA_len (i : Nat) (G : List (List Int)) (k : Int) : (addA i G k).length = G.length := by simp [addA]
theorem addA_bound {i n : Nat} {G : List (List Int)} {k : Int} (h : ∀ g ∈ G, g.length ≤ n) : ∀ g ∈ addA i G k, g.length ≤ n + 1 := by
  intro g hg
  unfold addA at hg
  obtain ⟨j, hj, rfl⟩ := List.mem_iff_getElem.1 hg
  simp only [List.getElem_modify]
  have hj' : j < G.length := by simpa using hj
  have := h G[j] (List.getElem_mem hj')
  split
  · simp; omega
  · omega

theorem ascB_all {n : Nat} : ∀ {l : List Int} {last : Int}, ascB n last l = true → ∀ k ∈ l, last < k ∧ k < n
  | [], _, _, _, h => by cases h
  | a :: l, last, h, k, hk => by
    simp only [ascB, Bool.and_eq_true, decide_eq_true_eq] at h
    rcases List.mem_cons.1 hk with rfl | hk
    · exact h.1
    · have := ascB_all h.2 k hk
      omega
theorem ascB_len {n : Nat} : ∀ {l : List Int} {last : Int}, ascB n last l = true → -1 ≤ last → last < n → (l.length : Int) ≤ n - 1 - last
  | [], last, _, _, h => by simp; omega
  | a :: l, last, h, h0, h1 => by
    simp only [ascB, Bool.and_eq_true, decide_eq_true_eq] at h
    have := ascB_len h.2 (by omega) h.1.2
    simp; omega

theorem right_at {A : List (List Int)} (h : rightB A = true) : A.length ≤ 300 ∧ ∀ a ∈ A, (∀ k ∈ a, 0 ≤ k ∧ k < A.length) ∧ a.length ≤ 300 := by
  unfold rightB at h
  simp only [Bool.and_eq_true, decide_eq_true_eq, List.all_eq_true] at h
  refine ⟨h.2, fun a ha => ⟨fun k hk => ?_, ?_⟩⟩
  · have := ascB_all (h.1 a ha) k hk
    omega
  · have h0 := h.1 a ha
    by_cases hn : A.length = 0
    · have : A = [] := List.eq_nil_of_length_eq_zero hn
      subst this; cases ha
    · have := ascB_len h0 (by omega) (by omega)
      omega

theorem graphG_len : ∀ (A : List (List Int)) (i : Nat) (G : List (List Int)), (graphG A i G).length = G.length
  | [], _, _ => rfl
  | a :: A, i, G => by
    rw [graphG, graphG_len A]
    have : ∀ (a : List Int) (G : List (List Int)), (a.foldl (addA i) G).length = G.length := by
      intro a
      induction a with
      | nil => intro G; rfl
      | cons k a ih => intro G; rw [List.foldl_cons, ih, addA_len]
    exact this a G
theorem graphF_len (A : List (List Int)) : (graphF A).length = A.length := by simp [graphF, graphG_len]

theorem sRow : szOf E.P 23 = some 1 := by kernel_rfl
theorem aRow : aggT E.P 23 = some false := by kernel_rfl

def gH (G : List (List Int)) (t : List AObj) : Heap := .cells 23 (gcells G 1) 0 :: (grows G ++ t)
def rowT (l : List Int) : Value := lst false (l.map (.int .i64))

theorem reify_graph {m : Nat} {h : Heap} : ∀ (G : List (List Int)) (b : Nat), (∀ k g, G[k]? = some g → h[b + k]? = some (.cells 3 (g.map (.int .i64)) 1)) → mapR E.P (m + 1) h (gcells G b) = some (G.map rowT)
  | [], _, _ => rfl
  | g :: G, b, hh => by
    have ih := reify_graph (m := m) G (b + 1) fun k g hk => by have := hh (k + 1) g hk; rw [← this]; congr 1; omega
    have h0 := hh 0 g rfl
    rw [Nat.add_zero] at h0
    simp only [gcells, mapR_cons, ih, List.map_cons, reify_slice]
    by_cases hg : g = []
    · subst hg; rfl
    · have : ¬ g.length = 0 := fun e => hg (List.eq_nil_of_length_eq_zero e)
      simp -implicitDefEqProofs only [this, if_false, h0, reifyS_cells, s3, Option.bind_some, stampOk, List.length_map, beq_self_eq_true, Nat.zero_add, Nat.mul_one, Nat.le_refl, and_self, Nat.one_pos, if_true, List.drop_zero]
      rw [List.take_of_length_le (by simp), reifyC_set (by simp [List.all_eq_true])]
      simp -implicitDefEqProofs only [Option.bind_some, elems_one a3 s3, Option.map_some, rowT]

set_option maxRecDepth 20000 in
theorem graph_spec (x : Bool) (l : List Claim) (hc : CaseOk l) (hr : rightB (atts l) = true) : pureCall E.P (L E) 27 [lst x (l.map Claim.val)] = some (lst false ((graphF (atts l)).map rowT)) := by
  obtain ⟨hn, hat⟩ := right_at hr
  rw [atts_len] at hn hat
  rw [pureCall_fn F27 rfl]
  have nw := fun σ => newsK_row (σ := σ) (P := E.P) (lo := 0) (h := [.cells 23 (List.replicate l.length (.slice none 0 0)) 0]) (t := 3) (b := 0) (n := 0) (m := l.length) (len := l.length) (cap := l.length) (sp := none) (off := 0) rfl s3 (Nat.le_refl _)
  have mk := make_one (h := []) (el := ⟨23, 1, 24, .slice none 0 0, ⟨some false, some 1⟩⟩) (n := l.length) (k := .i64) (k' := .i64) rfl rfl (by omega) (by decide)
  simp -implicitDefEqProofs at mk nw
  simp -implicitDefEqProofs [r27, p27, mk, prep_news, nw, gcells_nil, grows_nil]
  rw [LL_for (γ := List (List Int)) l (List.replicate l.length []) (fun i _ => [(13, .int .i64 i)]) (fun _ G => gH G [])
    (fun i rest G => (.exit 0, [(13, undef)], gH (graphG (atts rest) i G) [])) (fun i G => G.length = l.length ∧ ∀ g ∈ G, g.length ≤ i * 300) (by omega) ⟨by simp, by simp⟩]
  · simp -implicitDefEqProofs [k27_3]
    have hGd : graphG (atts l) 0 (List.replicate l.length []) = graphF (atts l) := by simp [graphF, atts_len]
    have hG : (graphF (atts l)).length = l.length := by rw [graphF_len, atts_len]
    rw [hGd]
    by_cases h0 : l = []
    · subst h0; rfl
    · have h0' : l.length ≠ 0 := fun e => h0 (List.eq_nil_of_length_eq_zero e)
      rw [if_neg h0]
      have rg := reify_graph (m := 6) (h := gH (graphF (atts l)) []) (graphF (atts l)) 1 fun k g hk => by
        unfold gH
        rw [get_one, List.append_nil]
        exact grows_get hk
      have hns : (gcells (graphF (atts l)) 1).all (settled 8) = false := by
        cases hq : graphF (atts l) with
        | nil => rw [hq] at hG; simp at hG; omega
        | cons g G => rfl
      have e : reifyC E.P 7 (gH (graphF (atts l)) []) (gcells (graphF (atts l)) 1) = some ((graphF (atts l)).map rowT) := by
        rw [reifyC_map hns]; exact rg
      have tk : ((gcells (graphF (atts l)) 1).drop 0).take (l.length * 1) = gcells (graphF (atts l)) 1 := by
        rw [List.drop_zero, Nat.mul_one, List.take_of_length_le (by rw [gcells_len]; omega)]
      show reifyS E.P 7 (gH (graphF (atts l)) []) (some (.cells 23 (gcells (graphF (atts l)) 1) 0)) ⟨0, 0, none⟩ l.length = _
      rw [reifyS_cells, sRow, Option.bind_some, if_pos ⟨rfl, Nat.one_pos, by rw [gcells_len]; simp; omega⟩]
      simp only [tk, e, Option.bind_some]
      rw [elems_one aRow sRow]; rfl
  · simp -implicitDefEqProofs [k27_3]
  · simp -implicitDefEqProofs [gH]
  · intro nx i G hi _
    simp -implicitDefEqProofs [r27_3, k27_3, hi, gH, atts, graphG, trim_le]
  · intro nx i c rest G hi hv hd hw ⟨hG1, hG2⟩ ih
    obtain ⟨hk, ha⟩ := hc c (hv ▸ List.getElem_mem hi)
    obtain ⟨hb, ha3⟩ := hat c.att (List.mem_map.2 ⟨c, hv ▸ List.getElem_mem hi, rfl⟩)
    unfold maxLen at ha
    have hG0 := hG1
    simp -implicitDefEqProofs [r27_3, k27_3, hi, case_idxN hi, hv, Claim.val, Claim.cells, il_len hk, gH]
    rw [LL_for (γ := List (List Int)) c.att G (fun j _ => [(21, .int .i64 j)]) (fun _ G => gH G [.cells 40 c.cells 0])
      (fun _ rest G => (.exit 2, [(21, undef)], gH (rest.foldl (addA i) G) [.cells 40 c.cells 0])) (fun j G => G.length = l.length ∧ ∀ g ∈ G, g.length ≤ i * 300 + j) ha ⟨hG1, fun g hg => by have := hG2 g hg; omega⟩]
    · have hfl : ∀ (a : List Int) (G : List (List Int)), (a.foldl (addA i) G).length = G.length := by
        intro a
        induction a with
        | nil => intro G; rfl
        | cons k a ih => intro G; rw [List.foldl_cons, ih, addA_len]
      have hfb : ∀ (a : List Int) (G : List (List Int)) (m : Nat), (∀ g ∈ G, g.length ≤ m) → ∀ g ∈ a.foldl (addA i) G, g.length ≤ m + a.length := by
        intro a
        induction a with
        | nil => intro G m h g hg; exact h g hg
        | cons k a ih =>
          intro G m h g hg
          have := ih (addA i G k) (m + 1) (addA_bound h) g hg
          simp; omega
      have ih := ih (c.att.foldl (addA i) G) ⟨by rw [hfl, hG1], fun g hg => by have := hfb c.att G _ hG2 g hg; omega⟩
      have hfl := hfl c.att G
      have hgr : graphG (atts (c :: rest)) i G = graphG (atts rest) (i + 1) (c.att.foldl (addA i) G) := rfl
      simp only [hgr]
      generalize c.att.foldl (addA i) G = G2 at *
      have t1 := fun vs h1 => trim_g1 (a := .cells 23 (gcells G2 1) 0) (x := .cells 40 c.cells 0) (r := grows G2) (vs := vs) (n := G.length + 1) (by rw [grows_len, hfl]) h1 (gcells_below (by omega)) grows_below
      simp only [Claim.cells] at t1
      simp -implicitDefEqProofs [k27_3, gH] at ih
      simp -implicitDefEqProofs [k27_6, gH, grows_len, hw, Claim.cells, t1]
      exact ih
    · simp -implicitDefEqProofs [k27_6]
    · simp -implicitDefEqProofs [gH, Claim.cells]
    · intro nx j G hj _
      simp -implicitDefEqProofs [r27_6, k27_6, hj, gH, trim_le]
    · intro nx j v rest2 G hj hvj hdj hwj ⟨hG1, hG2⟩ ihj
      obtain ⟨q0, q1⟩ := hb v (hvj ▸ List.getElem_mem hj)
      have hkl : v.toNat < G.length := by omega
      have hg : G[v.toNat]? = some G[v.toNat] := List.getElem?_eq_getElem hkl
      have hgb := hG2 G[v.toNat] (List.getElem_mem hkl)
      obtain ⟨g, eg⟩ : ∃ g, G[v.toNat] = g := ⟨_, rfl⟩
      rw [eg] at hg hgb
      have hGG := hG0.trans hG1.symm
      have ihj := ihj (addA i G v) ⟨by rw [addA_len, hG1], fun x hx => by have := addA_bound hG2 x hx; omega⟩
      have m1 := gcells_mod (b := 1) (· ++ [(i : Int)]) hg
      have m2 := grows_mod (· ++ [(i : Int)]) hg
      have c1 := gcells_get (b := 1) hg
      have hbd : (g.length + 1) * 8 ≤ 140737488355328 := by omega
      have e1 : ∀ t, (grows G ++ t)[v.toNat]? = some (.cells 3 (g.map (.int .i64)) 1) := fun t => by rw [List.getElem?_append_left (by rw [grows_len]; exact hkl)]; exact grows_get hg
      have e2 : ∀ t y, (grows G ++ t).set v.toNat y = (grows G).set v.toNat y ++ t := fun t y => List.set_append_left _ _ (by rw [grows_len]; exact hkl)
      have e3 : ∀ a b, (grows G ++ [a, b])[G.length + 1]? = some b := fun a b => by rw [List.getElem?_append_right (by rw [grows_len]; omega), grows_len]; simp
      have e4 : ∀ u, splice (gcells G 1) v.toNat [u] = (gcells G 1).set v.toNat u := fun u => splice_one (by rw [gcells_len]; exact hkl)
      have e5 : v.toNat + 1 ≤ (gcells G 1).length := by rw [gcells_len]; exact hkl
      have hgG : v.toNat < (gcells G 1).length := by rw [gcells_len]; exact hkl
      have g1 := List.getElem_eq_iff hgG |>.2 c1
      simp -implicitDefEqProofs at m1 m2
      replace m1 : gcells (addA i G v) 1 = _ := m1
      replace m2 : grows (addA i G v) = _ := m2
      have t2 := fun vs y h1 => trim_g2 (a := .cells 23 (gcells (addA i G v) 1) 0) (x := .cells 40 c.cells 0) (y := y) (r := grows (addA i G v)) (vs := vs) (n := G.length + 1 + 1) (by rw [grows_len, addA_len]) h1 (gcells_below (by rw [addA_len]; omega)) grows_below (by simp [belO_cells, Claim.cells])
      simp only [Claim.cells, m1, m2] at t2
      simp -implicitDefEqProofs [k27_6, gH, m1, m2, Claim.cells, grows_len, hGG] at ihj
      simp -implicitDefEqProofs [r27_6, k27_6, gH, Claim.cells, hj, il_idxN hk hj, hvj, hwj, index_slice, q0, q1, hgG, g1, grows_len, get_one, set_one, build_one', Value.cells, e1, e2, e4, e5, appS_grown, hbd, -splice, hGG, t2]
      exact ihj

end Go.Proofs.Ytbadgapficfbpaa.Bm
