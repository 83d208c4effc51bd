/-
  Chapter 36: the law on new claims. Conditions: lists that are not too long.
-/
import Derived.Test.YtbadgapficfbpaaC36A
import Derived.Test.YtbadgapficfbpaaBmNum
namespace Go.Proofs.Ytbadgapficfbpaa.Bm
open Go Go.RowKit

/-! ### Cases with a further claim -/
def addN (l : List Claim) : List Claim := l ++ [clm [] none]
def addC (l : List Claim) (c : Int) : List Claim := l ++ [clm [c] (some false)]
theorem few_len' {n : Nat} {l : List Claim} (h : fewB n l = true) : l.length ≤ n := by
  unfold fewB at h
  simp only [Bool.and_eq_true, decide_eq_true_eq] at h
  exact h.2
theorem vals_one (l : List Claim) : ((l.map Claim.val).flatMap cellsL).all one = true := by
  induction l with
  | nil => rfl
  | cons r l ih =>
    rw [List.map_cons, List.flatMap_cons, List.all_append, ih]
    obtain ⟨a, b, k, at_, d, e, f⟩ := r
    cases k <;> rfl
theorem lit_none (h : Heap) : buildSliceT (some elC) false h 0 #[] = some (lst true [], h) := build_none'
theorem lit_new (h : Heap) : buildSliceT (some elC) false h 1 #[(0, .agg ⟨zC⟩)] = some (lst true [(clm [] none).val], h) :=
  (build_lit' (n := 1) (l := [(0, .agg ⟨zC⟩)]) rfl rfl (by decide) (by decide) (by decide)).trans rfl
theorem app_all {h : Heap} {lo : Nat} {st x : Bool} {l : List Claim} (h0 : l ≠ []) (hb : l.length ≤ 1000) : appendT (some elC) h lo st (lst true []) (lst x (l.map Claim.val)) = some (.slice (some ⟨h.length, 0, some (l.length * 6)⟩) l.length l.length, h ++ [rowP l]) := by
  have key := app_first (el := elC) (x := x) (st := st) (h := h) (lo := lo) (A := l.map Claim.val) (vals_len l) (by simp only [List.length_map, elC]; omega)
  have hne : l.map Claim.val ≠ [] := by simpa using h0
  have e1 : rowV elC.size h (l.map Claim.val) = .slice (some ⟨h.length, 0, some (l.length * 6)⟩) l.length l.length := by
    unfold rowV; rw [if_neg hne, List.length_map]; rfl
  have e2 : rowH elC.size elC.e h (l.map Claim.val) = h ++ [rowP l] := by
    unfold rowH; rw [if_neg hne]; rfl
  rw [e1, e2] at key
  exact key
theorem frzAll_one {P : Program} {lo : Nat} {v u : Value} {h h' : Heap} (hf : freezeV P depth lo h v = some (u, h')) : frzAll P lo [v] h = some ([u], h') := by
  unfold frzAll
  simp only [List.foldlM_cons, List.foldlM_nil, hf]
  rfl
theorem frz_vals {h : Heap} {b n : Nat} {l : List Claim} (hob : h[b]? = some (rowP l)) (hn : n = l.length) (h0 : n ≠ 0) : frzAll E.P 0 [.slice (some ⟨b, 0, some (n * 6)⟩) n n] h = some ([lst false (l.map Claim.val)], h.set b .dead) := by
  subst hn
  refine frzAll_one ?_
  have := frz_agg8 (P := E.P) (lo := 0) (h := h) (b := b) (k := l.length * 6) (len := l.length) (cap := l.length) (g := 5) (s := 6) (t := 40) (l := l.map Claim.val) hob s40 a40 (Nat.zero_le _) rfl (vals_flat l).symm (by simp) (by decide) (vals_agg l) (vals_set l)
  rw [this, if_neg h0]

/-- A row in which one list is still live. -/
def rowQ (l : List Claim) (b : Nat) : AObj := .cells 40 ((l.map Claim.val).flatMap cellsL ++ cC (rw1 1 b)) 6
theorem fold_frz {P : Program} {n lo : Nat} : ∀ (X : List Value) (acc : List Value) (h : Heap) (Y : List Value), X.all (settled 8) = true → X.all one = true →
    (X ++ Y).foldlM (init := (acc, h)) (fun r x => (freezeV P (n + 1) lo r.2 x).map fun y => (r.1 ++ [y.1], y.2)) = Y.foldlM (init := (acc ++ X, h)) (fun r x => (freezeV P (n + 1) lo r.2 x).map fun y => (r.1 ++ [y.1], y.2))
  | [], acc, h, Y, _, _ => by simp
  | x :: X, acc, h, Y, h1, h2 => by
    simp only [List.all_cons, Bool.and_eq_true] at h1 h2
    rw [List.cons_append, List.foldlM_cons, frz_set1 h1.1 h2.1]
    show (X ++ Y).foldlM _ (acc ++ [x], h) = _
    rw [fold_frz X (acc ++ [x]) h Y h1.2 h2.2, List.append_assoc]
    rfl
theorem frz_live {h : Heap} {l : List Claim} {c : Int} {n : Nat} (h1 : h[1]? = some (rowQ l 2)) (h2 : h[2]? = some (rI [c])) (hn : n = l.length + 1) :
    frzAll E.P 0 [.slice (some ⟨1, 0, some (n * 6)⟩) n n] h = some ([lst false ((addC l c).map Claim.val)], (h.set 1 .dead).set 2 .dead) := by
  subst hn
  refine frzAll_one ?_
  have hlen : ((l.map Claim.val).flatMap cellsL ++ cC (rw1 1 2)).length = (l.length + 1) * 6 := by
    rw [List.length_append, vals_flat]; simp [cC]; omega
  have hall : ((l.map Claim.val).flatMap cellsL ++ cC (rw1 1 2)).all (settled depth) = false := by
    rw [List.all_append, Bool.and_eq_false_iff]; exact .inr rfl
  have hd2 : (h.set 1 .dead)[2]? = some (rI [c]) := by rw [List.getElem?_set_ne (by decide)]; exact h2
  have f2 : freezeV E.P 7 0 (h.set 1 .dead) (rw1 1 2) = some (lst false [.int .i64 c], (h.set 1 .dead).set 2 .dead) :=
    frz_one1 (P := E.P) (lo := 0) (n := 6) (h := h.set 1 .dead) (b := 2) (k := 1) (len := 1) (cap := 1) (l := [.int .i64 c]) hd2 s3 a3 (Nat.zero_le _) rfl rfl rfl
  show freezeV E.P (7 + 1) 0 h _ = _
  generalize hm : l.length + 1 = m at *
  have hm0 : ¬ m = 0 := by omega
  show (if m = 0 then _ else _) = _
  rw [if_neg hm0, h1]
  show (szOf E.P 40).bind _ = _
  rw [s40, Option.bind_some, if_pos ⟨Nat.zero_le _, by unfold stampOk; rw [hlen]; simp, by decide, by rw [hlen]; simp⟩]
  have e : (((l.map Claim.val).flatMap cellsL ++ cC (rw1 1 2)).drop 0).take (m * 6) = (l.map Claim.val).flatMap cellsL ++ cC (rw1 1 2) := by
    rw [List.drop_zero, ← hlen, List.take_length]
  show Option.bind (if ((((l.map Claim.val).flatMap cellsL ++ cC (rw1 1 2)).drop 0).take (m * 6)).all (settled depth) = true then _ else _) _ = _
  rw [e, hall, if_neg (by decide), fold_frz (n := 6) _ _ _ _ (vals_set l) (vals_one l)]
  have g : ∀ (v : Value) (hh : Heap), settled 8 v = true → one v = true → freezeV E.P 7 0 hh v = some (v, hh) := fun v hh a b => frz_set1 a b
  have q : (cC (rw1 1 2)).foldlM (init := ([] ++ (l.map Claim.val).flatMap cellsL, h.set 1 .dead)) (fun r x => (freezeV E.P (6 + 1) 0 r.2 x).map fun y => (r.1 ++ [y.1], y.2)) =
      some ((l.map Claim.val).flatMap cellsL ++ cC (lst false [.int .i64 c]), (h.set 1 .dead).set 2 .dead) := by
    unfold cC
    simp only [List.foldlM_cons, List.foldlM_nil, f2, g _ _ (rfl : settled 8 (Value.int .i64 0) = true) rfl, g _ _ (rfl : settled 8 (Value.string ⟨⟨[]⟩⟩) = true) rfl, Option.map_some, bind, Option.bind_some, List.nil_append, List.append_assoc, List.cons_append]
    rfl
  rw [q, Option.bind_some]
  have e2 : (l.map Claim.val).flatMap cellsL ++ cC (lst false [.int .i64 c]) = ((addC l c).map Claim.val).flatMap cellsL := by
    unfold addC
    rw [List.map_append, List.flatMap_append]; rfl
  have e3 := elems_vals (addC l c)
  rw [show (addC l c).length = m by simp [addC, hm]] at e3
  show (elemsOf E.P 40 m _).map _ = _
  rw [e2, e3]
  rfl

theorem app_live {h : Heap} {l : List Claim} {n : Nat} (h1 : h[1]? = some (rowP l)) (h3 : h[3]? = some (.cells 40 (cC (rw1 1 2)) 0)) (hn : n = l.length) (hb : n ≤ 1000) :
    appendT (some elC) h 0 false (.slice (some ⟨1, 0, some (n * 6)⟩) n n) (.slice (some ⟨3, 0, none⟩) 1 1) = some (.slice (some ⟨1, 0, some ((n + 1) * 6)⟩) (n + 1) (n + 1), h.set 1 (rowQ l 2)) := by
  subst hn
  have hob' : h[1]? = some (.cells 40 ((l.map Claim.val).flatMap cellsL) (5 + 1)) := h1
  have hc : sliceCells h elC.size (.slice (some ⟨3, 0, none⟩) 1 1) = some (cC (rw1 1 2), 1) := by
    rw [cells_slice, if_neg (by decide), h3, rowS_cells]
    rfl
  rw [append_slice, hc]
  show appS elC h 0 false _ _ _ h[1]? _ = _
  rw [hob']
  have key := appS_grown (el := elC) (h := h) (lo := 0) (b := 1) (k := l.length * 6) (n := l.length) (c := l.length) (g := 5) (m := 1) (t := 40) (row := (l.map Claim.val).flatMap cellsL) (new := cC (rw1 1 2)) (by decide) (vals_flat l).symm rfl rfl (vals_flat l).symm (Nat.zero_le _) (by show (l.length + 1) * 72 ≤ 2 ^ 47; omega)
  refine key.trans ?_
  have e3 : ((l.map Claim.val).flatMap cellsL ++ cC (rw1 1 2)).length = (l.length + 1) * 6 := by
    rw [List.length_append, vals_flat]; simp [cC]; omega
  unfold rowQ
  rw [e3]
theorem addN_ok {l : List Claim} (hc : CaseOk l) : CaseOk (addN l) := fun c h => by
  rcases List.mem_append.1 h with h | h
  · exact hc c h
  · rw [List.mem_singleton.1 h]; exact ⟨fun _ => rfl, Nat.zero_le _⟩
theorem addC_ok {l : List Claim} {z : Int} (hc : CaseOk l) : CaseOk (addC l z) := fun c h => by
  rcases List.mem_append.1 h with h | h
  · exact hc c h
  · rw [List.mem_singleton.1 h]; exact ⟨iok_some, by unfold maxLen; simp [clm]⟩
theorem revL_ok {l : List Claim} (hc : CaseOk l) : CaseOk (revL l) := fun c h => by
  obtain ⟨d, hd, rfl⟩ := List.mem_map.1 h
  have := (hc d (List.mem_reverse.1 hd)).2
  exact ⟨iok_some, by simpa [revC, clm, revA] using this⟩
theorem atts_addN (l : List Claim) : atts (addN l) = atts l ++ [[]] := by simp [atts, addN, clm]
theorem atts_addC (l : List Claim) (c : Int) : atts (addC l c) = atts l ++ [[c]] := by simp [atts, addC, clm]

theorem idxV {l : List Int} {z : Int} (h0 : 0 ≤ z) (h1 : z.toNat < l.length) : indexAddrT (.sl 3 ⟨some false, some 1⟩) (rowT l) (.int .i64 z) = some (cptr (.int .i64 (getI l z))) := il_idx (k := some false) (fun h => by cases h) h0 h1
def HH : Heap := [.dead, .dead, .dead, .cells 40 (cC (rw1 1 2)) 0]

set_option maxRecDepth 20000 in
set_option maxHeartbeats 4000000 in
theorem newLaw_spec (x : Bool) (l : List Claim) (at_ : Int) (hc : CaseOk l) (hl : l.length ≤ maxLen) : ∃ h', L E1 7 [lst x (l.map Claim.val), .int .i64 at_] [] 0 = some (.bool true, h') := by
  have sm := small_spec
  have fw : pureCall E1.P (L E1) 9 [lst x (l.map Claim.val), .int .i64 30] = _ := lift (few_spec x l 30 (by decide) hc)
  have rs := lift (right_spec x l hc hl)
  have n8 : E1.mode 8 = 0 := rfl
  have n9 : E1.mode 9 = 0 := rfl
  have n10 : E1.mode 10 = 4 := rfl
  have n13 : E1.mode 13 = 0 := rfl
  have n25 : E1.mode 25 = 0 := rfl
  have n26 : E1.mode 26 = 1 := rfl
  have lT : ∀ l h, lenT .sl h (rowT l) = some (.int .i64 (l.length : Int)) := fun l h => by unfold rowT; simp
  rw [L_fn (fn1 F7) rfl]
  cases hf : fewB 30 l
  · rw [hf] at fw
    simp -implicitDefEqProofs [r7, p7, ret0 n8, sm, ret0 n9, fw]
  · have hn := few_len' hf
    rw [hf] at fw
    cases hr : rightB (atts l)
    · rw [hr] at rs
      simp -implicitDefEqProofs [r7, p7, ret0 n8, sm, ret0 n9, fw, ret0 n13, rs]
    · rw [hr] at rs
      by_cases q0 : l.length = 0
      · simp -implicitDefEqProofs [r7, p7, ret0 n8, sm, ret0 n9, fw, ret0 n13, rs, q0]
      · obtain ⟨m, hm, em⟩ := and_mask (P := E1.P) (t := 3) at_
        have er := rem_nat (P := E1.P) (t := 3) (m := m) (n := l.length) (by omega)
        have hi : m % l.length < l.length := Nat.mod_lt m (by omega)
        generalize m % l.length = c at er hi
        have hcd : dom (atts l).length (c : Int) := ⟨by omega, by rw [atts_len]; omega⟩
        have h300 : (atts l).length < 300 := by rw [atts_len]; omega
        have hrN : rightB (atts (addN l)) = true := by rw [atts_addN]; exact more_right hr h300 .nil (fun k hk => by cases hk)
        have hrC : rightB (atts (addC l c)) = true := by
          rw [atts_addC]
          exact more_right hr h300 (List.pairwise_singleton _ _) fun k hk => by rw [List.mem_singleton.1 hk]; unfold dom at hcd; omega
        have hrR : rightB (atts (revL l)) = true := by rw [atts_revL]; exact revM_right hr
        have mk : ∀ (l : List Claim), CaseOk l → l.length ≤ maxLen → rightB (atts l) = true → ∀ x, pureCall E1.P (L E1) 10 [lst x (l.map Claim.val)] = some (.tuple #[rowT (groundF (atts l)).1, rowT (groundF (atts l)).2, .int .i64 0]) := fun l a b d x => by
          have := lift (grounded_spec x l a b)
          rw [d] at this
          exact this
        have hml : maxLen ≥ 1000 := by unfold maxLen; omega
        have g0 := mk l hc hl hr x
        have g1 := mk (addN l) (addN_ok hc) (by simp [addN]; omega) hrN false
        have g2 := mk (addC l c) (addC_ok hc) (by simp [addC]; omega) hrC false
        have g3 := mk (revL l) (revL_ok hc) (by simp [revL]; omega) hrR false
        have rv := lift (reversed_spec x l hc hr)
        have len := fun A => ground_len (A := A)
        obtain ⟨a1, a2⟩ := len (atts l)
        obtain ⟨b1, _⟩ := len (atts (addN l))
        obtain ⟨c1, c2⟩ := len (atts (addC l c))
        obtain ⟨d1, d2⟩ := len (atts (revL l))
        rw [atts_len] at a1 a2
        rw [atts_len, show (addN l).length = l.length + 1 by simp [addN]] at b1
        rw [atts_len, show (addC l c).length = l.length + 1 by simp [addC]] at c1 c2
        rw [atts_len, show (revL l).length = l.length by simp [revL]] at d1 d2
        obtain ⟨m1, m2⟩ := ground_more hr h300
        obtain ⟨k1, k2, k3, k4⟩ := ground_hit hr h300 hcd
        have fl := fun j hj => ground_flip hr (j := j) hj
        have sf := fun j hj => self_out hr (j := j) hj
        rw [← atts_addN] at m1 m2
        rw [← atts_addC] at k1 k2 k3 k4
        rw [← atts_revL] at fl
        rw [atts_len] at m2 k1 k2
        have hl0 : l ≠ [] := fun e => q0 (by rw [e]; rfl)
        have hw1 : IntKind.i64.wrap ((l.length : Int) + 1) = (l.length : Int) + 1 := wrap64 (by omega) (by omega)
        have e1 := fun h => app_all (h := h) (lo := 0) (st := false) (x := x) hl0 (by omega)
        have e2 := app_claim (h := [rowP l]) (b := 0) (lo := 0) (acc := l) (y := true) (clm [] none) rfl (Nat.le_refl 0) (by omega)
        have e3 := frz_vals (h := [rowP (addN l)]) (b := 0) (n := l.length + 1) (l := addN l) rfl (by simp [addN]) (by omega)
        have e4 := app_live (h := [.dead, rowP l, rI [(c : Int)], .cells 40 (cC (rw1 1 2)) 0]) (l := l) (n := l.length) rfl rfl rfl (by omega)
        have e5 := frz_live (h := [.dead, rowQ l 2, rI [(c : Int)], .cells 40 (cC (rw1 1 2)) 0]) (l := l) (c := (c : Int)) (n := l.length + 1) rfl rfl rfl
        have e6 := lit_none
        have e7 := lit_new
        have e8 := l1
        have e9 := bC
        have e10 := bN
        rw [show l ++ [clm [] none] = addN l from rfl] at e2
        rw [show E.P = E1.P from rfl] at e3 e5
        simp only [elC, cC, zC, rw1, rI, List.map_cons, List.map_nil, List.set_cons_succ, List.set_cons_zero] at e1 e2 e3 e4 e5 e6 e7 e8 e9 e10
        generalize (groundF (atts l)).1 = A1 at *
        generalize (groundF (atts l)).2 = A2 at *
        generalize (groundF (atts (addN l))).1 = B1 at *
        generalize (groundF (atts (addN l))).2 = B2 at *
        generalize (groundF (atts (addC l c))).1 = C1 at *
        generalize (groundF (atts (addC l c))).2 = C2 at *
        generalize (groundF (atts (revL l))).1 = D1 at *
        generalize (groundF (atts (revL l))).2 = D2 at *
        simp -implicitDefEqProofs [r7, p7, ret0 n8, sm, ret0 n9, fw, ret0 n13, rs, q0, em, er, ret4 n10, frzAll_lst, g0, e1, e2, e3, e4, e5, e6, e7, e8, e9, e10, g1, g2, ret1s n26, rv, g3, build_one', Value.cells, lT, a1, a2, b1, c1, c2, d1, d2, hw1]
        rw [LL_for (γ := Unit) l () (fun j _ => [(20, .int .i64 j)]) (fun _ _ => HH) (fun _ _ _ => (.exit 0, [(20, undef)], HH)) (fun _ _ => True) (by omega) trivial]
        · have xB := idxV (l := B1) (z := (l.length : Int)) (by omega) (by omega)
          have xC := idxV (l := C1) (z := (l.length : Int)) (by omega) (by omega)
          have xC2 := idxV (l := C2) (z := (l.length : Int)) (by omega) (by omega)
          have yC := idxV (l := C1) (z := (c : Int)) (by omega) (by omega)
          have yC2 := idxV (l := C2) (z := (c : Int)) (by omega) (by omega)
          rw [m2] at xB
          rw [k1] at xC
          rw [k2] at xC2
          rw [k3] at yC
          rw [k4] at yC2
          simp -implicitDefEqProofs [k7_13, xB, xC, xC2, yC, yC2]
        · simp -implicitDefEqProofs [k7_13]
        · rfl
        · intro nx j _ hj _
          simp -implicitDefEqProofs [r7_13, k7_13, hj, trim_le]
        · intro nx j v rest _ hj _ _ hwj _ ih
          have ih := ih () trivial
          have hjd : dom (atts l).length (j : Int) := ⟨by omega, by rw [atts_len]; omega⟩
          obtain ⟨f1, f2⟩ := fl _ hjd
          have f3 := m1 _ hjd
          have f4 := sf _ hjd
          have hfl : flip (atts l).length (j : Int) = (l.length : Int) - 1 - j := by unfold flip; rw [atts_len]
          rw [hfl] at f1 f2
          obtain ⟨w1, w2⟩ := rowI_sub (n := l.length) (k := j) hj (by omega)
          have xA := idxV (l := A1) (z := (j : Int)) (by omega) (by omega)
          have xA2 := idxV (l := A2) (z := (j : Int)) (by omega) (by omega)
          have xB := idxV (l := B1) (z := (j : Int)) (by omega) (by omega)
          have xD := idxV (l := D1) (z := (l.length : Int) - 1 - j) (by omega) (by omega)
          have xD2 := idxV (l := D2) (z := (l.length : Int) - 1 - j) (by omega) (by omega)
          rw [f3] at xB
          rw [f1] at xD
          rw [f2] at xD2
          have hat : pureCall E1.P (L E1) 25 [lst x (l.map Claim.val), .int .i64 (j : Int), .int .i64 (j : Int)] = some (.bool (attB (atts l) j j)) := lift (attacks_spec x l (j : Int) (j : Int) hc (by omega) (by omega))
          generalize getI A1 (j : Int) = p at *
          generalize getI A2 (j : Int) = q at *
          simp -implicitDefEqProofs [k7_13] at ih
          cases hself : attB (atts l) (j : Int) (j : Int)
          · rw [hself] at hat
            simp -implicitDefEqProofs [r7_13, k7_13, hj, hwj, xA, xA2, xB, xD, xD2, w1, w2, ret0 n25, hat, trim_le]
            exact ih
          · rw [hself] at hat
            have f5 := f4 hself
            simp -implicitDefEqProofs [r7_13, k7_13, hj, hwj, xA, xA2, xB, xD, xD2, w1, w2, ret0 n25, hat, f5, trim_le]
            exact ih

end Go.Proofs.Ytbadgapficfbpaa.Bm
