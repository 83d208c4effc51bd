/-
  Chapter 06: the statement on cells. Conditions: lists that are not too long.
-/
import Derived.Test.YtgeebooalafepaaC06n
import Derived.Test.YtgeebooalafepaaRgD
namespace Go.Proofs.Ytgeebooalafepaa.Bm
open Go Go.RowKit
open Rg (Rect areaL cell bi sumN allN cntB allB opL ofL norm Det cell_det)

/-! ### Plain: what the operations answer -/
theorem inN_box {l : List Rect} (h : l.all inN = true) : ∀ r ∈ l, r.inBox 24 := fun r hr => by
  have := List.all_eq_true.1 h r hr
  unfold inN at this
  simp only [Bool.and_eq_true, decide_eq_true_eq] at this
  unfold Rect.inBox
  omega
theorem box_mono {l : List Rect} {n m : Int} (h : ∀ r ∈ l, r.inBox n) (hm : n ≤ m) : ∀ r ∈ l, r.inBox m := fun r hr => by
  have := h r hr
  unfold Rect.inBox at this ⊢
  omega
theorem box_ok {l : List Rect} {n : Int} (h : ∀ r ∈ l, r.inBox n) (hn : n ≤ 1048576) : l.all okR = true := List.all_eq_true.2 fun r hr => okR_iff.2 (box_mono h hn r hr)
/-- Lists whose cells are known are regions if they are short. -/
structure Reg (l : List Rect) (S : Int → Int → Bool) : Prop where
  form : Rg.Form l
  cell : ∀ x y, cell l x y = S x y
  ok : ∀ r ∈ l, r.inBox 1048576
  len : l.length ≤ 200
theorem Reg.right {l : List Rect} {S : Int → Int → Bool} (h : Reg l S) : regB l = true := regB_iff.2 ⟨box_ok h.ok (Int.le_refl _), h.len, h.form⟩
theorem Reg.norm {l : List Rect} {S : Int → Int → Bool} (h : Reg l S) : norm S = l := Rg.norm_eq h.form h.cell
theorem Reg.same {l m : List Rect} {S T : Int → Int → Bool} (h : Reg l S) (k : Reg m T) : l = m ↔ ∀ x y, S x y = T x y :=
  ⟨fun e x y => by rw [← h.cell, ← k.cell, e], fun e => h.form.ext k.form fun x y => by rw [h.cell, k.cell, e]⟩
theorem of_reg {l : List Rect} (h : l.all okR = true) (hl : l.length ≤ 14) : ∃ c, ofR l = .ok c ∧ Reg c (cell l) := by
  have hy := ofL_ok' h
  have hb : ∀ r ∈ l, r.inBox 1048576 := fun r hr => okR_iff.1 (List.all_eq_true.1 h r hr)
  obtain ⟨hf, hc⟩ := Rg.ofL_ok hy
  have hlen : (ofL l).length ≤ 200 := by
    have h1 := Rg.form_bound (R := l) (fun r hr => by have := hb r hr; unfold Rect.inBox at this; omega) (cell_det l) hf hc
    have h2 : l.length * l.length ≤ 14 * 14 := Nat.mul_le_mul hl hl
    omega
  refine ⟨ofL l, ?_, hf, hc, hf.box fun x y hxy => Rg.cell_box hb (by rw [← hc]; exact hxy), hlen⟩
  unfold ofR
  rw [if_pos h, if_neg (by omega), if_pos hlen]
theorem op_reg (f : Bool → Bool → Bool) (hf : f false false = false) {a b : List Rect} {S T : Int → Int → Bool} (ha : Reg a S) (hb : Reg b T) (R : List Rect) (hR : ∀ r ∈ R, r.x0 < r.x1) (hS : Det R S) (hT : Det R T) (hl : R.length ≤ 14) :
    ∃ c, opR f a b = .ok c ∧ Reg c fun x y => f (S x y) (T x y) := by
  have pa := fun r hr => (ha.form.pos r hr).2
  have pb := fun r hr => (hb.form.pos r hr).2
  obtain ⟨h1, h2⟩ := Rg.opL_ok f hf pa pb
  have h2' : ∀ x y, cell (opL f a b) x y = f (S x y) (T x y) := fun x y => by rw [h2, ha.cell, hb.cell]
  have hlen : (opL f a b).length ≤ 200 := by
    have h3 := Rg.form_bound hR (hS.op hT f hf) h1 h2'
    have h4 : R.length * R.length ≤ 14 * 14 := Nat.mul_le_mul hl hl
    omega
  refine ⟨opL f a b, ?_, h1, h2', h1.box fun x y hxy => ?_, hlen⟩
  · unfold opR limR
    rw [ha.right, hb.right, if_pos hlen]; rfl
  · rw [h2] at hxy
    cases q1 : cell a x y
    · cases q2 : cell b x y
      · rw [q1, q2, hf] at hxy; cases hxy
      · exact Rg.cell_box hb.ok q2
    · exact Rg.cell_box ha.ok q1
theorem Reg.area {l : List Rect} {S : Int → Int → Bool} (h : Reg l S) (n : Nat) (hS : ∀ x y, S x y = true → 0 ≤ x ∧ x < n ∧ 0 ≤ y ∧ y < n) : areaL l = cntB n S := by
  rw [Rg.area_form h.form (h.form.box fun x y hxy => hS x y (by rw [← h.cell]; exact hxy)), Rg.cntB_cnt hS]
  exact Rg.cnt_congr h.cell

/-! ### The walk -/
theorem frzL (h : Heap) (x : Bool) (l : List Rect) : frzAll E.P 0 [lst x (rectR.vals l)] h = some ([lst x (rectR.vals l)], h) := frzAll_row (frz_set8 rfl rfl)
theorem of_l (x : Bool) (l : List Rect) (hl : l.length ≤ 1000000) : pureCall E.P (L E) 9 [lst x (rectR.vals l)] = some (resL (ofR l)) := of_spec (some x) l Rec.ok_some hl
theorem right_l (x : Bool) (l : List Rect) (hl : l.length ≤ 1000000) : pureCall E.P (L E) 11 [lst x (rectR.vals l)] = some (.bool (regB l)) := right2_spec (some x) l Rec.ok_some hl
theorem union_l (x y : Bool) (a b : List Rect) (ha : a.length ≤ 1000000) (hb : b.length ≤ 1000000) : pureCall E.P (L E) 15 [lst x (rectR.vals a), lst y (rectR.vals b)] = some (resL (opR orF a b)) := union2_spec (some x) (some y) a b Rec.ok_some Rec.ok_some ha hb
theorem common_l (x y : Bool) (a b : List Rect) (ha : a.length ≤ 1000000) (hb : b.length ≤ 1000000) : pureCall E.P (L E) 16 [lst x (rectR.vals a), lst y (rectR.vals b)] = some (resL (opR andF a b)) := common2_spec (some x) (some y) a b Rec.ok_some Rec.ok_some ha hb
theorem minus_l (x y : Bool) (a b : List Rect) (ha : a.length ≤ 1000000) (hb : b.length ≤ 1000000) : pureCall E.P (L E) 17 [lst x (rectR.vals a), lst y (rectR.vals b)] = some (resL (opR subF a b)) := minus2_spec (some x) (some y) a b Rec.ok_some Rec.ok_some ha hb
theorem area_l (x : Bool) (l : List Rect) (hl : l.length ≤ 1000000) : pureCall E.P (L E) 14 [lst x (rectR.vals l)] = some (.int .i64 (if regB l then areaL l else 0)) := area2_spec (some x) l Rec.ok_some hl
theorem has_l (z : Bool) (l : List Rect) (x y : Int) (hl : l.length ≤ 1000000) : pureCall E.P (L E) 20 [lst z (rectR.vals l), .int .i64 x, .int .i64 y] = some (.bool (regB l && cell l x y)) := has2_spec (some z) l x y Rec.ok_some hl
theorem covered_l (z : Bool) (l : List Rect) (x y : Int) (hl : l.length ≤ 1000000) : pureCall E.P (L E) 19 [lst z (rectR.vals l), .int .i64 x, .int .i64 y] = some (.bool (cell l x y)) := covered_spec (some z) l x y Rec.ok_some (by omega)
theorem near_l (z : Bool) (l : List Rect) (n : Nat) (hn : n ≤ 100) : pureCall E.P (L E) 18 [lst z (rectR.vals l), .int .i64 n] = some (.bool (decide (l.length ≤ n) && l.all inN)) := near_spec (some z) l n Rec.ok_some hn
theorem same_l (x y : Bool) (l r : List Rect) (hl : l.length ≤ 1000000) : pureCall E.P (L E) 12 [lst x (rectR.vals l), lst y (rectR.vals r)] = some (.bool (decide (l = r))) := same_rects (some x) (some y) l r Rec.ok_some Rec.ok_some hl
theorem same2_l (x y : Bool) (l r : List Rect) (hl : l.length ≤ 1000000) : pureCall E.P (L E) 21 [lst x (rectR.vals l), lst y (rectR.vals r)] = some (.bool (decide (l = r))) := same_spec (some x) (some y) l r Rec.ok_some Rec.ok_some hl
theorem rf_l (h : Heap) (x : Bool) (l : List Rect) : reify E.P 8 h (lst x (rectR.vals l)) = some (lst x (rectR.vals l)) := rfl
theorem set_l (x : Bool) (l : List Rect) : settled depth (lst x (rectR.vals l)) = true := rfl
theorem len_l (h : Heap) (x : Bool) (l : List Rect) : lenT .sl h (lst x (rectR.vals l)) = some (.int .i64 l.length) := Rec.tree_len

theorem barr4 : buildT (Bl.arr ⟨[.int .i64 0, .int .i64 0, .int .i64 0, .int .i64 0]⟩ 1) #[] = some (.agg ⟨[.int .i64 0, .int .i64 0, .int .i64 0, .int .i64 0]⟩) := rfl
theorem ub : E.P.underlying 4 = some .bool := by kernel_rfl
theorem ixA0 : indexAddrT (.arr 4 ⟨some false, some 1⟩) (.pointer (some ⟨0, 0, none⟩)) (.int .i64 0) = some (.pointer (some ⟨0, 0, none⟩)) := rfl
theorem ixA1 : indexAddrT (.arr 4 ⟨some false, some 1⟩) (.pointer (some ⟨0, 0, none⟩)) (.int .i64 1) = some (.pointer (some ⟨0, 1, none⟩)) := rfl
theorem ixA2 : indexAddrT (.arr 4 ⟨some false, some 1⟩) (.pointer (some ⟨0, 0, none⟩)) (.int .i64 2) = some (.pointer (some ⟨0, 2, none⟩)) := rfl
theorem ixA3 : indexAddrT (.arr 4 ⟨some false, some 1⟩) (.pointer (some ⟨0, 0, none⟩)) (.int .i64 3) = some (.pointer (some ⟨0, 3, none⟩)) := rfl
theorem bi_le (b : Bool) : 0 ≤ bi b ∧ bi b ≤ 1 := by cases b <;> decide
theorem sumN_le {f : Int → Int} {c : Int} (h : ∀ i, 0 ≤ f i ∧ f i ≤ c) : ∀ n : Nat, 0 ≤ sumN n f ∧ sumN n f ≤ n * c
  | 0 => by simp [sumN]
  | n + 1 => by
    have h1 := sumN_le h n
    have h2 := h n
    show 0 ≤ sumN n f + f n ∧ sumN n f + f n ≤ ((n + 1 : Nat) : Int) * c
    have e : ((n + 1 : Nat) : Int) * c = n * c + c := by push_cast; rw [Int.add_mul, Int.one_mul]
    rw [e]
    generalize (n : Int) * c = q at h1 ⊢
    exact ⟨by omega, by omega⟩
/-- The cells that are counted before row 'k', and before place 'j' of row 'k'. -/
def cK (S : Int → Int → Bool) (k : Nat) : Int := sumN k fun i => sumN 26 fun j => bi (S (i - 1) (j - 1))
def cJ (S : Int → Int → Bool) (k j : Nat) : Int := cK S k + sumN j fun j => bi (S ((k : Int) - 1) (j - 1))
theorem cJ_zero {S : Int → Int → Bool} {k : Nat} : cJ S k 0 = cK S k := by unfold cJ; exact Int.add_zero _
theorem cJ_succ {S : Int → Int → Bool} {k j : Nat} : cJ S k (j + 1) = cJ S k j + bi (S ((k : Int) - 1) ((j : Int) - 1)) := by
  exact (Int.add_assoc _ _ _).symm
theorem cJ_end {S : Int → Int → Bool} {k : Nat} : cJ S k 26 = cK S (k + 1) := rfl
theorem cK_end {S : Int → Int → Bool} : cK S 26 = cntB 24 S := rfl
theorem cJ_le {S : Int → Int → Bool} {k j : Nat} (hk : k ≤ 26) (hj : j ≤ 26) : 0 ≤ cJ S k j ∧ cJ S k j ≤ 1000 := by
  unfold cJ cK
  have h1 := sumN_le (c := 26) (f := fun i => sumN 26 fun j => bi (S (i - 1) (j - 1))) (fun i => by
    have := sumN_le (c := 1) (f := fun j => bi (S (i - 1) (j - 1))) (fun j => bi_le _) 26
    omega) k
  have h2 := sumN_le (c := 1) (f := fun j => bi (S ((k : Int) - 1) (j - 1))) (fun j => bi_le _) j
  omega
def qK (S : Int → Int → Bool) (k : Nat) : Bool := allN k fun i => allN 26 fun j => S (i - 1) (j - 1)
def qJ (S : Int → Int → Bool) (k j : Nat) : Bool := qK S k && allN j fun j => S ((k : Int) - 1) (j - 1)
theorem qJ_zero {S : Int → Int → Bool} {k : Nat} : qJ S k 0 = qK S k := Bool.and_true _
theorem qJ_succ {S : Int → Int → Bool} {k j : Nat} : qJ S k (j + 1) = (qJ S k j && S ((k : Int) - 1) ((j : Int) - 1)) := (Bool.and_assoc _ _ _).symm
theorem qJ_end {S : Int → Int → Bool} {k : Nat} : qJ S k 26 = qK S (k + 1) := rfl
theorem qK_end {S : Int → Int → Bool} : qK S 26 = allB 24 S := rfl

set_option maxHeartbeats 4000000 in
theorem cells_spec (a b : List Rect) : ∃ h', L E 5 [lst false (rectR.vals a), lst false (rectR.vals b)] [] 0 = some (.bool true, h') := by
  have sm := small_spec
  have na : pureCall E.P (L E) 18 [lst false (rectR.vals a), .int .i64 6] = some (.bool (decide (a.length ≤ 6) && a.all inN)) := near_l false a 6 (by omega)
  have nb : pureCall E.P (L E) 18 [lst false (rectR.vals b), .int .i64 6] = some (.bool (decide (b.length ≤ 6) && b.all inN)) := near_l false b 6 (by omega)
  rw [L_fn F5 rfl]
  cases h1 : (decide (a.length ≤ 6) && a.all inN)
  · rw [h1] at na
    refine ⟨[], ?_⟩
    simp -implicitDefEqProofs [r5, p5, ret0 m8, sm, ret0 m18, rf_l, na]
    done
  cases h2 : (decide (b.length ≤ 6) && b.all inN)
  · rw [h1] at na
    rw [h2] at nb
    refine ⟨[], ?_⟩
    simp -implicitDefEqProofs [r5, p5, ret0 m8, sm, ret0 m18, rf_l, na, nb]
    done
  rw [h1] at na
  rw [h2] at nb
  rw [Bool.and_eq_true, decide_eq_true_eq] at h1 h2
  have ba := inN_box h1.2
  have bb := inN_box h2.2
  obtain ⟨c, ec, rc⟩ := of_reg (box_ok ba (by decide)) (by omega)
  obtain ⟨d, ed, rd⟩ := of_reg (box_ok bb (by decide)) (by omega)
  have hR : ∀ r ∈ a ++ b, r.x0 < r.x1 := fun r hr => by
    rcases List.mem_append.1 hr with hr | hr
    · have := ba r hr; unfold Rect.inBox at this; omega
    · have := bb r hr; unfold Rect.inBox at this; omega
  have dS : Det (a ++ b) (cell a) := (cell_det a).mono fun r hr => List.mem_append_left _ hr
  have dT : Det (a ++ b) (cell b) := (cell_det b).mono fun r hr => List.mem_append_right _ hr
  have hl : (a ++ b).length ≤ 14 := by rw [List.length_append]; omega
  obtain ⟨u, eu, ru⟩ := op_reg orF rfl rc rd (a ++ b) hR dS dT hl
  obtain ⟨i, ei, ri⟩ := op_reg andF rfl rc rd (a ++ b) hR dS dT hl
  obtain ⟨m, em, rm⟩ := op_reg subF rfl rc rd (a ++ b) hR dS dT hl
  have la := of_l false a (by omega)
  have lb := of_l false b (by omega)
  have lc := rc.len
  have ld := rd.len
  have lu := ru.len
  have li := ri.len
  have lm := rm.len
  have qu := union_l false false c d (by omega) (by omega)
  have qi := common_l false false c d (by omega) (by omega)
  have qm := minus_l false false c d (by omega) (by omega)
  have pc := right_l false c (by omega)
  have pu := right_l false u (by omega)
  have pi := right_l false i (by omega)
  have pm := right_l false m (by omega)
  rw [ec] at la
  rw [ed] at lb
  rw [eu] at qu
  rw [ei] at qi
  rw [em] at qm
  rw [rc.right] at pc
  rw [ru.right] at pu
  rw [ri.right] at pi
  rw [rm.right] at pm
  simp only [resL] at la lb qu qi qm
  simp -implicitDefEqProofs [r5, p5, ret0 m8, sm, ret0 m18, rf_l, na, nb, ret4 m9, frzL, la, lb, ret1 m15, ret1 m16, ret1 m17, set_l, qu, qi, qm, ret0 m11, pc, pu, pi, pm, barr4]
  have va := fun x y => covered_l false a x y (by omega)
  have vb := fun x y => covered_l false b x y (by omega)
  have vc := fun x y => covered_l false c x y (by omega)
  have vu := fun x y => covered_l false u x y (by omega)
  have vi := fun x y => covered_l false i x y (by omega)
  have vm := fun x y => covered_l false m x y (by omega)
  have vh := fun x y => has_l false c x y (by omega)
  simp only [rc.cell, ru.cell, ri.cell, rm.cell, rc.right, Bool.true_and] at vc vu vi vm vh
  have hSa : ∀ x y, cell a x y = true → 0 ≤ x ∧ x < (24 : Nat) ∧ 0 ≤ y ∧ y < (24 : Nat) := fun x y h => Rg.cell_box ba h
  have hSb : ∀ x y, cell b x y = true → 0 ≤ x ∧ x < (24 : Nat) ∧ 0 ≤ y ∧ y < (24 : Nat) := fun x y h => Rg.cell_box bb h
  have aa := (area_l false c (by omega)).trans (by rw [rc.right, if_pos rfl, rc.area 24 hSa])
  have au := (area_l false u (by omega)).trans (by rw [ru.right, if_pos rfl, ru.area 24 fun x y h => by
    unfold orF at h; rw [Bool.or_eq_true] at h; exact h.elim (hSa x y) (hSb x y)])
  have ai := (area_l false i (by omega)).trans (by rw [ri.right, if_pos rfl, ri.area 24 fun x y h => by
    unfold andF at h; rw [Bool.and_eq_true] at h; exact hSa x y h.1])
  have am := (area_l false m (by omega)).trans (by rw [rm.right, if_pos rfl, rm.area 24 fun x y h => by
    unfold subF at h; rw [Bool.and_eq_true] at h; exact hSa x y h.1])
  have sa := same2_l false false c d (by omega)
  have eq : decide (c = d) = allB 24 (fun x y => cell a x y == cell b x y) := by
    rw [Bool.eq_iff_iff, decide_eq_true_eq, Rg.allB_eq hSa hSb]
    exact rc.same rd
  rw [eq] at sa
  have beq : ∀ p q, aBin E.P .eql 4 (.bool p) (.bool q) = some (.bool (p == q)) := fun p q => bin_eql_bool ub
  have bne : ∀ p q, aBin E.P .neq 4 (.bool p) (.bool q) = some (.bool (p != q)) := fun p q => bin_neq_bool ub
  clear eq hSa hSb la lb qu qi qm pc pu pi pm
  rw [LL_rec (α := Nat) 0 (fun k => [(17, .bool (qK (fun x y => cell a x y == cell b x y) k)), (18, .int .i64 ((k : Int) - 1))])
    (fun k => [.cells 37 [.int .i64 (cK (cell a) k), .int .i64 (cK (fun x y => orF (cell a x y) (cell b x y)) k), .int .i64 (cK (fun x y => andF (cell a x y) (cell b x y)) k), .int .i64 (cK (fun x y => subF (cell a x y) (cell b x y)) k)] 0])
    (fun _ => (.exit 0, [(17, .bool (qK (fun x y => cell a x y == cell b x y) 26)), (18, undef)], [.cells 37 [.int .i64 (cK (cell a) 26), .int .i64 (cK (fun x y => orF (cell a x y) (cell b x y)) 26), .int .i64 (cK (fun x y => andF (cell a x y) (cell b x y)) 26), .int .i64 (cK (fun x y => subF (cell a x y) (cell b x y)) 26)] 0]))
    (fun k => k ≤ 26) (fun k => 26 - k)]
  · refine ⟨[.cells 37 [.int .i64 (cntB 24 (cell a)), .int .i64 (cntB 24 (fun x y => orF (cell a x y) (cell b x y))), .int .i64 (cntB 24 (fun x y => andF (cell a x y) (cell b x y))), .int .i64 (cntB 24 (fun x y => subF (cell a x y) (cell b x y)))] 0], ?_⟩
    simp -implicitDefEqProofs [k5_16, ret0 m14, rf_l, aa, au, ai, am, ret0 m21, sa, cK_end, qK_end, ixA0, ixA1, ixA2, ixA3, beq]
  · exact Nat.zero_le _
  · simp -implicitDefEqProofs [k5_16, qK, allN]
  · rfl
  · intro nx k hk ih
    by_cases hk25 : k ≤ 25
    · have hx : (k : Int) - 1 ≤ 24 := by omega
      have w1 : IntKind.i64.wrap ((k : Int) - 1 + 1) = (k : Int) := (wrap64 (by omega) (by omega)).trans (by omega)
      have w1' : IntKind.i64.wrap (k : Int) = (k : Int) := wrap64 (by omega) (by omega)
      have ih := ih (k + 1) (by omega) (by omega)
      simp -implicitDefEqProofs [r5_16, k5_16, hx]
      rw [LL_rec (α := Nat) 0 (fun j => [(17, .bool (qJ (fun x y => cell a x y == cell b x y) k j)), (19, .int .i64 ((j : Int) - 1))])
        (fun j => [.cells 37 [.int .i64 (cJ (cell a) k j), .int .i64 (cJ (fun x y => orF (cell a x y) (cell b x y)) k j), .int .i64 (cJ (fun x y => andF (cell a x y) (cell b x y)) k j), .int .i64 (cJ (fun x y => subF (cell a x y) (cell b x y)) k j)] 0])
        (fun _ => (.exit 2, [(17, .bool (qJ (fun x y => cell a x y == cell b x y) k 26)), (19, undef)], [.cells 37 [.int .i64 (cJ (cell a) k 26), .int .i64 (cJ (fun x y => orF (cell a x y) (cell b x y)) k 26), .int .i64 (cJ (fun x y => andF (cell a x y) (cell b x y)) k 26), .int .i64 (cJ (fun x y => subF (cell a x y) (cell b x y)) k 26)] 0]))
        (fun j => j ≤ 26) (fun j => 26 - j)]
      · simp -implicitDefEqProofs [k5_16] at ih
        simp -implicitDefEqProofs [k5_19, cJ_end, qJ_end, w1, w1', trim_le]
        exact ih
      · exact Nat.zero_le _
      · simp -implicitDefEqProofs [k5_19, qJ_zero]
      · simp only [cJ_zero]
      · intro nx j hj ih
        by_cases hj25 : j ≤ 25
        · have hy : (j : Int) - 1 ≤ 24 := by omega
          have w2 : IntKind.i64.wrap ((j : Int) - 1 + 1) = (j : Int) := (wrap64 (by omega) (by omega)).trans (by omega)
          have w2' : IntKind.i64.wrap (j : Int) = (j : Int) := wrap64 (by omega) (by omega)
          have ih := ih (j + 1) (by omega) (by omega)
          have va := va ((k : Int) - 1) ((j : Int) - 1)
          have vb := vb ((k : Int) - 1) ((j : Int) - 1)
          have vc := vc ((k : Int) - 1) ((j : Int) - 1)
          have vu := vu ((k : Int) - 1) ((j : Int) - 1)
          have vi := vi ((k : Int) - 1) ((j : Int) - 1)
          have vm := vm ((k : Int) - 1) ((j : Int) - 1)
          have vh := vh ((k : Int) - 1) ((j : Int) - 1)
          have b0 := cJ_le (S := cell a) (k := k) (j := j) (by omega) hj
          have b1 := cJ_le (S := fun x y => orF (cell a x y) (cell b x y)) (k := k) (j := j) (by omega) hj
          have b2 := cJ_le (S := fun x y => andF (cell a x y) (cell b x y)) (k := k) (j := j) (by omega) hj
          have b3 := cJ_le (S := fun x y => subF (cell a x y) (cell b x y)) (k := k) (j := j) (by omega) hj
          simp only [cJ_succ (k := k) (j := j), qJ_succ (k := k) (j := j)] at ih
          generalize cJ (cell a) k j = n0 at *
          generalize cJ (fun x y => orF (cell a x y) (cell b x y)) k j = n1 at *
          generalize cJ (fun x y => andF (cell a x y) (cell b x y)) k j = n2 at *
          generalize cJ (fun x y => subF (cell a x y) (cell b x y)) k j = n3 at *
          generalize qJ (fun x y => cell a x y == cell b x y) k j = q0 at *
          generalize cell a ((k : Int) - 1) ((j : Int) - 1) = s at *
          generalize cell b ((k : Int) - 1) ((j : Int) - 1) = t at *
          have w3 : ∀ n : Int, 0 ≤ n → n ≤ 1000 → IntKind.i64.wrap (n + 1) = n + 1 := fun n h1 h2 => wrap64 (by omega) (by omega)
          have v0 := w3 n0 b0.1 b0.2
          have v1 := w3 n1 b1.1 b1.2
          have v2 := w3 n2 b2.1 b2.2
          have v3 := w3 n3 b3.1 b3.2
          simp -implicitDefEqProofs [k5_19] at ih
          cases q0 <;> cases s <;> cases t <;> simp -implicitDefEqProofs [orF, andF, subF, bi] at va vb vc vu vi vm vh ih <;>
            simp -implicitDefEqProofs [r5_19, k5_19, hy, w2, w2', ret0 m19, ret0 m20, rf_l, va, vb, vc, vu, vi, vm, vh, beq, bne, ixA0, ixA1, ixA2, ixA3, v0, v1, v2, v3, trim_le]
          all_goals exact ih
        · have hj26 : j = 26 := by omega
          subst hj26
          simp -implicitDefEqProofs [r5_19, k5_19, trim_le]
    · have hk26 : k = 26 := by omega
      subst hk26
      simp -implicitDefEqProofs [r5_16, k5_16, trim_le]
end Go.Proofs.Ytgeebooalafepaa.Bm
