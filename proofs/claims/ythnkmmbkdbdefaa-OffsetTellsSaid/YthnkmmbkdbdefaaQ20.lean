/-
  Arithmetic of the machine: masks, quotients, remainders. Conditions: none.
-/
import Derived.Test.YthnkmmbkdbdefaaQ19
import Derived.Test.YthnkmmbkdbdefaaQ14
namespace Go.Proofs.Ythnkmmbkdbdefaa.Rg

/-! ### A place found from behind -/
def scan (gt : Nat → Bool) : Nat → Nat
  | 0 => 0
  | k + 1 => if gt k then scan gt k else k + 1
theorem scan_le (gt : Nat → Bool) : ∀ n, scan gt n ≤ n
  | 0 => Nat.le_refl _
  | n + 1 => by
    unfold scan
    split
    · exact Nat.le_succ_of_le (scan_le gt n)
    · exact Nat.le_refl _
theorem scan_gt (gt : Nat → Bool) : ∀ n k, scan gt n ≤ k → k < n → gt k = true
  | 0, k, _, h => by omega
  | n + 1, k, h1, h2 => by
    unfold scan at h1
    split at h1
    · rename_i h
      by_cases e : k = n
      · subst e; exact h
      · exact scan_gt gt n k h1 (by omega)
    · omega
theorem scan_stop (gt : Nat → Bool) : ∀ n, 0 < scan gt n → gt (scan gt n - 1) = false
  | 0, h => by simp [scan] at h
  | n + 1, h => by
    unfold scan at h ⊢
    split at h
    · rename_i hg
      rw [if_pos hg]
      exact scan_stop gt n h
    · rename_i hg
      rw [if_neg hg]
      simpa using hg
def putAt {α : Type} (o : List α) (k : Nat) (z : α) : List α := o.take k ++ z :: o.drop k
theorem putAt_perm {α : Type} (o : List α) (k : Nat) (z : α) : (putAt o k z).Perm (z :: o) := by
  unfold putAt
  refine List.perm_middle.trans ?_
  rw [List.take_append_drop]
theorem putAt_len {α : Type} (o : List α) (k : Nat) (z : α) : (putAt o k z).length = o.length + 1 := by
  rw [(putAt_perm o k z).length_eq]; rfl
/-- Put where it belongs: after all that are not greater. -/
theorem putAt_sorted {α : Type} {key : α → Int} {o : List α} {z : α} (h : o.Pairwise fun a b => key a ≤ key b) :
    (putAt o (scan (fun j => decide (key z < (o.map key).getD j 0)) o.length) z).Pairwise fun a b => key a ≤ key b := by
  have hle := scan_le (fun j => decide (key z < (o.map key).getD j 0)) o.length
  have hgt := scan_gt (fun j => decide (key z < (o.map key).getD j 0)) o.length
  have hst := scan_stop (fun j => decide (key z < (o.map key).getD j 0)) o.length
  generalize scan (fun j => decide (key z < (o.map key).getD j 0)) o.length = k at *
  have kj : ∀ j (hj : j < o.length), (o.map key).getD j 0 = key o[j] := fun j hj => by
    rw [List.getD_eq_getElem?_getD, List.getElem?_map, List.getElem?_eq_getElem hj]; rfl
  unfold putAt
  rw [List.pairwise_append]
  refine ⟨h.sublist (List.take_sublist _ _), List.pairwise_cons.2 ⟨fun b hb => ?_, h.sublist (List.drop_sublist _ _)⟩, fun a ha b hb => ?_⟩
  · obtain ⟨j, hj, rfl⟩ := List.mem_iff_getElem.1 hb
    rw [List.getElem_drop]
    rw [List.length_drop] at hj
    have := hgt (k + j) (by omega) (by omega)
    rw [decide_eq_true_eq, kj _ (by omega)] at this
    omega
  · have ha' : key a ≤ key z := by
      obtain ⟨j, hj, rfl⟩ := List.mem_iff_getElem.1 ha
      rw [List.getElem_take]
      rw [List.length_take] at hj
      have h0 := hst (by omega)
      rw [decide_eq_false_iff_not, kj _ (by omega)] at h0
      by_cases e : j = k - 1
      · subst e; omega
      · have := List.pairwise_iff_getElem.1 h j (k - 1) (by omega) (by omega) (by omega)
        omega
    rcases List.mem_cons.1 hb with rfl | hb
    · exact ha'
    · obtain ⟨j, hj, rfl⟩ := List.mem_iff_getElem.1 hb
      rw [List.getElem_drop]
      rw [List.length_drop] at hj
      have := hgt (k + j) (by omega) (by omega)
      rw [decide_eq_true_eq, kj _ (by omega)] at this
      omega

/-! ### Numbers, each once, by insertion -/
def insN (o : List Int) (z : Int) : List Int :=
  let k := scan (fun j => decide (z < o.getD j 0)) o.length
  if 0 < k ∧ o.getD (k - 1) 0 = z then o else putAt o k z
theorem insN_eq {o : List Int} (h : o.Pairwise (· < ·)) (z : Int) : insN o z = insU z o := by
  refine asc_ext ?_ (insU_asc h) fun w => ?_
  · unfold insN
    have hle := scan_le (fun j => decide (z < o.getD j 0)) o.length
    have hgt := scan_gt (fun j => decide (z < o.getD j 0)) o.length
    have hst := scan_stop (fun j => decide (z < o.getD j 0)) o.length
    simp only
    generalize scan (fun j => decide (z < o.getD j 0)) o.length = k at *
    have kj : ∀ j (hj : j < o.length), o.getD j 0 = o[j] := fun j hj => by
      rw [List.getD_eq_getElem?_getD, List.getElem?_eq_getElem hj]; rfl
    split
    · exact h
    · rename_i hne
      unfold putAt
      rw [List.pairwise_append]
      have ha : ∀ a ∈ o.take k, a < z := fun a ha => by
        obtain ⟨j, hj, rfl⟩ := List.mem_iff_getElem.1 ha
        rw [List.getElem_take]
        rw [List.length_take] at hj
        have h0 := hst (by omega)
        rw [decide_eq_false_iff_not] at h0
        have h1 : ¬ o.getD (k - 1) 0 = z := fun e => hne ⟨by omega, e⟩
        rw [kj _ (by omega)] at h0 h1
        by_cases e : j = k - 1
        · subst e; omega
        · have := List.pairwise_iff_getElem.1 h j (k - 1) (by omega) (by omega) (by omega)
          omega
      have hb : ∀ b ∈ o.drop k, z < b := fun b hb => by
        obtain ⟨j, hj, rfl⟩ := List.mem_iff_getElem.1 hb
        rw [List.getElem_drop]
        rw [List.length_drop] at hj
        have := hgt (k + j) (by omega) (by omega)
        rw [decide_eq_true_eq, kj _ (by omega)] at this
        exact this
      refine ⟨h.sublist (List.take_sublist _ _), List.pairwise_cons.2 ⟨hb, h.sublist (List.drop_sublist _ _)⟩, fun a haa b hbb => ?_⟩
      rcases List.mem_cons.1 hbb with rfl | hbb
      · exact ha a haa
      · have := ha a haa; have := hb b hbb; omega
  · rw [insU_mem]
    unfold insN
    simp only
    split
    · rename_i h1
      have hle := scan_le (fun j => decide (z < o.getD j 0)) o.length
      constructor
      · exact .inr
      · rintro (rfl | hw)
        · obtain ⟨h0, h1⟩ := h1
          rw [List.getD_eq_getElem?_getD, List.getElem?_eq_getElem (by omega)] at h1
          have h1 : o[scan (fun j => decide (w < o.getD j 0)) o.length - 1]'(by omega) = w := h1
          rw [← h1]; exact List.getElem_mem _
        · exact hw
    · rw [(putAt_perm o _ z).mem_iff, List.mem_cons]
theorem insN_fold : ∀ (l o : List Int), o.Pairwise (· < ·) → (l.foldl insN o).Pairwise (· < ·) ∧ ∀ w, w ∈ l.foldl insN o ↔ w ∈ l ∨ w ∈ o
  | [], o, h => ⟨h, fun w => by simp⟩
  | z :: l, o, h => by
    have e := insN_eq h z
    have h1 : (insN o z).Pairwise (· < ·) := by rw [e]; exact insU_asc h
    obtain ⟨h2, h3⟩ := insN_fold l (insN o z) h1
    refine ⟨h2, fun w => ?_⟩
    rw [List.foldl_cons, h3, e, insU_mem, List.mem_cons]
    exact ⟨fun h => h.elim (fun h => .inl (.inr h)) fun h => h.elim (fun h => .inl (.inl h)) .inr, fun h => h.elim (fun h => h.elim (fun h => .inr (.inl h)) .inl) fun h => .inr (.inr h)⟩
theorem insN_sortU (l : List Int) : l.foldl insN [] = sortU l := by
  obtain ⟨h1, h2⟩ := insN_fold l [] .nil
  refine asc_ext h1 (sortU_asc l) fun w => ?_
  rw [h2, sortU_mem]; simp

/-! ### A column by its ends -/
def inE : List Int → Int → Bool
  | [], _ => false
  | e :: l, y => xor (decide (e ≤ y)) (inE l y)
theorem inE_low {l : List Int} {y : Int} (h : ∀ e ∈ l, y < e) : inE l y = false := by
  induction l with
  | nil => rfl
  | cons e l ih =>
    have he := h e (by simp)
    have h1 : ¬ e ≤ y := by omega
    unfold inE
    rw [ih fun e he => h e (by simp [he])]
    simp [h1]
theorem inE_ends : ∀ {c : List (Int × Int)} {b : Int}, canS b c → ∀ y, inE (ends c) y = hasS c y
  | [], _, _, _ => rfl
  | (f, t) :: c, b, h, y => by
    have ih := inE_ends h.2.2 y
    have h2 := h.2.1
    show xor (decide (f ≤ y)) (xor (decide (t ≤ y)) (inE (ends c) y)) = ((decide (f ≤ y) && decide (y < t)) || hasS c y)
    rw [ih]
    by_cases h1 : f ≤ y
    · by_cases h3 : t ≤ y
      · have h4 : ¬ y < t := by omega
        simp [h1, h3, h4]
      · have h4 : y < t := by omega
        rw [canS_low h.2.2 (by omega)]
        simp [h1, h3, h4]
    · have h3 : ¬ t ≤ y := by omega
      simp [h1, h3]
def pairs : List Int → List (Int × Int)
  | f :: t :: l => (f, t) :: pairs l
  | _ => []
theorem pairs_ends (c : List (Int × Int)) : pairs (ends c) = c := by
  induction c with
  | nil => rfl
  | cons s c ih => show (s.1, s.2) :: pairs (ends c) = _; rw [ih]
theorem ends_pairs : ∀ {l : List Int}, l.length % 2 = 0 → ends (pairs l) = l
  | [], _ => rfl
  | [_], h => by simp at h
  | f :: t :: l, h => by
    show f :: t :: ends (pairs l) = _
    rw [ends_pairs (by simp at h; omega)]
theorem pairs_can : ∀ {l : List Int} {b : Int}, l.Pairwise (· < ·) → (∀ e ∈ l, b < e) → canS b (pairs l)
  | [], _, _, _ => trivial
  | [_], _, _, _ => trivial
  | f :: t :: l, b, h, hb => by
    rw [List.pairwise_cons, List.pairwise_cons] at h
    exact ⟨hb f (by simp), h.1 t (by simp), pairs_can h.2.2 h.2.1⟩
/-- The sweep over two lists of ends. -/
def swp (f : Bool → Bool → Bool) : List Int → List Int → Bool → Bool → Bool → List Int
  | [], [], _, _, _ => []
  | a :: A, [], p, q, w => (if f (!p) q = w then [] else [a]) ++ swp f A [] (!p) q (f (!p) q)
  | [], b :: B, p, q, w => (if f p (!q) = w then [] else [b]) ++ swp f [] B p (!q) (f p (!q))
  | a :: A, b :: B, p, q, w =>
    if a < b then (if f (!p) q = w then [] else [a]) ++ swp f A (b :: B) (!p) q (f (!p) q)
    else if b < a then (if f p (!q) = w then [] else [b]) ++ swp f (a :: A) B p (!q) (f p (!q))
    else (if f (!p) (!q) = w then [] else [a]) ++ swp f A B (!p) (!q) (f (!p) (!q))
theorem swp_low (f : Bool → Bool → Bool) : ∀ (A B : List Int) (p q w : Bool) (m : Int), (∀ e ∈ A, m < e) → (∀ e ∈ B, m < e) → ∀ e ∈ swp f A B p q w, m < e
  | [], [], _, _, _, _, _, _, e, h => by simp [swp] at h
  | a :: A, [], p, q, w, m, h1, h2, e, h => by
    rw [swp, List.mem_append] at h
    rcases h with h | h
    · split at h
      · cases h
      · rw [List.mem_singleton.1 h]; exact h1 a (by simp)
    · exact swp_low f A [] _ _ _ m (fun e he => h1 e (by simp [he])) h2 e h
  | [], b :: B, p, q, w, m, h1, h2, e, h => by
    rw [swp, List.mem_append] at h
    rcases h with h | h
    · split at h
      · cases h
      · rw [List.mem_singleton.1 h]; exact h2 b (by simp)
    · exact swp_low f [] B _ _ _ m h1 (fun e he => h2 e (by simp [he])) e h
  | a :: A, b :: B, p, q, w, m, h1, h2, e, h => by
    have g1 : ∀ e ∈ A, m < e := fun e he => h1 e (by simp [he])
    have g2 : ∀ e ∈ B, m < e := fun e he => h2 e (by simp [he])
    rw [swp] at h
    split at h
    · rcases List.mem_append.1 h with h | h
      · split at h
        · cases h
        · rw [List.mem_singleton.1 h]; exact h1 a (by simp)
      · exact swp_low f A (b :: B) _ _ _ m g1 h2 e h
    · split at h
      · rcases List.mem_append.1 h with h | h
        · split at h
          · cases h
          · rw [List.mem_singleton.1 h]; exact h2 b (by simp)
        · exact swp_low f (a :: A) B _ _ _ m h1 g2 e h
      · rcases List.mem_append.1 h with h | h
        · split at h
          · cases h
          · rw [List.mem_singleton.1 h]; exact h1 a (by simp)
        · exact swp_low f A B _ _ _ m g1 g2 e h
termination_by A B => A.length + B.length
theorem step_asc {x : Int} {c : Prop} [Decidable c] {L : List Int} (h : L.Pairwise (· < ·)) (hx : ∀ e ∈ L, x < e) : ((if c then [] else [x]) ++ L).Pairwise (· < ·) := by
  split
  · exact h
  · exact List.pairwise_cons.2 ⟨hx, h⟩
theorem step_in {x y : Int} {s w : Bool} {L : List Int} (hx : ∀ e ∈ L, x < e) {r : Bool} (h : x ≤ y → inE L y = xor s r) (hr : y < x → r = w) : inE ((if s = w then [] else [x]) ++ L) y = xor w r := by
  by_cases hy : y < x
  · have h1 : inE ((if s = w then [] else [x]) ++ L) y = false := inE_low fun e he => by
      rcases List.mem_append.1 he with he | he
      · split at he
        · cases he
        · rw [List.mem_singleton.1 he]; exact hy
      · have := hx e he; omega
    rw [h1, hr hy]; cases w <;> rfl
  · have h1 : x ≤ y := by omega
    have h := h h1
    split
    · rename_i e; subst e; exact h
    · rename_i e
      show xor (decide (x ≤ y)) (inE L y) = _
      rw [h, decide_eq_true h1]
      cases s <;> cases w <;> simp_all
theorem inE_at {a y : Int} {A : List Int} (h : a ≤ y) (p : Bool) : xor p (inE (a :: A) y) = xor (!p) (inE A y) := by
  show xor p (xor (decide (a ≤ y)) (inE A y)) = _
  rw [decide_eq_true h]
  cases p <;> cases inE A y <;> rfl
theorem xor_low {A : List Int} {y : Int} (h : ∀ e ∈ A, y < e) (p : Bool) : xor p (inE A y) = p := by rw [inE_low h, Bool.xor_false]
theorem swp_ok (f : Bool → Bool → Bool) : ∀ (A B : List Int) (p q : Bool), A.Pairwise (· < ·) → B.Pairwise (· < ·) →
    (swp f A B p q (f p q)).Pairwise (· < ·) ∧ ∀ y, inE (swp f A B p q (f p q)) y = xor (f p q) (f (xor p (inE A y)) (xor q (inE B y)))
  | [], [], p, q, _, _ => ⟨by simp [swp], fun y => by simp [swp, inE]⟩
  | a :: A, [], p, q, hA, hB => by
    have hA' := List.pairwise_cons.1 hA
    obtain ⟨i1, i2⟩ := swp_ok f A [] (!p) q hA'.2 hB
    have hlow := swp_low f A [] (!p) q (f (!p) q) a hA'.1 (fun e he => by cases he)
    refine ⟨by rw [swp]; exact step_asc i1 hlow, fun y => ?_⟩
    rw [swp]
    refine step_in hlow (fun hy => ?_) fun hy => ?_
    · rw [i2, inE_at hy]
    · have la : ∀ e ∈ a :: A, y < e := fun e he => by
        rcases List.mem_cons.1 he with rfl | he
        · exact hy
        · have := hA'.1 e he; omega
      rw [xor_low la, xor_low (A := []) (fun e he => by cases he)]
  | [], b :: B, p, q, hA, hB => by
    have hB' := List.pairwise_cons.1 hB
    obtain ⟨i1, i2⟩ := swp_ok f [] B p (!q) hA hB'.2
    have hlow := swp_low f [] B p (!q) (f p (!q)) b (fun e he => by cases he) hB'.1
    refine ⟨by rw [swp]; exact step_asc i1 hlow, fun y => ?_⟩
    rw [swp]
    refine step_in hlow (fun hy => ?_) fun hy => ?_
    · rw [i2, inE_at hy]
    · have lb : ∀ e ∈ b :: B, y < e := fun e he => by
        rcases List.mem_cons.1 he with rfl | he
        · exact hy
        · have := hB'.1 e he; omega
      rw [xor_low lb, xor_low (A := []) (fun e he => by cases he)]
  | a :: A, b :: B, p, q, hA, hB => by
    have hA' := List.pairwise_cons.1 hA
    have hB' := List.pairwise_cons.1 hB
    have la : ∀ y, y < a → ∀ e ∈ a :: A, y < e := fun y hy e he => by
      rcases List.mem_cons.1 he with rfl | he
      · exact hy
      · have := hA'.1 e he; omega
    have lb : ∀ y, y < b → ∀ e ∈ b :: B, y < e := fun y hy e he => by
      rcases List.mem_cons.1 he with rfl | he
      · exact hy
      · have := hB'.1 e he; omega
    by_cases h1 : a < b
    · obtain ⟨i1, i2⟩ := swp_ok f A (b :: B) (!p) q hA'.2 hB
      have hlow := swp_low f A (b :: B) (!p) q (f (!p) q) a hA'.1 (lb a h1)
      refine ⟨by rw [swp, if_pos h1]; exact step_asc i1 hlow, fun y => ?_⟩
      rw [swp, if_pos h1]
      refine step_in hlow (fun hy => ?_) fun hy => ?_
      · rw [i2, inE_at hy]
      · rw [xor_low (la y hy), xor_low (lb y (by omega))]
    · by_cases h2 : b < a
      · obtain ⟨i1, i2⟩ := swp_ok f (a :: A) B p (!q) hA hB'.2
        have hlow := swp_low f (a :: A) B p (!q) (f p (!q)) b (la b h2) hB'.1
        refine ⟨by rw [swp, if_neg h1, if_pos h2]; exact step_asc i1 hlow, fun y => ?_⟩
        rw [swp, if_neg h1, if_pos h2]
        refine step_in hlow (fun hy => ?_) fun hy => ?_
        · rw [i2, inE_at (A := B) hy]
        · rw [xor_low (la y (by omega)), xor_low (lb y hy)]
      · have hab : a = b := by omega
        subst hab
        obtain ⟨i1, i2⟩ := swp_ok f A B (!p) (!q) hA'.2 hB'.2
        have hlow := swp_low f A B (!p) (!q) (f (!p) (!q)) a hA'.1 hB'.1
        refine ⟨by rw [swp, if_neg h1, if_neg h2]; exact step_asc i1 hlow, fun y => ?_⟩
        rw [swp, if_neg h1, if_neg h2]
        refine step_in hlow (fun hy => ?_) fun hy => ?_
        · rw [i2, inE_at (A := A) hy, inE_at (A := B) hy]
        · rw [xor_low (la y hy), xor_low (lb y hy)]
termination_by A B => A.length + B.length
theorem inE_len : ∀ {l : List Int} {y : Int}, (∀ e ∈ l, e ≤ y) → inE l y = decide (l.length % 2 = 1)
  | [], _, _ => rfl
  | e :: l, y, h => by
    unfold inE
    rw [inE_len fun e he => h e (by simp [he]), decide_eq_true (h e (by simp))]
    rw [List.length_cons]
    by_cases q : l.length % 2 = 1
    · have : ¬ (l.length + 1) % 2 = 1 := by omega
      simp [q, this]
    · have : (l.length + 1) % 2 = 1 := by omega
      simp [q, this]
theorem upper (l : List Int) : ∃ m, ∀ e ∈ l, e ≤ m := by
  induction l with
  | nil => exact ⟨0, fun e he => by cases he⟩
  | cons a l ih =>
    obtain ⟨m, h⟩ := ih
    refine ⟨max a m, fun e he => ?_⟩
    rcases List.mem_cons.1 he with rfl | he
    · omega
    · have := h e he; omega
theorem lower (l : List Int) : ∃ m, ∀ e ∈ l, m < e := by
  induction l with
  | nil => exact ⟨0, fun e he => by cases he⟩
  | cons a l ih =>
    obtain ⟨m, h⟩ := ih
    refine ⟨min (a - 1) m, fun e he => ?_⟩
    rcases List.mem_cons.1 he with rfl | he
    · omega
    · have := h e he; omega
theorem Can.canS {c : List (Int × Int)} (h : Can c) : ∃ b, canS b c := by
  obtain ⟨b, hb, _⟩ := low_ex c []
  exact ⟨b, canS_ex h b hb⟩
/-- The sweep's column is the one in its form. -/
theorem swp_col (f : Bool → Bool → Bool) (hf : f false false = false) {a b c : List (Int × Int)} (ha : Can a) (hb : Can b) (hc : Can c) (h : ∀ y, hasS c y = f (hasS a y) (hasS b y)) :
    swp f (ends a) (ends b) false false false = ends c := by
  obtain ⟨ba, ha'⟩ := ha.canS
  obtain ⟨bb, hb'⟩ := hb.canS
  have key := swp_ok f (ends a) (ends b) false false (ends_asc ha').1 (ends_asc hb').1
  rw [hf] at key
  obtain ⟨h1, h2⟩ := key
  generalize swp f (ends a) (ends b) false false false = L at *
  have h3 : ∀ y, inE L y = f (hasS a y) (hasS b y) := fun y => by rw [h2, inE_ends ha', inE_ends hb']; simp
  have he : L.length % 2 = 0 := by
    obtain ⟨m, hm⟩ := upper (L ++ (ends a ++ ends b))
    have h4 := h2 m
    rw [inE_len (l := L) fun e he => hm e (by simp [he]), inE_len (l := ends a) fun e he => hm e (by simp [he]), inE_len (l := ends b) fun e he => hm e (by simp [he]), ends_len, ends_len] at h4
    have e1 : ¬ (2 * a.length % 2 = 1) := by omega
    have e2 : ¬ (2 * b.length % 2 = 1) := by omega
    simp [e1, e2, hf] at h4
    omega
  obtain ⟨m, hm⟩ := lower L
  have h5 := pairs_can h1 hm
  have h6 : pairs L = c := (Can.of h5).unique hc fun y => by
    rw [h, ← h3, ← inE_ends h5, ends_pairs he]
  rw [← h6, ends_pairs he]

/-! ### Strips, put together as they come -/
theorem runs_none {s : Slab} (h : s.col = []) : ∀ (T : List Slab), outT (runs s T) = outT (runsF T)
  | [] => by rw [runs_end, emit_nil h]; rfl
  | u :: T => by
    by_cases e : u.col = s.col
    · have h1 : (⟨s.x0, u.x1, s.col⟩ : Slab).col = [] := h
      have h2 : u.col = [] := by rw [e, h]
      rw [runs_step e, runs_none h1 T]
      show _ = outT (runs u T)
      rw [runs_none h2 T]
    · rw [runs_stop e, emit_nil h]; rfl
end Go.Proofs.Ythnkmmbkdbdefaa.Rg

namespace Go.Proofs.Ythnkmmbkdbdefaa.Bm
open Go Go.RowKit
open Rg (Rect scan scan_le putAt insN sortU edgesX)

/-! ### Lists of numbers that do not change, and rows of numbers -/
def iT (l : List Int) : Value := lst false (l.map (.int .i64))
theorem iT_len {h : Heap} {l : List Int} : lenT .sl h (iT l) = some (.int .i64 l.length) := by unfold iT; rw [len_lst]; simp
theorem iT_index {l : List Int} {i : Nat} (hi : i < l.length) : indexAddrT (.sl 3 ⟨some false, some 1⟩) (iT l) (.int .i64 (i : Int)) = some (cptr (.int .i64 l[i])) := by
  unfold iT
  have e : (l.map (Value.int .i64))[i]? = some (.int .i64 l[i]) := by simp [hi]
  rw [index_lst, if_pos (by omega), show ((i : Int)).toNat = i by omega, e, Option.bind_some, if_pos (by rfl)]
theorem iT_set (l : List Int) : settled depth (iT l) = true := rfl
theorem iT_reify (h : Heap) (l : List Int) : reify E.P 8 h (iT l) = some (iT l) := rfl
theorem g3 : aggT E.P 3 = some false := by kernel_rfl
theorem int_reifyR {h : Heap} {b : Nat} {l : List Int} (hob : h[b]? = some (intR.row 3 l)) : reifyR E.P h (intR.sl b l) = some (iT l) := by
  have e0 : intR.sl b l = .slice (some ⟨b, 0, some l.length⟩) l.length l.length := by unfold Rec.sl; simp [intR]
  show reify E.P 8 h (intR.sl b l) = _
  rw [e0, reify_slice]
  by_cases h0 : l.length = 0
  · have : l = [] := List.eq_nil_of_length_eq_zero h0
    subst this; rfl
  · rw [if_neg h0, hob]
    unfold Rec.row
    rw [int_flat]
    show reifyS E.P 7 h (some (.cells 3 (l.map (.int .i64)) 1)) _ _ = _
    rw [reifyS_cells, s3, Option.bind_some, if_pos ⟨by simp [stampOk], Nat.one_pos, by simp⟩]
    have e : ((l.map (Value.int .i64)).drop 0).take (l.length * 1) = l.map (.int .i64) := by rw [List.drop_zero, Nat.mul_one, List.take_of_length_le (by simp)]
    rw [e, reifyC_set (by simp [List.all_eq_true]), Option.bind_some, elems_one g3 s3]; rfl
theorem int_freeze {h : Heap} {lo b : Nat} {l : List Int} (hob : h[b]? = some (intR.row 3 l)) (hlo : lo ≤ b) : ∃ g, freezeV E.P depth lo h (intR.sl b l) = some (iT l, g) := by
  have e0 : intR.sl b l = .slice (some ⟨b, 0, some l.length⟩) l.length l.length := by unfold Rec.sl; simp [intR]
  have hob' : h[b]? = some (.cells 3 (l.map (.int .i64)) 1) := by rw [hob]; unfold Rec.row; rw [int_flat]; rfl
  rw [e0]
  exact ⟨_, frz_one8 hob' s3 g3 hlo (List.length_map _).symm (List.length_map _).symm (by simp [List.all_eq_true])⟩
theorem int_sl {b : Nat} {c d : List Int} (h : c.length = d.length) : intR.sl b c = intR.sl b d := by unfold Rec.sl; rw [h]
theorem int_index {g : Option Bool} {b : Nat} {l : List Int} {i : Nat} (h1 : i < l.length) : indexAddrT (.sl 3 ⟨g, some 1⟩) (intR.sl b l) (.int .i64 (i : Int)) = some (intR.at_ b l i 0) := Rec.index_row (R := intR) rfl h1
theorem int_load {h : Heap} {b : Nat} {l : List Int} {i : Nat} {sz : Option Nat} (hob : h[b]? = some (intR.row 3 l)) (h1 : i < l.length) : loadT ⟨some false, sz⟩ h (intR.at_ b l i 0) = some (.int .i64 l[i]) := Rec.load_cell (R := intR) (j := 0) hob h1 (by decide)
theorem int_store {h : Heap} {b lo : Nat} {l : List Int} {i : Nat} (z : Int) (hob : h[b]? = some (intR.row 3 l)) (hlo : lo ≤ b) (h1 : i < l.length) : storeT (some 1) h lo (.int .i64 z) (intR.at_ b l i 0) = some (h.set b (intR.row 3 (l.set i z))) :=
  Rec.store_cell (R := intR) (j := 0) rfl hob hlo h1 (by decide) rfl
theorem lit_num (h : Heap) (z : Int) : buildSliceT (some ⟨3, 1, 8, .int .i64 0, ⟨some false, some 1⟩⟩) false h 1 #[(0, .int .i64 z)] = some (lst true [.int .i64 z], h) :=
  (build_lit' (n := 1) (l := [(0, .int .i64 z)]) rfl rfl (by decide) (by decide) (by decide)).trans rfl
theorem app_num {h : Heap} {b lo : Nat} {c : List Int} (z : Int) (hob : h[b]? = some (intR.row 3 c)) (hlo : lo ≤ b) (hc : c.length ≤ 1000000) :
    appendT (some ⟨3, 1, 8, .int .i64 0, ⟨some false, some 1⟩⟩) h lo false (intR.sl b c) (lst true [.int .i64 z]) = some (intR.sl b (c ++ [z]), h.set b (intR.row 3 (c ++ [z]))) :=
  Rec.app (R := intR) (m := [z]) rfl hob (cells_lst (by rfl)) hlo (by show (c.length + 1) * 8 ≤ 2 ^ 47; omega)

/-! ### A row while a place is made in it -/
def shiftRow (o : List Int) (m : Nat) : List Int := (o ++ [0]).take (m + 1) ++ o.drop m
theorem shiftRow_len {o : List Int} {m : Nat} (h : m ≤ o.length) : (shiftRow o m).length = o.length + 1 := by
  unfold shiftRow
  rw [List.length_append, List.length_take, List.length_drop, List.length_append]
  show min (m + 1) (o.length + 1) + (o.length - m) = _
  omega
theorem shiftRow_top (o : List Int) : shiftRow o o.length = o ++ [0] := by
  unfold shiftRow
  rw [List.drop_length, List.append_nil, List.take_of_length_le (by simp)]
theorem shiftRow_get {o : List Int} {m j : Nat} (h : m ≤ o.length) (hj : j < m) : (shiftRow o m)[j]'(by rw [shiftRow_len h]; omega) = o[j] := by
  unfold shiftRow
  rw [List.getElem_append_left (by rw [List.length_take, List.length_append]; simp; omega), List.getElem_take, List.getElem_append_left (by omega)]
theorem shiftRow_split {o : List Int} {m : Nat} (h : m ≤ o.length) : ∃ x, shiftRow o m = o.take m ++ x :: o.drop m := by
  refine ⟨(o ++ [0])[m]'(by simp; omega), ?_⟩
  unfold shiftRow
  rw [List.take_succ_eq_append_getElem (by simp; omega), List.take_append_of_le_length h, List.append_assoc]; rfl
theorem shiftRow_set {o : List Int} {m : Nat} (h : m ≤ o.length) (z : Int) : (shiftRow o m).set m z = putAt o m z := by
  obtain ⟨x, e⟩ := shiftRow_split h
  have hl : (o.take m).length = m := by rw [List.length_take]; omega
  rw [e, List.set_append_right _ _ (by omega), hl, Nat.sub_self]; rfl
theorem shiftRow_down {o : List Int} {m : Nat} (h : m + 1 ≤ o.length) : (shiftRow o (m + 1)).set (m + 1) (o[m]'(by omega)) = shiftRow o m := by
  rw [shiftRow_set h]
  unfold putAt shiftRow
  rw [List.take_append_of_le_length (by omega), List.drop_eq_getElem_cons (show m < o.length by omega)]
theorem sorted_spec (l : List Int) (hl : l.length ≤ 10000) : pureCall E.P (L E) 59 [iT l] = some (iT (sortU l)) := by
  rw [← Rg.insN_sortU, pureCall_fn F59 rfl]
  simp -implicitDefEqProofs [r59, p59, prep_new, newK_nil s3]
  rw [LL_for (γ := List Int) l [] (fun i o => [(3, intR.sl 0 o), (4, .int .i64 i)]) (fun _ o => [intR.row 3 o])
    (fun _ rest o => (.exit 0, [(3, intR.sl 0 (rest.foldl insN o)), (4, undef)], [intR.row 3 (rest.foldl insN o)])) (fun i o => o.length ≤ i) (by omega) (Nat.le_refl _)]
  · have rr := int_reifyR (h := [intR.row 3 (l.foldl insN [])]) (b := 0) (l := l.foldl insN []) rfl
    simp -implicitDefEqProofs [k59_3, rr]
  · simp -implicitDefEqProofs [k59_3, Rec.sl_nil]
  · rfl
  · intro nx i o hi _
    simp -implicitDefEqProofs [r59_3, k59_3, hi, iT_len, trim_le]
  · intro nx i z rest o hi hv hd hw ho ih
    have ixl := iT_index hi
    rw [hv] at ixl
    have hle := scan_le (fun j => decide (z < o.getD j 0)) o.length
    have gd : ∀ j (hj : j < o.length), o.getD j 0 = o[j] := fun j hj => by rw [List.getD_eq_getElem?_getD, List.getElem?_eq_getElem hj]; rfl
    have ei : insN o z = if 0 < scan (fun j => decide (z < o.getD j 0)) o.length ∧ o.getD (scan (fun j => decide (z < o.getD j 0)) o.length - 1) 0 = z then o else putAt o (scan (fun j => decide (z < o.getD j 0)) o.length) z := rfl
    have ixo := fun (j : Nat) (hj : j < o.length) => int_index (g := some false) (b := 0) (l := o) hj
    have ldo := fun (j : Nat) (hj : j < o.length) => int_load (h := [intR.row 3 o]) (b := 0) (l := o) (sz := some 1) rfl hj
    rw [List.foldl_cons]
    simp -implicitDefEqProofs [r59_3, k59_3, hi, iT_len, Rec.sl_len]
    rw [LL_rec (α := Nat) o.length (fun k => [(5, .int .i64 (k : Int))]) (fun _ => [intR.row 3 o]) (fun k => (.exit 2, [(5, .int .i64 ((scan (fun j => decide (z < o.getD j 0)) k : Nat) : Int))], [intR.row 3 o])) (fun k => k ≤ o.length) (fun k => k)]
    · generalize scan (fun j => decide (z < o.getD j 0)) o.length = k at hle ei ⊢
      have hk := hle
      have ap := app_num (h := [intR.row 3 o]) (b := 0) (lo := 0) (c := o) 0 rfl (Nat.le_refl _) (by omega)
      have wl : IntKind.i64.wrap (((o ++ [0]).length : Int) - 1) = (o.length : Int) := by
        have : (o ++ [0]).length = o.length + 1 := by simp
        rw [this]; exact (wrap64 (by omega) (by omega)).trans (by omega)
      by_cases hc : 0 < k ∧ o.getD (k - 1) 0 = z
      · rw [ei, if_pos hc]
        obtain ⟨hk0, hkz⟩ := hc
        have hko : k - 1 < o.length := by omega
        rw [gd _ hko] at hkz
        have hpos : (0 : Int) < (k : Int) := by omega
        have w1 : IntKind.i64.wrap ((k : Int) - 1) = ((k - 1 : Nat) : Int) := (wrap64 (by omega) (by omega)).trans (by omega)
        have ih := ih o (by omega)
        simp -implicitDefEqProofs [k59_3] at ih
        simp -implicitDefEqProofs [k59_6, hk0, w1, ixo _ hko, ldo _ hko, ixl, hkz, hw, trim_le]
        exact ih
      · rw [ei, if_neg hc]
        have ih := ih (putAt o k z) (by rw [Rg.putAt_len]; omega)
        simp -implicitDefEqProofs [k59_3] at ih
        have es : ∀ m, m ≤ o.length → intR.sl 0 (shiftRow o m) = intR.sl 0 (o ++ [0]) := fun m hm => int_sl (by rw [shiftRow_len hm]; simp)
        have ixs := fun (m : Nat) (hm : m ≤ o.length) (j : Nat) (hj : j < o.length + 1) => (es m hm) ▸ int_index (g := some false) (b := 0) (l := shiftRow o m) (i := j) (by rw [shiftRow_len hm]; exact hj)
        have esp : intR.sl 0 (putAt o k z) = intR.sl 0 (o ++ [0]) := int_sl (by rw [Rg.putAt_len]; simp)
        rw [esp] at ih
        have two : (¬ (0 : Int) < (k : Int)) ∨ ((0 : Int) < (k : Int) ∧ ∃ hko : k - 1 < o.length, ¬ o[k - 1] = z) := by
          by_cases h0 : 0 < k
          · have hko : k - 1 < o.length := by omega
            exact .inr ⟨by omega, hko, fun e => hc ⟨h0, by rw [gd _ hko]; exact e⟩⟩
          · exact .inl (by omega)
        have w1 : 0 < k → IntKind.i64.wrap ((k : Int) - 1) = ((k - 1 : Nat) : Int) := fun h => (wrap64 (by omega) (by omega)).trans (by omega)
        have ixk := ixs k hk k (by omega)
        have stk := int_store (h := [intR.row 3 (shiftRow o k)]) (b := 0) (lo := 0) (l := shiftRow o k) (i := k) z rfl (Nat.le_refl _) (by rw [shiftRow_len hk]; omega)
        rw [shiftRow_set hk] at stk
        rcases two with h0 | ⟨h0, hko, hne⟩
        · have h0n : ¬ (0 < k) := by omega
          simp -implicitDefEqProofs [k59_6, h0n, lit_num, ap, Rec.sl_len, wl, -List.length_append]
          rw [LL_rec (α := Nat) o.length (fun m => [(6, .int .i64 (m : Int))]) (fun m => [intR.row 3 (shiftRow o m)]) (fun m => (.exit 4, [(6, undef)], [intR.row 3 (shiftRow o k)])) (fun m => k ≤ m ∧ m ≤ o.length) (fun m => m)]
          · simp -implicitDefEqProofs [k59_11, ixk, stk, ixl, hw, trim_le]
            exact ih
          · exact ⟨hk, Nat.le_refl _⟩
          · simp -implicitDefEqProofs [k59_11]
          · simp only [shiftRow_top]
          · intro nx m hm ih
            by_cases hkm : k < m
            · obtain ⟨m, rfl⟩ : ∃ m', m = m' + 1 := ⟨m - 1, by omega⟩
              have hmo : m < o.length := by omega
              have ih := ih m (by omega) ⟨by omega, by omega⟩
              have w3 : IntKind.i64.wrap ((m : Int) + 1 - 1) = (m : Int) := (wrap64 (by omega) (by omega)).trans (by omega)
              have w4 : IntKind.i64.wrap (m : Int) = (m : Int) := wrap64 (by omega) (by omega)
              have hkm' : (k : Int) < (m : Int) + 1 := by omega
              have ixa := ixs (m + 1) (by omega) m (by omega)
              have ixb := ixs (m + 1) (by omega) (m + 1) (by omega)
              have lda := int_load (h := [intR.row 3 (shiftRow o (m + 1))]) (b := 0) (l := shiftRow o (m + 1)) (i := m) (sz := some 1) rfl (by rw [shiftRow_len (by omega)]; omega)
              rw [shiftRow_get (by omega) (by omega)] at lda
              have sta := int_store (h := [intR.row 3 (shiftRow o (m + 1))]) (b := 0) (lo := 0) (l := shiftRow o (m + 1)) (i := m + 1) o[m] rfl (Nat.le_refl _) (by rw [shiftRow_len (by omega)]; omega)
              rw [shiftRow_down hmo] at sta
              push_cast at ixb
              simp -implicitDefEqProofs [k59_11] at ih
              simp -implicitDefEqProofs [r59_11, k59_11, hkm', w4, ixa, ixb, lda, sta, trim_le]
              exact ih
            · have e : m = k := by omega
              subst e
              simp -implicitDefEqProofs [r59_11, k59_11, trim_le]
        · have h0' : 0 < k := by omega
          simp -implicitDefEqProofs [k59_6, h0', w1 h0', ixo _ hko, ldo _ hko, ixl, hne, lit_num, ap, Rec.sl_len, wl, -List.length_append]
          rw [LL_rec (α := Nat) o.length (fun m => [(6, .int .i64 (m : Int))]) (fun m => [intR.row 3 (shiftRow o m)]) (fun m => (.exit 4, [(6, undef)], [intR.row 3 (shiftRow o k)])) (fun m => k ≤ m ∧ m ≤ o.length) (fun m => m)]
          · simp -implicitDefEqProofs [k59_11, ixk, stk, ixl, hw, trim_le]
            exact ih
          · exact ⟨hk, Nat.le_refl _⟩
          · simp -implicitDefEqProofs [k59_11]
          · simp only [shiftRow_top]
          · intro nx m hm ih
            by_cases hkm : k < m
            · obtain ⟨m, rfl⟩ : ∃ m', m = m' + 1 := ⟨m - 1, by omega⟩
              have hmo : m < o.length := by omega
              have ih := ih m (by omega) ⟨by omega, by omega⟩
              have w3 : IntKind.i64.wrap ((m : Int) + 1 - 1) = (m : Int) := (wrap64 (by omega) (by omega)).trans (by omega)
              have w4 : IntKind.i64.wrap (m : Int) = (m : Int) := wrap64 (by omega) (by omega)
              have hkm' : (k : Int) < (m : Int) + 1 := by omega
              have ixa := ixs (m + 1) (by omega) m (by omega)
              have ixb := ixs (m + 1) (by omega) (m + 1) (by omega)
              have lda := int_load (h := [intR.row 3 (shiftRow o (m + 1))]) (b := 0) (l := shiftRow o (m + 1)) (i := m) (sz := some 1) rfl (by rw [shiftRow_len (by omega)]; omega)
              rw [shiftRow_get (by omega) (by omega)] at lda
              have sta := int_store (h := [intR.row 3 (shiftRow o (m + 1))]) (b := 0) (lo := 0) (l := shiftRow o (m + 1)) (i := m + 1) o[m] rfl (Nat.le_refl _) (by rw [shiftRow_len (by omega)]; omega)
              rw [shiftRow_down hmo] at sta
              push_cast at ixb
              simp -implicitDefEqProofs [k59_11] at ih
              simp -implicitDefEqProofs [r59_11, k59_11, hkm', w4, ixa, ixb, lda, sta, trim_le]
              exact ih
            · have e : m = k := by omega
              subst e
              simp -implicitDefEqProofs [r59_11, k59_11, trim_le]
    · exact Nat.le_refl _
    · simp -implicitDefEqProofs [k59_6]
    · rfl
    · intro nx k hk ih
      cases k with
      | zero => simp -implicitDefEqProofs [r59_6, k59_6, scan, trim_le]
      | succ k =>
        have hko : k < o.length := by omega
        have w1 : IntKind.i64.wrap ((k : Int) + 1 - 1) = (k : Int) := (wrap64 (by omega) (by omega)).trans (by omega)
        have w2 : IntKind.i64.wrap (k : Int) = (k : Int) := wrap64 (by omega) (by omega)
        have hpos : (0 : Int) < (k : Int) + 1 := by omega
        have ih := ih k (by omega) (by omega)
        have e : scan (fun j => decide (z < o.getD j 0)) (k + 1) = if decide (z < o.getD k 0) then scan (fun j => decide (z < o.getD j 0)) k else k + 1 := rfl
        rw [e, gd k hko]
        simp -implicitDefEqProofs [k59_6] at ih
        by_cases hz : z < o[k]
        · simp -implicitDefEqProofs [r59_6, k59_6, hpos, w2, ixo k hko, ldo k hko, ixl, hz, trim_le]
          exact ih
        · simp -implicitDefEqProofs [r59_6, k59_6, hpos, w2, ixo k hko, ldo k hko, ixl, hz, trim_le]
end Go.Proofs.Ythnkmmbkdbdefaa.Bm

namespace Go.Proofs.Ythnkmmbkdbdefaa.Bm
open Go Go.RowKit
open Rg (Rect scan scan_le putAt sortU edgesX own colC colF gstep ends)

theorem xsL_app (a b : List Rect) : xsL a ++ xsL b = xsL (a ++ b) := List.flatMap_append.symm
theorem edges_spec (k m : Option Bool) (a b : List Rect) (hk : Rec.Ok k a) (hm : Rec.Ok m b) (ha : a.length ≤ 1000) (hb : b.length ≤ 1000) : pureCall E.P (L E) 42 [rectR.o k a, rectR.o m b] = some (iT (edgesX (a ++ b))) := by
  have sp := sorted_spec (xsL (a ++ b)) (by rw [xsL_len, List.length_append]; omega)
  rw [pureCall_fn F42 rfl]
  simp -implicitDefEqProofs [r42, p42, prep_new, newK_nil s3]
  rw [LL_for (γ := List Int) a [] (fun i c => [(5, intR.sl 0 c), (6, .int .i64 i)]) (fun _ c => [intR.row 3 c])
    (fun _ rest c => (.exit 0, [(5, intR.sl 0 (c ++ xsL rest)), (6, undef)], [intR.row 3 (c ++ xsL rest)])) (fun i c => c.length = 2 * i) (by omega) rfl]
  · rw [List.nil_append]
    simp -implicitDefEqProofs [k42_3]
    rw [LL_for (γ := List Int) b (xsL a) (fun i c => [(5, intR.sl 0 c), (7, .int .i64 i)]) (fun _ c => [intR.row 3 c])
      (fun _ rest c => (.exit 2, [(5, intR.sl 0 (c ++ xsL rest)), (7, undef)], [intR.row 3 (c ++ xsL rest)])) (fun i c => c.length = 2 * a.length + 2 * i) (by omega) (xsL_len a)]
    · obtain ⟨g, fz⟩ := int_freeze (h := [intR.row 3 (xsL (a ++ b))]) (b := 0) (lo := 0) (l := xsL (a ++ b)) rfl (Nat.le_refl _)
      have e : iT (sortU (xsL (a ++ b))) = iT (edgesX (a ++ b)) := rfl
      rw [xsL_app]
      simp -implicitDefEqProofs [k42_7, prep_frz, fz, ret1 m59, iT_set, sp, e]
      rfl
    · simp -implicitDefEqProofs [k42_7]
    · rfl
    · intro nx i c hi _
      simp -implicitDefEqProofs [r42_7, k42_7, hi, Rec.o_len hm, trim_le, xsL]
    · intro nx i r rest c hi hv hd hw hc ih
      have ixi := Rec.o_index (R := rectR) (t := 39) (kk := .i64) (s := 4) rfl hm hi
      rw [hv] at ixi
      have ap := app_two' (h := [intR.row 3 c]) (b := 0) (lo := 0) (c := c) r.x0 r.x1 rfl (Nat.le_refl _) (by omega)
      have ih := ih (c ++ [r.x0, r.x1]) (by simp; omega)
      rw [xsL_cons, ← List.append_assoc]
      simp -implicitDefEqProofs [k42_7, -List.append_assoc] at ih
      simp -implicitDefEqProofs [r42_7, k42_7, hi, ixi, Rec.o_len hm, rect_val, lit_two, ap, hw, trim_le, -List.append_assoc]
      exact ih
  · simp -implicitDefEqProofs [k42_3, Rec.sl_nil]
  · rfl
  · intro nx i c hi _
    simp -implicitDefEqProofs [r42_3, k42_3, hi, Rec.o_len hk, trim_le, xsL]
  · intro nx i r rest c hi hv hd hw hc ih
    have ixi := Rec.o_index (R := rectR) (t := 39) (kk := .i64) (s := 4) rfl hk hi
    rw [hv] at ixi
    have ap := app_two' (h := [intR.row 3 c]) (b := 0) (lo := 0) (c := c) r.x0 r.x1 rfl (Nat.le_refl _) (by omega)
    have ih := ih (c ++ [r.x0, r.x1]) (by simp; omega)
    rw [xsL_cons, ← List.append_assoc]
    simp -implicitDefEqProofs [k42_3, -List.append_assoc] at ih
    simp -implicitDefEqProofs [r42_3, k42_3, hi, ixi, Rec.o_len hk, rect_val, lit_two, ap, hw, trim_le, -List.append_assoc]
    exact ih

theorem ints_spec (l r : List Int) (hl : l.length ≤ 1000000) : pureCall E.P (L E) 45 [iT l, iT r] = some (.bool (decide (l = r))) := by
  rw [pureCall_fn F45 rfl]
  simp -implicitDefEqProofs [r45, padS, iT_len]
  by_cases hlen : l.length = r.length
  · simp -implicitDefEqProofs [hlen]
    rw [LL_for (γ := Unit) l () (fun i _ => [(5, .int .i64 i)]) (fun _ _ => []) (fun i rest _ => if eqL rest (r.drop i) then (.exit 0, [(5, undef)], []) else (.ret, [(4, .bool false), (5, undef)], [])) (fun _ _ => True) (by omega) trivial]
    · cases h : eqL l r
      · have : ¬ l = r := of_decide_eq_false h
        simp -implicitDefEqProofs [this, k45_4, h]
      · have : l = r := of_decide_eq_true h
        simp -implicitDefEqProofs [this, k45_4, eqL]
    · simp -implicitDefEqProofs [k45_4]
    · rfl
    · intro nx i c hi _
      have hd0 : eqL [] (r.drop i) = true := by rw [List.drop_eq_nil_of_le (by omega)]; rfl
      rw [hd0]
      simp -implicitDefEqProofs [r45_4, k45_4, iT_len, hi, hlen, trim_le]
    · intro nx i v rest c hi hv hd hw _ ih
      have ih := ih () trivial
      have hi' : i < r.length := by omega
      have hrd : r.drop i = r[i] :: r.drop (i + 1) := List.drop_eq_getElem_cons hi'
      have ixl := iT_index hi
      have ixr := iT_index hi'
      rw [hv] at ixl
      rw [hrd, eqL_cons]
      simp -implicitDefEqProofs [k45_4] at ih
      by_cases he : v = r[i]
      · rw [he] at ixl
        simp -implicitDefEqProofs [r45_4, k45_4, iT_len, hi', hlen, ixl, ixr, hw, he, trim_le]
        exact ih
      · simp -implicitDefEqProofs [r45_4, k45_4, iT_len, hi', hlen, ixl, ixr, he, trim_le]
  · have : ¬ l = r := fun e => hlen (by rw [e])
    have hlen' : ¬ ((l.length : Int) = r.length) := by omega
    simp -implicitDefEqProofs [hlen', this]
end Go.Proofs.Ythnkmmbkdbdefaa.Bm

namespace Go.Proofs.Ythnkmmbkdbdefaa.Bm
open Go Go.RowKit
open Rg (Rect scan scan_le putAt sortU edgesX own own_cons colC colF gstep ends)

def insC (c : List (Int × Int)) (s : Int × Int) : List (Int × Int) := putAt c (scan (fun j => decide (s.1 < (c.map (·.1)).getD j 0)) c.length) s
theorem insC_fold : ∀ (l c : List (Int × Int)), c.Pairwise (fun a b => a.1 ≤ b.1) → (l.foldl insC c).Pairwise (fun a b => a.1 ≤ b.1) ∧ (l.foldl insC c).Perm (l ++ c)
  | [], c, h => ⟨h, .refl _⟩
  | s :: l, c, h => by
    obtain ⟨h1, h2⟩ := insC_fold l (insC c s) (Rg.putAt_sorted (key := fun p : Int × Int => p.1) h)
    refine ⟨h1, h2.trans ?_⟩
    exact ((Rg.putAt_perm c _ s).append_left l).trans List.perm_middle
theorem insC_len (c : List (Int × Int)) (s : Int × Int) : (insC c s).length = c.length + 1 := Rg.putAt_len _ _ _
theorem putAt_map {α β : Type} (f : α → β) (c : List α) (k : Nat) (s : α) : (putAt c k s).map f = putAt (c.map f) k (f s) := by
  unfold putAt
  rw [List.map_append, List.map_take, List.map_cons, List.map_drop]
/-- The reference's column is the program's. -/
theorem ref_col {l : List Rect} (hl : ∀ r ∈ l, r.y0 < r.y1) (x : Int) : ((own l x).foldl insC []).foldl gstep [] = colC l x := by
  obtain ⟨h1, h2⟩ := insC_fold (own l x) [] .nil
  rw [List.append_nil] at h2
  have hs : ∀ u ∈ (own l x).foldl insC [], u.1 < u.2 := fun u hu => by
    have hu := h2.mem_iff.1 hu
    unfold own at hu
    obtain ⟨r, hr, rfl⟩ := List.mem_map.1 hu
    exact hl r (List.mem_filter.1 hr).1
  rw [Rg.gstep_col]
  refine (Rg.colF_can h1 hs).unique (Rg.colC_ok hl x).1 fun y => ?_
  rw [Rg.colF_has h1 hs, Rg.hasS_perm h2, Rg.own_has, (Rg.colC_ok hl x).2]
theorem ends_snoc (d : List (Int × Int)) (u : Int × Int) : ends (d ++ [u]) = ends d ++ [u.1, u.2] := by
  unfold ends; rw [List.flatMap_append]; rfl
theorem ends_last {d : List (Int × Int)} {u : Int × Int} (z : Int) : (ends (d ++ [u])).set (2 * d.length + 1) z = ends (d ++ [(u.1, z)]) := by
  rw [ends_snoc, ends_snoc, List.set_append_right _ _ (by rw [Rg.ends_len]; omega), Rg.ends_len]
  rw [show 2 * d.length + 1 - 2 * d.length = 1 by omega]; rfl
theorem ends_get {d : List (Int × Int)} {u : Int × Int} (h : 2 * d.length + 1 < (ends (d ++ [u])).length) : (ends (d ++ [u]))[2 * d.length + 1] = u.2 := by
  have e := ends_snoc d u
  have : (ends (d ++ [u]))[2 * d.length + 1]? = some u.2 := by
    rw [e, List.getElem?_append_right (by rw [Rg.ends_len]; omega), Rg.ends_len, show 2 * d.length + 1 - 2 * d.length = 1 by omega]; rfl
  rw [List.getElem?_eq_getElem h] at this
  exact Option.some.inj this

theorem rcolumn_spec (k : Option Bool) (l : List Rect) (x : Int) (hk : Rec.Ok k l) (hl : l.length ≤ 1000) : pureCall E.P (L E) 44 [rectR.o k l, .int .i64 x] = some (iT (ends (((own l x).foldl insC []).foldl gstep []))) := by
  rw [pureCall_fn F44 rfl]
  simp -implicitDefEqProofs [r44, p44, prep_new, newK_nil s3]
  rw [LL_for (γ := List (Int × Int)) l [] (fun i c => [(5, intR.sl 0 (c.map (·.1))), (6, intR.sl 1 (c.map (·.2))), (7, .int .i64 i)]) (fun _ c => [intR.row 3 (c.map (·.1)), intR.row 3 (c.map (·.2))])
    (fun _ rest c => (.exit 0, [(5, intR.sl 0 (((own rest x).foldl insC c).map (·.1))), (6, intR.sl 1 (((own rest x).foldl insC c).map (·.2))), (7, undef)], [intR.row 3 (((own rest x).foldl insC c).map (·.1)), intR.row 3 (((own rest x).foldl insC c).map (·.2))])) (fun i c => c.length ≤ i) (by omega) (Nat.le_refl _)]
  · have hcl : ((own l x).foldl insC []).length ≤ 1000 := by
      rw [(insC_fold (own l x) [] .nil).2.length_eq, List.append_nil]
      have := own_len l x; omega
    generalize (own l x).foldl insC [] = c at hcl ⊢
    simp -implicitDefEqProofs [k44_4, prep_new, newK_nil s3]
    rw [LL_for (γ := List (Int × Int)) c [] (fun i d => [(9, intR.sl 2 (ends d)), (10, .int .i64 i)]) (fun _ d => [intR.row 3 (c.map (·.1)), intR.row 3 (c.map (·.2)), intR.row 3 (ends d)])
      (fun _ rest d => (.exit 4, [(9, intR.sl 2 (ends (rest.foldl gstep d))), (10, undef)], [intR.row 3 (c.map (·.1)), intR.row 3 (c.map (·.2)), intR.row 3 (ends (rest.foldl gstep d))])) (fun i d => d.length ≤ i) (by omega) (Nat.le_refl _)]
    · have rr := int_reifyR (h := [intR.row 3 (c.map (·.1)), intR.row 3 (c.map (·.2)), intR.row 3 (ends (c.foldl gstep []))]) (b := 2) (l := ends (c.foldl gstep [])) rfl
      simp -implicitDefEqProofs [k44_18, rr]
    · simp -implicitDefEqProofs [k44_18, ends, Rec.sl_nil]
    · rfl
    · intro nx i d hi _
      simp -implicitDefEqProofs [r44_18, k44_18, hi, Rec.sl_len, trim_le]
    · intro nx i s rest d hi hv hd hw hdl ih
      have ih := ih (gstep d s) (by have := gstep_len d s; omega)
      simp -implicitDefEqProofs [k44_18] at ih
      rw [List.foldl_cons]
      have hi1 : i < (c.map (·.1)).length := by simpa using hi
      have hi2 : i < (c.map (·.2)).length := by simpa using hi
      have e1 : (c.map (·.1))[i] = s.1 := by rw [List.getElem_map, hv]
      have e2 : (c.map (·.2))[i] = s.2 := by rw [List.getElem_map, hv]
      have ix1 := int_index (g := some false) (b := 0) (l := c.map (·.1)) hi1
      have ix2 := int_index (g := some false) (b := 1) (l := c.map (·.2)) hi2
      have ld1 := int_load (h := [intR.row 3 (c.map (·.1)), intR.row 3 (c.map (·.2)), intR.row 3 (ends d)]) (b := 0) (l := c.map (·.1)) (sz := some 1) rfl hi1
      have ld2 := int_load (h := [intR.row 3 (c.map (·.1)), intR.row 3 (c.map (·.2)), intR.row 3 (ends d)]) (b := 1) (l := c.map (·.2)) (sz := some 1) rfl hi2
      rw [e1] at ld1
      rw [e2] at ld2
      have ap := app_two' (h := [intR.row 3 (c.map (·.1)), intR.row 3 (c.map (·.2)), intR.row 3 (ends d)]) (b := 2) (lo := 0) (c := ends d) s.1 s.2 rfl (Nat.zero_le _) (by rw [Rg.ends_len]; omega)
      rcases List.eq_nil_or_concat d with h0 | ⟨d', u, h0⟩
      · subst h0
        have e : gstep [] s = [(s.1, s.2)] := rfl
        have en : ends [(s.1, s.2)] = [s.1, s.2] := rfl
        have e0 : ends ([] : List (Int × Int)) = [] := rfl
        rw [e, en] at ih
        rw [e]
        rw [e0] at ap ld1 ld2
        simp -implicitDefEqProofs [r44_18, k44_18, hi, ix1, ix2, ld1, ld2, e0, Rec.sl_len, lit_two, ap, hw, trim_le]
        exact ih
      · rw [List.concat_eq_append] at h0
        subst h0
        have hel : (ends (d' ++ [u])).length = 2 * d'.length + 2 := by rw [Rg.ends_len, List.length_append]; show 2 * (d'.length + 1) = _; omega
        have hn : 2 * d'.length + 1 < (ends (d' ++ [u])).length := by omega
        have wl : IntKind.i64.wrap (((ends (d' ++ [u])).length : Int) - 1) = ((2 * d'.length + 1 : Nat) : Int) := by
          rw [hel]; exact (wrap64 (by rw [List.length_append] at hdl; omega) (by rw [List.length_append] at hdl; omega)).trans (by omega)
        have hpos : (0 : Int) < ((ends (d' ++ [u])).length : Int) := by omega
        have hposN : 0 < (ends (d' ++ [u])).length := by omega
        have ix3 := int_index (g := some false) (b := 2) (l := ends (d' ++ [u])) hn
        have ld3 := int_load (h := [intR.row 3 (c.map (·.1)), intR.row 3 (c.map (·.2)), intR.row 3 (ends (d' ++ [u]))]) (b := 2) (l := ends (d' ++ [u])) (sz := some 1) rfl hn
        rw [ends_get hn] at ld3
        have st3 := int_store (h := [intR.row 3 (c.map (·.1)), intR.row 3 (c.map (·.2)), intR.row 3 (ends (d' ++ [u]))]) (b := 2) (lo := 0) (l := ends (d' ++ [u])) (max u.2 s.2) rfl (Nat.zero_le _) hn
        rw [ends_last] at st3
        generalize hpn : ((2 * d'.length + 1 : Nat) : Int) = pn at *
        rw [Rg.gstep_snoc] at ih ⊢
        by_cases hs : s.1 ≤ u.2
        · rw [if_pos hs] at ih ⊢
          have esl : intR.sl 2 (ends (d' ++ [(u.1, max u.2 s.2)])) = intR.sl 2 (ends (d' ++ [u])) := int_sl (by rw [Rg.ends_len, Rg.ends_len]; simp)
          rw [esl] at ih
          simp -implicitDefEqProofs [r44_18, k44_18, hi, ix1, ix2, ld1, ld2, Rec.sl_len, hposN, wl, ix3, ld3, hs, max_int, st3, hw, trim_le]
          exact ih
        · rw [if_neg hs] at ih ⊢
          have ea : d' ++ [u, s] = (d' ++ [u]) ++ [s] := by rw [List.append_assoc]; rfl
          rw [ea, ends_snoc (d' ++ [u]) s] at ih
          rw [ea]
          simp -implicitDefEqProofs [r44_18, k44_18, hi, ix1, ix2, ld1, ld2, Rec.sl_len, hposN, wl, ix3, ld3, hs, lit_two, ap, hw, trim_le, -List.append_assoc]
          exact ih
  · simp -implicitDefEqProofs [k44_4, Rec.sl_nil]
  · rfl
  · intro nx i c hi _
    simp -implicitDefEqProofs [r44_4, k44_4, hi, Rec.o_len hk, trim_le, own]
  · intro nx i r rest c hi hv hd hw hc ih
    have ixi := Rec.o_index (R := rectR) (t := 39) (kk := .i64) (s := 4) rfl hk hi
    rw [hv] at ixi
    rw [own_cons]
    by_cases h1 : r.x0 ≤ x
    case neg =>
      have h1' : x < r.x0 := by omega
      have ih := ih c (by omega)
      rw [if_neg (fun e => h1 e.1), List.nil_append]
      simp -implicitDefEqProofs [k44_4] at ih
      simp -implicitDefEqProofs [r44_4, k44_4, hi, ixi, Rec.o_len hk, rect_val, h1', hw, trim_le]
      exact ih
    have h1' : ¬ (x < r.x0) := by omega
    by_cases h2 : x < r.x1
    case neg =>
      have h2' : r.x1 ≤ x := by omega
      have ih := ih c (by omega)
      rw [if_neg (fun e => h2 e.2), List.nil_append]
      simp -implicitDefEqProofs [k44_4] at ih
      simp -implicitDefEqProofs [r44_4, k44_4, hi, ixi, Rec.o_len hk, rect_val, h1', h2', hw, trim_le]
      exact ih
    have h2' : ¬ (r.x1 ≤ x) := by omega
    rw [if_pos ⟨h1, h2⟩]
    have ih := ih (insC c (r.y0, r.y1)) (by rw [insC_len]; omega)
    simp -implicitDefEqProofs [k44_4] at ih
    have ap1 := app_num (h := [intR.row 3 (c.map (·.1)), intR.row 3 (c.map (·.2))]) (b := 0) (lo := 0) (c := c.map (·.1)) 0 rfl (Nat.le_refl _) (by simp; omega)
    have ap2 := app_num (h := [intR.row 3 (c.map (·.1) ++ [0]), intR.row 3 (c.map (·.2))]) (b := 1) (lo := 0) (c := c.map (·.2)) 0 rfl (Nat.zero_le _) (by simp; omega)
    have hf : (c.map (·.1)).length = c.length := List.length_map _
    have ht : (c.map (·.2)).length = c.length := List.length_map _
    have ec1 : (insC c (r.y0, r.y1)).map (·.1) = putAt (c.map (·.1)) (scan (fun j => decide (r.y0 < (c.map (·.1)).getD j 0)) c.length) r.y0 := putAt_map _ _ _ _
    have ec2 : (insC c (r.y0, r.y1)).map (·.2) = putAt (c.map (·.2)) (scan (fun j => decide (r.y0 < (c.map (·.1)).getD j 0)) c.length) r.y1 := putAt_map _ _ _ _
    rw [ec1, ec2] at ih
    rw [List.singleton_append, List.foldl_cons]
    generalize (own rest x).foldl insC (insC c (r.y0, r.y1)) = C at ih ⊢
    clear ec1 ec2
    have hcl : c.length ≤ 1000 := by omega
    generalize c.map (·.1) = f at *
    generalize c.map (·.2) = t at *
    generalize c.length = n at *
    have gd : ∀ j (hj : j < f.length), f.getD j 0 = f[j] := fun j hj => by rw [List.getD_eq_getElem?_getD, List.getElem?_eq_getElem hj]; rfl
    have hsc := scan_le (fun j => decide (r.y0 < f.getD j 0)) n
    have esf : ∀ m, m ≤ n → intR.sl 0 (shiftRow f m) = intR.sl 0 (f ++ [0]) := fun m hm => int_sl (by rw [shiftRow_len (by omega)]; simp)
    have est : ∀ m, m ≤ n → intR.sl 1 (shiftRow t m) = intR.sl 1 (t ++ [0]) := fun m hm => int_sl (by rw [shiftRow_len (by omega)]; simp)
    have ixf := fun (m : Nat) (hm : m ≤ n) (j : Nat) (hj : j < n + 1) => (esf m hm) ▸ int_index (g := some false) (b := 0) (l := shiftRow f m) (i := j) (by rw [shiftRow_len (by omega)]; omega)
    have ixt := fun (m : Nat) (hm : m ≤ n) (j : Nat) (hj : j < n + 1) => (est m hm) ▸ int_index (g := some false) (b := 1) (l := shiftRow t m) (i := j) (by rw [shiftRow_len (by omega)]; omega)
    have top1 : shiftRow f n = f ++ [0] := by rw [← hf]; exact shiftRow_top f
    have top2 : shiftRow t n = t ++ [0] := by rw [← ht]; exact shiftRow_top t
    simp -implicitDefEqProofs [r44_4, k44_4, hi, ixi, Rec.o_len hk, rect_val, h1', h2', Rec.sl_len, hf, lit_num, ap1, ap2]
    rw [LL_rec (α := Nat) n (fun m => [(8, .int .i64 (m : Int))]) (fun m => [intR.row 3 (shiftRow f m), intR.row 3 (shiftRow t m)])
      (fun m => (.exit 2, [(8, .int .i64 ((scan (fun j => decide (r.y0 < f.getD j 0)) m : Nat) : Int))], [intR.row 3 (shiftRow f (scan (fun j => decide (r.y0 < f.getD j 0)) m)), intR.row 3 (shiftRow t (scan (fun j => decide (r.y0 < f.getD j 0)) m))])) (fun m => m ≤ n) (fun m => m)]
    · generalize scan (fun j => decide (r.y0 < f.getD j 0)) n = k at hsc ih ⊢
      have sp1 : intR.sl 0 (putAt f k r.y0) = intR.sl 0 (f ++ [0]) := int_sl (by rw [Rg.putAt_len]; simp)
      have sp2 : intR.sl 1 (putAt t k r.y1) = intR.sl 1 (t ++ [0]) := int_sl (by rw [Rg.putAt_len]; simp)
      rw [sp1, sp2] at ih
      have ix1 := ixf k hsc k (by omega)
      have ix2 := ixt k hsc k (by omega)
      have st1 := int_store (h := [intR.row 3 (shiftRow f k), intR.row 3 (shiftRow t k)]) (b := 0) (lo := 0) (l := shiftRow f k) (i := k) r.y0 rfl (Nat.le_refl _) (by rw [shiftRow_len (by omega)]; omega)
      rw [shiftRow_set (by omega)] at st1
      have st2 := int_store (h := [intR.row 3 (putAt f k r.y0), intR.row 3 (shiftRow t k)]) (b := 1) (lo := 0) (l := shiftRow t k) (i := k) r.y1 rfl (Nat.zero_le _) (by rw [shiftRow_len (by omega)]; omega)
      rw [shiftRow_set (by omega)] at st2
      simp -implicitDefEqProofs [k44_10, ix1, ix2, ixi, rect_val, st1, st2, hw, trim_le]
      exact ih
    · exact Nat.le_refl _
    · simp -implicitDefEqProofs [k44_10]
    · simp only [top1, top2]
    · intro nx m hm ih
      cases m with
      | zero => simp -implicitDefEqProofs [r44_10, k44_10, scan, trim_le]
      | succ m =>
        have hmf : m < f.length := by omega
        have hmt : m < t.length := by omega
        have w3 : IntKind.i64.wrap ((m : Int) + 1 - 1) = (m : Int) := (wrap64 (by omega) (by omega)).trans (by omega)
        have w4 : IntKind.i64.wrap (m : Int) = (m : Int) := wrap64 (by omega) (by omega)
        have hpos : (0 : Int) < (m : Int) + 1 := by omega
        have e : scan (fun j => decide (r.y0 < f.getD j 0)) (m + 1) = if decide (r.y0 < f.getD m 0) then scan (fun j => decide (r.y0 < f.getD j 0)) m else m + 1 := rfl
        rw [e, gd m hmf]
        have ixa := ixf (m + 1) (by omega) m (by omega)
        have ixb := ixf (m + 1) (by omega) (m + 1) (by omega)
        have iya := ixt (m + 1) (by omega) m (by omega)
        have iyb := ixt (m + 1) (by omega) (m + 1) (by omega)
        have lda := int_load (h := [intR.row 3 (shiftRow f (m + 1)), intR.row 3 (shiftRow t (m + 1))]) (b := 0) (l := shiftRow f (m + 1)) (i := m) (sz := some 1) rfl (by rw [shiftRow_len (by omega)]; omega)
        rw [shiftRow_get (by omega) (by omega)] at lda
        have sta := int_store (h := [intR.row 3 (shiftRow f (m + 1)), intR.row 3 (shiftRow t (m + 1))]) (b := 0) (lo := 0) (l := shiftRow f (m + 1)) (i := m + 1) f[m] rfl (Nat.le_refl _) (by rw [shiftRow_len (by omega)]; omega)
        rw [shiftRow_down (by omega)] at sta
        have ldb := int_load (h := [intR.row 3 (shiftRow f m), intR.row 3 (shiftRow t (m + 1))]) (b := 1) (l := shiftRow t (m + 1)) (i := m) (sz := some 1) rfl (by rw [shiftRow_len (by omega)]; omega)
        rw [shiftRow_get (by omega) (by omega)] at ldb
        have stb := int_store (h := [intR.row 3 (shiftRow f m), intR.row 3 (shiftRow t (m + 1))]) (b := 1) (lo := 0) (l := shiftRow t (m + 1)) (i := m + 1) t[m] rfl (Nat.zero_le _) (by rw [shiftRow_len (by omega)]; omega)
        rw [shiftRow_down (by omega)] at stb
        push_cast at ixb iyb
        have ih := ih m (by omega) (by omega)
        simp -implicitDefEqProofs [k44_10] at ih
        by_cases hz : r.y0 < f[m]
        · simp -implicitDefEqProofs [r44_10, k44_10, hpos, w4, ixa, ixb, iya, iyb, lda, ldb, sta, stb, ixi, rect_val, hz, trim_le]
          exact ih
        · simp -implicitDefEqProofs [r44_10, k44_10, hpos, w4, ixa, lda, ixi, rect_val, hz, trim_le]
end Go.Proofs.Ythnkmmbkdbdefaa.Bm

namespace Go.Proofs.Ythnkmmbkdbdefaa.Bm
open Go Go.RowKit

section
variable {P : Program} {t : TypeId}
theorem rem_nat {m n : Nat} (hn : 0 < n) : aBin P .rem t (.int .i64 (m : Int)) (.int .i64 (n : Int)) = some (.int .i64 ((m % n : Nat) : Int)) := by
  show (if (n : Int) = 0 then none else some (Value.int .i64 ((m : Int).tmod n))) = _
  rw [if_neg (by omega), Int.tmod_eq_emod_of_nonneg (by omega)]
  rfl
end

end Go.Proofs.Ythnkmmbkdbdefaa.Bm
