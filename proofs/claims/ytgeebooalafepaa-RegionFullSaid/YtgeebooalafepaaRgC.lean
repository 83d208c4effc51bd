/-
  Regions, plain: what the program's operations make of lists of rectangles. Conditions: none. No program in sight.
-/
import Derived.Test.YtgeebooalafepaaRgB
import Derived.Test.YtgeebooalafepaaC06a
namespace Go.Proofs.Ytgeebooalafepaa.Rg
open Bm (inB inB_has atO colL pslab bs bs_ok)

def edgesX (l : List Rect) : List Int := sortU (l.flatMap fun r => [r.x0, r.x1])
theorem edgesX_all (l : List Rect) : EdgesX l (edgesX l) := fun r hr => by
  unfold edgesX
  rw [sortU_mem, sortU_mem]
  exact ⟨List.mem_flatMap.2 ⟨r, hr, by simp⟩, List.mem_flatMap.2 ⟨r, hr, by simp⟩⟩
theorem EdgesX.mono {l m : List Rect} {xs : List Int} (h : EdgesX m xs) (hlm : ∀ r ∈ l, r ∈ m) : EdgesX l xs := fun r hr => h r (hlm r hr)
def stripsL (l : List Rect) : List Slab := stripL (colC l) (edgesX l)
def ofL (l : List Rect) : List Rect := outT (runsF (stripsL l))
theorem edgesX_len (l : List Rect) : (edgesX l).length ≤ 2 * l.length := by
  have h : ∀ (z : Int) (m : List Int), (insU z m).length ≤ m.length + 1 := by
    intro z m
    induction m with
    | nil => exact Nat.le_refl _
    | cons a m ih =>
      unfold insU
      split
      · exact Nat.le_refl _
      · split
        · exact Nat.le_succ _
        · exact Nat.succ_le_succ ih
  have k : ∀ (m : List Int), (sortU m).length ≤ m.length := by
    intro m
    induction m with
    | nil => exact Nat.le_refl _
    | cons a m ih => exact Nat.le_trans (h a _) (Nat.succ_le_succ ih)
  refine Nat.le_trans (k _) ?_
  induction l with
  | nil => exact Nat.le_refl _
  | cons r l ih =>
    have e : ((r :: l).flatMap fun r => [r.x0, r.x1]).length = 2 + (l.flatMap fun r => [r.x0, r.x1]).length := by
      rw [List.flatMap_cons, List.length_append]; rfl
    have e2 : (r :: l).length = l.length + 1 := rfl
    rw [e, e2]; omega
theorem stripL_len (c : Int → List (Int × Int)) : ∀ (xs : List Int), (stripL c xs).length = xs.length - 1
  | [] => rfl
  | [_] => rfl
  | a :: b :: xs => by
    show (stripL c (b :: xs)).length + 1 = _
    rw [stripL_len c (b :: xs)]; simp
theorem stripL_map (c c' : Int → List (Int × Int)) (g : Slab → List (Int × Int)) : ∀ (xs : List Int), (∀ s ∈ stripL c xs, g s = c' s.x0) → (stripL c xs).map (fun s => (⟨s.x0, s.x1, g s⟩ : Slab)) = stripL c' xs
  | [], _ => rfl
  | [_], _ => rfl
  | a :: b :: xs, h => by
    show (⟨a, b, g ⟨a, b, c a⟩⟩ : Slab) :: (stripL c (b :: xs)).map _ = ⟨a, b, c' a⟩ :: stripL c' (b :: xs)
    rw [stripL_map c c' g (b :: xs) fun s hs => h s (List.mem_cons_of_mem _ hs), h ⟨a, b, c a⟩ List.mem_cons_self]
theorem ofL_ok {l : List Rect} (hl : ∀ r ∈ l, r.y0 < r.y1) : Form (ofL l) ∧ ∀ x y, cell (ofL l) x y = cell l x y :=
  strips_form (cell_steps l) (sortU_asc _) (edgesX_all l) (colC l) (fun x => (colC_ok hl x).1) fun x _ y => (colC_ok hl x).2 y
theorem ofL_norm {l : List Rect} (hl : ∀ r ∈ l, r.y0 < r.y1) : ofL l = norm (cell l) := (norm_eq (ofL_ok hl).1 (ofL_ok hl).2).symm

/-! ### What stands in strips at 'x' -/
theorem gapless_get : ∀ {T : List Slab} {b : Int}, gapless b T → ∀ i (hi : i < T.length), b ≤ T[i].x0 ∧ T[i].x0 < T[i].x1 ∧ Can T[i].col
  | [], _, _, i, hi => by simp at hi
  | s :: T, b, h, 0, _ => ⟨Int.le_of_eq h.1.symm, h.2.1, h.2.2.1⟩
  | s :: T, b, h, i + 1, hi => by
    have hi' : i < T.length := by simpa using hi
    have := gapless_get h.2.2.2 i hi'
    have h1 := h.1
    have h2 := h.2.1
    have h3 : b ≤ T[i].x0 := by omega
    exact ⟨h3, this.2⟩
theorem gapless_two : ∀ {T : List Slab} {b : Int}, gapless b T → ∀ i j (hj : j < T.length) (hij : i < j), (T[i]'(by omega)).x1 ≤ T[j].x0
  | [], _, _, _, j, hj, _ => by simp at hj
  | s :: T, b, h, 0, 0, _, hij => by omega
  | s :: T, b, h, 0, j + 1, hj, _ => (gapless_get h.2.2.2 j (by simpa using hj)).1
  | s :: T, b, h, i + 1, 0, _, hij => by omega
  | s :: T, b, h, i + 1, j + 1, hj, hij => gapless_two h.2.2.2 i j (by simpa using hj) (by omega)
theorem cellT_get {T : List Slab} {x y : Int} : cellT T x y = true ↔ ∃ i, ∃ hi : i < T.length, T[i].x0 ≤ x ∧ x < T[i].x1 ∧ hasS T[i].col y = true := by
  unfold cellT
  rw [List.any_eq_true]
  constructor
  · rintro ⟨s, hs, h⟩
    obtain ⟨i, hi, rfl⟩ := List.mem_iff_getElem.1 hs
    simp only [Bool.and_eq_true, decide_eq_true_eq] at h
    exact ⟨i, hi, h.1.1, h.1.2, h.2⟩
  · rintro ⟨i, hi, h1, h2, h3⟩
    exact ⟨T[i], List.getElem_mem hi, by simp [h1, h2, h3]⟩
theorem pslab_get {T : List Slab} {x : Int} {k : Nat} (hk : k < T.length) : pslab T x k = decide (T[k].x1 ≤ x) := by
  unfold pslab; rw [List.getD_eq_getElem?_getD, List.getElem?_eq_getElem hk]; rfl
theorem atO_ok {T : List Slab} {b : Int} (h : gapless b T) (x : Int) : Can (colL (atO T x)) ∧ ∀ y, hasS (colL (atO T x)) y = cellT T x y := by
  have ok := bs_ok (p := pslab T x) (n := T.length) fun i j hij hj hp => by
    rw [pslab_get hj, decide_eq_true_eq] at hp
    rw [pslab_get (by omega), decide_eq_true_eq]
    by_cases e : i = j
    · subst e; exact hp
    · have := gapless_two h i j hj (by omega)
      have := (gapless_get h j hj).2.1
      omega
  unfold atO
  generalize bs (pslab T x) 0 T.length = m at ok ⊢
  obtain ⟨hm, ok⟩ := ok
  have none : (∀ k (hk : k < T.length), ¬ (T[k].x0 ≤ x ∧ x < T[k].x1)) → Can (colL none) ∧ ∀ y, hasS (colL none) y = cellT T x y := fun hn => ⟨trivial, fun y => by
    show false = _
    symm
    rw [Bool.eq_false_iff]
    intro hc
    obtain ⟨i, hi, h1, h2, _⟩ := cellT_get.1 hc
    exact hn i hi ⟨h1, h2⟩⟩
  by_cases hlt : m < T.length
  · rw [if_pos hlt, List.getD_eq_getElem?_getD, List.getElem?_eq_getElem hlt]
    show Can (colL (if T[m].x0 ≤ x then _ else _)) ∧ ∀ y, hasS (colL (if T[m].x0 ≤ x then _ else _)) y = _
    have hm1 := ok m hlt
    rw [pslab_get hlt, decide_eq_true_eq] at hm1
    by_cases hx : T[m].x0 ≤ x
    · rw [if_pos hx]
      refine ⟨(gapless_get h m hlt).2.2, fun y => ?_⟩
      show hasS T[m].col y = _
      rw [Bool.eq_iff_iff, cellT_get]
      refine ⟨fun hy => ⟨m, hlt, hx, by omega, hy⟩, ?_⟩
      rintro ⟨i, hi, h1, h2, h3⟩
      have e : i = m := by
        rcases Nat.lt_trichotomy i m with q | q | q
        · have := gapless_two h i m hlt q; omega
        · exact q
        · have := gapless_two h m i hi q; omega
      subst e; exact h3
    · rw [if_neg hx]
      refine none fun k hk hkx => ?_
      have hk1 := ok k hk
      rw [pslab_get hk, decide_eq_true_eq] at hk1
      by_cases e : m = k
      · subst e; exact hx hkx.1
      · have := gapless_two h m k hk (by omega)
        have := (gapless_get h m hlt).2.1
        omega
  · rw [if_neg hlt]
    refine none fun k hk hkx => ?_
    have hk1 := ok k hk
    rw [pslab_get hk, decide_eq_true_eq] at hk1
    omega
theorem at_strips {l : List Rect} (hl : ∀ r ∈ l, r.y0 < r.y1) (x : Int) : Can (colL (atO (stripsL l) x)) ∧ ∀ y, hasS (colL (atO (stripsL l) x)) y = cell l x y := by
  obtain ⟨b, hg⟩ := stripL_gap (colC l) (fun x => (colC_ok hl x).1) (edgesX l) (sortU_asc _)
  refine ⟨(atO_ok hg x).1, fun y => ?_⟩
  rw [show atO (stripsL l) x = atO (stripL (colC l) (edgesX l)) x from rfl, (atO_ok hg x).2]
  have hE := edgesX_all l
  have hp : (edgesX l).Pairwise (· < ·) := sortU_asc _
  refine stripL_cell (colC l) (cell l) (edgesX l) hp (fun a b ⟨p, q, e⟩ x hx hxb y => ?_) (fun x hx y => (cell_steps l).none x (fun r hr h => ?_) y) (fun x hx y => (cell_steps l).none x (fun r hr h => ?_) y) x y
  · rw [(colC_ok hl a).2]
    refine (cell_steps l).same x a (fun r hr => ?_) y
    have q0 := between hp e (hE r hr).1
    have q1 := between hp e (hE r hr).2
    omega
  · have := hx _ (hE r hr).1; omega
  · have := hx _ (hE r hr).2; omega

/-! ### Two columns put together -/
theorem hasS_const {c : List (Int × Int)} {y y' : Int} (h : ∀ s ∈ c, (s.1 ≤ y ↔ s.1 ≤ y') ∧ (y < s.2 ↔ y' < s.2)) : hasS c y = hasS c y' := any_ext fun s hs => by
  obtain ⟨h1, h2⟩ := h s hs
  simp only [h1, h2]
theorem hasS_out {c : List (Int × Int)} {y : Int} (h : ∀ s ∈ c, ¬ (s.1 ≤ y ∧ y < s.2)) : hasS c y = false := List.any_eq_false.2 fun s hs => by
  have := h s hs
  simp only [Bool.and_eq_true, decide_eq_true_eq]
  exact this
theorem ends_mem {c : List (Int × Int)} {s : Int × Int} (h : s ∈ c) : s.1 ∈ ends c ∧ s.2 ∈ ends c := ⟨List.mem_flatMap.2 ⟨s, h, by simp⟩, List.mem_flatMap.2 ⟨s, h, by simp⟩⟩
def mergeC (f : Bool → Bool → Bool) (a b : List (Int × Int)) : List (Int × Int) := keepS (fun y => f (inB a y) (inB b y)) [] (sortU (ends (a ++ b)))
theorem mergeC_ok (f : Bool → Bool → Bool) (hf : f false false = false) {a b : List (Int × Int)} (ha : Can a) (hb : Can b) : Can (mergeC f a b) ∧ ∀ y, hasS (mergeC f a b) y = f (hasS a y) (hasS b y) := by
  unfold mergeC
  have hp := sortU_asc (ends (a ++ b))
  have hm : ∀ s, (s ∈ a ∨ s ∈ b) → s.1 ∈ sortU (ends (a ++ b)) ∧ s.2 ∈ sortU (ends (a ++ b)) := fun s hs => by
    rw [sortU_mem, sortU_mem]
    exact ends_mem (List.mem_append.2 hs)
  generalize sortU (ends (a ++ b)) = ys at hp hm
  have ek : (fun y => f (inB a y) (inB b y)) = fun y => f (hasS a y) (hasS b y) := funext fun y => by rw [inB_has ha, inB_has hb]
  rw [ek]
  refine ⟨?_, fun y => keepS_has _ (fun y => f (hasS a y) (hasS b y)) ys hp (fun u v ⟨p, q, e⟩ y hy hyv => ?_) (fun y hy => ?_) (fun y hy => ?_) y⟩
  · cases ys with
    | nil => trivial
    | cons z ys => exact (keepS_ok _ (z :: ys) [] z hp ⟨trivial, fun s hs => by cases hs⟩ fun b hb => by
        rcases List.mem_cons.1 hb with rfl | hb
        · exact Int.le_refl _
        · exact Int.le_of_lt ((List.pairwise_cons.1 hp).1 b hb)).1
  · have key : ∀ s, (s ∈ a ∨ s ∈ b) → (s.1 ≤ y ↔ s.1 ≤ u) ∧ (y < s.2 ↔ u < s.2) := fun s hs => by
      have q0 := between hp e (hm s hs).1
      have q1 := between hp e (hm s hs).2
      omega
    show f (hasS a y) (hasS b y) = f (hasS a u) (hasS b u)
    rw [hasS_const (fun s hs => key s (.inl hs)), hasS_const (fun s hs => key s (.inr hs))]
  · show f (hasS a y) (hasS b y) = false
    rw [hasS_out (c := a) fun s hs h => by have := hy _ (hm s (.inl hs)).1; omega, hasS_out (c := b) fun s hs h => by have := hy _ (hm s (.inr hs)).1; omega, hf]
  · show f (hasS a y) (hasS b y) = false
    rw [hasS_out (c := a) fun s hs h => by have := hy _ (hm s (.inl hs)).2; omega, hasS_out (c := b) fun s hs h => by have := hy _ (hm s (.inr hs)).2; omega, hf]

/-! ### Operations on sets -/
def opC (f : Bool → Bool → Bool) (a b : List Rect) (x : Int) : List (Int × Int) := mergeC f (colL (atO (stripsL a) x)) (colL (atO (stripsL b) x))
def opL (f : Bool → Bool → Bool) (a b : List Rect) : List Rect := outT (runsF (stripL (opC f a b) (edgesX (a ++ b))))
theorem opL_ok (f : Bool → Bool → Bool) (hf : f false false = false) {a b : List Rect} (ha : ∀ r ∈ a, r.y0 < r.y1) (hb : ∀ r ∈ b, r.y0 < r.y1) : Form (opL f a b) ∧ ∀ x y, cell (opL f a b) x y = f (cell a x y) (cell b x y) := by
  have h1 : Steps (a ++ b) (cell a) := (cell_steps a).mono fun r hr => List.mem_append_left _ hr
  have h2 : Steps (a ++ b) (cell b) := (cell_steps b).mono fun r hr => List.mem_append_right _ hr
  have hc := fun x => mergeC_ok f hf (at_strips ha x).1 (at_strips hb x).1
  refine strips_form (h1.op h2 f hf) (sortU_asc _) (edgesX_all _) (opC f a b) (fun x => (hc x).1) fun x _ y => ?_
  rw [show hasS (opC f a b x) y = _ from (hc x).2 y, (at_strips ha x).2, (at_strips hb x).2]
theorem opL_norm (f : Bool → Bool → Bool) (hf : f false false = false) {a b : List Rect} (ha : ∀ r ∈ a, r.y0 < r.y1) (hb : ∀ r ∈ b, r.y0 < r.y1) : opL f a b = norm fun x y => f (cell a x y) (cell b x y) := (norm_eq (opL_ok f hf ha hb).1 (opL_ok f hf ha hb).2).symm
end Go.Proofs.Ytgeebooalafepaa.Rg
