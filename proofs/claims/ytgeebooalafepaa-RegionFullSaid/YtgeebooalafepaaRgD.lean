/-
  Regions, plain: boxes, lengths and sums. Conditions: none. No program in sight.
-/
import Derived.Test.YtgeebooalafepaaRgC
namespace Go.Proofs.Ytgeebooalafepaa.Rg

/-! ### The box around a form -/
theorem canS_all : ∀ {c : List (Int × Int)} {b : Int}, canS b c → ∀ s ∈ c, s.1 < s.2
  | [], _, _, s, hs => by cases hs
  | (f, t) :: c, b, h, s, hs => by
    rcases List.mem_cons.1 hs with rfl | hs
    · exact h.2.1
    · exact canS_all h.2.2 s hs
theorem Can.all {c : List (Int × Int)} (h : Can c) : ∀ s ∈ c, s.1 < s.2 := by
  obtain ⟨b, hb, _⟩ := low_ex c []
  exact canS_all (canS_ex h b hb)
theorem Form.pos {l : List Rect} (h : Form l) : ∀ r ∈ l, r.x0 < r.x1 ∧ r.y0 < r.y1 := by
  obtain ⟨b, T, hT, rfl⟩ := h
  intro r hr
  obtain ⟨s, hs, hr⟩ := List.mem_flatMap.1 hr
  obtain ⟨c, hc, rfl⟩ := List.mem_map.1 hr
  have h1 := (canT_facts hT).2 s hs
  exact ⟨h1.2.1, h1.2.2.all c hc⟩
theorem cell_true {l : List Rect} {x y : Int} : cell l x y = true ↔ ∃ r ∈ l, r.x0 ≤ x ∧ x < r.x1 ∧ r.y0 ≤ y ∧ y < r.y1 := by
  unfold cell Rect.has
  rw [List.any_eq_true]
  simp only [Bool.and_eq_true, decide_eq_true_eq]
  exact ⟨fun ⟨r, hr, h⟩ => ⟨r, hr, h.1.1, h.1.2, h.2.1, h.2.2⟩, fun ⟨r, hr, h1, h2, h3, h4⟩ => ⟨r, hr, ⟨h1, h2⟩, h3, h4⟩⟩
theorem Form.box {l : List Rect} (h : Form l) {n : Int} (hb : ∀ x y, cell l x y = true → 0 ≤ x ∧ x < n ∧ 0 ≤ y ∧ y < n) : ∀ r ∈ l, r.inBox n := by
  intro r hr
  have hp := h.pos r hr
  have h1 := hb r.x0 r.y0 (cell_true.2 ⟨r, hr, by omega, by omega, by omega, by omega⟩)
  have h2 := hb (r.x1 - 1) (r.y1 - 1) (cell_true.2 ⟨r, hr, by omega, by omega, by omega, by omega⟩)
  unfold Rect.inBox
  omega
theorem cell_box {l : List Rect} {n : Int} (h : ∀ r ∈ l, r.inBox n) {x y : Int} (hc : cell l x y = true) : 0 ≤ x ∧ x < n ∧ 0 ≤ y ∧ y < n := by
  obtain ⟨r, hr, h1, h2, h3, h4⟩ := cell_true.1 hc
  have := h r hr
  unfold Rect.inBox at this
  omega

/-! ### Sums over a grid with a border -/
theorem sumN_shift (f : Int → Int) : ∀ n : Nat, sumN (n + 1) (fun k => f (k - 1)) = f (-1) + sumN n f
  | 0 => by show 0 + f (0 - 1) = f (-1) + 0; rw [show (0 : Int) - 1 = -1 from rfl]; omega
  | n + 1 => by
    show sumN (n + 1) (fun k => f (k - 1)) + f ((n + 1 : Nat) - 1) = f (-1) + (sumN n f + f n)
    rw [sumN_shift f n, show (((n + 1 : Nat) : Int) - 1) = (n : Int) by omega]; omega
theorem sumN_border {f : Int → Int} {n : Nat} (h1 : f (-1) = 0) (h2 : f n = 0) : sumN (n + 2) (fun k => f (k - 1)) = sumN n f := by
  rw [sumN_shift f (n + 1), h1]
  show 0 + (sumN n f + f n) = _
  rw [h2]; omega
/-- The cells of the grid up to 'n', with its border, counted. -/
def cntB (n : Nat) (S : Int → Int → Bool) : Int := sumN (n + 2) fun i => sumN (n + 2) fun j => bi (S (i - 1) (j - 1))
theorem cntB_cnt {n : Nat} {S : Int → Int → Bool} (h : ∀ x y, S x y = true → 0 ≤ x ∧ x < n ∧ 0 ≤ y ∧ y < n) : cntB n S = cnt n S := by
  have z : ∀ x y : Int, (x < 0 ∨ (n : Int) ≤ x ∨ y < 0 ∨ (n : Int) ≤ y) → bi (S x y) = 0 := fun x y hxy => by
    cases hs : S x y
    · rfl
    · have := h x y hs; omega
  have row : ∀ x : Int, sumN (n + 2) (fun j => bi (S x (j - 1))) = sumN n fun y => bi (S x y) := fun x =>
    sumN_border (f := fun y => bi (S x y)) (z x (-1) (by omega)) (z x n (by omega))
  unfold cntB cnt
  rw [sumN_congr (g := fun i => sumN n fun y => bi (S (i - 1) y)) fun i _ => row (i - 1)]
  have zr : ∀ x : Int, (x < 0 ∨ (n : Int) ≤ x) → sumN n (fun y => bi (S x y)) = 0 := fun x hx => by
    rw [sumN_congr (g := fun _ => 0) fun j _ => z x j (by omega), sumN_zero]
  exact sumN_border (f := fun x => sumN n fun y => bi (S x y)) (zr (-1) (by omega)) (zr n (by omega))
def allN : Nat → (Int → Bool) → Bool
  | 0, _ => true
  | n + 1, f => allN n f && f n
theorem allN_true {f : Int → Bool} : ∀ {n : Nat}, allN n f = true ↔ ∀ i : Nat, i < n → f i = true
  | 0 => by simp [allN]
  | n + 1 => by
    unfold allN
    rw [Bool.and_eq_true, allN_true]
    exact ⟨fun ⟨h1, h2⟩ i hi => by
      rcases Nat.lt_succ_iff_lt_or_eq.1 hi with h | rfl
      · exact h1 i h
      · exact h2, fun h => ⟨fun i hi => h i (by omega), h n (by omega)⟩⟩
def allB (n : Nat) (S : Int → Int → Bool) : Bool := allN (n + 2) fun i => allN (n + 2) fun j => S (i - 1) (j - 1)
theorem allB_eq {n : Nat} {S T : Int → Int → Bool} (hS : ∀ x y, S x y = true → 0 ≤ x ∧ x < n ∧ 0 ≤ y ∧ y < n) (hT : ∀ x y, T x y = true → 0 ≤ x ∧ x < n ∧ 0 ≤ y ∧ y < n) : allB n (fun x y => S x y == T x y) = true ↔ ∀ x y, S x y = T x y := by
  unfold allB
  rw [allN_true]
  constructor
  · intro h x y
    by_cases hb : 0 ≤ x ∧ x < n ∧ 0 ≤ y ∧ y < n
    · have h1 := allN_true.1 (h (x + 1).toNat (by omega)) (y + 1).toNat (by omega)
      rw [show (((x + 1).toNat : Nat) : Int) - 1 = x by omega, show (((y + 1).toNat : Nat) : Int) - 1 = y by omega] at h1
      exact eq_of_beq h1
    · cases h1 : S x y
      · cases h2 : T x y
        · rfl
        · exact absurd (hT x y h2) hb
      · exact absurd (hS x y h1) hb
  · intro h i _
    rw [allN_true]
    intro j _
    show (S _ _ == T _ _) = true
    rw [h]; exact beq_self_eq_true _
/-! ### Lengths -/
theorem norm_len {R : List Rect} {S : Int → Int → Bool} (hR : ∀ r ∈ R, r.x0 < r.x1) (h : Det R S) : (norm S).length ≤ R.length * R.length :=
  form_bound hR h h.made.form.1 h.made.form.2
end Go.Proofs.Ytgeebooalafepaa.Rg
