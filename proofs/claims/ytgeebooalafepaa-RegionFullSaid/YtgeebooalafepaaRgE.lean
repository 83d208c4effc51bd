/-
  Regions, plain: cells that are apart, counted. Conditions: none. No program in sight.
-/
import Derived.Test.YtgeebooalafepaaRgD
namespace Go.Proofs.Ytgeebooalafepaa.Rg

theorem Form.one {r : Rect} (h1 : r.x0 < r.x1) (h2 : r.y0 < r.y1) : Form [r] :=
  ⟨r.x0, [⟨r.x0, r.x1, [(r.y0, r.y1)]⟩], ⟨Int.le_refl _, h1, by simp, ⟨h2, trivial⟩, fun _ => by simp, trivial⟩, rfl⟩
/-- No cell in common. -/
def Disj (r s : Rect) : Prop := ∀ x y, ¬ (r.has x y = true ∧ s.has x y = true)
theorem cell_cons (r : Rect) (l : List Rect) (x y : Int) : cell (r :: l) x y = (r.has x y || cell l x y) := rfl
theorem cnt_disj {n : Nat} : ∀ {l : List Rect}, (∀ r ∈ l, r.inBox n) → l.Pairwise Disj → cnt n (cell l) = areaL l
  | [], _, _ => cnt_none
  | r :: l, hb, hd => by
    rw [List.pairwise_cons] at hd
    have ih := cnt_disj (fun s hs => hb s (by simp [hs])) hd.2
    have hr := hb r (by simp)
    have h1 : cnt n (cell [r]) = r.area := by
      rw [← area_form (Form.one (by unfold Rect.inBox at hr; omega) (by unfold Rect.inBox at hr; omega)) (by simpa using hr)]
      show r.area + 0 = _
      omega
    have h2 : cnt n (cell (r :: l)) + cnt n (fun _ _ => false) = cnt n (cell [r]) + cnt n (cell l) := cnt_add fun x y => by
      rw [cell_cons, cell_cons]
      show _ = bi (r.has x y || false) + _
      cases q1 : r.has x y
      · show bi (cell l x y) + 0 = 0 + bi (cell l x y); omega
      · have : cell l x y = false := by
          rw [Bool.eq_false_iff]
          intro hc
          obtain ⟨s, hs, hsx⟩ := List.any_eq_true.1 hc
          exact hd.1 s hs x y ⟨q1, hsx⟩
        rw [this]
    rw [cnt_none] at h2
    show _ = r.area + areaL l
    omega

/-! ### Single cells that do not touch -/
def gcell (i : Nat) : Rect := ⟨2 * ((i % 15 : Nat) : Int), 2 * ((i / 15 : Nat) : Int), 2 * ((i % 15 : Nat) : Int) + 1, 2 * ((i / 15 : Nat) : Int) + 1⟩
def grid (n : Nat) : List Rect := (List.range n).map gcell
theorem gcell_has {i : Nat} {x y : Int} : (gcell i).has x y = true ↔ x = 2 * ((i % 15 : Nat) : Int) ∧ y = 2 * ((i / 15 : Nat) : Int) := by
  unfold gcell Rect.has
  simp only [Bool.and_eq_true, decide_eq_true_eq]
  omega
theorem grid_disj (n : Nat) : (grid n).Pairwise Disj := by
  unfold grid
  rw [List.pairwise_map]
  refine List.Pairwise.imp ?_ List.pairwise_lt_range
  intro i j hij x y h
  rw [gcell_has, gcell_has] at h
  omega
theorem grid_box {n : Nat} (hn : n ≤ 450) : ∀ r ∈ grid n, r.inBox 60 := fun r hr => by
  obtain ⟨i, hi, rfl⟩ := List.mem_map.1 hr
  have := List.mem_range.1 hi
  unfold gcell Rect.inBox
  simp only
  omega
theorem grid_even {n : Nat} {x y : Int} (h : cell (grid n) x y = true) : x % 2 = 0 ∧ y % 2 = 0 := by
  obtain ⟨r, hr, hx⟩ := List.any_eq_true.1 h
  obtain ⟨i, hi, rfl⟩ := List.mem_map.1 hr
  rw [gcell_has] at hx
  omega
theorem area_grid (n : Nat) : areaL (grid n) = n := by
  have key : ∀ l : List Nat, areaL (l.map gcell) = l.length := by
    intro l
    induction l with
    | nil => rfl
    | cons i l ih =>
      show (gcell i).area + areaL (l.map gcell) = _
      have e : (gcell i).area = 1 := by
        unfold gcell Rect.area
        simp only
        rw [show (2 * ((i % 15 : Nat) : Int) + 1 - 2 * ((i % 15 : Nat) : Int)) = 1 by omega, show (2 * ((i / 15 : Nat) : Int) + 1 - 2 * ((i / 15 : Nat) : Int)) = 1 by omega]; rfl
      rw [e, ih, List.length_cons]; omega
  unfold grid
  rw [key, List.length_range]
theorem area_units : ∀ {l : List Rect}, (∀ r ∈ l, r.area = 1) → areaL l = l.length
  | [], _ => rfl
  | r :: l, h => by
    show r.area + areaL l = ((l.length + 1 : Nat) : Int)
    rw [h r (by simp), area_units fun s hs => h s (by simp [hs])]; omega
theorem grid_len {n : Nat} (hn : n ≤ 450) {l : List Rect} (hf : Form l) (hc : ∀ x y, cell l x y = cell (grid n) x y) : l.length = n ∧ areaL l = n := by
  have hu : ∀ r ∈ l, r.area = 1 := fun r hr => by
    have hp := hf.pos r hr
    have c1 : ∀ x y, r.x0 ≤ x → x < r.x1 → r.y0 ≤ y → y < r.y1 → x % 2 = 0 ∧ y % 2 = 0 := fun x y a b c d => grid_even (by rw [← hc]; exact cell_true.2 ⟨r, hr, a, b, c, d⟩)
    have e1 := c1 r.x0 r.y0 (by omega) (by omega) (by omega) (by omega)
    have ex : r.x1 = r.x0 + 1 := by
      apply Classical.byContradiction
      intro hne
      have := c1 (r.x0 + 1) r.y0 (by omega) (by omega) (by omega) (by omega)
      omega
    have ey : r.y1 = r.y0 + 1 := by
      apply Classical.byContradiction
      intro hne
      have := c1 r.x0 (r.y0 + 1) (by omega) (by omega) (by omega) (by omega)
      omega
    unfold Rect.area
    rw [ex, ey, show r.x0 + 1 - r.x0 = 1 by omega, show r.y0 + 1 - r.y0 = 1 by omega]; rfl
  have h1 : areaL l = cnt 60 (cell l) := area_form hf (hf.box fun x y hxy => cell_box (grid_box hn) (by rw [← hc]; exact hxy))
  rw [cnt_congr hc, cnt_disj (grid_box hn) (grid_disj n), area_grid] at h1
  have h2 := area_units hu
  exact ⟨by omega, h1⟩
end Go.Proofs.Ytgeebooalafepaa.Rg
