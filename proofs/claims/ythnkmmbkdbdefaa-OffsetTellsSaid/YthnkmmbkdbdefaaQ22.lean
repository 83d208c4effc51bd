/-
  Chapter 08: a form's slabs with their columns shrunk. Conditions: rectangles in bounds.
-/
import Derived.Test.YthnkmmbkdbdefaaQ19
import Derived.Test.YthnkmmbkdbdefaaQ21
import Derived.Test.YthnkmmbkdbdefaaQ15
namespace Go.Proofs.Ythnkmmbkdbdefaa.Rg

/-! ### Grown -/
def growR (d : Int) (r : Rect) : Rect := ⟨max (r.x0 - d) 0, max (r.y0 - d) 0, min (r.x1 + d) 1048576, min (r.y1 + d) 1048576⟩
def growL (d : Int) (a : List Rect) : List Rect := a.map (growR d)
theorem growR_box {d : Int} {r : Rect} (hd : 0 ≤ d) (h : r.inBox 1048576) : (growR d r).inBox 1048576 := by
  unfold growR Rect.inBox at *
  simp only
  omega
theorem growL_box {d : Int} {a : List Rect} (hd : 0 ≤ d) (h : ∀ r ∈ a, r.inBox 1048576) : ∀ r ∈ growL d a, r.inBox 1048576 := fun r hr => by
  obtain ⟨s, hs, rfl⟩ := List.mem_map.1 hr
  exact growR_box hd (h s hs)
/-- A cell of the grid that is near one of a set. -/
def Gro (d : Int) (S : Int → Int → Bool) (x y : Int) : Prop := (0 ≤ x ∧ x < 1048576 ∧ 0 ≤ y ∧ y < 1048576) ∧ ∃ i k, x - d ≤ i ∧ i ≤ x + d ∧ y - d ≤ k ∧ k ≤ y + d ∧ S i k = true
theorem grow_cell {d : Int} {a : List Rect} (hd : 0 ≤ d) (h : ∀ r ∈ a, r.inBox 1048576) {x y : Int} : cell (growL d a) x y = true ↔ Gro d (cell a) x y := by
  rw [cell_true]
  constructor
  · rintro ⟨s, hs, h1, h2, h3, h4⟩
    have hb := growL_box hd h s hs
    obtain ⟨r, hr, rfl⟩ := List.mem_map.1 hs
    have hr' := h r hr
    unfold Rect.inBox at hb hr'
    unfold growR at h1 h2 h3 h4
    simp only at h1 h2 h3 h4
    refine ⟨by omega, max r.x0 (min x (r.x1 - 1)), max r.y0 (min y (r.y1 - 1)), by omega, by omega, by omega, by omega, cell_true.2 ⟨r, hr, by omega, by omega, by omega, by omega⟩⟩
  · rintro ⟨hg, i, k, h1, h2, h3, h4, hc⟩
    obtain ⟨r, hr, g1, g2, g3, g4⟩ := cell_true.1 hc
    refine ⟨growR d r, List.mem_map.2 ⟨r, hr, rfl⟩, ?_, ?_, ?_, ?_⟩ <;> unfold growR <;> simp only <;> omega
theorem Gro.congr {d : Int} {S T : Int → Int → Bool} (h : ∀ x y, S x y = T x y) {x y : Int} : Gro d S x y ↔ Gro d T x y := by
  unfold Gro
  simp only [h]
/-- Grown twice. -/
theorem gro_gro {d n : Int} {S T : Int → Int → Bool} (hd : 0 ≤ d) (hn : 0 ≤ n) (hS : ∀ x y, S x y = true → 0 ≤ x ∧ x < 1048576 ∧ 0 ≤ y ∧ y < 1048576) (hT : ∀ x y, T x y = true ↔ Gro d S x y) {x y : Int} : Gro n T x y ↔ Gro (d + n) S x y := by
  constructor
  · rintro ⟨hg, u, v, h1, h2, h3, h4, hc⟩
    obtain ⟨_, i, k, g1, g2, g3, g4, gc⟩ := (hT u v).1 hc
    exact ⟨hg, i, k, by omega, by omega, by omega, by omega, gc⟩
  · rintro ⟨hg, i, k, h1, h2, h3, h4, hc⟩
    have hb := hS i k hc
    refine ⟨hg, max (i - d) (min (i + d) x), max (k - d) (min (k + d) y), by omega, by omega, by omega, by omega, (hT _ _).2 ⟨by omega, i, k, by omega, by omega, by omega, by omega, hc⟩⟩

/-! ### Shrunk -/
/-- A cell of whose surroundings all are in a set. -/
def Ero (d : Int) (S : Int → Int → Bool) (x y : Int) : Prop := ∀ i k, x - d ≤ i → i ≤ x + d → y - d ≤ k → k ≤ y + d → S i k = true
theorem Ero.congr {d : Int} {S T : Int → Int → Bool} (h : ∀ x y, S x y = T x y) {x y : Int} : Ero d S x y ↔ Ero d T x y := by
  unfold Ero
  simp only [h]
theorem ero_ero {d n : Int} {S T : Int → Int → Bool} (hd : 0 ≤ d) (hn : 0 ≤ n) (hT : ∀ x y, T x y = true ↔ Ero d S x y) {x y : Int} : Ero n T x y ↔ Ero (d + n) S x y := by
  constructor
  · intro h i k h1 h2 h3 h4
    exact (hT _ _).1 (h (max (x - n) (min (x + n) i)) (max (y - n) (min (y + n) k)) (by omega) (by omega) (by omega) (by omega)) i k (by omega) (by omega) (by omega) (by omega)
  · intro h u v h1 h2 h3 h4
    exact (hT u v).2 fun i k g1 g2 g3 g4 => h i k (by omega) (by omega) (by omega) (by omega)
theorem ero_sub {d : Int} {S : Int → Int → Bool} (hd : 0 ≤ d) {x y : Int} (h : Ero d S x y) : S x y = true := h x y (by omega) (by omega) (by omega) (by omega)

/-! ### Columns shrunk, and what is common to two -/
theorem canS_weak : ∀ {c : List (Int × Int)} {b b' : Int}, canS b c → b' ≤ b → canS b' c
  | [], _, _, _, _ => trivial
  | (f, t) :: c, b, b', h, hb => ⟨by have := h.1; omega, h.2⟩
def shr (d : Int) (c : List (Int × Int)) : List (Int × Int) := c.filterMap fun s => if s.1 + d < s.2 - d then some (s.1 + d, s.2 - d) else none
theorem shr_cons {d : Int} {s : Int × Int} {c : List (Int × Int)} : shr d (s :: c) = (if s.1 + d < s.2 - d then [(s.1 + d, s.2 - d)] else []) ++ shr d c := by
  unfold shr
  rw [List.filterMap_cons]
  split
  · rename_i h; split at h <;> simp_all
  · rename_i h; split at h <;> simp_all
theorem shr_can {d : Int} (hd : 0 ≤ d) : ∀ {c : List (Int × Int)} {b : Int}, canS b c → canS (b + d) (shr d c)
  | [], _, _ => trivial
  | (f, t) :: c, b, h => by
    have ih := shr_can hd h.2.2
    have h1 := h.1
    have h2 := h.2.1
    rw [shr_cons]
    split
    · rename_i h3
      simp only at h3
      exact ⟨by simp only; omega, h3, canS_weak ih (by simp only; omega)⟩
    · exact canS_weak ih (by omega)
theorem hasS_true {c : List (Int × Int)} {y : Int} : hasS c y = true ↔ ∃ s ∈ c, s.1 ≤ y ∧ y < s.2 := by
  unfold hasS
  rw [List.any_eq_true]
  simp only [Bool.and_eq_true, decide_eq_true_eq]
theorem canS_end : ∀ {c : List (Int × Int)} {b : Int}, canS b c → ∀ s ∈ c, hasS c s.2 = false
  | [], _, _, s, hs => by cases hs
  | (f, t) :: c, b, h, s, hs => by
    rw [hasS_cons]
    rcases List.mem_cons.1 hs with rfl | hs
    · rw [canS_low h.2.2 (Int.le_refl _)]
      simp
    · rw [canS_end h.2.2 s hs]
      have : t < s.1 := by
        have key : ∀ {c : List (Int × Int)} {b : Int}, canS b c → ∀ s ∈ c, b < s.1 := by
          intro c
          induction c with
          | nil => intro _ _ s hs; cases hs
          | cons u c ih =>
            intro b h s hs
            obtain ⟨f, t⟩ := u
            rcases List.mem_cons.1 hs with rfl | hs
            · exact h.1
            · have := ih h.2.2 s hs; have := h.1; have := h.2.1; omega
        exact key h.2.2 s hs
      have := canS_all h.2.2 s hs
      have h4 : ¬ s.2 < t := by omega
      simp [h4]
theorem shr_has {d : Int} (hd : 0 ≤ d) {c : List (Int × Int)} (h : Can c) (y : Int) : hasS (shr d c) y = true ↔ ∀ k, y - d ≤ k → k ≤ y + d → hasS c k = true := by
  obtain ⟨b, hb⟩ : ∃ b, canS b c := by
    obtain ⟨b, hb, _⟩ := low_ex c []
    exact ⟨b, canS_ex h b hb⟩
  rw [hasS_true]
  constructor
  · rintro ⟨s, hs, h1, h2⟩ k h3 h4
    obtain ⟨u, hu, e⟩ := List.mem_filterMap.1 hs
    split at e
    · cases e
      exact hasS_true.2 ⟨u, hu, by simp only at h1; omega, by simp only at h2; omega⟩
    · cases e
  · intro hk
    obtain ⟨u, hu, h1, h2⟩ := hasS_true.1 (hk (y - d) (by omega) (by omega))
    have h3 : y + d < u.2 := by
      apply Classical.byContradiction
      intro hno
      have h4 := hk u.2 (by omega) (by omega)
      rw [canS_end hb u hu] at h4
      cases h4
    refine ⟨(u.1 + d, u.2 - d), List.mem_filterMap.2 ⟨u, hu, if_pos (by omega)⟩, by simp only; omega, by simp only; omega⟩
def comI (s : Int × Int) (b : List (Int × Int)) : List (Int × Int) := b.filterMap fun u => if max s.1 u.1 < min s.2 u.2 then some (max s.1 u.1, min s.2 u.2) else none
def comC (a b : List (Int × Int)) : List (Int × Int) := a.flatMap fun s => comI s b
theorem comI_cons {s u : Int × Int} {b : List (Int × Int)} : comI s (u :: b) = (if max s.1 u.1 < min s.2 u.2 then [(max s.1 u.1, min s.2 u.2)] else []) ++ comI s b := by
  unfold comI
  rw [List.filterMap_cons]
  split
  · rename_i h; split at h <;> simp_all
  · rename_i h; split at h <;> simp_all
theorem comI_can {s : Int × Int} : ∀ {b : List (Int × Int)} {m : Int}, canS m b → canS (max m (s.1 - 1)) (comI s b)
  | [], _, _ => trivial
  | (f, t) :: b, m, h => by
    have ih := comI_can (s := s) h.2.2
    have h1 := h.1
    have h2 := h.2.1
    rw [comI_cons]
    split
    · rename_i h3
      simp only at h3
      exact ⟨by simp only; omega, h3, canS_weak ih (by simp only; omega)⟩
    · exact canS_weak ih (by omega)
theorem canS_append : ∀ {I J : List (Int × Int)} {b t : Int}, canS b I → (∀ s ∈ I, s.2 ≤ t) → b ≤ t → canS t J → canS b (I ++ J)
  | [], J, b, t, _, _, hb, hJ => canS_weak hJ hb
  | (f, u) :: I, J, b, t, h, hI, hb, hJ => ⟨h.1, h.2.1, canS_append h.2.2 (fun s hs => hI s (by simp [hs])) (hI (f, u) (by simp)) hJ⟩
theorem comC_can : ∀ {a : List (Int × Int)} {b : List (Int × Int)} {m n : Int}, canS m a → canS n b → canS m (comC a b)
  | [], _, _, _, _, _ => trivial
  | (f, t) :: a, b, m, n, ha, hb => by
    have ih := comC_can ha.2.2 hb
    have h1 := ha.1
    have h2 := ha.2.1
    show canS m (comI (f, t) b ++ comC a b)
    refine canS_append (t := t) (canS_weak (comI_can (s := (f, t)) hb) (by simp only; omega)) (fun s hs => ?_) (by omega) ih
    obtain ⟨u, _, e⟩ := List.mem_filterMap.1 hs
    split at e
    · cases e; simp only; omega
    · cases e
theorem comC_has {a b : List (Int × Int)} {y : Int} : hasS (comC a b) y = true ↔ hasS a y = true ∧ hasS b y = true := by
  rw [hasS_true, hasS_true, hasS_true]
  constructor
  · rintro ⟨s, hs, h1, h2⟩
    obtain ⟨u, hu, hs⟩ := List.mem_flatMap.1 hs
    obtain ⟨v, hv, e⟩ := List.mem_filterMap.1 hs
    split at e
    · cases e
      simp only at h1 h2
      exact ⟨⟨u, hu, by omega, by omega⟩, v, hv, by omega, by omega⟩
    · cases e
  · rintro ⟨⟨u, hu, h1, h2⟩, v, hv, h3, h4⟩
    exact ⟨(max u.1 v.1, min u.2 v.2), List.mem_flatMap.2 ⟨u, hu, List.mem_filterMap.2 ⟨v, hv, if_pos (by omega)⟩⟩, by simp only; omega, by simp only; omega⟩

/-! ### The window -/
structure Win where
  next : Int
  gap : Bool
  first : Bool
  out : List (Int × Int)
def wstep (x d : Int) (w : Win) (s : Slab) : Win :=
  if w.gap = true ∨ s.x1 ≤ w.next ∨ x + d < s.x0 then w
  else if w.next < s.x0 then { w with gap := true }
  else if w.first = true then ⟨s.x1, w.gap, false, s.col⟩
  else ⟨s.x1, w.gap, w.first, comC w.out s.col⟩
def winC (T : List Slab) (x d : Int) : List (Int × Int) :=
  let w := T.foldl (wstep x d) ⟨x - d, false, true, []⟩
  if w.gap = true ∨ w.next ≤ x + d then [] else w.out
/-- Slabs one behind the other. -/
def rowT : List Slab → Prop
  | [] => True
  | s :: T => s.x0 < s.x1 ∧ Can s.col ∧ (∀ u ∈ T, s.x1 ≤ u.x0) ∧ rowT T
theorem rowT_pos : ∀ {T : List Slab}, rowT T → ∀ s ∈ T, s.x0 < s.x1 ∧ Can s.col
  | [], _, s, hs => by cases hs
  | u :: T, h, s, hs => by
    rcases List.mem_cons.1 hs with rfl | hs
    · exact ⟨h.1, h.2.1⟩
    · exact rowT_pos h.2.2.2 s hs
theorem wstep_gap {x d : Int} : ∀ (T : List Slab) (w : Win), w.gap = true → (T.foldl (wstep x d) w).gap = true
  | [], _, h => h
  | s :: T, w, h => by
    rw [List.foldl_cons]
    have : wstep x d w s = w := if_pos (.inl h)
    rw [this]
    exact wstep_gap T w h
def winR (x d : Int) (w : Win) : List (Int × Int) := if w.gap = true ∨ w.next ≤ x + d then [] else w.out
theorem win_ok {x d : Int} (hd : 0 ≤ d) : ∀ (T : List Slab) (w : Win), rowT T → w.gap = false → Can w.out → (w.first = true → w.next ≤ x + d ∧ w.out = []) → (w.first = false → ∀ s ∈ T, w.next ≤ s.x0) →
    Can (winR x d (T.foldl (wstep x d) w)) ∧ ∀ y, hasS (winR x d (T.foldl (wstep x d) w)) y = true ↔ (w.first = true ∨ hasS w.out y = true) ∧ ∀ i, w.next ≤ i → i ≤ x + d → ∃ s ∈ T, s.x0 ≤ i ∧ i < s.x1 ∧ hasS s.col y = true
  | [], w, _, hg, hc, hf, _ => by
    rw [List.foldl_nil]
    unfold winR
    rw [hg]
    by_cases h : w.next ≤ x + d
    · rw [if_pos (.inr h)]
      refine ⟨trivial, fun y => Iff.intro (fun h => by cases h) fun h' => ?_⟩
      obtain ⟨s, hs, _⟩ := h'.2 w.next (Int.le_refl _) h
      cases hs
    · rw [if_neg (by simp [h])]
      show Can w.out ∧ ∀ y, hasS w.out y = true ↔ _
      refine ⟨hc, fun y => Iff.intro (fun h' => ⟨.inr h', fun i h1 h2 => by have : w.next ≤ i := h1; omega⟩) fun h' => h'.1.resolve_left fun h1 => h (hf h1).1⟩
  | s :: T, w, hT, hg, hc, hf, hn => by
    obtain ⟨hs, hcs, hST, hT'⟩ := hT
    rw [List.foldl_cons]
    by_cases c1 : s.x1 ≤ w.next ∨ x + d < s.x0
    · have e : wstep x d w s = w := if_pos (.inr c1)
      rw [e]
      obtain ⟨i1, i2⟩ := win_ok hd T w hT' hg hc hf fun h u hu => hn h u (by simp [hu])
      refine ⟨i1, fun y => ?_⟩
      rw [i2]
      refine and_congr_right fun _ => forall_congr' fun i => forall_congr' fun h1 => forall_congr' fun h2 => ⟨fun ⟨u, hu, h⟩ => ⟨u, by simp [hu], h⟩, fun ⟨u, hu, h⟩ => ?_⟩
      rcases List.mem_cons.1 hu with rfl | hu
      · omega
      · exact ⟨u, hu, h⟩
    · by_cases c2 : w.next < s.x0
      · have e : wstep x d w s = { w with gap := true } := by
          unfold wstep
          rw [if_neg (by rw [hg]; simp; omega), if_pos c2]
        rw [e]
        have hgap := wstep_gap (x := x) (d := d) T { w with gap := true } rfl
        have e2 : winR x d (T.foldl (wstep x d) { w with gap := true }) = [] := if_pos (.inl hgap)
        rw [e2]
        refine ⟨trivial, fun y => Iff.intro (fun h => by cases h) fun h => ?_⟩
        obtain ⟨u, hu, h1, h2, _⟩ := h.2 w.next (Int.le_refl _) (by omega)
        rcases List.mem_cons.1 hu with rfl | hu
        · omega
        · have := hST u hu; omega
      · have c3 : s.x0 ≤ w.next ∧ w.next < s.x1 ∧ s.x0 ≤ x + d := by omega
        have hnx : w.next ≤ x + d := by
          cases hfw : w.first
          · have := hn hfw s (by simp); omega
          · exact (hf hfw).1
        have split : ∀ y, (∀ i, w.next ≤ i → i ≤ x + d → ∃ u ∈ s :: T, u.x0 ≤ i ∧ i < u.x1 ∧ hasS u.col y = true) ↔ hasS s.col y = true ∧ ∀ i, s.x1 ≤ i → i ≤ x + d → ∃ u ∈ T, u.x0 ≤ i ∧ i < u.x1 ∧ hasS u.col y = true := fun y => by
          constructor
          · intro h
            refine ⟨?_, fun i h1 h2 => ?_⟩
            · obtain ⟨u, hu, h1, h2, h3⟩ := h w.next (Int.le_refl _) hnx
              rcases List.mem_cons.1 hu with rfl | hu
              · exact h3
              · have := hST u hu; omega
            · obtain ⟨u, hu, h3⟩ := h i (by omega) h2
              rcases List.mem_cons.1 hu with rfl | hu
              · omega
              · exact ⟨u, hu, h3⟩
          · rintro ⟨h1, h2⟩ i h3 h4
            by_cases h5 : i < s.x1
            · exact ⟨s, by simp, by omega, h5, h1⟩
            · obtain ⟨u, hu, h6⟩ := h2 i (by omega) h4
              exact ⟨u, by simp [hu], h6⟩
        cases hfw : w.first
        · have e : wstep x d w s = ⟨s.x1, w.gap, w.first, comC w.out s.col⟩ := by
            unfold wstep
            rw [if_neg (by rw [hg]; simp; omega), if_neg c2, if_neg (by rw [hfw]; simp)]
          rw [e, hg, hfw]
          have hcc : Can (comC w.out s.col) := by
            obtain ⟨b1, hb1, _⟩ := low_ex w.out []
            obtain ⟨b2, hb2, _⟩ := low_ex s.col []
            exact Can.of (comC_can (canS_ex hc b1 hb1) (canS_ex hcs b2 hb2))
          obtain ⟨i1, i2⟩ := win_ok hd T ⟨s.x1, false, false, comC w.out s.col⟩ hT' rfl hcc (fun h => by cases h) fun _ u hu => hST u hu
          refine ⟨i1, fun y => ?_⟩
          rw [i2, split y]
          simp only [Bool.false_eq_true, false_or, comC_has]
          exact and_assoc
        · have e : wstep x d w s = ⟨s.x1, w.gap, false, s.col⟩ := by
            unfold wstep
            rw [if_neg (by rw [hg]; simp; omega), if_neg c2, if_pos hfw]
          rw [e, hg]
          obtain ⟨i1, i2⟩ := win_ok hd T ⟨s.x1, false, false, s.col⟩ hT' rfl hcs (fun h => by cases h) fun _ u hu => hST u hu
          refine ⟨i1, fun y => ?_⟩
          rw [i2, split y]
          simp only [Bool.false_eq_true, false_or, true_or, true_and]
theorem winC_ok {x d : Int} (hd : 0 ≤ d) {T : List Slab} (h : rowT T) : Can (winC T x d) ∧ ∀ y, hasS (winC T x d) y = true ↔ ∀ i, x - d ≤ i → i ≤ x + d → ∃ s ∈ T, s.x0 ≤ i ∧ i < s.x1 ∧ hasS s.col y = true := by
  obtain ⟨h1, h2⟩ := win_ok (x := x) hd T ⟨x - d, false, true, []⟩ h rfl trivial (fun _ => ⟨by simp only; omega, rfl⟩) (fun h => by cases h)
  refine ⟨h1, fun y => (h2 y).trans ?_⟩
  simp

/-! ### A form shrunk -/
def slabsC (d : Int) (T : List Slab) : List Slab := T.map fun s => ⟨s.x0, s.x1, shr d s.col⟩
theorem canT_row {d : Int} (hd : 0 ≤ d) : ∀ {T : List Slab} {b : Int} {c : List (Int × Int)}, canT b c T → rowT (slabsC d T)
  | [], _, _, _ => trivial
  | s :: T, b, c, h => by
    have hf := canT_facts h.2.2.2.2.2
    refine ⟨h.2.1, ?_, fun u hu => ?_, canT_row hd h.2.2.2.2.2⟩
    · obtain ⟨b, hb, _⟩ := low_ex s.col []
      exact Can.of (shr_can hd (canS_ex h.2.2.2.1 b hb))
    · obtain ⟨v, hv, rfl⟩ := List.mem_map.1 hu
      exact (hf.2 v hv).1
noncomputable def eroB (d : Int) (S : Int → Int → Bool) (x y : Int) : Bool := @decide (Ero d S x y) (Classical.propDecidable _)
theorem eroB_true {d : Int} {S : Int → Int → Bool} {x y : Int} : eroB d S x y = true ↔ Ero d S x y := by
  unfold eroB; exact @decide_eq_true_iff _ (Classical.propDecidable _)
theorem cellT_ex {T : List Slab} {x y : Int} : cellT T x y = true ↔ ∃ s ∈ T, s.x0 ≤ x ∧ x < s.x1 ∧ hasS s.col y = true := by
  unfold cellT
  rw [List.any_eq_true]
  simp only [Bool.and_eq_true, decide_eq_true_eq]
  exact ⟨fun ⟨s, hs, h⟩ => ⟨s, hs, h.1.1, h.1.2, h.2⟩, fun ⟨s, hs, h1, h2, h3⟩ => ⟨s, hs, ⟨h1, h2⟩, h3⟩⟩
theorem win_ero {d : Int} (hd : 0 ≤ d) {T : List Slab} {b : Int} {c : List (Int × Int)} (h : canT b c T) (x y : Int) : hasS (winC (slabsC d T) x d) y = eroB d (cell (outT T)) x y := by
  rw [Bool.eq_iff_iff, (winC_ok hd (canT_row hd h)).2 y, eroB_true]
  have hcan := (canT_facts h).2
  constructor
  · intro hw i k h1 h2 h3 h4
    obtain ⟨u, hu, g1, g2, g3⟩ := hw i h1 h2
    obtain ⟨s, hs, rfl⟩ := List.mem_map.1 hu
    rw [cell_outT, cellT_in h s hs i k g1 g2]
    exact (shr_has hd (hcan s hs).2.2 y).1 g3 k h3 h4
  · intro he i h1 h2
    have h0 := he i y h1 h2 (by omega) (by omega)
    rw [cell_outT] at h0
    obtain ⟨s, hs, g1, g2, _⟩ := cellT_ex.1 h0
    refine ⟨⟨s.x0, s.x1, shr d s.col⟩, List.mem_map.2 ⟨s, hs, rfl⟩, g1, g2, (shr_has hd (hcan s hs).2.2 y).2 fun k h3 h4 => ?_⟩
    have h5 := he i k h1 h2 h3 h4
    rw [cell_outT, cellT_in h s hs i k g1 g2] at h5
    exact h5
def shrinkX (d : Int) (T : List Slab) : List Int := sortU (T.flatMap fun s => [s.x0 + d, s.x1 + d, s.x0 - d, s.x1 - d])
def shrinkL (d : Int) (T : List Slab) : List Rect := outT (runsF (stripL (fun x => winC (slabsC d T) x d) (shrinkX d T)))
theorem shrink_ok {d : Int} (hd : 0 ≤ d) {T : List Slab} {b : Int} {c : List (Int × Int)} (h : canT b c T) : Form (shrinkL d T) ∧ ∀ x y, cell (shrinkL d T) x y = eroB d (cell (outT T)) x y := by
  have hrow := canT_row hd h
  have hx : ∀ s ∈ T, s.x0 + d ∈ shrinkX d T ∧ s.x1 + d ∈ shrinkX d T ∧ s.x0 - d ∈ shrinkX d T ∧ s.x1 - d ∈ shrinkX d T := fun s hs => by
    unfold shrinkX
    simp only [sortU_mem]
    exact ⟨List.mem_flatMap.2 ⟨s, hs, by simp⟩, List.mem_flatMap.2 ⟨s, hs, by simp⟩, List.mem_flatMap.2 ⟨s, hs, by simp⟩, List.mem_flatMap.2 ⟨s, hs, by simp⟩⟩
  have hE : EdgesX (T.flatMap fun s => [(⟨s.x0 + d, 0, s.x1 + d, 0⟩ : Rect), ⟨s.x0 - d, 0, s.x1 - d, 0⟩]) (shrinkX d T) := fun r hr => by
    obtain ⟨s, hs, hr⟩ := List.mem_flatMap.1 hr
    have := hx s hs
    simp only [List.mem_cons, List.not_mem_nil, or_false] at hr
    rcases hr with rfl | rfl
    · exact ⟨this.1, this.2.1⟩
    · exact ⟨this.2.2.1, this.2.2.2⟩
  have one : ∀ x x', (∀ r ∈ T.flatMap fun s => [(⟨s.x0 + d, 0, s.x1 + d, 0⟩ : Rect), ⟨s.x0 - d, 0, s.x1 - d, 0⟩], (r.x0 ≤ x ↔ r.x0 ≤ x') ∧ (x < r.x1 ↔ x' < r.x1)) → ∀ y, Ero d (cell (outT T)) x y → Ero d (cell (outT T)) x' y := by
    intro x x' hr y he i k h1 h2 h3 h4
    have hs : ∀ s ∈ T, ((s.x0 + d ≤ x ↔ s.x0 + d ≤ x') ∧ (x < s.x1 + d ↔ x' < s.x1 + d)) ∧ (s.x0 - d ≤ x ↔ s.x0 - d ≤ x') ∧ (x < s.x1 - d ↔ x' < s.x1 - d) := fun s hs =>
      ⟨hr ⟨s.x0 + d, 0, s.x1 + d, 0⟩ (List.mem_flatMap.2 ⟨s, hs, by simp⟩), hr ⟨s.x0 - d, 0, s.x1 - d, 0⟩ (List.mem_flatMap.2 ⟨s, hs, by simp⟩)⟩
    have move : ∀ j, (∀ s ∈ T, (s.x0 ≤ j ↔ s.x0 ≤ i) ∧ (j < s.x1 ↔ i < s.x1)) → cell (outT T) j k = true → cell (outT T) i k = true := fun j hj hc => by
      rw [cell_outT] at hc ⊢
      rw [← hc]
      exact any_ext fun s hs => by
        obtain ⟨q1, q2⟩ := hj s hs
        simp only [q1, q2]
    by_cases c1 : i < x - d
    · exact move (x - d) (fun s hs' => by have := hs s hs'; omega) (he (x - d) k (by omega) (by omega) h3 h4)
    · by_cases c2 : x + d < i
      · exact move (x + d) (fun s hs' => by have := hs s hs'; omega) (he (x + d) k (by omega) (by omega) h3 h4)
      · exact he i k (by omega) (by omega) h3 h4
  have hS : Steps (T.flatMap fun s => [(⟨s.x0 + d, 0, s.x1 + d, 0⟩ : Rect), ⟨s.x0 - d, 0, s.x1 - d, 0⟩]) (eroB d (cell (outT T))) := by
    refine ⟨fun x x' hr y => ?_, fun x hr y => ?_⟩
    · rw [Bool.eq_iff_iff, eroB_true, eroB_true]
      exact ⟨one x x' hr y, one x' x (fun r h => ⟨(hr r h).1.symm, (hr r h).2.symm⟩) y⟩
    · rw [Bool.eq_false_iff]
      intro he
      have h0 := eroB_true.1 he (x + d) y (by omega) (by omega) (by omega) (by omega)
      rw [cell_outT] at h0
      obtain ⟨s, hs, g1, g2, _⟩ := cellT_ex.1 h0
      exact hr ⟨s.x0 - d, 0, s.x1 - d, 0⟩ (List.mem_flatMap.2 ⟨s, hs, by simp⟩) ⟨by simp only; omega, by simp only; omega⟩
  exact strips_form hS (sortU_asc _) hE (fun x => winC (slabsC d T) x d) (fun x => (winC_ok hd hrow).1) fun x _ y => win_ero hd h x y

/-! ### Gaps -/
def gapR (r s : Rect) : Int := max 0 (max (max r.x0 s.x0 - min r.x1 s.x1) (max r.y0 s.y0 - min r.y1 s.y1))
theorem gapR_comm (r s : Rect) : gapR r s = gapR s r := by unfold gapR; omega
theorem gap_grow {d : Int} {r s : Rect} (hd : 0 ≤ d) (hr : r.inBox 1048576) (hs : s.inBox 1048576) : gapR r s ≤ d ↔ ∃ x y, (growR (d + 1) r).has x y = true ∧ s.has x y = true := by
  unfold Rect.inBox at hr hs
  unfold gapR growR Rect.has
  simp only [Bool.and_eq_true, decide_eq_true_eq]
  constructor
  · intro h
    exact ⟨max s.x0 (max (r.x0 - (d + 1)) 0), max s.y0 (max (r.y0 - (d + 1)) 0), by omega, by omega⟩
  · rintro ⟨x, y, h1, h2⟩
    omega
end Go.Proofs.Ythnkmmbkdbdefaa.Rg

namespace Go.Proofs.Ythnkmmbkdbdefaa.Bm
open Go Go.RowKit
open Rg (Rect cell growR growL gapR)

theorem max3_int (a b c : Int) : aMinMax true [.int .i64 a, .int .i64 b, .int .i64 c] = some (.int .i64 (max (max a b) c)) := by
  show some (Value.int .i64 (if c > (if b > a then b else a) then c else if b > a then b else a)) = _
  congr 2
  split <;> split <;> omega
theorem box_wrap {r : Rect} {d : Int} (hr : r.inBox 1048576) (h1 : 0 ≤ d) (h2 : d ≤ 1048576) : IntKind.i64.wrap (r.x0 - d) = r.x0 - d ∧ IntKind.i64.wrap (r.y0 - d) = r.y0 - d ∧ IntKind.i64.wrap (r.x1 + d) = r.x1 + d ∧ IntKind.i64.wrap (r.y1 + d) = r.y1 + d := by
  unfold Rect.inBox at hr
  exact ⟨wrap64 (by omega) (by omega), wrap64 (by omega) (by omega), wrap64 (by omega) (by omega), wrap64 (by omega) (by omega)⟩
theorem grow_r (r : Rect) (d : Int) (hr : okR r = true) (h1 : 0 ≤ d) (h2 : d ≤ 1048576) : pureCall E.P (L E) 27 [rectR.val r, .int .i64 d] = some (.tuple ⟨[rectR.val (growR d r), .bool true]⟩) := by
  have hb := okR_iff.1 hr
  obtain ⟨w1, w2, w3, w4⟩ := box_wrap hb h1 h2
  have hs := right_s r
  rw [hr] at hs
  have hd : ¬ (d < 0) := by omega
  have hm : min d 1048576 = d := by omega
  rw [pureCall_fn F27 rfl]
  simp -implicitDefEqProofs [r27, padS, rect_val, ret0 m46, hs, hd, min_int, max_int, hm, w1, w2, w3, w4, b4_all, growR]
theorem gaps_r (r s : Rect) (hr : okR r = true) (hs : okR s = true) : pureCall E.P (L E) 57 [rectR.val r, rectR.val s] = some (.tuple ⟨[.int .i64 (max r.x0 s.x0 - min r.x1 s.x1), .int .i64 (max r.y0 s.y0 - min r.y1 s.y1)]⟩) := by
  have hb := okR_iff.1 hr
  have hc := okR_iff.1 hs
  unfold Rect.inBox at hb hc
  have w1 : IntKind.i64.wrap (max r.x0 s.x0 - min r.x1 s.x1) = max r.x0 s.x0 - min r.x1 s.x1 := wrap64 (by omega) (by omega)
  have w2 : IntKind.i64.wrap (max r.y0 s.y0 - min r.y1 s.y1) = max r.y0 s.y0 - min r.y1 s.y1 := wrap64 (by omega) (by omega)
  rw [pureCall_fn F57 rfl]
  simp -implicitDefEqProofs [r57, padS, rect_val, min_int, max_int, w1, w2]
theorem gap_r (r s : Rect) (hr : okR r = true) (hs : okR s = true) : pureCall E.P (L E) 40 [rectR.val r, rectR.val s] = some (.int .i64 (gapR r s)) := by
  have q1 := right_s r
  have q2 := right_s s
  rw [hr] at q1
  rw [hs] at q2
  have q3 := gaps_r r s hr hs
  simp only [rect_val] at q3
  have e : gapR r s = max (max 0 (max r.x0 s.x0 - min r.x1 s.x1)) (max r.y0 s.y0 - min r.y1 s.y1) := by unfold gapR; omega
  rw [e, pureCall_fn F40 rfl]
  simp -implicitDefEqProofs [r40, padS, rect_val, ret0 m46, q1, q2, ret0 m57, q3, max3_int]
theorem valid_spec (k : Option Bool) (a : List Rect) (d : Int) (hk : Rec.Ok k a) (ha : a.length ≤ 1000000) : pureCall E.P (L E) 26 [rectR.o k a, .int .i64 d] = some (.bool (decide (0 ≤ d) && decide (d ≤ 1048576) && regB a)) := by
  have hr := right2_spec k a hk ha
  rw [pureCall_fn F26 rfl]
  by_cases h1 : 0 ≤ d
  case neg => simp -implicitDefEqProofs [r26, padS, h1]
  by_cases h2 : d ≤ 1048576
  case neg => simp -implicitDefEqProofs [r26, padS, h1, h2]
  cases h3 : regB a <;> simp -implicitDefEqProofs [r26, padS, h1, h2, ret0 m39, Rec.o_reify, hr, h3]
def validB (a : List Rect) (d : Int) : Bool := decide (0 ≤ d) && decide (d ≤ 1048576) && regB a
def growX (a : List Rect) (d : Int) : Except Int (List Rect) := if validB a d then ofR (growL d a) else .error 1
theorem growL_len (d : Int) (a : List Rect) : (growL d a).length = a.length := List.length_map _
theorem grow_spec (k : Option Bool) (a : List Rect) (d : Int) (hk : Rec.Ok k a) (ha : a.length ≤ 1000000) : pureCall E.P (L E) 11 [rectR.o k a, .int .i64 d] = some (resL (growX a d)) := by
  have hv := valid_spec k a d hk ha
  change pureCall _ _ _ _ = some (.bool (validB a d)) at hv
  rw [pureCall_fn F11 rfl]
  unfold growX
  cases h0 : validB a d
  · simp -implicitDefEqProofs [r11, p11, ret0 m26, Rec.o_reify, hv, h0, resL]
  have hvb := h0
  unfold validB at hvb
  simp only [Bool.and_eq_true, decide_eq_true_eq] at hvb
  obtain ⟨⟨h1, h2⟩, h3⟩ := hvb
  obtain ⟨g1, g2, _⟩ := regB_iff.1 h3
  have hok : ∀ r ∈ a, okR r = true := List.all_eq_true.1 g1
  simp -implicitDefEqProofs [r11, p11, ret0 m26, Rec.o_reify, hv, h0, Rec.o_len hk, prep_new, newK_nil s32]
  rw [LL_for (γ := List Rect) a [] (fun i c => [(6, rectR.sl 0 c), (17, .int .i64 i)]) (fun _ c => [rectR.row 39 c])
    (fun _ rest c => (.exit 0, [(6, rectR.sl 0 (c ++ growL d rest)), (17, undef)], [rectR.row 39 (c ++ growL d rest)])) (fun i c => c.length = i) (by omega) rfl]
  · rw [List.nil_append]
    have fz := Rec.freeze_row (R := rectR) (P := E.P) (h := [rectR.row 39 (growL d a)]) (lo := 0) (b := 0) (t := 39) (l := growL d a) rfl s32 a32 (Nat.le_refl _)
    have hf := frzAll_row fz
    generalize (if (growL d a).length = 0 then _ else _) = fh at hf
    have ho := of_spec (some false) (growL d a) Rec.ok_some (by rw [growL_len]; omega)
    rw [show rectR.o (some false) (growL d a) = lst false (rectR.vals (growL d a)) from rfl] at ho
    cases hx : ofR (growL d a) with
    | error e =>
      rw [hx] at ho
      simp only [resL] at ho
      simp -implicitDefEqProofs [k11_5, ret4 m28, hf, ho, resL]
    | ok m =>
      rw [hx] at ho
      simp only [resL] at ho
      simp -implicitDefEqProofs [k11_5, ret4 m28, hf, ho, resL]
  · simp -implicitDefEqProofs [k11_5, Rec.sl_nil]
  · rfl
  · intro nx i c hi _
    simp -implicitDefEqProofs [r11_5, k11_5, hi, trim_le, growL]
  · intro nx i r rest c hi hv hd hw hc ih
    have ixi := Rec.o_index (R := rectR) (t := 39) (kk := .i64) (s := 4) rfl hk hi
    rw [hv] at ixi
    have gr := grow_r r d (hok r (by rw [← hv]; exact List.getElem_mem hi)) h1 h2
    have ap := fun q q' => app_rect (h := [rectR.row 39 c, q, q']) (b := 0) (lo := 0) (c := c) (growR d r) rfl (Nat.le_refl _) (by omega)
    have ih := ih (c ++ [growR d r]) (by simp; omega)
    have eg : growL d (r :: rest) = [growR d r] ++ growL d rest := rfl
    rw [eg, ← List.append_assoc]
    generalize growR d r = g at *
    simp only [rect_val] at gr
    simp -implicitDefEqProofs [k11_5, -List.append_assoc] at ih
    simp -implicitDefEqProofs [r11_5, k11_5, hi, ixi, rect_val, ret0 m27, gr, lit_rect, ap, hw, trim_cut, Rec.sl_bel, Rec.row_bel, Rec.o_bel, -List.append_assoc]
    exact ih
end Go.Proofs.Ythnkmmbkdbdefaa.Bm

namespace Go.Proofs.Ythnkmmbkdbdefaa.Bm
open Go Go.RowKit
open Rg (Rect Slab comC comI comI_cons)

theorem so58 : szOf E.P 58 = some 2 := by kernel_rfl
theorem ao58 : aggT E.P 58 = some true := by kernel_rfl
theorem lit_ospan (h : Heap) (a b : Int) : buildSliceT (some ⟨58, 2, 16, .agg ⟨[.int .i64 0, .int .i64 0]⟩, ⟨some true, some 2⟩⟩) false h 1 #[(0, .agg ⟨[.int .i64 a, .int .i64 b]⟩)] = some (lst true [.agg ⟨[.int .i64 a, .int .i64 b]⟩], h) :=
  (build_lit' (n := 1) (l := [(0, .agg ⟨[.int .i64 a, .int .i64 b]⟩)]) rfl rfl (by decide) (by decide) (by decide)).trans rfl
theorem app_ospan {h : Heap} {b lo : Nat} {c : List (Int × Int)} (u v : Int) (hob : h[b]? = some (spanR.row 58 c)) (hlo : lo ≤ b) (hc : c.length ≤ 100000000) :
    appendT (some ⟨58, 2, 16, .agg ⟨[.int .i64 0, .int .i64 0]⟩, ⟨some true, some 2⟩⟩) h lo false (spanR.sl b c) (lst true [.agg ⟨[.int .i64 u, .int .i64 v]⟩]) = some (spanR.sl b (c ++ [(u, v)]), h.set b (spanR.row 58 (c ++ [(u, v)]))) :=
  Rec.app (R := spanR) (m := [(u, v)]) rfl hob (Rec.cells_tree (R := spanR) rfl [(u, v)]) hlo (by show (c.length + 1) * 16 ≤ 2 ^ 47; omega)
theorem comI_len (s : Int × Int) (b : List (Int × Int)) : (comI s b).length ≤ b.length := List.length_filterMap_le _ _

set_option maxHeartbeats 1000000 in
theorem common_cols (k m : Option Bool) (a b : List (Int × Int)) (hk : Rec.Ok k a) (hm : Rec.Ok m b) (ha : a.length ≤ 1000) (hb : b.length ≤ 1000) : pureCall E.P (L E) 55 [spanR.o k a, spanR.o m b] = some (lst false (spanR.vals (comC a b))) := by
  rw [pureCall_fn F55 rfl]
  simp -implicitDefEqProofs [r55, p55, prep_new, newK_nil so58, Rec.o_len hk]
  rw [LL_for (γ := List (Int × Int)) a [] (fun i c => [(5, spanR.sl 0 c), (13, .int .i64 i)]) (fun _ c => [spanR.row 58 c])
    (fun _ rest c => (.exit 0, [(5, spanR.sl 0 (c ++ comC rest b)), (13, undef)], [spanR.row 58 (c ++ comC rest b)])) (fun i c => c.length ≤ i * 1000) (by omega) (Nat.zero_le _)]
  · have rr := Rec.reifyR_row (R := spanR) (P := E.P) (h := [spanR.row 58 (comC a b)]) (b := 0) (t := 58) (l := comC a b) rfl so58 ao58
    simp -implicitDefEqProofs [k55_3, rr]
  · simp -implicitDefEqProofs [k55_3, Rec.sl_nil]
  · rfl
  · intro nx i c hi _
    simp -implicitDefEqProofs [r55_3, k55_3, hi, trim_le, comC]
  · intro nx i s rest c hi hv hd hw hc ih
    have ixi := Rec.o_index (R := spanR) (t := 58) (kk := .i64) (s := 2) rfl hk hi
    rw [hv] at ixi
    have hcl := comI_len s b
    have ih := ih (c ++ comI s b) (by rw [List.length_append]; omega)
    have ec : comC (s :: rest) b = comI s b ++ comC rest b := rfl
    rw [ec, ← List.append_assoc]
    simp -implicitDefEqProofs [k55_3, -List.append_assoc] at ih
    simp -implicitDefEqProofs [r55_3, k55_3, hi, ixi, Rec.o_len hm, span_val, -List.append_assoc]
    rw [LL_for (γ := List (Int × Int)) b c (fun j o => [(5, spanR.sl 0 o), (19, .int .i64 j)]) (fun _ o => [spanR.row 58 o, .cells 58 [.int .i64 s.1, .int .i64 s.2] 0])
      (fun _ rest o => (.exit 2, [(5, spanR.sl 0 (o ++ comI s rest)), (19, undef)], [spanR.row 58 (o ++ comI s rest), .cells 58 [.int .i64 s.1, .int .i64 s.2] 0])) (fun j o => o.length ≤ c.length + j) (by omega) (Nat.le_refl _)]
    · simp -implicitDefEqProofs [k55_6, hw, trim_cut, Rec.sl_bel, Rec.row_bel, Rec.o_bel, -List.append_assoc]
      exact ih
    · simp -implicitDefEqProofs [k55_6]
    · rfl
    · intro nx j o hj _
      have e0 : comI s [] = [] := rfl
      simp -implicitDefEqProofs [r55_6, k55_6, hj, e0, trim_le]
    · intro nx j u rest' o hj hv' hd' hw' ho ih
      have ixj := Rec.o_index (R := spanR) (t := 58) (kk := .i64) (s := 2) rfl hm hj
      rw [hv'] at ixj
      rw [comI_cons]
      by_cases hlt : max s.1 u.1 < min s.2 u.2
      · have ap := fun q q' q'' => app_ospan (h := [spanR.row 58 o, q, q', q'']) (b := 0) (lo := 0) (c := o) (max s.1 u.1) (min s.2 u.2) rfl (Nat.le_refl _) (by omega)
        have ih := ih (o ++ [(max s.1 u.1, min s.2 u.2)]) (by simp; omega)
        rw [if_pos hlt, ← List.append_assoc]
        simp -implicitDefEqProofs [k55_6, -List.append_assoc] at ih
        simp -implicitDefEqProofs [r55_6, k55_6, hj, ixj, span_val, max_int, min_int, b2_all, hlt, hw', lit_ospan, ap, trim_cut, Rec.sl_bel, Rec.row_bel, Rec.o_bel, -List.append_assoc]
        exact ih
      · have ih := ih o (by omega)
        rw [if_neg hlt, List.nil_append]
        simp -implicitDefEqProofs [k55_6] at ih
        simp -implicitDefEqProofs [r55_6, k55_6, hj, ixj, span_val, max_int, min_int, b2_all, hlt, hw', trim_cut, Rec.sl_bel, Rec.row_bel, Rec.o_bel]
        exact ih

/-! ### The window -/
def kc (c : List (Int × Int)) : Option Bool := if c = [] then none else some false
theorem kc_ok (c : List (Int × Int)) : Rec.Ok (kc c) c := fun h => by
  unfold kc at h
  split at h
  · assumption
  · cases h
def ocol (c : List (Int × Int)) : Value := spanR.o (kc c) c
theorem ocol_set {c : List (Int × Int)} {n : Nat} : settled (n + 1) (ocol c) = true := Rec.o_set
def oslabR : Rec Slab where
  enc s := [.int .i64 s.x0, .int .i64 s.x1, ocol s.col]
  m := 2
  len _ := rfl
  set s := by
    unfold ocol kc
    split <;> rfl
  bel s n := by
    unfold ocol kc
    split <;> rfl
theorem oslab_val {s : Slab} : oslabR.val s = .agg ⟨[.int .i64 s.x0, .int .i64 s.x1, ocol s.col]⟩ := rfl
theorem so52 : szOf E.P 52 = some 3 := by kernel_rfl
theorem ao52 : aggT E.P 52 = some true := by kernel_rfl
def wH (x d : Int) (w : Rg.Win) (k : Option Bool) : Heap := [.cells 3 [.int .i64 x] 0, .cells 3 [.int .i64 d] 0, .cells 3 [.int .i64 w.next] 0, .cells 4 [.bool w.gap] 0, .cells 4 [.bool w.first] 0, .cells 50 [spanR.o k w.out] 0]
def wP (b : Nat) : Value := .pointer (some ⟨b, 0, none⟩)
def wk (x d : Int) (w : Rg.Win) (k : Option Bool) (s : Slab) : Option Bool :=
  if w.gap = true ∨ s.x1 ≤ w.next ∨ x + d < s.x0 then k
  else if w.next < s.x0 then k
  else if w.first = true then kc s.col
  else some false
theorem isCp_cptr {v : Value} : isCp (cptr v) = true := rfl
theorem rop_loadT {E : Env} {C : Callee} {lo : Nat} {ρ : Operand → Value} {h : Heap} {k : TI} {x : Operand} : ropR E C lo true (.load k x) ρ h = if isCp (ρ x) = true then (loadT k h (ρ x)).map (·, h) else none := by
  show (if (true && !isCp (ρ x)) = true then none else (loadT k h (ρ x)).map (·, h)) = _
  cases isCp (ρ x) <;> rfl
theorem win1 (x d : Int) (w : Rg.Win) (k : Option Bool) (s : Slab) (q : AObj) (hw : IntKind.i64.wrap (x + d) = x + d) (hk : Rec.Ok k w.out) (ho : w.out.length ≤ 1000) (hs : s.col.length ≤ 1000) :
    ∃ z, L E 54 [oslabR.val s, wP 3, wP 2, wP 0, wP 1, wP 4, wP 5] (wH x d w k ++ [q]) 0 = some (.tuple #[], wH x d (Rg.wstep x d w s) (wk x d w k s) ++ [q, z]) := by
  obtain ⟨next, gap, first, out⟩ := w
  simp only at hk ho
  have hcm := common_cols k (kc s.col) out s.col hk (kc_ok _) ho hs
  change pureCall _ _ _ [_, ocol s.col] = _ at hcm
  have ofit : ∀ {sz : Option Nat} c, fitsTT ⟨some false, sz⟩ (ocol c) = true := fun c => Rec.o_fits
  have ocells : ∀ c, cellsOf (ocol c) = some [ocol c] := fun c => Rec.o_cellsOf
  have eoc : ∀ c, spanR.o (kc c) c = ocol c := fun _ => rfl
  have eo : ∀ l, spanR.o (some false) l = lst false (spanR.vals l) := fun _ => rfl
  have so1 : settled depth (spanR.o k out) = true := Rec.o_set
  have so2 : settled depth (ocol s.col) = true := ocol_set
  rw [L_fn F54 rfl]
  unfold Rg.wstep wk wH wP
  simp only
  have hc3 : ([Value.int .i64 s.x0, Value.int .i64 s.x1, ocol s.col] : List Value).all (settled 8) = true := oslabR.set s
  have fz := frz_ptr8 (P := E.P) (lo := 0) (h := [.cells 3 [.int .i64 x] 0, .cells 3 [.int .i64 d] 0, .cells 3 [.int .i64 next] 0, .cells 4 [.bool false] 0, .cells 4 [.bool true] 0, .cells 50 [spanR.o k out] 0, q, .cells 52 [.int .i64 s.x0, .int .i64 s.x1, ocol s.col] 0]) (b := 7) (t := 52) (c := [.int .i64 s.x0, .int .i64 s.x1, ocol s.col]) rfl so52 ao52 (Nat.zero_le _)
  rw [if_pos hc3] at fz
  simp only [Option.map_some] at fz
  cases gap
  case true => exact ⟨.cells 52 [.int .i64 s.x0, .int .i64 s.x1, ocol s.col] 0, by simp -implicitDefEqProofs [r54, padS, oslab_val]⟩
  by_cases c1 : s.x1 ≤ next
  · exact ⟨.cells 52 [.int .i64 s.x0, .int .i64 s.x1, ocol s.col] 0, by simp -implicitDefEqProofs [r54, padS, oslab_val, c1]⟩
  by_cases c2 : x + d < s.x0
  · exact ⟨.cells 52 [.int .i64 s.x0, .int .i64 s.x1, ocol s.col] 0, by simp -implicitDefEqProofs [r54, padS, oslab_val, c1, c2, hw]⟩
  by_cases c3 : next < s.x0
  · exact ⟨.cells 52 [.int .i64 s.x0, .int .i64 s.x1, ocol s.col] 0, by simp -implicitDefEqProofs [r54, padS, oslab_val, c1, c2, c3, hw]⟩
  cases first
  · refine ⟨.cells 52 [.int .i64 s.x0, .int .i64 s.x1, ocol s.col] 0, ?_⟩
    simp -implicitDefEqProofs [r54, padS, oslab_val, c1, c2, c3, hw, ret1 m55, so1, so2, hcm, eo]
  · refine ⟨.dead, ?_⟩
    simp -implicitDefEqProofs [r54, padS, oslab_val, c1, c2, c3, hw, prep_frz, prep_still, fz, rop_loadT, isCp_cptr, eoc, ofit, ocells]

/-- The window's states. -/
def wF (x d : Int) (c : Rg.Win × Option Bool) (s : Slab) : Rg.Win × Option Bool := (Rg.wstep x d c.1 s, wk x d c.1 c.2 s)
theorem wF_fst (x d : Int) : ∀ (T : List Slab) (c : Rg.Win × Option Bool), (T.foldl (wF x d) c).1 = T.foldl (Rg.wstep x d) c.1
  | [], _ => rfl
  | s :: T, c => by rw [List.foldl_cons, List.foldl_cons, wF_fst x d T]; rfl
theorem asc_len : ∀ {L M : List Int}, L.Pairwise (· < ·) → M.Pairwise (· < ·) → (∀ z ∈ L, z ∈ M) → L.length ≤ M.length
  | [], _, _, _, _ => Nat.zero_le _
  | z :: L, [], _, _, h => absurd (h z (by simp)) List.not_mem_nil
  | z :: L, m :: M, hL, hM, h => by
    rw [List.pairwise_cons] at hL hM
    by_cases e : z = m
    · have := asc_len hL.2 hM.2 fun y hy => by
        rcases List.mem_cons.1 (h y (by simp [hy])) with h1 | h1
        · have h2 := hL.1 y hy; omega
        · exact h1
      simpa using this
    · have hz : z ∈ M := (List.mem_cons.1 (h z (by simp))).resolve_left e
      have hzm := hM.1 z hz
      have := asc_len (L := z :: L) (List.pairwise_cons.2 hL) hM.2 fun y hy => by
        rcases List.mem_cons.1 (h y hy) with h1 | h1
        · rcases List.mem_cons.1 hy with h2 | h2
          · exact absurd (h2 ▸ h1) e
          · have := hL.1 y h2; omega
        · exact h1
      exact Nat.le_succ_of_le this
theorem canS_starts : ∀ {c : List (Int × Int)} {b : Int}, Rg.canS b c → (c.map (·.1)).Pairwise (· < ·) ∧ ∀ z ∈ c.map (·.1), b < z
  | [], _, _ => ⟨.nil, fun z hz => absurd hz List.not_mem_nil⟩
  | (f, t) :: c, b, h => by
    obtain ⟨i1, i2⟩ := canS_starts h.2.2
    have h1 := h.1
    have h2 := h.2.1
    refine ⟨List.pairwise_cons.2 ⟨fun z hz => by have := i2 z hz; show f < z; omega, i1⟩, fun z hz => ?_⟩
    rcases List.mem_cons.1 hz with rfl | hz
    · exact h1
    · have := i2 z hz; omega
theorem comC_len {a b : List (Int × Int)} (ha : Rg.Can a) (hb : Rg.Can b) : (comC a b).length ≤ a.length + b.length := by
  obtain ⟨m, hm⟩ := ha.canS
  obtain ⟨n, hn⟩ := hb.canS
  have h1 := (canS_starts (Rg.comC_can hm hn)).1
  have h2 := asc_len h1 (Rg.sortU_asc (a.map (·.1) ++ b.map (·.1))) fun z hz => by
    rw [Rg.sortU_mem, List.mem_append]
    obtain ⟨s, hs, rfl⟩ := List.mem_map.1 hz
    obtain ⟨u, hu, hs⟩ := List.mem_flatMap.1 hs
    obtain ⟨v, hv, e⟩ := List.mem_filterMap.1 hs
    split at e
    · cases e
      rcases Int.le_total u.1 v.1 with q | q
      · exact .inr (List.mem_map.2 ⟨v, hv, by show v.1 = max u.1 v.1; omega⟩)
      · exact .inl (List.mem_map.2 ⟨u, hu, by show u.1 = max u.1 v.1; omega⟩)
    · cases e
  have h3 := sortU_len (a.map (·.1) ++ b.map (·.1))
  simp only [List.length_map, List.length_append] at h2 h3
  omega
theorem wF_ok (x d : Int) (c : Rg.Win × Option Bool) (s : Slab) (h : Rec.Ok c.2 c.1.out) : Rec.Ok (wF x d c s).2 (wF x d c s).1.out := by
  obtain ⟨⟨next, gap, first, out⟩, k⟩ := c
  unfold wF wk Rg.wstep
  simp only at h ⊢
  split
  · exact h
  · split
    · exact h
    · split
      · exact kc_ok _
      · exact Rec.ok_some
theorem wF_len (x d : Int) (c : Rg.Win × Option Bool) (s : Slab) (hc : Rg.Can c.1.out) (hs : Rg.Can s.col) : Rg.Can (wF x d c s).1.out ∧ (wF x d c s).1.out.length ≤ c.1.out.length + s.col.length := by
  obtain ⟨⟨next, gap, first, out⟩, k⟩ := c
  unfold wF Rg.wstep
  simp only at hc ⊢
  split
  · exact ⟨hc, by simp only; omega⟩
  · split
    · exact ⟨hc, by simp only; omega⟩
    · split
      · exact ⟨hs, by simp only; omega⟩
      · obtain ⟨m, hm⟩ := hc.canS
        obtain ⟨n, hn⟩ := hs.canS
        exact ⟨Rg.Can.of (Rg.comC_can hm hn), comC_len hc hs⟩

theorem window_spec (T : List Slab) (x d : Int) (hT : T.length ≤ 1000) (hl : Rg.sumL (fun s => s.col.length) T ≤ 900) (hc : ∀ s ∈ T, Rg.Can s.col) (w1 : IntKind.i64.wrap (x + d) = x + d) (w2 : IntKind.i64.wrap (x - d) = x - d) :
    ∃ k, Rec.Ok k (Rg.winC T x d) ∧ pureCall E.P (L E) 35 [lst false (oslabR.vals T), .int .i64 x, .int .i64 d] = some (spanR.o k (Rg.winC T x d)) := by
  have ix : ∀ (i : Nat) (hi : i < T.length), indexAddrT (.sl 52 ⟨some true, some 3⟩) (lst false (oslabR.vals T)) (.int .i64 (i : Int)) = some (cptr (oslabR.val T[i])) := fun i hi => Rec.index_tree rfl hi
  have hwc : Rg.winC T x d = if (T.foldl (wF x d) (⟨x - d, false, true, []⟩, none)).1.gap = true ∨ (T.foldl (wF x d) (⟨x - d, false, true, []⟩, none)).1.next ≤ x + d then [] else (T.foldl (wF x d) (⟨x - d, false, true, []⟩, none)).1.out := by
    unfold Rg.winC
    rw [wF_fst]
  rw [hwc]
  have zs : (E.P.info? 50).bind (·.zero) = some (.slice none 0 0) := by kernel_rfl
  rw [pureCall_fn F35 rfl]
  simp -implicitDefEqProofs [r35, p35, w2, Rec.vals_len]
  generalize hw0 : ((⟨x - d, false, true, []⟩, none) : Rg.Win × Option Bool) = c0
  have heap0 : [AObj.cells 3 [.int .i64 x] 0, .cells 3 [.int .i64 d] 0, .cells 3 [.int .i64 (x - d)] 0, .cells 4 [.bool false] 0, .cells 4 [.bool true] 0, .cells 50 [.slice none 0 0] 0] = wH x d c0.1 c0.2 := by rw [← hw0]; rfl
  have inv0 : Rec.Ok c0.2 c0.1.out ∧ Rg.Can c0.1.out ∧ c0.1.out.length ≤ Rg.sumL (fun s => s.col.length) (T.take 0) := by rw [← hw0]; exact ⟨fun _ => rfl, trivial, Nat.zero_le _⟩
  rw [heap0]
  have sumT : ∀ i, Rg.sumL (fun s => s.col.length) (T.take i) ≤ Rg.sumL (fun s => s.col.length) T := fun i => by
    have : ∀ (l m : List Slab), Rg.sumL (fun s => s.col.length) (l ++ m) = Rg.sumL (fun s => s.col.length) l + Rg.sumL (fun s => s.col.length) m := by
      intro l m
      induction l with
      | nil => simp [Rg.sumL]
      | cons a l ih => show a.col.length + Rg.sumL _ (l ++ m) = a.col.length + Rg.sumL _ l + _; rw [ih]; omega
    have e := this (T.take i) (T.drop i)
    rw [List.take_append_drop] at e
    omega
  have sumS : ∀ i (hi : i < T.length), Rg.sumL (fun s => s.col.length) (T.take (i + 1)) = Rg.sumL (fun s => s.col.length) (T.take i) + T[i].col.length := fun i hi => by
    rw [List.take_succ_eq_append_getElem hi]
    generalize T.take i = l
    induction l with
    | nil => simp [Rg.sumL]
    | cons a l ih => show a.col.length + Rg.sumL _ (l ++ _) = a.col.length + Rg.sumL _ l + _; rw [ih]; omega
  refine ⟨if (T.foldl (wF x d) c0).1.gap = true ∨ (T.foldl (wF x d) c0).1.next ≤ x + d then none else (T.foldl (wF x d) c0).2, ?_, ?_⟩
  · split
    · exact fun _ => rfl
    · have key : ∀ (T : List Slab) (c : Rg.Win × Option Bool), Rec.Ok c.2 c.1.out → Rec.Ok (T.foldl (wF x d) c).2 (T.foldl (wF x d) c).1.out := by
        intro T
        induction T with
        | nil => intro c h; exact h
        | cons s T ih => intro c h; exact ih _ (wF_ok x d c s h)
      exact key T c0 inv0.1
  rw [LL_for (γ := Rg.Win × Option Bool) T c0 (fun i _ => [(20, .int .i64 i)]) (fun _ c => wH x d c.1 c.2)
    (fun _ rest c => (.exit 0, [(20, undef)], wH x d (rest.foldl (wF x d) c).1 (rest.foldl (wF x d) c).2)) (fun i c => Rec.Ok c.2 c.1.out ∧ Rg.Can c.1.out ∧ c.1.out.length ≤ Rg.sumL (fun s => s.col.length) (T.take i)) (by omega) inv0]
  · generalize T.foldl (wF x d) c0 = c
    obtain ⟨⟨next, gap, first, out⟩, k⟩ := c
    unfold wH
    simp only
    cases gap
    · by_cases hn : next ≤ x + d
      · simp -implicitDefEqProofs [k35_5, w1, hn, Rec.o]
      · simp -implicitDefEqProofs [k35_5, w1, hn, Rec.o_reifyR]
    · simp -implicitDefEqProofs [k35_5, Rec.o]
  · simp -implicitDefEqProofs [k35_5]
  · rfl
  · intro nx i c hi _
    simp -implicitDefEqProofs [r35_5, k35_5, hi, trim_le]
  · intro nx i s rest c hi hv hd hw hI ih
    obtain ⟨I1, I2, I3⟩ := hI
    have hsum := sumT (i + 1)
    have hss := sumS i hi
    rw [hv] at hss
    have hcs : Rg.Can s.col := hc s (by rw [← hv]; exact List.getElem_mem hi)
    obtain ⟨z, hz⟩ := win1 x d c.1 c.2 s (.cells 52 [.int .i64 s.x0, .int .i64 s.x1, ocol s.col] 0) w1 I1 (by omega) (by omega)
    obtain ⟨l1, l2⟩ := wF_len x d c s I2 hcs
    have ih := ih (wF x d c s) ⟨wF_ok x d c s I1, l1, by omega⟩
    have ixi := ix i hi
    rw [hv, oslab_val] at ixi
    rw [oslab_val] at hz
    rw [List.foldl_cons]
    have ocells : ∀ c, cellsOf (ocol c) = some [ocol c] := fun c => Rec.o_cellsOf
    have hz2 : L E 54 [.agg #[.int .i64 s.x0, .int .i64 s.x1, ocol s.col], .pointer (some ⟨3, 0, none⟩), .pointer (some ⟨2, 0, none⟩), .pointer (some ⟨0, 0, none⟩), .pointer (some ⟨1, 0, none⟩), .pointer (some ⟨4, 0, none⟩), .pointer (some ⟨5, 0, none⟩)] (wH x d c.1 c.2 ++ [.cells 52 [.int .i64 s.x0, .int .i64 s.x1, ocol s.col] 0]) 0 =
      some (.tuple #[], wH x d (wF x d c s).1 (wF x d c s).2 ++ [.cells 52 [.int .i64 s.x0, .int .i64 s.x1, ocol s.col] 0, z]) := hz
    have hl : ∀ w k, (wH x d w k).length = 6 := fun _ _ => rfl
    have tk : ∀ w k q z, (wH x d w k ++ [q, z]).take 6 = wH x d w k := fun _ _ _ _ => rfl
    have bl : ∀ w k, (wH x d w k).all (belowO 6) = true := fun w k => by
      unfold wH
      simp only [List.all_cons, List.all_nil, belO_cells, bel_int, bel_bool, Rec.o_bel, Bool.and_self]
    generalize wF x d c s = c' at ih hz2 ⊢
    obtain ⟨w', k'⟩ := c'
    obtain ⟨w, k⟩ := c
    simp only at hz2 ih ⊢
    simp -implicitDefEqProofs [k35_5] at ih
    simp -implicitDefEqProofs [r35_5, k35_5, hi, ixi, ret2 m54, hl, hz2, hw, trim_cut, tk, bl, -List.all_eq_true]
    exact ih
end Go.Proofs.Ythnkmmbkdbdefaa.Bm

namespace Go.Proofs.Ythnkmmbkdbdefaa.Bm
open Go Go.RowKit

/-- How records are laid. -/
structure Lay (α : Type) where
  enc : α → List Value
  m : Nat
  len : ∀ a, (enc a).length = m + 1
namespace Lay
variable {α : Type} (R : Lay α)
def flat (l : List α) : List Value := l.flatMap R.enc
def row (t : TypeId) (l : List α) : AObj := .cells t (R.flat l) (R.m + 1)
/-- A slice of the whole row. -/
def sl (b : Nat) (l : List α) : Value := .slice (some ⟨b, 0, some (l.length * (R.m + 1))⟩) l.length l.length
variable {R}
theorem flat_len : ∀ {l : List α}, (R.flat l).length = l.length * (R.m + 1)
  | [] => by simp [flat]
  | a :: l => by
    have := flat_len (l := l)
    show (R.enc a ++ R.flat l).length = (l.length + 1) * (R.m + 1)
    rw [List.length_append, R.len, this, Nat.add_mul]; omega
theorem flat_app {l m : List α} : R.flat (l ++ m) = R.flat l ++ R.flat m := List.flatMap_append
theorem flat_one {a : α} : R.flat [a] = R.enc a := by simp [flat]
theorem sl_bel {n d b : Nat} {l : List α} (h : b < n) : below (d + 1) n (R.sl b l) = true := decide_eq_true h
theorem sl_len {h : Heap} {b : Nat} {l : List α} : lenT .sl h (R.sl b l) = some (.int .i64 l.length) := rfl
theorem sl_nil {b : Nat} : R.sl b [] = .slice (some ⟨b, 0, some 0⟩) 0 0 := by unfold sl; simp
theorem app {el : El} {h : Heap} {lo b : Nat} {t : TypeId} {acc m : List α} {u : Value} (hel : el.size = R.m + 1) (hob : h[b]? = some (R.row t acc)) (hu : sliceCells h el.size u = some (R.flat m, m.length)) (hlo : lo ≤ b) (hb : (acc.length + m.length) * el.bytes ≤ 2 ^ 47) :
    appendT (some el) h lo false (R.sl b acc) u = some (R.sl b (acc ++ m), h.set b (R.row t (acc ++ m))) := by
  have hob' : h[b]? = some (.cells t (R.flat acc) (R.m + 1)) := hob
  unfold sl
  rw [append_slice, hu]
  show appS el h lo false _ _ _ h[b]? _ = _
  rw [hob']
  by_cases hm : m.length = 0
  · have : m = [] := List.eq_nil_of_length_eq_zero hm
    subst this
    have hf : fitsRow h ⟨b, 0, some (acc.length * (R.m + 1))⟩ el.size = true := by
      unfold fitsRow
      show (match h[b]? with | some (.cells _ c g) => _ | _ => false) = true
      rw [hob']
      simp [stampOk, flat_len, hel]
    unfold appS
    simp only [List.append_nil, List.length_nil, Nat.add_zero, Nat.le_refl, if_true, hf, Option.bind_some]
    congr 2
    refine (List.ext_getElem? fun i => ?_)
    rw [List.getElem?_set]
    split
    · rename_i e; subst e
      split
      · exact hob
      · rename_i hlt; rw [List.getElem?_eq_none (by omega)]
    · rfl
  · refine (appS_grown (m := m.length) hm flat_len.symm rfl hel flat_len.symm hlo hb).trans ?_
    unfold row
    rw [flat_app, ← flat_app, flat_len, List.length_append]
theorem flat_drop : ∀ {l : List α} {i : Nat}, (R.flat l).drop (i * (R.m + 1)) = R.flat (l.drop i)
  | [], i => by simp [flat]
  | a :: l, 0 => by simp
  | a :: l, i + 1 => by
    have := flat_drop (l := l) (i := i)
    show (R.enc a ++ R.flat l).drop _ = R.flat (l.drop i)
    rw [← this, List.drop_append, List.drop_of_length_le (by rw [R.len, Nat.add_mul]; omega), R.len, List.nil_append]
    congr 1
    rw [Nat.add_mul]; omega
theorem flat_at {l : List α} {i : Nat} (h : i < l.length) : ((R.flat l).drop (i * (R.m + 1))).take (R.m + 1) = R.enc l[i] := by
  rw [flat_drop, List.drop_eq_getElem_cons h]
  show (R.enc l[i] ++ R.flat _).take _ = _
  rw [List.take_append, List.take_of_length_le (by rw [R.len]; exact Nat.le_refl _), R.len, Nat.sub_self, List.take_zero, List.append_nil]
theorem flat_get {l : List α} {i j : Nat} (h : i < l.length) (hj : j < R.m + 1) : (R.flat l)[i * (R.m + 1) + j]? = (R.enc l[i])[j]? := by
  rw [← flat_at h, List.getElem?_take, if_pos hj, List.getElem?_drop]
theorem in_row {l : List α} {i : Nat} (h : i < l.length) : i * (R.m + 1) + (R.m + 1) ≤ l.length * (R.m + 1) := by
  have := Nat.mul_le_mul_right (R.m + 1) (show i + 1 ≤ l.length from h)
  rw [Nat.add_mul] at this; omega
def at_ (R : Lay α) (b : Nat) (l : List α) (i j : Nat) : Value := .pointer (some ⟨b, i * (R.m + 1) + j, some (l.length * (R.m + 1))⟩)
theorem index_row {h0 : Nat} {t : TypeId} {g : Option Bool} {b : Nat} {l : List α} {i : Nat} {k : IntKind} (hk : h0 = R.m + 1) (h1 : i < l.length) : indexAddrT (.sl t ⟨g, some h0⟩) (R.sl b l) (.int k (i : Int)) = some (R.at_ b l i 0) := by
  subst hk
  unfold sl
  rw [index_slice, if_pos ⟨by omega, by omega⟩]
  simp [shift, at_]
theorem field_row {b n f : Nat} {l : List α} {i : Nat} {k : TI} {g : Option Bool} : fieldAddrT k (some (f, ⟨g, some (n + 1)⟩)) (R.at_ b l i 0) = some (R.at_ b l i f) := by
  unfold at_
  rw [fieldAddr_ptr]
  simp [shift]
theorem load_cell {h : Heap} {b j : Nat} {t : TypeId} {l : List α} {i : Nat} {sz : Option Nat} (hob : h[b]? = some (R.row t l)) (h1 : i < l.length) (hj : j < R.m + 1) : loadT ⟨some false, sz⟩ h (R.at_ b l i j) = (R.enc l[i])[j]? := by
  unfold at_
  rw [load_one]
  have e : rowOf h ⟨b, i * (R.m + 1) + j, some (l.length * (R.m + 1))⟩ = some (R.flat l) := by
    unfold rowOf
    show (match h[b]? with | some (.cells _ c g) => _ | _ => none) = _
    rw [hob]
    show (if stampOk _ (R.m + 1) (R.flat l).length = true then some (R.flat l) else none) = _
    rw [if_pos (by unfold stampOk; rw [flat_len]; simp)]
  rw [e, Option.bind_some]
  exact flat_get h1 hj
theorem flat_put {l : List α} {i j : Nat} {v : Value} {a : α} (h : i < l.length) (hj : j < R.m + 1) (he : (R.enc l[i]).set j v = R.enc a) : (R.flat l).set (i * (R.m + 1) + j) v = R.flat (l.set i a) := by
  induction l generalizing i with
  | nil => simp at h
  | cons x l ih =>
    cases i with
    | zero =>
      show (R.enc x ++ R.flat l).set _ v = R.enc a ++ R.flat l
      rw [Nat.zero_mul, Nat.zero_add, List.set_append_left _ _ (by rw [R.len]; exact hj)]
      congr 1
    | succ i =>
      have h' : i < l.length := by simpa using h
      show (R.enc x ++ R.flat l).set _ v = R.enc x ++ R.flat (l.set i a)
      rw [List.set_append_right _ _ (by rw [R.len, Nat.add_mul]; omega), R.len]
      congr 1
      rw [← ih h' he]
      congr 1
      rw [Nat.add_mul]; omega
theorem store_cell {h : Heap} {b j lo : Nat} {t : TypeId} {l : List α} {i : Nat} {v : Value} {a : α} (hv : cellsOf v = some [v]) (hob : h[b]? = some (R.row t l)) (hlo : lo ≤ b) (h1 : i < l.length) (hj : j < R.m + 1) (he : (R.enc l[i]).set j v = R.enc a) :
    storeT (some 1) h lo v (R.at_ b l i j) = some (h.set b (R.row t (l.set i a))) := by
  unfold at_
  rw [store_ptr, hv, Option.bind_some]
  have hob' : h[b]? = some (.cells t (R.flat l) (R.m + 1)) := hob
  have hin := in_row (R := R) h1
  rw [if_pos (by rfl)]
  unfold wrN
  show (match h[b]? with | some (.cells t c g) => _ | _ => none) = _
  rw [hob']
  show (if _ then _ else none) = _
  rw [if_pos ⟨hlo, by unfold stampOk; rw [flat_len]; simp, by simp, by rw [flat_len]; simp; omega⟩]
  show some (h.set b (.cells t (splice (R.flat l) (i * (R.m + 1) + j) [v]) (R.m + 1))) = _
  rw [splice_one (by rw [flat_len]; omega), flat_put h1 hj he]; rfl
end Lay
end Go.Proofs.Ythnkmmbkdbdefaa.Bm

namespace Go.Proofs.Ythnkmmbkdbdefaa.Bm
open Go Go.RowKit
open Rg (Rect Slab)

def lay3 : Lay (Int × Int × Value) where
  enc p := [.int .i64 p.1, .int .i64 p.2.1, p.2.2]
  m := 2
  len _ := rfl
def scolV (b : Nat) (c : List (Int × Int)) : Value := if c = [] then .slice none 0 0 else spanR.sl (b + 1) c
def boxO (r : Rect) : AObj := .cells 39 [.int .i64 r.x0, .int .i64 r.y0, .int .i64 r.x1, .int .i64 r.y1] 0
def sT (p : Slab × Rect) : Heap := if p.1.col = [] then [] else [boxO p.2, spanR.row 58 p.1.col]
def sH (l : List (Slab × Rect)) : Heap := l.flatMap sT
def encA : Nat → List (Slab × Rect) → List (Int × Int × Value)
  | _, [] => []
  | b, p :: l => (p.1.x0, p.1.x1, scolV b p.1.col) :: encA (b + (sT p).length) l
def HL (l : List (Slab × Rect)) : Heap := lay3.row 52 (encA 1 l) :: sH l
theorem sH_app {l m : List (Slab × Rect)} : sH (l ++ m) = sH l ++ sH m := List.flatMap_append
theorem sH_one {p : Slab × Rect} : sH [p] = sT p := by simp [sH]
theorem encA_app : ∀ {l m : List (Slab × Rect)} {b : Nat}, encA b (l ++ m) = encA b l ++ encA (b + (sH l).length) m
  | [], m, b => by simp [encA, sH]
  | p :: l, m, b => by
    show _ :: encA _ (l ++ m) = (_ :: encA _ l) ++ _
    have e : sH (p :: l) = sT p ++ sH l := rfl
    rw [encA_app, e, List.length_append, Nat.add_assoc]
    rfl
theorem encA_len : ∀ {l : List (Slab × Rect)} {b : Nat}, (encA b l).length = l.length
  | [], _ => rfl
  | p :: l, b => by show (encA _ l).length + 1 = l.length + 1; rw [encA_len]

/-! ### What is said of it at the end -/
theorem reify_cols {P : Go.Program} {n : Nat} (so : szOf P 58 = some 2) (ao : aggT P 58 = some true) {h : Heap} : ∀ (l : List (Slab × Rect)) (pre : Heap), h = pre ++ sH l → mapR P (n + 1) h (lay3.flat (encA pre.length l)) = some (oslabR.flat (l.map (·.1)))
  | [], _, _ => rfl
  | p :: l, pre, e => by
    have e1 : sH (p :: l) = sT p ++ sH l := rfl
    have ih := reify_cols (n := n) (h := h) so ao l (pre ++ sT p) (by rw [List.append_assoc, e, e1])
    rw [List.length_append] at ih
    show mapR P (n + 1) h ([.int .i64 p.1.x0, .int .i64 p.1.x1, scolV pre.length p.1.col] ++ lay3.flat (encA (pre.length + (sT p).length) l)) = some ([.int .i64 p.1.x0, .int .i64 p.1.x1, ocol p.1.col] ++ oslabR.flat (l.map (·.1)))
    have hc : reify P (n + 1) h (scolV pre.length p.1.col) = some (ocol p.1.col) := by
      unfold scolV ocol kc
      by_cases hc : p.1.col = []
      · rw [if_pos hc, if_pos hc, hc]; rfl
      · rw [if_neg hc, if_neg hc]
        refine Rec.reify_row (t := 58) ?_ so ao
        rw [e, e1, List.getElem?_append_right (by omega)]
        unfold sT
        rw [if_neg hc]
        simp
    simp only [List.cons_append, List.nil_append, mapR_cons, ih, hc]
    rfl
theorem reify_settled : ∀ (l : List (Slab × Rect)) (b : Nat), (lay3.flat (encA b l)).all (settled 8) = true → lay3.flat (encA b l) = oslabR.flat (l.map (·.1))
  | [], _, _ => rfl
  | p :: l, b, h => by
    have h : ([.int .i64 p.1.x0, .int .i64 p.1.x1, scolV b p.1.col] ++ lay3.flat (encA (b + (sT p).length) l)).all (settled 8) = true := h
    rw [List.all_append, Bool.and_eq_true] at h
    have ih := reify_settled l _ h.2
    have hc : scolV b p.1.col = ocol p.1.col := by
      have h1 := h.1
      simp only [List.all_cons, Bool.and_eq_true] at h1
      have h2 := h1.2.2.1
      unfold scolV at h2 ⊢
      unfold ocol kc
      by_cases hc : p.1.col = []
      · rw [if_pos hc, if_pos hc, hc]; rfl
      · rw [if_neg hc] at h2
        cases h2
    show [.int .i64 p.1.x0, .int .i64 p.1.x1, scolV b p.1.col] ++ lay3.flat (encA (b + (sT p).length) l) = [.int .i64 p.1.x0, .int .i64 p.1.x1, ocol p.1.col] ++ oslabR.flat (l.map (·.1))
    rw [hc, ih]
theorem reify_HL {P : Go.Program} (so : szOf P 58 = some 2) (ao : aggT P 58 = some true) (sl : szOf P 52 = some 3) (al : aggT P 52 = some true) (l : List (Slab × Rect)) : reifyR P (HL l) (lay3.sl 0 (encA 1 l)) = some (lst false (oslabR.vals (l.map (·.1)))) := by
  show reify P 8 (HL l) (lay3.sl 0 (encA 1 l)) = _
  unfold Lay.sl
  rw [reify_slice]
  by_cases h0 : (encA 1 l).length = 0
  · have : l = [] := List.eq_nil_of_length_eq_zero (by rw [← h0, encA_len])
    subst this; rfl
  · rw [if_neg h0]
    show reifyS P 7 (HL l) (some (lay3.row 52 (encA 1 l))) _ _ = _
    unfold Lay.row
    rw [reifyS_cells, sl, Option.bind_some, if_pos ⟨by unfold stampOk; rw [Lay.flat_len]; simp, by omega, by rw [Lay.flat_len]; simp [lay3]⟩]
    have e : ((lay3.flat (encA 1 l)).drop 0).take ((encA 1 l).length * 3) = lay3.flat (encA 1 l) := by rw [List.drop_zero, List.take_of_length_le (by rw [Lay.flat_len]; exact Nat.le_refl _)]
    rw [e]
    have hR : reifyC P 7 (HL l) (lay3.flat (encA 1 l)) = some (oslabR.flat (l.map (·.1))) := by
      cases hs : (lay3.flat (encA 1 l)).all (settled 8)
      · rw [reifyC_map hs]
        exact reify_cols so ao l [lay3.row 52 (encA 1 l)] rfl
      · rw [reifyC_set hs, reify_settled l 1 hs]
    rw [hR, Option.bind_some, encA_len]
    have := Rec.elems (R := oslabR) (l := l.map (·.1)) sl al
    rw [List.length_map] at this
    rw [this]; rfl
end Go.Proofs.Ythnkmmbkdbdefaa.Bm
