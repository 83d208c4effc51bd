/-
  Chapter 21, plain: the days that may be chosen: sorted, without repetitions, and in descending order; and the greedy way to find them. Conditions: none. No program in sight.
-/
import Derived.Test.YtippkkkddhnmhaaC21g
namespace Go.Proofs.Ytippkkkddhnmhaa.Bm
open Go Go.RowKit

/-! ### Lists that descend -/

theorem desc_unique {a b : List Int} (ha : a.Pairwise (· > ·)) (hb : b.Pairwise (· > ·)) (h : ∀ z, z ∈ a ↔ z ∈ b) : a = b := by
  have na : a.Nodup := ha.imp fun h e => by omega
  have nb : b.Nodup := hb.imp fun h e => by omega
  exact List.Perm.eq_of_pairwise (le := (· > ·)) (fun x y _ _ h1 h2 => by omega) ha hb ((List.perm_ext_iff_of_nodup na nb).2 h)

theorem compG_mem : ∀ (l : List Int) (p : Option Int) (z : Int), z ∈ compG p l → z ∈ l
  | [], _, _, h => h
  | a :: l, p, z, h => by
    unfold compG at h
    split at h
    · exact List.mem_cons_of_mem _ (compG_mem l p z h)
    · rcases List.mem_cons.1 h with e | e
      · exact e ▸ List.mem_cons_self
      · exact List.mem_cons_of_mem _ (compG_mem l _ z e)
theorem compG_mem' : ∀ (l : List Int) (p : Option Int) (z : Int), z ∈ l → z ∈ compG p l ∨ p = some z
  | a :: l, p, z, h => by
    unfold compG
    split
    · rename_i e
      rcases List.mem_cons.1 h with h | h
      · exact .inr (h ▸ e)
      · exact compG_mem' l p z h
    · rcases List.mem_cons.1 h with h | h
      · exact .inl (h ▸ List.mem_cons_self)
      · rcases compG_mem' l (some a) z h with h | h
        · exact .inl (List.mem_cons_of_mem _ h)
        · cases h; exact .inl List.mem_cons_self
theorem compG_asc : ∀ (l : List Int) (p : Option Int), l.Pairwise (· ≤ ·) → (∀ q, p = some q → ∀ z ∈ l, q ≤ z) → (compG p l).Pairwise (· < ·) ∧ ∀ q, p = some q → ∀ z ∈ compG p l, q < z
  | [], _, _, _ => ⟨.nil, fun _ _ _ h => (by cases h)⟩
  | a :: l, p, h, hq => by
    have ⟨h1, h2⟩ := List.pairwise_cons.1 h
    unfold compG
    split
    · exact compG_asc l p h2 fun q hp z hz => hq q hp z (List.mem_cons_of_mem _ hz)
    · rename_i hne
      have ⟨k1, k2⟩ := compG_asc l (some a) h2 fun q hp z hz => by cases hp; exact h1 z hz
      refine ⟨List.pairwise_cons.2 ⟨fun z hz => k2 a rfl z hz, k1⟩, fun q hp z hz => ?_⟩
      have hqa : q < a := by
        have := hq q hp a List.mem_cons_self
        have : q ≠ a := fun e => hne (by rw [hp, e])
        omega
      rcases List.mem_cons.1 hz with e | e
      · exact e ▸ hqa
      · have := k2 a rfl z e; omega

theorem daysL_desc (p : Plan) (day : Int) : (daysL p day).Pairwise (· > ·) := by
  unfold daysL
  rw [List.pairwise_reverse]
  exact (compG_asc _ none (sortI_sorted _) fun q h => by cases h).1
theorem daysL_mem (p : Plan) (day z : Int) : z ∈ daysL p day ↔ z = day ∨ z ∈ newF day p.rules := by
  unfold daysL
  rw [List.mem_reverse]
  constructor
  · intro h
    have := (sortI_perm _).mem_iff.1 (compG_mem _ _ _ h)
    exact List.mem_cons.1 this
  · intro h
    have := (sortI_perm (day :: newF day p.rules)).mem_iff.2 (List.mem_cons.2 h)
    rcases compG_mem' _ none z this with h | h
    · exact h
    · cases h
theorem newF_mem {day z : Int} {l : List Rule} : z ∈ newF day l ↔ ∃ r ∈ l, newB day r = true ∧ r.fr - 1 = z := by
  unfold newF
  simp only [List.mem_map, List.mem_filter, and_assoc]

/-! ### The greedy way -/

def bestS (day last : Int) (b : Int) (r : Rule) : Int := if newB day r = true ∧ r.fr - 1 < last then max b (r.fr - 1) else b
def bestF (day last : Int) (l : List Rule) : Int := l.foldl (bestS day last) (-1)
def greedy (day : Int) (l : List Rule) : Nat → Int → List Int
  | 0, _ => []
  | k + 1, last => if bestF day last l < 0 then [] else bestF day last l :: greedy day l k (bestF day last l)

theorem best_fold (day last : Int) : ∀ (l : List Rule) (b : Int), b ≤ l.foldl (bestS day last) b ∧ (∀ r ∈ l, newB day r = true → r.fr - 1 < last → r.fr - 1 ≤ l.foldl (bestS day last) b) ∧
    (l.foldl (bestS day last) b = b ∨ ∃ r ∈ l, newB day r = true ∧ r.fr - 1 < last ∧ l.foldl (bestS day last) b = r.fr - 1)
  | [], b => ⟨Int.le_refl _, fun _ h => (by cases h), .inl rfl⟩
  | r :: l, b => by
    obtain ⟨h1, h2, h3⟩ := best_fold day last l (bestS day last b r)
    rw [List.foldl_cons]
    have hb : b ≤ bestS day last b r := by unfold bestS; split <;> omega
    refine ⟨by omega, fun r' hr' hn hl => ?_, ?_⟩
    · rcases List.mem_cons.1 hr' with e | e
      · subst e
        have : r'.fr - 1 ≤ bestS day last b r' := by unfold bestS; rw [if_pos ⟨hn, hl⟩]; omega
        omega
      · exact h2 r' e hn hl
    · rcases h3 with e | ⟨r', hr', k⟩
      · rw [e]
        unfold bestS
        split
        · rename_i hc
          rcases Int.le_total b (r.fr - 1) with h | h
          · exact .inr ⟨r, List.mem_cons_self, hc.1, hc.2, by omega⟩
          · exact .inl (by omega)
        · exact .inl rfl
      · exact .inr ⟨r', List.mem_cons_of_mem _ hr', k⟩

theorem newB_pos {day : Int} {r : Rule} (h : newB day r = true) : 1 ≤ r.fr ∧ r.fr ≤ day := by
  unfold newB at h
  simp only [Bool.and_eq_true, decide_eq_true_eq] at h
  exact ⟨h.1, h.2.1⟩

def below_ (day last : Int) (l : List Rule) : List Rule := l.filter fun r => newB day r && decide (r.fr - 1 < last)
theorem below_lt {day a b : Int} {l : List Rule} {r : Rule} (hr : r ∈ l) (hn : newB day r = true) (h1 : ¬ r.fr - 1 < a) (h2 : r.fr - 1 < b) (_hab : a ≤ b) : (below_ day a l).length < (below_ day b l).length := by
  induction l with
  | nil => cases hr
  | cons x l ih =>
    have mono : (below_ day a l).length ≤ (below_ day b l).length := by
      have : ∀ l : List Rule, (below_ day a l).length ≤ (below_ day b l).length := by
        intro l
        induction l with
        | nil => exact Nat.le_refl _
        | cons y l ih =>
          unfold below_ at ih ⊢
          by_cases q1 : newB day y = true
          · by_cases q2 : y.fr - 1 < a
            · have q3 : y.fr - 1 < b := by omega
              simp [q1, q2, q3] at ih ⊢; exact ih
            · by_cases q3 : y.fr - 1 < b
              · simp [q1, q2, q3] at ih ⊢; omega
              · simp [q1, q2, q3] at ih ⊢; exact ih
          · simp [q1] at ih ⊢; exact ih
      exact this l
    rcases List.mem_cons.1 hr with e | e
    · subst e
      unfold below_ at mono ⊢
      simp [hn, h1, h2] at mono ⊢; omega
    · have := ih e
      unfold below_ at this ⊢
      by_cases q1 : newB day x = true
      · by_cases q2 : x.fr - 1 < a
        · have q3 : x.fr - 1 < b := by omega
          simp [q1, q2, q3] at this ⊢; exact this
        · by_cases q3 : x.fr - 1 < b
          · simp [q1, q2, q3] at this ⊢; omega
          · simp [q1, q2, q3] at this ⊢; exact this
      · simp [q1] at this ⊢; exact this

theorem greedy_ok (day : Int) (l : List Rule) : ∀ (k : Nat) (last : Int), (below_ day last l).length ≤ k →
    (greedy day l k last).Pairwise (· > ·) ∧ ∀ z, z ∈ greedy day l k last ↔ (z < last ∧ ∃ r ∈ l, newB day r = true ∧ r.fr - 1 = z)
  | 0, last, h => by
    refine ⟨.nil, fun z => ⟨fun h => (by cases h), fun ⟨h1, r, hr, hn, e⟩ => ?_⟩⟩
    have : r ∈ below_ day last l := List.mem_filter.2 ⟨hr, by simp [hn]; omega⟩
    rw [List.eq_nil_of_length_eq_zero (Nat.le_zero.1 h)] at this
    cases this
  | k + 1, last, h => by
    obtain ⟨b1, b2, b3⟩ := best_fold day last l (-1)
    have hB : bestF day last l = l.foldl (bestS day last) (-1) := rfl
    rw [← hB] at b1 b2 b3
    unfold greedy
    split
    · rename_i hneg
      refine ⟨.nil, fun z => ⟨fun h => (by cases h), fun ⟨h1, r, hr, hn, e⟩ => ?_⟩⟩
      have := b2 r hr hn (by omega)
      have := newB_pos hn
      omega
    · rename_i hpos
      rcases b3 with e | ⟨r, hr, hn, hl, e⟩
      · omega
      · have hlt := below_lt (a := bestF day last l) (b := last) hr hn (by omega) (by omega) (by omega)
        obtain ⟨g1, g2⟩ := greedy_ok day l k (bestF day last l) (by omega)
        refine ⟨List.pairwise_cons.2 ⟨fun z hz => ((g2 z).1 hz).1, g1⟩, fun z => ?_⟩
        rw [List.mem_cons, g2]
        constructor
        · rintro (hz | ⟨hz, k⟩)
          · exact ⟨by omega, r, hr, hn, by omega⟩
          · exact ⟨by omega, k⟩
        · rintro ⟨hz, r', hr', hn', e'⟩
          have := b2 r' hr' hn' (by omega)
          rcases Int.lt_trichotomy z (bestF day last l) with q | q | q
          · exact .inr ⟨q, r', hr', hn', e'⟩
          · exact .inl q
          · omega

theorem days_greedy (p : Plan) (day : Int) : daysL p day = day :: greedy day p.rules p.rules.length day := by
  obtain ⟨g1, g2⟩ := greedy_ok day p.rules p.rules.length day (List.length_filter_le _ _)
  refine desc_unique (daysL_desc p day) (List.pairwise_cons.2 ⟨fun z hz => ((g2 z).1 hz).1, g1⟩) fun z => ?_
  rw [daysL_mem, newF_mem, List.mem_cons, g2]
  constructor
  · rintro (h | ⟨r, hr, hn, e⟩)
    · exact .inl h
    · exact .inr ⟨by have := newB_pos hn; omega, r, hr, hn, e⟩
  · rintro (h | ⟨_, k⟩)
    · exact .inl h
    · exact .inr k

end Go.Proofs.Ytippkkkddhnmhaa.Bm
