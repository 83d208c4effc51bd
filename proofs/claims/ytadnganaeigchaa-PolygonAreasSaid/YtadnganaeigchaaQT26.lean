/-
 Objects whose capacity is known: cells, arrays inside, the whole. Conditions: each lemma says its own.
-/
import Derived.Test.YtadnganaeigchaaQT25
import Derived.Test.YtadnganaeigchaaQT16
namespace Go.Proofs.Ytadnganaeigchaa.Rg
def adjL (l : List Int) (u v : Int) : Prop := ∃ p q, l = p ++ u :: v :: q
theorem adj_cons {c : Int} {l : List Int} {u v : Int} (h : adjL l u v) : adjL (c :: l) u v := by
 obtain ⟨p, q, rfl⟩ := h
 exact ⟨c :: p, q, rfl⟩
theorem adj_cases {c d : Int} {l : List Int} {u v : Int} (h : adjL (c :: d :: l) u v) : (u = c ∧ v = d) ∨ adjL (d :: l) u v := by
 obtain ⟨p, q, e⟩ := h
 cases p with
 | nil =>
  simp only [List.nil_append, List.cons.injEq] at e
  exact .inl ⟨e.1.symm, e.2.1.symm⟩
 | cons b p =>
  simp only [List.cons_append, List.cons.injEq] at e
  exact .inr ⟨p, q, e.2⟩
theorem adj_mem {l : List Int} {u v : Int} (h : adjL l u v) : u ∈ l ∧ v ∈ l := by
 obtain ⟨p, q, rfl⟩ := h
 exact ⟨by simp, by simp⟩
theorem adj_lt {l : List Int} (hp : l.Pairwise (· < ·)) {u v : Int} (h : adjL l u v) : u < v := by
 obtain ⟨p, q, rfl⟩ := h
 have := (List.pairwise_append.1 hp).2.1
 rw [List.pairwise_cons] at this
 exact this.1 v (List.mem_cons_self ..)
theorem adj_btw {l : List Int} (hp : l.Pairwise (· < ·)) {u v e : Int} (h : adjL l u v) (he : e ∈ l) : e ≤ u ∨ v ≤ e := by
 obtain ⟨p, q, h⟩ := h
 exact between hp h he
theorem adj_next {l : List Int} (hp : l.Pairwise (· < ·)) {u : Int} (hu : u ∈ l) {z : Int} (hz : z ∈ l) (h : u < z) : ∃ v, adjL l u v := by
 obtain ⟨p, q, e⟩ := List.append_of_mem hu
 subst e
 cases q with
 | nil =>
  exfalso
  rcases List.mem_append.1 hz with k | k
  ·have := (List.pairwise_append.1 hp).2.2 z k u (List.mem_cons_self ..)
   omega
  ·have := List.mem_singleton.1 k
   omega
 | cons v q => exact ⟨v, p, q, rfl⟩
theorem adj_prev {l : List Int} (hp : l.Pairwise (· < ·)) {v : Int} (hv : v ∈ l) {z : Int} (hz : z ∈ l) (h : z < v) : ∃ u, adjL l u v := by
 obtain ⟨p, q, e⟩ := List.append_of_mem hv
 subst e
 rcases List.eq_nil_or_concat p with rfl | ⟨p', u, rfl⟩
 ·exfalso
  rw [List.nil_append] at hp hz
  rw [List.pairwise_cons] at hp
  rcases List.mem_cons.1 hz with k | k
  ·omega
  ·have := hp.1 z k; omega
 ·rw [List.concat_eq_append]
  exact ⟨u, p', q, by simp⟩
theorem adj_unr {l : List Int} (hp : l.Pairwise (· < ·)) {u v w : Int} (h : adjL l u v) (k : adjL l u w) : v = w := by
 have h1 := adj_lt hp h
 have h2 := adj_lt hp k
 have h3 := adj_btw hp h (adj_mem k).2
 have h4 := adj_btw hp k (adj_mem h).2
 omega
theorem adj_unl {l : List Int} (hp : l.Pairwise (· < ·)) {u v w : Int} (h : adjL l u w) (k : adjL l v w) : u = v := by
 have h1 := adj_lt hp h
 have h2 := adj_lt hp k
 have h3 := adj_btw hp h (adj_mem k).1
 have h4 := adj_btw hp k (adj_mem h).1
 omega
theorem up_mem {x : Int} {L R : List Rect} {s : Sd} : ∀ {ys : List Int}, s ∈ upL x L R ys ↔ ∃ u v, adjL ys u v ∧ ((s = ((x, u), (x, v)) ∧ inY L u = true ∧ inY R u = false) ∨ (s = ((x, v), (x, u)) ∧ inY R u = true ∧ inY L u = false))
 | [] => ⟨fun h => absurd h List.not_mem_nil, fun ⟨u, v, ⟨p, q, e⟩, _⟩ => by cases p <;> cases e⟩
 | [c] => ⟨fun h => absurd h List.not_mem_nil, fun ⟨u, v, ⟨p, q, e⟩, _⟩ => by
   cases p with
   | nil => simp at e
   | cons b p => cases p <;> simp at e⟩
 | c :: d :: ys => by
  have ih := up_mem (x := x) (L := L) (R := R) (s := s) (ys := d :: ys)
  show s ∈ (if (inY L c && !inY R c) = true then [((x, c), (x, d))] else if (inY R c && !inY L c) = true then [((x, d), (x, c))] else []) ++ upL x L R (d :: ys) ↔ _
  rw [List.mem_append, ih]
  constructor
  ·rintro (h | ⟨u, v, h1, h2⟩)
   ·refine ⟨c, d, ⟨[], ys, rfl⟩, ?_⟩
    cases h1 : inY L c <;> cases h2 : inY R c <;> rw [h1, h2] at h <;> simp at h
    ·exact .inr ⟨h, rfl, rfl⟩
    ·exact .inl ⟨h, rfl, rfl⟩
   ·exact ⟨u, v, adj_cons h1, h2⟩
  ·rintro ⟨u, v, h1, h2⟩
   rcases adj_cases h1 with ⟨rfl, rfl⟩ | h1
   ·left
    rcases h2 with ⟨e, h3, h4⟩ | ⟨e, h3, h4⟩
    ·rw [h3, h4, e]; simp
    ·rw [h3, h4, e]; simp
   ·exact .inr ⟨u, v, h1, h2⟩
def ysX (a : List Rect) (x : Int) : List Int := ysB (endsX a x) (begsX a x)
theorem ysX_asc (a : List Rect) (x : Int) : (ysX a x).Pairwise (· < ·) := sortU_asc _
theorem ysX_mem {a : List Rect} {x y : Int} : y ∈ ysX a x ↔ ∃ r ∈ a, (r.x1 = x ∨ r.x0 = x) ∧ (y = r.y0 ∨ y = r.y1) := by
 unfold ysX endsX begsX
 rw [ys_mem]
 simp only [List.mem_filter, decide_eq_true_eq]
 constructor
 ·rintro ⟨r, ⟨h1, h2⟩ | ⟨h1, h2⟩, h3⟩
  ·exact ⟨r, h1, .inl h2, h3⟩
  ·exact ⟨r, h1, .inr h2, h3⟩
 ·rintro ⟨r, h1, h2 | h2, h3⟩
  ·exact ⟨r, .inl ⟨h1, h2⟩, h3⟩
  ·exact ⟨r, .inr ⟨h1, h2⟩, h3⟩
def QIn (a : List Rect) (x y : Int) : Bool → Bool → Prop
 | false, true => cell a (x - 1) y = true ∧ cell a (x - 1) (y - 1) = false
 | false, false => cell a x (y - 1) = true ∧ cell a x y = false
 | true, true => cell a (x - 1) (y - 1) = true ∧ cell a x (y - 1) = false
 | true, false => cell a x y = true ∧ cell a (x - 1) y = false
def QOut (a : List Rect) (x y : Int) : Bool → Bool → Prop
 | false, true => cell a x y = true ∧ cell a x (y - 1) = false
 | false, false => cell a (x - 1) (y - 1) = true ∧ cell a (x - 1) y = false
 | true, true => cell a (x - 1) y = true ∧ cell a x y = false
 | true, false => cell a x (y - 1) = true ∧ cell a (x - 1) (y - 1) = false
section
variable {a : List Rect} (ha : Apart a)
include ha
theorem col_const {x u v : Int} (hx : x ∈ xsB a) (h : adjL (ysX a x) u v) : cell a (x - 1) u = cell a (x - 1) (v - 1) ∧ cell a x u = cell a x (v - 1) := by
 have hlt := adj_lt (ysX_asc a x) h
 rw [← left_in_cell ha hx, ← left_in_cell ha hx, ← right_in_cell ha hx, ← right_in_cell ha hx]
 have key : ∀ L : List Rect, (∀ r ∈ L, r.y0 ∈ ysX a x ∧ r.y1 ∈ ysX a x) → inY L u = inY L (v - 1) := fun L hL => any_ext fun r hr => by
  obtain ⟨h1, h2⟩ := hL r hr
  have h1 := adj_btw (ysX_asc a x) h h1
  have h2 := adj_btw (ysX_asc a x) h h2
  rw [Bool.eq_iff_iff, Bool.and_eq_true, Bool.and_eq_true, decide_eq_true_eq, decide_eq_true_eq, decide_eq_true_eq, decide_eq_true_eq]
  omega
 constructor
 ·refine key _ fun r hr => ?_
  obtain ⟨h1, h2⟩ := List.mem_filter.1 hr
  rw [decide_eq_true_eq] at h2
  exact ⟨ysX_mem.2 ⟨r, h1, .inl h2, .inl rfl⟩, ysX_mem.2 ⟨r, h1, .inl h2, .inr rfl⟩⟩
 ·refine key _ fun r hr => ?_
  obtain ⟨h1, h2⟩ := List.mem_filter.1 hr
  rw [decide_eq_true_eq] at h2
  exact ⟨ysX_mem.2 ⟨r, h1, .inr h2, .inl rfl⟩, ysX_mem.2 ⟨r, h1, .inr h2, .inr rfl⟩⟩
theorem bd_mem {s : Sd} : s ∈ bdL a ↔ (∃ r ∈ a, s = botR r) ∨ (∃ r ∈ a, s = topR r) ∨
  (∃ x ∈ xsB a, ∃ u v, adjL (ysX a x) u v ∧ s = ((x, u), (x, v)) ∧ cell a (x - 1) u = true ∧ cell a x u = false) ∨
  (∃ x ∈ xsB a, ∃ u v, adjL (ysX a x) u v ∧ s = ((x, v), (x, u)) ∧ cell a x u = true ∧ cell a (x - 1) u = false) := by
 unfold bdL bdH
 rw [List.mem_append, List.mem_flatMap, List.mem_flatMap]
 constructor
 ·rintro (⟨r, hr, h⟩ | ⟨x, hx, h⟩)
  ·simp only [List.mem_cons, List.not_mem_nil, or_false] at h
   rcases h with h | h
   ·exact .inl ⟨r, hr, h⟩
   ·exact .inr (.inl ⟨r, hr, h⟩)
  ·unfold colX at h
   rw [up_mem] at h
   obtain ⟨u, v, h1, h2⟩ := h
   rw [left_in_cell ha hx, right_in_cell ha hx] at h2
   rcases h2 with ⟨e, h3, h4⟩ | ⟨e, h3, h4⟩
   ·exact .inr (.inr (.inl ⟨x, hx, u, v, h1, e, h3, h4⟩))
   ·exact .inr (.inr (.inr ⟨x, hx, u, v, h1, e, h3, h4⟩))
 ·rintro (⟨r, hr, rfl⟩ | ⟨r, hr, rfl⟩ | ⟨x, hx, u, v, h1, h2⟩ | ⟨x, hx, u, v, h1, h2⟩)
  ·exact .inl ⟨r, hr, by simp⟩
  ·exact .inl ⟨r, hr, by simp⟩
  ·refine .inr ⟨x, hx, ?_⟩
   unfold colX
   rw [up_mem]
   refine ⟨u, v, h1, ?_⟩
   rw [left_in_cell ha hx, right_in_cell ha hx]
   exact .inl h2
  ·refine .inr ⟨x, hx, ?_⟩
   unfold colX
   rw [up_mem]
   refine ⟨u, v, h1, ?_⟩
   rw [left_in_cell ha hx, right_in_cell ha hx]
   exact .inr h2
theorem bot_kind {r : Rect} (hr : r ∈ a) : upS (botR r) = false ∧ fwS (botR r) = true ∧ stS (botR r) := by
 have := ha.pos r hr
 have e : upS (botR r) = false := decide_eq_false (by show ¬ r.x0 = r.x1; omega)
 refine ⟨e, ?_, ?_⟩
 ·unfold fwS; rw [e, if_neg (by decide)]; exact decide_eq_true (by show r.x0 < r.x1; omega)
 ·unfold stS; rw [e, if_neg (by decide)]; rfl
theorem top_kind {r : Rect} (hr : r ∈ a) : upS (topR r) = false ∧ fwS (topR r) = false ∧ stS (topR r) := by
 have := ha.pos r hr
 have e : upS (topR r) = false := decide_eq_false (by show ¬ r.x1 = r.x0; omega)
 refine ⟨e, ?_, ?_⟩
 ·unfold fwS; rw [e, if_neg (by decide)]; exact decide_eq_false (by show ¬ r.x1 < r.x0; omega)
 ·unfold stS; rw [e, if_neg (by decide)]; rfl
omit ha in
theorem up_kind {x u v : Int} (h : u < v) : upS ((x, u), (x, v)) = true ∧ fwS ((x, u), (x, v)) = true ∧ stS ((x, u), (x, v)) := by
 have e : upS ((x, u), (x, v)) = true := decide_eq_true rfl
 refine ⟨e, ?_, ?_⟩
 ·unfold fwS; rw [e, if_pos rfl]; exact decide_eq_true h
 ·unfold stS; rw [e, if_pos rfl]; show u ≠ v; omega
omit ha in
theorem down_kind {x u v : Int} (h : u < v) : upS ((x, v), (x, u)) = true ∧ fwS ((x, v), (x, u)) = false ∧ stS ((x, v), (x, u)) := by
 have e : upS ((x, v), (x, u)) = true := decide_eq_true rfl
 refine ⟨e, ?_, ?_⟩
 ·unfold fwS; rw [e, if_pos rfl]; exact decide_eq_false (by show ¬ v < u; omega)
 ·unfold stS; rw [e, if_pos rfl]; show v ≠ u; omega
omit ha in
theorem xs0 {r : Rect} (hr : r ∈ a) : r.x0 ∈ xsB a := xs_mem.2 ⟨r, hr, .inl rfl⟩
omit ha in
theorem xs1 {r : Rect} (hr : r ∈ a) : r.x1 ∈ xsB a := xs_mem.2 ⟨r, hr, .inr rfl⟩
theorem bd_told {s : Sd} (h : s ∈ bdL a) : stS s ∧ (QIn a s.2.1 s.2.2 (upS s) (fwS s) ∧ s.2.1 ∈ xsB a ∧ s.2.2 ∈ ysX a s.2.1) ∧ QOut a s.1.1 s.1.2 (upS s) (fwS s) := by
 rcases (bd_mem ha).1 h with ⟨r, hr, rfl⟩ | ⟨r, hr, rfl⟩ | ⟨x, hx, u, v, h1, rfl, h2, h3⟩ | ⟨x, hx, u, v, h1, rfl, h2, h3⟩
 ·obtain ⟨k1, k2, k3⟩ := bot_kind ha hr
  rw [k1, k2]
  exact ⟨k3, ⟨(botE_at ha (xs1 hr)).1 ⟨r, hr, rfl, rfl⟩, xs1 hr, ysX_mem.2 ⟨r, hr, .inl rfl, .inl rfl⟩⟩, (bot_at ha (xs0 hr)).1 ⟨r, hr, rfl, rfl⟩⟩
 ·obtain ⟨k1, k2, k3⟩ := top_kind ha hr
  rw [k1, k2]
  exact ⟨k3, ⟨(top_at ha (xs0 hr)).1 ⟨r, hr, rfl, rfl⟩, xs0 hr, ysX_mem.2 ⟨r, hr, .inr rfl, .inr rfl⟩⟩, (topE_at ha (xs1 hr)).1 ⟨r, hr, rfl, rfl⟩⟩
 ·obtain ⟨k1, k2, k3⟩ := up_kind (x := x) (adj_lt (ysX_asc a x) h1)
  obtain ⟨c1, c2⟩ := col_const ha hx h1
  rw [k1, k2]
  exact ⟨k3, ⟨⟨c1.symm.trans h2, c2.symm.trans h3⟩, hx, (adj_mem h1).2⟩, h2, h3⟩
 ·obtain ⟨k1, k2, k3⟩ := down_kind (x := x) (adj_lt (ysX_asc a x) h1)
  obtain ⟨c1, c2⟩ := col_const ha hx h1
  rw [k1, k2]
  exact ⟨k3, ⟨⟨h2, h3⟩, hx, (adj_mem h1).1⟩, c2.symm.trans h2, c1.symm.trans h3⟩
theorem out_ex {x y : Int} (hx : x ∈ xsB a) (hy : y ∈ ysX a x) {o f : Bool} (h : QOut a x y o f) : ∃ t ∈ bdL a, t.1 = (x, y) ∧ upS t = o ∧ fwS t = f := by
 cases o <;> cases f
 ·obtain ⟨r, hr, h1, h2⟩ := (topE_at ha hx).2 h
  obtain ⟨k1, k2, _⟩ := top_kind ha hr
  exact ⟨topR r, (bd_mem ha).2 (.inr (.inl ⟨r, hr, rfl⟩)), by unfold topR; rw [h1, h2], k1, k2⟩
 ·obtain ⟨r, hr, h1, h2⟩ := (bot_at ha hx).2 h
  obtain ⟨k1, k2, _⟩ := bot_kind ha hr
  exact ⟨botR r, (bd_mem ha).2 (.inl ⟨r, hr, rfl⟩), by unfold botR; rw [h1, h2], k1, k2⟩
 ·obtain ⟨h1, h2⟩ := h
  have h1' := h1
  rw [← right_in_cell ha hx] at h1'
  obtain ⟨r, hr, hr2⟩ := List.any_eq_true.1 h1'
  rw [Bool.and_eq_true, decide_eq_true_eq, decide_eq_true_eq] at hr2
  obtain ⟨r1, r2⟩ := List.mem_filter.1 hr
  rw [decide_eq_true_eq] at r2
  obtain ⟨u, hu⟩ := adj_prev (ysX_asc a x) hy (ysX_mem.2 ⟨r, r1, .inr r2, .inl rfl⟩) (by omega)
  obtain ⟨c1, c2⟩ := col_const ha hx hu
  obtain ⟨k1, k2, _⟩ := down_kind (x := x) (adj_lt (ysX_asc a x) hu)
  exact ⟨((x, y), (x, u)), (bd_mem ha).2 (.inr (.inr (.inr ⟨x, hx, u, y, hu, rfl, c2.trans h1, c1.trans h2⟩))), rfl, k1, k2⟩
 ·obtain ⟨h1, h2⟩ := h
  have h1' := h1
  rw [← left_in_cell ha hx] at h1'
  obtain ⟨r, hr, hr2⟩ := List.any_eq_true.1 h1'
  rw [Bool.and_eq_true, decide_eq_true_eq, decide_eq_true_eq] at hr2
  obtain ⟨r1, r2⟩ := List.mem_filter.1 hr
  rw [decide_eq_true_eq] at r2
  obtain ⟨v, hv⟩ := adj_next (ysX_asc a x) hy (ysX_mem.2 ⟨r, r1, .inl r2, .inr rfl⟩) (by omega)
  obtain ⟨k1, k2, _⟩ := up_kind (x := x) (adj_lt (ysX_asc a x) hv)
  exact ⟨((x, y), (x, v)), (bd_mem ha).2 (.inr (.inr (.inl ⟨x, hx, y, v, hv, rfl, h1, h2⟩))), rfl, k1, k2⟩
theorem rect_uni {r s : Rect} (hr : r ∈ a) (hs : s ∈ a) (hx : r.x0 = s.x0 ∨ r.x1 = s.x1) (hy : r.y0 = s.y0 ∨ r.y1 = s.y1) : r = s := by
 have h1 := ha.pos r hr
 have h2 := ha.pos s hs
 rcases ha.two r hr s hs with q | q | ⟨_, _, q | q | q⟩
 ·omega
 ·omega
 ·exact q
 ·omega
 ·omega
theorem bd_uni {s t : Sd} (hs : s ∈ bdL a) (ht : t ∈ bdL a) (h : s.1 = t.1 ∨ s.2 = t.2) (h1 : upS s = upS t) (h2 : fwS s = fwS t) : s = t := by
 rcases (bd_mem ha).1 hs with ⟨r, hr, rfl⟩ | ⟨r, hr, rfl⟩ | ⟨x, hx, u, v, k1, rfl, _, _⟩ | ⟨x, hx, u, v, k1, rfl, _, _⟩ <;>
 rcases (bd_mem ha).1 ht with ⟨r', hr', rfl⟩ | ⟨r', hr', rfl⟩ | ⟨x', hx', u', v', k1', rfl, _, _⟩ | ⟨x', hx', u', v', k1', rfl, _, _⟩
 ·have : r = r' := by
   refine rect_uni ha hr hr' ?_ ?_ <;> rcases h with h | h <;> simp only [botR, Prod.mk.injEq] at h <;> omega
  rw [this]
 ·rw [(bot_kind ha hr).2.1, (top_kind ha hr').2.1] at h2; cases h2
 ·rw [(bot_kind ha hr).1, (up_kind (x := x') (adj_lt (ysX_asc a x') k1')).1] at h1; cases h1
 ·rw [(bot_kind ha hr).1, (down_kind (x := x') (adj_lt (ysX_asc a x') k1')).1] at h1; cases h1
 ·rw [(top_kind ha hr).2.1, (bot_kind ha hr').2.1] at h2; cases h2
 ·have : r = r' := by
   refine rect_uni ha hr hr' ?_ ?_ <;> rcases h with h | h <;> simp only [topR, Prod.mk.injEq] at h <;> omega
  rw [this]
 ·rw [(top_kind ha hr).1, (up_kind (x := x') (adj_lt (ysX_asc a x') k1')).1] at h1; cases h1
 ·rw [(top_kind ha hr).1, (down_kind (x := x') (adj_lt (ysX_asc a x') k1')).1] at h1; cases h1
 ·rw [(bot_kind ha hr').1, (up_kind (x := x) (adj_lt (ysX_asc a x) k1)).1] at h1; cases h1
 ·rw [(top_kind ha hr').1, (up_kind (x := x) (adj_lt (ysX_asc a x) k1)).1] at h1; cases h1
 ·simp only [Prod.mk.injEq] at h
  have ex : x = x' := by rcases h with h | h <;> exact h.1
  subst ex
  rcases h with ⟨_, h⟩ | ⟨_, h⟩
  ·subst h; rw [adj_unr (ysX_asc a x) k1 k1']
  ·subst h; rw [adj_unl (ysX_asc a x) k1 k1']
 ·rw [(up_kind (x := x) (adj_lt (ysX_asc a x) k1)).2.1, (down_kind (x := x') (adj_lt (ysX_asc a x') k1')).2.1] at h2; cases h2
 ·rw [(bot_kind ha hr').1, (down_kind (x := x) (adj_lt (ysX_asc a x) k1)).1] at h1; cases h1
 ·rw [(top_kind ha hr').1, (down_kind (x := x) (adj_lt (ysX_asc a x) k1)).1] at h1; cases h1
 ·rw [(down_kind (x := x) (adj_lt (ysX_asc a x) k1)).2.1, (up_kind (x := x') (adj_lt (ysX_asc a x') k1')).2.1] at h2; cases h2
 ·simp only [Prod.mk.injEq] at h
  have ex : x = x' := by rcases h with h | h <;> exact h.1
  subst ex
  rcases h with ⟨_, h⟩ | ⟨_, h⟩
  ·subst h; rw [adj_unl (ysX_asc a x) k1 k1']
  ·subst h; rw [adj_unr (ysX_asc a x) k1 k1']
end
end Go.Proofs.Ytadnganaeigchaa.Rg
namespace Go.Proofs.Ytadnganaeigchaa.Rg
def qIn (ne se nw sw : Bool) : Bool → Bool → Bool
 | false, true => nw && !sw
 | false, false => se && !ne
 | true, true => sw && !se
 | true, false => ne && !nw
def qOut (ne se nw sw : Bool) : Bool → Bool → Bool
 | false, true => ne && !se
 | false, false => sw && !nw
 | true, true => nw && !ne
 | true, false => se && !sw
def leftF (o f : Bool) : Bool := if o then !f else f
theorem qIn_iff {a : List Rect} {x y : Int} {o f : Bool} : QIn a x y o f ↔ qIn (cell a x y) (cell a x (y - 1)) (cell a (x - 1) y) (cell a (x - 1) (y - 1)) o f = true := by
 cases o <;> cases f <;> unfold QIn qIn <;> simp
theorem qOut_iff {a : List Rect} {x y : Int} {o f : Bool} : QOut a x y o f ↔ qOut (cell a x y) (cell a x (y - 1)) (cell a (x - 1) y) (cell a (x - 1) (y - 1)) o f = true := by
 cases o <;> cases f <;> unfold QOut qOut <;> simp
theorem q_next : ∀ ne se nw sw o f : Bool, qIn ne se nw sw o f = true → qOut ne se nw sw (!o) (leftF o f) = true ∨ ((∃ o' f' : Bool, qOut ne se nw sw o' f' = true) ∧ ∀ o1 f1 o2 f2 : Bool, qOut ne se nw sw o1 f1 = true → qOut ne se nw sw o2 f2 = true → o1 = o2 ∧ f1 = f2) := by decide
theorem q_rev : ∀ ne se nw sw o f g : Bool, qIn ne se nw sw o f = true → qOut ne se nw sw o g = true → f = g := by decide
theorem q_two : ∀ ne se nw sw o f p g : Bool, qIn ne se nw sw o f = true → qIn ne se nw sw p g = true → ¬ (o = p ∧ f = g) → qOut ne se nw sw (!o) (leftF o f) = true := by decide
theorem left_turn {s t : Sd} (hs : stS s) (ht : stS t) (h1 : upS t = !upS s) (h2 : fwS t = leftF (upS s) (fwS s)) : 0 < turnI s t := by
 cases q : upS s
 ·rw [q] at h1 h2
  rw [turn_ho hs ht q h1, if_pos (show fwS s = fwS t from by rw [h2]; rfl)]
  decide
 ·rw [q] at h1 h2
  rw [turn_up hs ht q h1, if_neg (fun e => by rw [h2] at e; unfold leftF at e; cases x : fwS s <;> rw [x] at e <;> simp at e)]
  decide
theorem nodup_fm {α β : Type} {f : α → List β} : ∀ {l : List α}, l.Nodup → (∀ x ∈ l, (f x).Nodup) → (∀ x ∈ l, ∀ y ∈ l, x ≠ y → ∀ z, z ∈ f x → z ∉ f y) → (l.flatMap f).Nodup
 | [], _, _, _ => List.nodup_nil
 | x :: l, h, h1, h2 => by
  rw [List.nodup_cons] at h
  rw [List.flatMap_cons, List.nodup_append]
  refine ⟨h1 x (List.mem_cons_self ..), nodup_fm h.2 (fun y hy => h1 y (List.mem_cons_of_mem _ hy)) fun y hy z hz => h2 y (List.mem_cons_of_mem _ hy) z (List.mem_cons_of_mem _ hz), fun u hu v hv huv => ?_⟩
  obtain ⟨y, hy, hyv⟩ := List.mem_flatMap.1 hv
  subst huv
  exact h2 x (List.mem_cons_self ..) y (List.mem_cons_of_mem _ hy) (fun e => h.1 (e ▸ hy)) u hu hyv
theorem up_nodup (x : Int) (L R : List Rect) : ∀ {ys : List Int}, ys.Pairwise (· < ·) → (upL x L R ys).Nodup
 | [], _ => List.nodup_nil
 | [_], _ => List.nodup_nil
 | c :: d :: ys, h => by
  have hcd : c < d := (List.pairwise_cons.1 h).1 d (List.mem_cons_self ..)
  have ih := up_nodup x L R (List.pairwise_cons.1 h).2
  have hge : ∀ u v, adjL (d :: ys) u v → d ≤ u := fun u v k => by
   rcases List.mem_cons.1 (adj_mem k).1 with q | q
   ·omega
   ·have := (List.pairwise_cons.1 (List.pairwise_cons.1 h).2).1 u q
    omega
  show ((if (inY L c && !inY R c) = true then [((x, c), (x, d))] else if (inY R c && !inY L c) = true then [((x, d), (x, c))] else []) ++ upL x L R (d :: ys)).Nodup
  rw [List.nodup_append]
  refine ⟨?_, ih, fun s hs t ht hst => ?_⟩
  ·split
   ·simp
   ·split <;> simp
  ·subst hst
   obtain ⟨u, v, k, k2⟩ := up_mem.1 ht
   have h1 := hge u v k
   have h2 := adj_lt (List.pairwise_cons.1 h).2 k
   have hs' : s = ((x, c), (x, d)) ∨ s = ((x, d), (x, c)) := by
    split at hs
    ·exact .inl (List.mem_singleton.1 hs)
    ·split at hs
     ·exact .inr (List.mem_singleton.1 hs)
     ·cases hs
   rcases hs' with e | e <;> rcases k2 with ⟨e2, _⟩ | ⟨e2, _⟩ <;> rw [e] at e2 <;> simp only [Prod.mk.injEq] at e2 <;> omega
section
variable {a : List Rect} (ha : Apart a)
include ha
theorem bd_nodup : (bdL a).Nodup := by
 unfold bdL
 rw [List.nodup_append]
 refine ⟨?_, ?_, fun s hs t ht hst => ?_⟩
 ·unfold bdH
  refine nodup_fm ha.nd (fun r hr => ?_) fun r hr s hs hrs z hz hz2 => ?_
  ·have := ha.pos r hr
   rw [List.nodup_cons]
   refine ⟨fun h => ?_, by simp⟩
   have h := List.mem_singleton.1 h
   unfold botR topR at h
   simp only [Prod.mk.injEq] at h
   omega
  ·have hr' := bot_kind ha hr
   have hr2 := top_kind ha hr
   have hs' := bot_kind ha hs
   have hs2 := top_kind ha hs
   have b1 : botR r ∈ bdL a := (bd_mem ha).2 (.inl ⟨r, hr, rfl⟩)
   simp only [List.mem_cons, List.not_mem_nil, or_false] at hz hz2
   rcases hz with e | e <;> rcases hz2 with e2 | e2 <;> rw [e] at e2
   ·refine hrs (rect_uni ha hr hs ?_ ?_) <;> simp only [botR, Prod.mk.injEq] at e2 <;> omega
   ·rw [e2] at hr'; rw [hs2.2.1] at hr'; cases hr'.2.1
   ·rw [e2] at hr2; rw [hs'.2.1] at hr2; cases hr2.2.1
   ·refine hrs (rect_uni ha hr hs ?_ ?_) <;> simp only [topR, Prod.mk.injEq] at e2 <;> omega
 ·have hxn : (xsB a).Nodup := (sortU_asc _).imp fun h => by omega
  refine nodup_fm hxn (fun x _ => up_nodup x _ _ (ysX_asc a x)) fun x _ y _ hxy z hz hz2 => ?_
  obtain ⟨u, v, _, k1⟩ := up_mem.1 hz
  obtain ⟨u', v', _, k2⟩ := up_mem.1 hz2
  refine hxy ?_
  rcases k1 with ⟨e, _⟩ | ⟨e, _⟩ <;> rcases k2 with ⟨e2, _⟩ | ⟨e2, _⟩ <;> rw [e] at e2 <;> simp only [Prod.mk.injEq] at e2 <;> omega
 ·subst hst
  obtain ⟨r, hr, h⟩ := List.mem_flatMap.1 hs
  obtain ⟨x, hx, h2⟩ := List.mem_flatMap.1 ht
  obtain ⟨u, v, _, k⟩ := up_mem.1 h2
  have := ha.pos r hr
  simp only [List.mem_cons, List.not_mem_nil, or_false] at h
  rcases h with e | e <;> rcases k with ⟨e2, _⟩ | ⟨e2, _⟩ <;> rw [e] at e2 <;> simp only [botR, topR, Prod.mk.injEq] at e2 <;> omega
theorem bd_net : Net (bdL a) where
 nd := bd_nodup ha
 st s hs := (bd_told ha hs).1
 out1 s hs t ht h h1 h2 := bd_uni ha hs ht (.inl h) h1 h2
 in1 s hs t ht h h1 h2 := bd_uni ha hs ht (.inr h) h1 h2
 rev s hs t ht h h1 := by
  have k1 := (bd_told ha hs).2.1.1
  have k2 := (bd_told ha ht).2.2
  rw [← h, qOut_iff, ← h1] at k2
  rw [qIn_iff] at k1
  exact q_rev _ _ _ _ _ _ _ k1 k2
 nxt s hs := by
  obtain ⟨k0, ⟨k1, k2, k3⟩, _⟩ := bd_told ha hs
  rw [qIn_iff] at k1
  rcases q_next _ _ _ _ _ _ k1 with h | ⟨⟨o, f, h⟩, hu⟩
  ·obtain ⟨t, t1, t2, t3, t4⟩ := out_ex ha k2 k3 (qOut_iff.2 h)
   exact .inl ⟨t, t1, t2, left_turn k0 (bd_told ha t1).1 t3 t4⟩
  ·obtain ⟨t, t1, t2, _, _⟩ := out_ex ha k2 k3 (qOut_iff.2 h)
   refine .inr ⟨⟨t, t1, t2⟩, fun t ht t' ht' e e' => ?_⟩
   have q1 := (bd_told ha ht).2.2
   have q2 := (bd_told ha ht').2.2
   rw [e, qOut_iff] at q1
   rw [e', qOut_iff] at q2
   obtain ⟨r1, r2⟩ := hu _ _ _ _ q1 q2
   exact bd_uni ha ht ht' (.inl (e.trans e'.symm)) r1 r2
 two s hs s' hs' hne h := by
  obtain ⟨k0, ⟨k1, k2, k3⟩, _⟩ := bd_told ha hs
  have q := (bd_told ha hs').2.1.1
  rw [← h, qIn_iff] at q
  rw [qIn_iff] at k1
  have := q_two _ _ _ _ _ _ _ _ k1 q fun e => hne (bd_uni ha hs hs' (.inr h) e.1 e.2)
  obtain ⟨t, t1, t2, t3, t4⟩ := out_ex ha k2 k3 (qOut_iff.2 this)
  exact ⟨t, t1, t2, left_turn k0 (bd_told ha t1).1 t3 t4⟩
end
def phiV (α g : Int → Int) (s : Sd) : Int := if upS s = true then α s.1.1 * (g s.2.2 - g s.1.2) else 0
def gapS (g : Int → Int) (w : Int → Int) : List Int → Int
 | u :: v :: ys => w u * (g v - g u) + gapS g w (v :: ys)
 | _ => 0
theorem gap_add (g w w' : Int → Int) : ∀ ys, gapS g (fun u => w u + w' u) ys = gapS g w ys + gapS g w' ys
 | [] => rfl
 | [_] => rfl
 | u :: v :: ys => by
  show (w u + w' u) * (g v - g u) + gapS g (fun u => w u + w' u) (v :: ys) = (w u * (g v - g u) + gapS g w (v :: ys)) + (w' u * (g v - g u) + gapS g w' (v :: ys))
  rw [gap_add g w w' (v :: ys), Int.add_mul]; omega
theorem gap_zero (g w : Int → Int) : ∀ ys : List Int, (∀ u ∈ ys, w u = 0) → gapS g w ys = 0
 | [], _ => rfl
 | [_], _ => rfl
 | u :: v :: ys, h => by
  show w u * (g v - g u) + gapS g w (v :: ys) = 0
  rw [h u (List.mem_cons_self ..), Int.zero_mul, gap_zero g w (v :: ys) fun z hz => h z (List.mem_cons_of_mem _ hz)]; rfl
theorem gap_congr (g : Int → Int) {w w' : Int → Int} (h : ∀ u, w u = w' u) : ∀ ys, gapS g w ys = gapS g w' ys := fun ys => by rw [funext h]
theorem gap_one (g : Int → Int) {p q : Int} (hpq : p ≤ q) : ∀ {ys : List Int}, ys.Pairwise (· < ·) → p ∈ ys → q ∈ ys → gapS g (fun u => if p ≤ u ∧ u < q then 1 else 0) ys = g q - g p
 | [], _, h, _ => absurd h List.not_mem_nil
 | [u], _, h1, h2 => by
  rw [List.mem_singleton.1 h1, List.mem_singleton.1 h2]
  show 0 = _; omega
 | u :: v :: ys, hp, h1, h2 => by
  have huv : u < v := (List.pairwise_cons.1 hp).1 v (List.mem_cons_self ..)
  have hp2 := (List.pairwise_cons.1 hp).2
  show (if p ≤ u ∧ u < q then 1 else 0) * (g v - g u) + gapS g _ (v :: ys) = _
  rcases List.mem_cons.1 h1 with e1 | e1
  ·rcases List.mem_cons.1 h2 with e2 | e2
   ·rw [e1, e2, if_neg (by omega), Int.zero_mul, gap_zero g _ (v :: ys) fun z hz => if_neg (by have := (List.pairwise_cons.1 hp).1 z hz; omega)]
    omega
   ·have hq : u < q := (List.pairwise_cons.1 hp).1 q e2
    have hvq : v ≤ q := by
     rcases List.mem_cons.1 e2 with k | k
     ·omega
     ·have := (List.pairwise_cons.1 hp2).1 q k; omega
    have ih := gap_one g hvq hp2 (List.mem_cons_self ..) e2
    rw [if_pos (by omega), Int.one_mul, e1]
    have e3 : gapS g (fun z => if u ≤ z ∧ z < q then 1 else 0) (v :: ys) = gapS g (fun z => if v ≤ z ∧ z < q then 1 else 0) (v :: ys) := by
     have key : ∀ L : List Int, (∀ z ∈ L, v ≤ z) → gapS g (fun z => if u ≤ z ∧ z < q then 1 else 0) L = gapS g (fun z => if v ≤ z ∧ z < q then 1 else 0) L := by
      intro L
      induction L with
      | nil => exact fun _ => rfl
      | cons z L ih =>
       intro h
       cases L with
       | nil => rfl
       | cons z' L =>
        have := h z (List.mem_cons_self ..)
        show (if u ≤ z ∧ z < q then 1 else 0) * _ + gapS g _ (z' :: L) = (if v ≤ z ∧ z < q then 1 else 0) * _ + gapS g _ (z' :: L)
        rw [ih fun y hy => h y (List.mem_cons_of_mem _ hy)]
        by_cases k : z < q
        ·rw [if_pos (by omega), if_pos (by omega)]
        ·rw [if_neg (by omega), if_neg (by omega)]
     refine key _ fun z hz => ?_
     rcases List.mem_cons.1 hz with k | k
     ·omega
     ·have := (List.pairwise_cons.1 hp2).1 z k; omega
    rw [e3, ih]; omega
  ·have hup : u < p := (List.pairwise_cons.1 hp).1 p e1
   have e2 : q ∈ v :: ys := by
    rcases List.mem_cons.1 h2 with k | k
    ·omega
    ·exact k
   rw [if_neg (by omega), Int.zero_mul, gap_one g hpq hp2 e1 e2]
   omega
def rowsB (L : List Rect) (u : Int) : Int := (L.map fun r => if r.y0 ≤ u ∧ u < r.y1 then (1 : Int) else 0).sum
theorem rows_in : ∀ {L : List Rect} (u : Int), L.Pairwise (fun r s => r.y1 ≤ s.y0 ∨ s.y1 ≤ r.y0) → rowsB L u = if inY L u = true then 1 else 0
 | [], u, _ => rfl
 | r :: L, u, h => by
  rw [List.pairwise_cons] at h
  have ih := rows_in u h.2
  unfold rowsB at ih ⊢
  unfold inY at ih ⊢
  rw [List.map_cons, List.sum_cons, ih, List.any_cons]
  by_cases q : r.y0 ≤ u ∧ u < r.y1
  ·rw [if_pos q, decide_eq_true q.1, decide_eq_true q.2]
   have : (L.any fun r => decide (r.y0 ≤ u) && decide (u < r.y1)) = false := List.any_eq_false.2 fun s hs k => by
    rw [Bool.and_eq_true, decide_eq_true_eq, decide_eq_true_eq] at k
    have := h.1 s hs
    omega
   rw [this]; rfl
  ·rw [if_neg q]
   have : (decide (r.y0 ≤ u) && decide (u < r.y1)) = false := by
    rw [Bool.and_eq_false_iff, decide_eq_false_iff_not, decide_eq_false_iff_not]; omega
   rw [this, Bool.false_or, Int.zero_add]
theorem gap_rows (g : Int → Int) {ys : List Int} (hp : ys.Pairwise (· < ·)) : ∀ {L : List Rect}, (∀ r ∈ L, r.y0 ≤ r.y1 ∧ r.y0 ∈ ys ∧ r.y1 ∈ ys) → gapS g (rowsB L) ys = (L.map fun r => g r.y1 - g r.y0).sum
 | [], _ => gap_zero g _ ys fun _ _ => rfl
 | r :: L, h => by
  have ih := gap_rows g hp fun s hs => h s (List.mem_cons_of_mem _ hs)
  obtain ⟨h1, h2, h3⟩ := h r (List.mem_cons_self ..)
  have e : gapS g (rowsB (r :: L)) ys = gapS g (fun u => (if r.y0 ≤ u ∧ u < r.y1 then 1 else 0) + rowsB L u) ys := gap_congr g (fun u => rfl) ys
  rw [e, gap_add, gap_one g h1 hp h2 h3, ih]; rfl
theorem sum_up (α g : Int → Int) (x : Int) (L R : List Rect) : ∀ ys : List Int, ssum (phiV α g) (upL x L R ys) = α x * gapS g (fun u => (if inY L u = true then 1 else 0) - (if inY R u = true then 1 else 0)) ys
 | [] => by show 0 = α x * 0; simp
 | [_] => by show 0 = α x * 0; simp
 | u :: v :: ys => by
  have ih := sum_up α g x L R (v :: ys)
  show ssum (phiV α g) ((if (inY L u && !inY R u) = true then [((x, u), (x, v))] else if (inY R u && !inY L u) = true then [((x, v), (x, u))] else []) ++ upL x L R (v :: ys)) = α x * (((if inY L u = true then 1 else 0) - (if inY R u = true then 1 else 0)) * (g v - g u) + gapS g _ (v :: ys))
  unfold ssum at ih ⊢
  rw [List.map_append, List.sum_append, ih, Int.mul_add]
  congr 1
  have e : ∀ p q : Int, phiV α g ((x, p), (x, q)) = α x * (g q - g p) := fun p q => if_pos (decide_eq_true rfl)
  cases inY L u <;> cases inY R u
  ·simp
  ·show phiV α g ((x, v), (x, u)) + 0 = α x * ((0 - 1) * (g v - g u))
   rw [e, Int.add_zero]
   congr 1; omega
  ·show phiV α g ((x, u), (x, v)) + 0 = α x * ((1 - 0) * (g v - g u))
   rw [e, Int.add_zero]
   congr 1; omega
  ·simp
section
variable {a : List Rect} (ha : Apart a)
include ha
theorem ends_rows (x : Int) : (endsX a x).Pairwise (fun r s => r.y1 ≤ s.y0 ∨ s.y1 ≤ r.y0) := by
 unfold endsX
 refine (ha.nd.filter _).imp_of_mem ?_
 intro r s hr hs hne
 obtain ⟨r1, r2⟩ := List.mem_filter.1 hr
 obtain ⟨s1, s2⟩ := List.mem_filter.1 hs
 rw [decide_eq_true_eq] at r2 s2
 have p1 := ha.pos r r1
 have p2 := ha.pos s s1
 rcases ha.two r r1 s s1 with q | q | ⟨_, _, q | q | q⟩
 ·omega
 ·omega
 ·exact absurd q hne
 ·omega
 ·omega
theorem begs_rows (x : Int) : (begsX a x).Pairwise (fun r s => r.y1 ≤ s.y0 ∨ s.y1 ≤ r.y0) := by
 unfold begsX
 refine (ha.nd.filter _).imp_of_mem ?_
 intro r s hr hs hne
 obtain ⟨r1, r2⟩ := List.mem_filter.1 hr
 obtain ⟨s1, s2⟩ := List.mem_filter.1 hs
 rw [decide_eq_true_eq] at r2 s2
 have p1 := ha.pos r r1
 have p2 := ha.pos s s1
 rcases ha.two r r1 s s1 with q | q | ⟨_, _, q | q | q⟩
 ·omega
 ·omega
 ·exact absurd q hne
 ·omega
 ·omega
theorem sum_col (α g : Int → Int) (x : Int) : ssum (phiV α g) (colX a x) = α x * (((endsX a x).map fun r => g r.y1 - g r.y0).sum - ((begsX a x).map fun r => g r.y1 - g r.y0).sum) := by
 unfold colX
 rw [sum_up]
 congr 1
 have e : gapS g (fun u => (if inY (endsX a x) u = true then 1 else 0) - (if inY (begsX a x) u = true then 1 else 0)) (ysX a x) + gapS g (rowsB (begsX a x)) (ysX a x) = gapS g (rowsB (endsX a x)) (ysX a x) := by
  rw [← gap_add]
  refine gap_congr g (fun u => ?_) _
  rw [rows_in u (ends_rows ha x), rows_in u (begs_rows ha x)]
  omega
 have e1 := gap_rows g (ysX_asc a x) (L := endsX a x) fun r hr => by
  obtain ⟨r1, r2⟩ := List.mem_filter.1 hr
  rw [decide_eq_true_eq] at r2
  have := ha.pos r r1
  exact ⟨by omega, ysX_mem.2 ⟨r, r1, .inl r2, .inl rfl⟩, ysX_mem.2 ⟨r, r1, .inl r2, .inr rfl⟩⟩
 have e2 := gap_rows g (ysX_asc a x) (L := begsX a x) fun r hr => by
  obtain ⟨r1, r2⟩ := List.mem_filter.1 hr
  rw [decide_eq_true_eq] at r2
  have := ha.pos r r1
  exact ⟨by omega, ysX_mem.2 ⟨r, r1, .inr r2, .inl rfl⟩, ysX_mem.2 ⟨r, r1, .inr r2, .inr rfl⟩⟩
 rw [e1, e2] at e
 show gapS g _ (ysX a x) = _
 omega
end
theorem sum_swap (α : Int → Int) (f : Rect → Int) (h : Rect → Int) {xs : List Int} (hn : xs.Nodup) : ∀ a : List Rect, (∀ r ∈ a, f r ∈ xs) → (xs.map fun x => α x * ((a.filter fun r => decide (f r = x)).map h).sum).sum = (a.map fun r => α (f r) * h r).sum
 | [], _ => by
  have : ∀ L : List Int, (L.map fun x => α x * (([] : List Rect).map h).sum).sum = 0 := by
   intro L
   induction L with
   | nil => rfl
   | cons x L ih => rw [List.map_cons, List.sum_cons, ih]; simp
  simpa using this xs
 | r :: a, hm => by
  have ih := sum_swap α f h hn a fun s hs => hm s (List.mem_cons_of_mem _ hs)
  rw [List.map_cons, List.sum_cons, ← ih]
  have hr := hm r (List.mem_cons_self ..)
  have key : ∀ L : List Int, L.Nodup → (L.map fun x => α x * (((r :: a).filter fun r => decide (f r = x)).map h).sum).sum = (if f r ∈ L then α (f r) * h r else 0) + (L.map fun x => α x * ((a.filter fun r => decide (f r = x)).map h).sum).sum := by
   intro L
   induction L with
   | nil => exact fun _ => rfl
   | cons x L ihL =>
    intro hL
    rw [List.nodup_cons] at hL
    rw [List.map_cons, List.sum_cons, ihL hL.2, List.map_cons, List.sum_cons]
    by_cases q : f r = x
    ·rw [List.filter_cons_of_pos (p := fun r => decide (f r = x)) (decide_eq_true q), List.map_cons, List.sum_cons, Int.mul_add, if_neg (fun k => hL.1 (q ▸ k)), if_pos (by rw [q]; exact List.mem_cons_self ..), q]
     omega
    ·rw [List.filter_cons_of_neg (by simpa using q)]
     by_cases k : f r ∈ L
     ·rw [if_pos k, if_pos (List.mem_cons_of_mem _ k)]; omega
     ·rw [if_neg k, if_neg (fun z => by rcases List.mem_cons.1 z with w | w; exact q w; exact k w)]; omega
  rw [key xs hn, if_pos hr]
theorem ssum_app (φ : Sd → Int) (p q : List Sd) : ssum φ (p ++ q) = ssum φ p + ssum φ q := by
 unfold ssum; rw [List.map_append, List.sum_append]
theorem ssum_fm (φ : Sd → Int) (f : Int → List Sd) : ∀ L : List Int, ssum φ (L.flatMap f) = (L.map fun x => ssum φ (f x)).sum
 | [] => rfl
 | x :: L => by
  rw [List.flatMap_cons, ssum_app, ssum_fm φ f L, List.map_cons, List.sum_cons]
theorem sum_add {α : Type} (f g : α → Int) : ∀ L : List α, (L.map fun x => f x - g x).sum = (L.map f).sum - (L.map g).sum
 | [] => rfl
 | x :: L => by
  rw [List.map_cons, List.sum_cons, sum_add f g L, List.map_cons, List.sum_cons, List.map_cons, List.sum_cons]; omega
section
variable {a : List Rect} (ha : Apart a)
include ha
theorem sum_cols (α g : Int → Int) : ssum (phiV α g) ((xsB a).flatMap (colX a)) = (a.map fun r => (α r.x1 - α r.x0) * (g r.y1 - g r.y0)).sum := by
 have hn : (xsB a).Nodup := (sortU_asc _).imp fun h => by omega
 rw [ssum_fm]
 have e : (xsB a).map (fun x => ssum (phiV α g) (colX a x)) = (xsB a).map (fun x => α x * ((endsX a x).map fun r => g r.y1 - g r.y0).sum - α x * ((begsX a x).map fun r => g r.y1 - g r.y0).sum) := List.map_congr_left fun x _ => by rw [sum_col ha, Int.mul_sub]
 have e1 := sum_swap α (fun r => r.x1) (fun r => g r.y1 - g r.y0) hn a fun r hr => xs1 hr
 have e2 := sum_swap α (fun r => r.x0) (fun r => g r.y1 - g r.y0) hn a fun r hr => xs0 hr
 rw [e, sum_add]
 have e1 : ((xsB a).map fun x => α x * ((endsX a x).map fun r => g r.y1 - g r.y0).sum).sum = _ := e1
 have e2 : ((xsB a).map fun x => α x * ((begsX a x).map fun r => g r.y1 - g r.y0).sum).sum = _ := e2
 rw [e1, e2, ← sum_add]
 congr 1
 exact List.map_congr_left fun r _ => by rw [Int.sub_mul]
def shoeS (s : Sd) : Int := s.1.1 * s.2.2 - s.2.1 * s.1.2
omit ha in
theorem shoe_add : Addt shoeS where
 up x a b c := by
  show (x * b - x * a) + (x * c - x * b) = x * c - x * a
  omega
 ho y a b c := by
  show (a * y - b * y) + (b * y - c * y) = a * y - c * y
  omega
theorem bd_shoe : ssum shoeS (bdL a) = 2 * areaL a := by
 have h1 : ∀ L : List Rect, ssum shoeS (bdH L) = areaL L := by
  intro L
  induction L with
  | nil => rfl
  | cons r L ih =>
   show ssum shoeS ([botR r, topR r] ++ bdH L) = r.area + areaL L
   rw [ssum_app, ih]
   have e : ssum shoeS [botR r, topR r] = (r.x0 * r.y0 - r.x1 * r.y0) + ((r.x1 * r.y1 - r.x0 * r.y1) + 0) := rfl
   have e2 : r.area = (r.x1 - r.x0) * (r.y1 - r.y0) := rfl
   rw [e, e2, Int.sub_mul, Int.mul_sub, Int.mul_sub]
   omega
 have h2 : ssum shoeS ((xsB a).flatMap (colX a)) = ssum (phiV (fun z => z) (fun z => z)) ((xsB a).flatMap (colX a)) := by
  unfold ssum
  congr 1
  refine List.map_congr_left fun s hs => ?_
  obtain ⟨x, _, hx⟩ := List.mem_flatMap.1 hs
  obtain ⟨u, v, _, k⟩ := up_mem.1 hx
  have e : ∀ p q : Int, phiV (fun z => z) (fun z => z) ((x, p), (x, q)) = x * (q - p) := fun p q => if_pos (decide_eq_true rfl)
  rcases k with ⟨rfl, _⟩ | ⟨rfl, _⟩
  ·rw [e]; show x * v - x * u = _; rw [Int.mul_sub]
  ·rw [e]; show x * u - x * v = _; rw [Int.mul_sub]
 unfold bdL
 rw [ssum_app, h1, h2, sum_cols ha]
 have e : (a.map fun r => (r.x1 - r.x0) * (r.y1 - r.y0)).sum = areaL a := by
  have : ∀ L : List Rect, (L.map fun r => (r.x1 - r.x0) * (r.y1 - r.y0)).sum = areaL L := by
   intro L
   induction L with
   | nil => rfl
   | cons r L ih => rw [List.map_cons, List.sum_cons, ih]; rfl
  exact this a
 rw [e]; omega
end
end Go.Proofs.Ytadnganaeigchaa.Rg
namespace Go.Proofs.Ytadnganaeigchaa.Bm
open Go Go.RowKit
structure Enc (α : Type) where
 e : α → Value
 one : ∀ a, one (e a) = true
 set : ∀ a n, settled (n + 1) (e a) = true
 bel : ∀ a d n, below (d + 1) n (e a) = true
 fits : ∀ a sz, fitsTT ⟨some false, sz⟩ (e a) = true
namespace Enc
variable {α : Type} {O : Enc α} {h : Heap} {l m : List α} {P : Program}
def vals (O : Enc α) (l : List α) : List Value := l.map O.e
def o (O : Enc α) (k : Option Bool) (l : List α) : Value := match k with | none => .slice none 0 0 | some b => lst b (O.vals l)
def Ok (k : Option Bool) (l : List α) : Prop := k = none → l = []
theorem ok_some {b : Bool} : Ok (some b) l := fun h => by cases h
def row (O : Enc α) (t : TypeId) (l : List α) : AObj := .cells t (O.vals l) 1
def part (b n : Nat) (l : List α) : Value := .slice (some ⟨b, 0, some l.length⟩) n l.length
def sl (b : Nat) (l : List α) : Value := .slice (some ⟨b, 0, some l.length⟩) l.length l.length
def at_ (b : Nat) (l : List α) (i : Nat) : Value := .pointer (some ⟨b, i, some l.length⟩)
theorem vals_len : (O.vals l).length = l.length := List.length_map _
theorem vals_app : O.vals (l ++ m) = O.vals l ++ O.vals m := List.map_append
theorem e_cells (a : α) : cellsL (O.e a) = [O.e a] := by
 have := O.one a
 unfold cellsL
 split
 ·rename_i h; rw [h] at this; cases this
 ·rfl
theorem vals_all (l : List α) : (O.vals l).all (fun v => (cellsL v).length == 1) = true := by
 rw [List.all_eq_true]
 intro v hv
 obtain ⟨a, _, rfl⟩ := List.mem_map.1 hv
 rw [e_cells]; rfl
theorem vals_set (l : List α) : (O.vals l).all (settled 8) = true := by
 rw [List.all_eq_true]
 intro v hv
 obtain ⟨a, _, rfl⟩ := List.mem_map.1 hv
 exact O.set a 7
theorem vals_flat : ∀ l : List α, (O.vals l).flatMap cellsL = O.vals l
 | [] => rfl
 | a :: l => by
  show cellsL (O.e a) ++ (O.vals l).flatMap cellsL = O.e a :: O.vals l
  rw [e_cells, vals_flat l]; rfl
theorem vals_get {i : Nat} (hi : i < l.length) : (O.vals l)[i]? = some (O.e l[i]) := by
 unfold vals; rw [List.getElem?_map, List.getElem?_eq_getElem hi]; rfl
theorem vals_take (n : Nat) : (O.vals l).take n = O.vals (l.take n) := by unfold vals; rw [List.map_take]
theorem o_len {k : Option Bool} (hk : Ok k l) : lenT .sl h (O.o k l) = some (.int .i64 l.length) := by
 cases k with
 | none => rw [hk rfl]; rfl
 | some b => show lenT .sl h (lst b (O.vals l)) = _; rw [len_lst, vals_len]
theorem o_set {k : Option Bool} {n : Nat} : settled (n + 1) (O.o k l) = true := by cases k <;> rfl
theorem o_bel {k : Option Bool} {d n : Nat} : below (d + 1) n (O.o k l) = true := by cases k <;> rfl
theorem o_fits {k : Option Bool} {sz : Option Nat} : fitsTT ⟨some false, sz⟩ (O.o k l) = true := by cases k <;> rfl
theorem o_reify {k : Option Bool} {n : Nat} : reify P (n + 1) h (O.o k l) = some (O.o k l) := by cases k <;> rfl
theorem cells_tree {x : Bool} : sliceCells h 1 (lst x (O.vals l)) = some (O.vals l, l.length) := by
 rw [cells_lst (vals_all l), vals_flat, vals_len]
theorem index_tree {x : Bool} {t : TypeId} {i : Nat} {k : IntKind} (hi : i < l.length) : indexAddrT (.sl t ⟨some false, some 1⟩) (lst x (O.vals l)) (.int k (i : Int)) = some (cptr (O.e l[i])) := by
 rw [index_lst, if_pos (by omega), Int.toNat_natCast, vals_get hi, Option.bind_some, O.fits, e_cells]; rfl
theorem row_bel {n : Nat} {t : TypeId} : belowO n (O.row t l) = true := by
 show (O.vals l).all (below 8 n) = true
 rw [List.all_eq_true]
 intro v hv
 obtain ⟨a, _, rfl⟩ := List.mem_map.1 hv
 exact O.bel a 7 n
theorem sl_bel {n d b : Nat} (hb : b < n) : below (d + 1) n (sl b l) = true := decide_eq_true hb
theorem sl_len {b : Nat} : lenT .sl h (sl b l) = some (.int .i64 l.length) := rfl
theorem fits_row {b n : Nat} {t : TypeId} (hob : h[b]? = some (O.row t l)) (hn : n = l.length) {off : Nat} : fitsRow h ⟨b, off, some n⟩ 1 = true := by
 subst hn
 unfold fitsRow
 show (match h[b]? with | some (.cells _ c g) => _ | _ => false) = true
 rw [hob]
 show (stampOk _ 1 (O.vals l).length && _) = true
 unfold stampOk; rw [vals_len]; simp
theorem reify_part {b n d : Nat} {t : TypeId} (hob : h[b]? = some (O.row t l)) (hn : n ≤ l.length) (hs : szOf P t = some 1) (ha : aggT P t = some false) : reify P (d + 1) h (part b n l) = some (lst false (O.vals (l.take n))) := by
 unfold part
 rw [reify_slice]
 by_cases h0 : n = 0
 ·subst h0; rfl
 ·rw [if_neg h0]
  show reifyS P d h h[b]? _ _ = _
  rw [hob]
  show reifyS P d h (some (.cells t (O.vals l) 1)) _ _ = _
  rw [reifyS_cells, hs, Option.bind_some, if_pos ⟨by unfold stampOk; rw [vals_len]; simp, Nat.one_pos, by rw [vals_len]; simp; omega⟩, List.drop_zero, Nat.mul_one, vals_take,
   reifyC_set (vals_set _), Option.bind_some, elems_one ha hs]; rfl
theorem reify_sl {b d : Nat} {t : TypeId} (hob : h[b]? = some (O.row t l)) (hs : szOf P t = some 1) (ha : aggT P t = some false) : reify P (d + 1) h (sl b l) = some (lst false (O.vals l)) := by
 have := reify_part (P := P) (d := d) hob (Nat.le_refl l.length) hs ha
 rw [List.take_length] at this
 exact this
theorem reifyR_sl {b : Nat} {t : TypeId} (hob : h[b]? = some (O.row t l)) (hs : szOf P t = some 1) (ha : aggT P t = some false) : reifyR P h (sl b l) = some (lst false (O.vals l)) := reify_sl hob hs ha
theorem frz_part {b n lo : Nat} {t : TypeId} (hob : h[b]? = some (O.row t l)) (hn : n ≤ l.length) (hs : szOf P t = some 1) (ha : aggT P t = some false) (hlo : lo ≤ b) :
  freezeV P depth lo h (part b n l) = some (lst false (O.vals (l.take n)), if n = 0 then h else h.set b .dead) := by
 have e : ((O.vals l).drop 0).take (n * 1) = O.vals (l.take n) := by rw [List.drop_zero, Nat.mul_one, vals_take]
 exact frz_row1 (a := ⟨b, 0, some l.length⟩) (t := t) (c := O.vals l) (g := 1) hob hs hlo (by unfold stampOk; rw [vals_len]; simp) Nat.one_pos (by rw [vals_len]; simp; omega) (by rw [e]; exact vals_set _)
  (by rw [e]; exact elems_one ha hs) (by rw [vals_len, List.length_take]; omega)
theorem app {el : El} {lo b : Nat} {t : TypeId} {u : Value} (hel : el.size = 1) (hob : h[b]? = some (O.row t l)) (hu : sliceCells h 1 u = some (O.vals m, m.length)) (hlo : lo ≤ b) (hb : (l.length + m.length) * el.bytes ≤ 2 ^ 47) :
  appendT (some el) h lo false (sl b l) u = some (sl b (l ++ m), h.set b (O.row t (l ++ m))) := by
 have hob' : h[b]? = some (.cells t (O.vals l) 1) := hob
 unfold sl
 rw [append_slice, hel, hu]
 show appS el h lo false _ _ _ h[b]? _ = _
 by_cases hm : m.length = 0
 ·have : m = [] := List.eq_nil_of_length_eq_zero hm
  subst this
  have hf : fitsRow h ⟨b, 0, some l.length⟩ el.size = true := by rw [hel]; exact fits_row hob rfl
  unfold appS
  simp only [List.append_nil, List.length_nil, Nat.add_zero, Nat.le_refl, if_true, hf, Option.bind_some]
  congr 2
  refine (List.ext_getElem? fun i => ?_)
  rw [List.getElem?_set]
  split
  ·rename_i e; subst e
   split
   ·exact hob
   ·rename_i hlt; rw [List.getElem?_eq_none (by omega)]
  ·rfl
 ·rw [hob']
  refine (appS_grown (m := m.length) hm vals_len.symm rfl hel (by rw [vals_len]; omega) hlo hb).trans ?_
  unfold row
  rw [vals_app, List.length_append, vals_len, vals_len, List.length_append]
theorem app_nil {el : El} {lo : Nat} {st : Bool} {u : Value} (hel : el.size = 1) (hu : sliceCells h 1 u = some (O.vals m, m.length)) (hm : m ≠ []) (hb : m.length * el.bytes ≤ 2 ^ 47) :
  appendT (some el) h lo st (.slice none 0 0) u = some (sl h.length m, h ++ [O.row el.e m]) := by
 have hm0 : m.length ≠ 0 := fun e => hm (List.eq_nil_of_length_eq_zero e)
 rw [append_nil, hel, hu]
 simp only [Option.bind_some]
 rw [if_neg hm0, if_pos hb, vals_len]; rfl
end Enc
def intE : Enc Int := ⟨.int .i64, fun _ => rfl, fun _ _ => rfl, fun _ _ _ => rfl, fun _ _ => rfl⟩
end Go.Proofs.Ytadnganaeigchaa.Bm
namespace Go.Proofs.Ytadnganaeigchaa.Bm
open Go Go.RowKit
variable {h : Heap} {P : Program}
def cAt (b j : Nat) : Value := .pointer (some ⟨b, j, none⟩)
theorem obj_row {b : Nat} {t : TypeId} {c : List Value} (hob : h[b]? = some (.cells t c 0)) {j : Nat} : rowOf h ⟨b, j, none⟩ = some c := by
 unfold rowOf
 show (match h[b]? with | some (.cells _ c g) => _ | _ => none) = _
 rw [hob]; rfl
theorem obj_load {b j : Nat} {t : TypeId} {c : List Value} {v : Value} {sz : Option Nat} (hob : h[b]? = some (.cells t c 0)) (hc : c[j]? = some v) : loadT ⟨some false, sz⟩ h (cAt b j) = some v := by
 unfold cAt
 rw [load_one, obj_row hob, Option.bind_some, hc]
theorem obj_store {b j lo : Nat} {t : TypeId} {c : List Value} {v : Value} (hob : h[b]? = some (.cells t c 0)) (hj : j < c.length) (hlo : lo ≤ b) (hv : cellsOf v = some [v]) : storeT (some 1) h lo v (cAt b j) = some (h.set b (.cells t (c.set j v) 0)) := by
 unfold cAt
 rw [store_ptr, hv, Option.bind_some, if_pos (show 1 = [v].length from rfl)]
 unfold wrN
 show (match h[b]? with | some (.cells t c g) => _ | _ => none) = _
 rw [hob]
 show (if _ then _ else none) = _
 rw [if_pos ⟨hlo, rfl, by simp, by simp; omega⟩]
 show some (h.set b (.cells t (splice c j [v]) 0)) = _
 rw [splice_one hj]
theorem obj_frz {b lo : Nat} {t : TypeId} {c : List Value} (hob : h[b]? = some (.cells t c 0)) (hs : szOf P t = some c.length) (ha : aggT P t = some true) (hlo : lo ≤ b) (hc : c.all (settled 8) = true) :
  freezeV P depth lo h (cAt b 0) = some (cptr (.agg ⟨c⟩), h.set b .dead) := by
 unfold cAt
 rw [frz_ptr8 hob hs ha hlo, if_pos hc]; rfl
theorem isCp_cptr {v : Value} : isCp (cptr v) = true := rfl
theorem rop_loadC {E : Env} {C : Callee} {lo : Nat} {k : TI} {x : Operand} {ρ : Operand → Value} (hc : isCp (ρ x) = true) : ropR E C lo true (.load k x) ρ h = (loadT k h (ρ x)).map (·, h) := by
 show (if (true && !(isCp (ρ x) || isLow lo h (ρ x))) = true then none else _) = _
 rw [hc]; rfl
end Go.Proofs.Ytadnganaeigchaa.Bm
