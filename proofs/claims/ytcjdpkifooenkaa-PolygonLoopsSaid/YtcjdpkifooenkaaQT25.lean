/-
 The boundary of a region is a net; sums over its pieces. Conditions: none. No program in sight.
-/
import Derived.Test.YtcjdpkifooenkaaQT24
import Derived.Test.YtcjdpkifooenkaaQT21
namespace Go.Proofs.Ytcjdpkifooenkaa.Rg
structure Apart (a : List Rect) : Prop where
 pos : ∀ r ∈ a, r.x0 < r.x1 ∧ r.y0 < r.y1
 two : ∀ r ∈ a, ∀ s ∈ a, r.x1 ≤ s.x0 ∨ s.x1 ≤ r.x0 ∨ (r.x0 = s.x0 ∧ r.x1 = s.x1 ∧ (r = s ∨ r.y1 < s.y0 ∨ s.y1 < r.y0))
 nd : a.Nodup
theorem canS_ge : ∀ {l : List (Int × Int)} {b : Int}, canS b l → ∀ s ∈ l, b < s.1
 | [], _, _, s, h => absurd h List.not_mem_nil
 | (f, t) :: l, b, h, s, hs => by
  obtain ⟨h1, h2, h3⟩ := h
  rcases List.mem_cons.1 hs with q | q
  ·rw [q]; exact h1
  ·have := canS_ge h3 s q
   have h2 : f < t := h2
   omega
theorem canS_two : ∀ {l : List (Int × Int)} {b : Int}, canS b l → l.Pairwise fun s u => s.2 < u.1
 | [], _, _ => .nil
 | (f, t) :: l, b, h => List.pairwise_cons.2 ⟨fun u hu => canS_ge h.2.2 u hu, canS_two h.2.2⟩
theorem Can.two {l : List (Int × Int)} (h : Can l) : l.Pairwise (fun s u => s.2 < u.1) := by
 cases l with
 | nil => exact .nil
 | cons s l =>
  obtain ⟨f, t⟩ := s
  exact canS_two (b := f - 1) (canS_ex h (f - 1) fun u hu => by
   rcases List.mem_cons.1 hu with q | q
   ·rw [q]; show f - 1 < f; omega
   ·have := canS_ge h.2 u q
    have h1 : f < t := h.1
    omega)
theorem pair_mem {α : Type} {R : α → α → Prop} : ∀ {l : List α}, l.Pairwise R → ∀ a ∈ l, ∀ b ∈ l, a = b ∨ R a b ∨ R b a
 | [], _, a, ha, _, _ => absurd ha List.not_mem_nil
 | c :: l, h, a, ha, b, hb => by
  rw [List.pairwise_cons] at h
  rcases List.mem_cons.1 ha with p | p
  ·rcases List.mem_cons.1 hb with q | q
   ·exact .inl (p.trans q.symm)
   ·rw [p]; exact .inr (.inl (h.1 b q))
  ·rcases List.mem_cons.1 hb with q | q
   ·rw [q]; exact .inr (.inr (h.1 a p))
   ·exact pair_mem h.2 a p b q
theorem slabs_apart : ∀ {T : List Slab} {b : Int} {c : List (Int × Int)}, canT b c T → Apart (outT T) ∧ ∀ r ∈ outT T, b ≤ r.x0
 | [], _, _, _ => ⟨⟨fun r h => absurd h List.not_mem_nil, fun r h => absurd h List.not_mem_nil, List.nodup_nil⟩, fun r h => absurd h List.not_mem_nil⟩
 | s :: T, b, c, h => by
  obtain ⟨h1, h2, h3, h4, h5, h6⟩ := h
  obtain ⟨i1, i2⟩ := slabs_apart h6
  have he : ∀ r ∈ emit s, r.x0 = s.x0 ∧ r.x1 = s.x1 ∧ (r.y0, r.y1) ∈ s.col ∧ r.y0 < r.y1 := fun r hr => by
   obtain ⟨u, hu, rfl⟩ := List.mem_map.1 hr
   exact ⟨rfl, rfl, hu, h4.all u hu⟩
  have hO : outT (s :: T) = emit s ++ outT T := rfl
  rw [hO]
  refine ⟨⟨fun r hr => ?_, fun r hr t ht => ?_, ?_⟩, fun r hr => ?_⟩
  ·rcases List.mem_append.1 hr with q | q
   ·obtain ⟨a1, a2, _, a4⟩ := he r q
    exact ⟨by omega, a4⟩
   ·exact i1.pos r q
  ·rcases List.mem_append.1 hr with q | q
   ·obtain ⟨a1, a2, a3, a4⟩ := he r q
    rcases List.mem_append.1 ht with p | p
    ·obtain ⟨b1, b2, b3, b4⟩ := he t p
     refine .inr (.inr ⟨by omega, by omega, ?_⟩)
     rcases pair_mem h4.two _ a3 _ b3 with e | e | e
     ·left
      obtain ⟨r0, r1, r2, r3⟩ := r
      obtain ⟨t0, t1, t2, t3⟩ := t
      simp only [Prod.mk.injEq] at e a1 a2 b1 b2
      obtain ⟨e1, e2⟩ := e
      subst e1; subst e2; subst a1; subst a2; subst b1; subst b2
      rfl
     ·exact .inr (.inl e)
     ·exact .inr (.inr e)
    ·have := i2 t p
     exact .inl (by omega)
   ·rcases List.mem_append.1 ht with p | p
    ·obtain ⟨b1, b2, _, _⟩ := he t p
     have := i2 r q
     exact .inr (.inl (by omega))
    ·exact i1.two r q t p
  ·rw [List.nodup_append]
   refine ⟨?_, i1.nd, fun r hr t ht hrt => ?_⟩
   ·unfold emit List.Nodup
    rw [List.pairwise_map]
    refine h4.two.imp_of_mem ?_
    intro u v hu hv huv e
    have : u.1 = v.1 := congrArg Rect.y0 e
    have := h4.all u hu
    omega
   ·obtain ⟨a1, a2, _, _⟩ := he r hr
    have := i2 t ht
    rw [← hrt] at this
    omega
  ·rcases List.mem_append.1 hr with q | q
   ·have := (he r q).1
    omega
   ·have := i2 r q
    omega
theorem Form.apart {a : List Rect} (h : Form a) : Apart a := by
 obtain ⟨b, T, h1, rfl⟩ := h
 exact (slabs_apart h1).1
def botR (r : Rect) : Sd := ((r.x0, r.y0), (r.x1, r.y0))
def topR (r : Rect) : Sd := ((r.x1, r.y1), (r.x0, r.y1))
def bdH (a : List Rect) : List Sd := a.flatMap fun r => [botR r, topR r]
def xsB (a : List Rect) : List Int := sortU (a.flatMap fun r => [r.x0, r.x1])
def endsX (a : List Rect) (x : Int) : List Rect := a.filter fun r => decide (r.x1 = x)
def begsX (a : List Rect) (x : Int) : List Rect := a.filter fun r => decide (r.x0 = x)
def inY (L : List Rect) (y : Int) : Bool := L.any fun r => decide (r.y0 ≤ y) && decide (y < r.y1)
def ysB (L R : List Rect) : List Int := sortU ((L ++ R).flatMap fun r => [r.y0, r.y1])
def upL (x : Int) (L R : List Rect) : List Int → List Sd
 | u :: v :: ys => (if (inY L u && !inY R u) = true then [((x, u), (x, v))] else if (inY R u && !inY L u) = true then [((x, v), (x, u))] else []) ++ upL x L R (v :: ys)
 | _ => []
def colX (a : List Rect) (x : Int) : List Sd := upL x (endsX a x) (begsX a x) (ysB (endsX a x) (begsX a x))
def bdL (a : List Rect) : List Sd := bdH a ++ (xsB a).flatMap (colX a)
theorem xs_mem {a : List Rect} {x : Int} : x ∈ xsB a ↔ ∃ r ∈ a, x = r.x0 ∨ x = r.x1 := by
 unfold xsB
 rw [sortU_mem, List.mem_flatMap]
 simp
theorem ys_mem {L R : List Rect} {y : Int} : y ∈ ysB L R ↔ ∃ r, (r ∈ L ∨ r ∈ R) ∧ (y = r.y0 ∨ y = r.y1) := by
 unfold ysB
 rw [sortU_mem, List.mem_flatMap]
 simp
section
variable {a : List Rect} (ha : Apart a)
include ha
theorem no_cross {x : Int} (hx : x ∈ xsB a) {r : Rect} (hr : r ∈ a) : ¬ (r.x0 < x ∧ x < r.x1) := by
 obtain ⟨s, hs, h⟩ := xs_mem.1 hx
 have h1 := ha.two r hr s hs
 have h2 := ha.pos s hs
 rintro ⟨h3, h4⟩
 rcases h with h | h <;> rcases h1 with q | q | ⟨q1, q2, _⟩ <;> omega
theorem left_in_cell {x : Int} (hx : x ∈ xsB a) (y : Int) : inY (endsX a x) y = cell a (x - 1) y := by
 rw [Bool.eq_iff_iff, cell_true]
 unfold inY endsX
 rw [List.any_eq_true]
 constructor
 ·rintro ⟨r, hr, h⟩
  obtain ⟨h1, h2⟩ := List.mem_filter.1 hr
  rw [decide_eq_true_eq] at h2
  rw [Bool.and_eq_true, decide_eq_true_eq, decide_eq_true_eq] at h
  have := ha.pos r h1
  exact ⟨r, h1, by omega, by omega, h.1, h.2⟩
 ·rintro ⟨r, hr, h1, h2, h3, h4⟩
  have := no_cross ha hx hr
  exact ⟨r, List.mem_filter.2 ⟨hr, by rw [decide_eq_true_eq]; omega⟩, by rw [Bool.and_eq_true, decide_eq_true_eq, decide_eq_true_eq]; exact ⟨h3, h4⟩⟩
theorem right_in_cell {x : Int} (hx : x ∈ xsB a) (y : Int) : inY (begsX a x) y = cell a x y := by
 rw [Bool.eq_iff_iff, cell_true]
 unfold inY begsX
 rw [List.any_eq_true]
 constructor
 ·rintro ⟨r, hr, h⟩
  obtain ⟨h1, h2⟩ := List.mem_filter.1 hr
  rw [decide_eq_true_eq] at h2
  rw [Bool.and_eq_true, decide_eq_true_eq, decide_eq_true_eq] at h
  have := ha.pos r h1
  exact ⟨r, h1, by omega, by omega, h.1, h.2⟩
 ·rintro ⟨r, hr, h1, h2, h3, h4⟩
  have := no_cross ha hx hr
  exact ⟨r, List.mem_filter.2 ⟨hr, by rw [decide_eq_true_eq]; omega⟩, by rw [Bool.and_eq_true, decide_eq_true_eq, decide_eq_true_eq]; exact ⟨h3, h4⟩⟩
theorem bot_at {x y : Int} (hx : x ∈ xsB a) : (∃ r ∈ a, r.x0 = x ∧ r.y0 = y) ↔ cell a x y = true ∧ cell a x (y - 1) = false := by
 constructor
 ·rintro ⟨r, hr, rfl, rfl⟩
  have hp := ha.pos r hr
  refine ⟨cell_true.2 ⟨r, hr, by omega, by omega, by omega, by omega⟩, Bool.eq_false_iff.2 fun h => ?_⟩
  obtain ⟨s, hs, s1, s2, s3, s4⟩ := cell_true.1 h
  rcases ha.two r hr s hs with q | q | ⟨_, _, q | q | q⟩
  ·omega
  ·omega
  ·rw [q] at s3; omega
  ·omega
  ·omega
 ·rintro ⟨h1, h2⟩
  obtain ⟨r, hr, r1, r2, r3, r4⟩ := cell_true.1 h1
  have := no_cross ha hx hr
  refine ⟨r, hr, by omega, ?_⟩
  by_cases q : r.y0 = y
  ·exact q
  ·have : cell a x (y - 1) = true := cell_true.2 ⟨r, hr, r1, r2, by omega, by omega⟩
   rw [h2] at this; cases this
theorem top_at {x y : Int} (hx : x ∈ xsB a) : (∃ r ∈ a, r.x0 = x ∧ r.y1 = y) ↔ cell a x (y - 1) = true ∧ cell a x y = false := by
 constructor
 ·rintro ⟨r, hr, rfl, rfl⟩
  have hp := ha.pos r hr
  refine ⟨cell_true.2 ⟨r, hr, by omega, by omega, by omega, by omega⟩, Bool.eq_false_iff.2 fun h => ?_⟩
  obtain ⟨s, hs, s1, s2, s3, s4⟩ := cell_true.1 h
  rcases ha.two r hr s hs with q | q | ⟨_, _, q | q | q⟩
  ·omega
  ·omega
  ·rw [q] at s4; omega
  ·omega
  ·omega
 ·rintro ⟨h1, h2⟩
  obtain ⟨r, hr, r1, r2, r3, r4⟩ := cell_true.1 h1
  have := no_cross ha hx hr
  refine ⟨r, hr, by omega, ?_⟩
  by_cases q : r.y1 = y
  ·exact q
  ·have : cell a x y = true := cell_true.2 ⟨r, hr, r1, r2, by omega, by omega⟩
   rw [h2] at this; cases this
theorem botE_at {x y : Int} (hx : x ∈ xsB a) : (∃ r ∈ a, r.x1 = x ∧ r.y0 = y) ↔ cell a (x - 1) y = true ∧ cell a (x - 1) (y - 1) = false := by
 constructor
 ·rintro ⟨r, hr, rfl, rfl⟩
  have hp := ha.pos r hr
  refine ⟨cell_true.2 ⟨r, hr, by omega, by omega, by omega, by omega⟩, Bool.eq_false_iff.2 fun h => ?_⟩
  obtain ⟨s, hs, s1, s2, s3, s4⟩ := cell_true.1 h
  rcases ha.two r hr s hs with q | q | ⟨_, _, q | q | q⟩
  ·omega
  ·omega
  ·rw [q] at s3; omega
  ·omega
  ·omega
 ·rintro ⟨h1, h2⟩
  obtain ⟨r, hr, r1, r2, r3, r4⟩ := cell_true.1 h1
  have := no_cross ha hx hr
  refine ⟨r, hr, by omega, ?_⟩
  by_cases q : r.y0 = y
  ·exact q
  ·have : cell a (x - 1) (y - 1) = true := cell_true.2 ⟨r, hr, r1, r2, by omega, by omega⟩
   rw [h2] at this; cases this
theorem topE_at {x y : Int} (hx : x ∈ xsB a) : (∃ r ∈ a, r.x1 = x ∧ r.y1 = y) ↔ cell a (x - 1) (y - 1) = true ∧ cell a (x - 1) y = false := by
 constructor
 ·rintro ⟨r, hr, rfl, rfl⟩
  have hp := ha.pos r hr
  refine ⟨cell_true.2 ⟨r, hr, by omega, by omega, by omega, by omega⟩, Bool.eq_false_iff.2 fun h => ?_⟩
  obtain ⟨s, hs, s1, s2, s3, s4⟩ := cell_true.1 h
  rcases ha.two r hr s hs with q | q | ⟨_, _, q | q | q⟩
  ·omega
  ·omega
  ·rw [q] at s4; omega
  ·omega
  ·omega
 ·rintro ⟨h1, h2⟩
  obtain ⟨r, hr, r1, r2, r3, r4⟩ := cell_true.1 h1
  have := no_cross ha hx hr
  refine ⟨r, hr, by omega, ?_⟩
  by_cases q : r.y1 = y
  ·exact q
  ·have : cell a (x - 1) y = true := cell_true.2 ⟨r, hr, r1, r2, by omega, by omega⟩
   rw [h2] at this; cases this
end
end Go.Proofs.Ytcjdpkifooenkaa.Rg
namespace Go.Proofs.Ytcjdpkifooenkaa.Rg
def adjL (l : List Int) (u v : Int) : Prop := ∃ p q, l = p ++ u :: v :: q
theorem adj_cons {c : Int} {l : List Int} {u v : Int} (h : adjL l u v) : adjL (c :: l) u v := by
 obtain ⟨p, q, rfl⟩ := h
 exact ⟨c :: p, q, rfl⟩
theorem adj_cases {c d : Int} {l : List Int} {u v : Int} (h : adjL (c :: d :: l) u v) : (u = c ∧ v = d) ∨ adjL (d :: l) u v := by
 obtain ⟨p, q, e⟩ := h
 cases p with
 | nil =>
  simp only [List.nil_append, List.cons.injEq] at e
  exact .inl ⟨e.1.symm, e.2.1.symm⟩
 | cons b p =>
  simp only [List.cons_append, List.cons.injEq] at e
  exact .inr ⟨p, q, e.2⟩
theorem adj_mem {l : List Int} {u v : Int} (h : adjL l u v) : u ∈ l ∧ v ∈ l := by
 obtain ⟨p, q, rfl⟩ := h
 exact ⟨by simp, by simp⟩
theorem adj_lt {l : List Int} (hp : l.Pairwise (· < ·)) {u v : Int} (h : adjL l u v) : u < v := by
 obtain ⟨p, q, rfl⟩ := h
 have := (List.pairwise_append.1 hp).2.1
 rw [List.pairwise_cons] at this
 exact this.1 v (List.mem_cons_self ..)
theorem adj_btw {l : List Int} (hp : l.Pairwise (· < ·)) {u v e : Int} (h : adjL l u v) (he : e ∈ l) : e ≤ u ∨ v ≤ e := by
 obtain ⟨p, q, h⟩ := h
 exact between hp h he
theorem adj_next {l : List Int} (hp : l.Pairwise (· < ·)) {u : Int} (hu : u ∈ l) {z : Int} (hz : z ∈ l) (h : u < z) : ∃ v, adjL l u v := by
 obtain ⟨p, q, e⟩ := List.append_of_mem hu
 subst e
 cases q with
 | nil =>
  exfalso
  rcases List.mem_append.1 hz with k | k
  ·have := (List.pairwise_append.1 hp).2.2 z k u (List.mem_cons_self ..)
   omega
  ·have := List.mem_singleton.1 k
   omega
 | cons v q => exact ⟨v, p, q, rfl⟩
theorem adj_prev {l : List Int} (hp : l.Pairwise (· < ·)) {v : Int} (hv : v ∈ l) {z : Int} (hz : z ∈ l) (h : z < v) : ∃ u, adjL l u v := by
 obtain ⟨p, q, e⟩ := List.append_of_mem hv
 subst e
 rcases List.eq_nil_or_concat p with rfl | ⟨p', u, rfl⟩
 ·exfalso
  rw [List.nil_append] at hp hz
  rw [List.pairwise_cons] at hp
  rcases List.mem_cons.1 hz with k | k
  ·omega
  ·have := hp.1 z k; omega
 ·rw [List.concat_eq_append]
  exact ⟨u, p', q, by simp⟩
theorem adj_unr {l : List Int} (hp : l.Pairwise (· < ·)) {u v w : Int} (h : adjL l u v) (k : adjL l u w) : v = w := by
 have h1 := adj_lt hp h
 have h2 := adj_lt hp k
 have h3 := adj_btw hp h (adj_mem k).2
 have h4 := adj_btw hp k (adj_mem h).2
 omega
theorem adj_unl {l : List Int} (hp : l.Pairwise (· < ·)) {u v w : Int} (h : adjL l u w) (k : adjL l v w) : u = v := by
 have h1 := adj_lt hp h
 have h2 := adj_lt hp k
 have h3 := adj_btw hp h (adj_mem k).1
 have h4 := adj_btw hp k (adj_mem h).1
 omega
theorem up_mem {x : Int} {L R : List Rect} {s : Sd} : ∀ {ys : List Int}, s ∈ upL x L R ys ↔ ∃ u v, adjL ys u v ∧ ((s = ((x, u), (x, v)) ∧ inY L u = true ∧ inY R u = false) ∨ (s = ((x, v), (x, u)) ∧ inY R u = true ∧ inY L u = false))
 | [] => ⟨fun h => absurd h List.not_mem_nil, fun ⟨u, v, ⟨p, q, e⟩, _⟩ => by cases p <;> cases e⟩
 | [c] => ⟨fun h => absurd h List.not_mem_nil, fun ⟨u, v, ⟨p, q, e⟩, _⟩ => by
   cases p with
   | nil => simp at e
   | cons b p => cases p <;> simp at e⟩
 | c :: d :: ys => by
  have ih := up_mem (x := x) (L := L) (R := R) (s := s) (ys := d :: ys)
  show s ∈ (if (inY L c && !inY R c) = true then [((x, c), (x, d))] else if (inY R c && !inY L c) = true then [((x, d), (x, c))] else []) ++ upL x L R (d :: ys) ↔ _
  rw [List.mem_append, ih]
  constructor
  ·rintro (h | ⟨u, v, h1, h2⟩)
   ·refine ⟨c, d, ⟨[], ys, rfl⟩, ?_⟩
    cases h1 : inY L c <;> cases h2 : inY R c <;> rw [h1, h2] at h <;> simp at h
    ·exact .inr ⟨h, rfl, rfl⟩
    ·exact .inl ⟨h, rfl, rfl⟩
   ·exact ⟨u, v, adj_cons h1, h2⟩
  ·rintro ⟨u, v, h1, h2⟩
   rcases adj_cases h1 with ⟨rfl, rfl⟩ | h1
   ·left
    rcases h2 with ⟨e, h3, h4⟩ | ⟨e, h3, h4⟩
    ·rw [h3, h4, e]; simp
    ·rw [h3, h4, e]; simp
   ·exact .inr ⟨u, v, h1, h2⟩
def ysX (a : List Rect) (x : Int) : List Int := ysB (endsX a x) (begsX a x)
theorem ysX_asc (a : List Rect) (x : Int) : (ysX a x).Pairwise (· < ·) := sortU_asc _
theorem ysX_mem {a : List Rect} {x y : Int} : y ∈ ysX a x ↔ ∃ r ∈ a, (r.x1 = x ∨ r.x0 = x) ∧ (y = r.y0 ∨ y = r.y1) := by
 unfold ysX endsX begsX
 rw [ys_mem]
 simp only [List.mem_filter, decide_eq_true_eq]
 constructor
 ·rintro ⟨r, ⟨h1, h2⟩ | ⟨h1, h2⟩, h3⟩
  ·exact ⟨r, h1, .inl h2, h3⟩
  ·exact ⟨r, h1, .inr h2, h3⟩
 ·rintro ⟨r, h1, h2 | h2, h3⟩
  ·exact ⟨r, .inl ⟨h1, h2⟩, h3⟩
  ·exact ⟨r, .inr ⟨h1, h2⟩, h3⟩
def QIn (a : List Rect) (x y : Int) : Bool → Bool → Prop
 | false, true => cell a (x - 1) y = true ∧ cell a (x - 1) (y - 1) = false
 | false, false => cell a x (y - 1) = true ∧ cell a x y = false
 | true, true => cell a (x - 1) (y - 1) = true ∧ cell a x (y - 1) = false
 | true, false => cell a x y = true ∧ cell a (x - 1) y = false
def QOut (a : List Rect) (x y : Int) : Bool → Bool → Prop
 | false, true => cell a x y = true ∧ cell a x (y - 1) = false
 | false, false => cell a (x - 1) (y - 1) = true ∧ cell a (x - 1) y = false
 | true, true => cell a (x - 1) y = true ∧ cell a x y = false
 | true, false => cell a x (y - 1) = true ∧ cell a (x - 1) (y - 1) = false
section
variable {a : List Rect} (ha : Apart a)
include ha
theorem col_const {x u v : Int} (hx : x ∈ xsB a) (h : adjL (ysX a x) u v) : cell a (x - 1) u = cell a (x - 1) (v - 1) ∧ cell a x u = cell a x (v - 1) := by
 have hlt := adj_lt (ysX_asc a x) h
 rw [← left_in_cell ha hx, ← left_in_cell ha hx, ← right_in_cell ha hx, ← right_in_cell ha hx]
 have key : ∀ L : List Rect, (∀ r ∈ L, r.y0 ∈ ysX a x ∧ r.y1 ∈ ysX a x) → inY L u = inY L (v - 1) := fun L hL => any_ext fun r hr => by
  obtain ⟨h1, h2⟩ := hL r hr
  have h1 := adj_btw (ysX_asc a x) h h1
  have h2 := adj_btw (ysX_asc a x) h h2
  rw [Bool.eq_iff_iff, Bool.and_eq_true, Bool.and_eq_true, decide_eq_true_eq, decide_eq_true_eq, decide_eq_true_eq, decide_eq_true_eq]
  omega
 constructor
 ·refine key _ fun r hr => ?_
  obtain ⟨h1, h2⟩ := List.mem_filter.1 hr
  rw [decide_eq_true_eq] at h2
  exact ⟨ysX_mem.2 ⟨r, h1, .inl h2, .inl rfl⟩, ysX_mem.2 ⟨r, h1, .inl h2, .inr rfl⟩⟩
 ·refine key _ fun r hr => ?_
  obtain ⟨h1, h2⟩ := List.mem_filter.1 hr
  rw [decide_eq_true_eq] at h2
  exact ⟨ysX_mem.2 ⟨r, h1, .inr h2, .inl rfl⟩, ysX_mem.2 ⟨r, h1, .inr h2, .inr rfl⟩⟩
theorem bd_mem {s : Sd} : s ∈ bdL a ↔ (∃ r ∈ a, s = botR r) ∨ (∃ r ∈ a, s = topR r) ∨
  (∃ x ∈ xsB a, ∃ u v, adjL (ysX a x) u v ∧ s = ((x, u), (x, v)) ∧ cell a (x - 1) u = true ∧ cell a x u = false) ∨
  (∃ x ∈ xsB a, ∃ u v, adjL (ysX a x) u v ∧ s = ((x, v), (x, u)) ∧ cell a x u = true ∧ cell a (x - 1) u = false) := by
 unfold bdL bdH
 rw [List.mem_append, List.mem_flatMap, List.mem_flatMap]
 constructor
 ·rintro (⟨r, hr, h⟩ | ⟨x, hx, h⟩)
  ·simp only [List.mem_cons, List.not_mem_nil, or_false] at h
   rcases h with h | h
   ·exact .inl ⟨r, hr, h⟩
   ·exact .inr (.inl ⟨r, hr, h⟩)
  ·unfold colX at h
   rw [up_mem] at h
   obtain ⟨u, v, h1, h2⟩ := h
   rw [left_in_cell ha hx, right_in_cell ha hx] at h2
   rcases h2 with ⟨e, h3, h4⟩ | ⟨e, h3, h4⟩
   ·exact .inr (.inr (.inl ⟨x, hx, u, v, h1, e, h3, h4⟩))
   ·exact .inr (.inr (.inr ⟨x, hx, u, v, h1, e, h3, h4⟩))
 ·rintro (⟨r, hr, rfl⟩ | ⟨r, hr, rfl⟩ | ⟨x, hx, u, v, h1, h2⟩ | ⟨x, hx, u, v, h1, h2⟩)
  ·exact .inl ⟨r, hr, by simp⟩
  ·exact .inl ⟨r, hr, by simp⟩
  ·refine .inr ⟨x, hx, ?_⟩
   unfold colX
   rw [up_mem]
   refine ⟨u, v, h1, ?_⟩
   rw [left_in_cell ha hx, right_in_cell ha hx]
   exact .inl h2
  ·refine .inr ⟨x, hx, ?_⟩
   unfold colX
   rw [up_mem]
   refine ⟨u, v, h1, ?_⟩
   rw [left_in_cell ha hx, right_in_cell ha hx]
   exact .inr h2
theorem bot_kind {r : Rect} (hr : r ∈ a) : upS (botR r) = false ∧ fwS (botR r) = true ∧ stS (botR r) := by
 have := ha.pos r hr
 have e : upS (botR r) = false := decide_eq_false (by show ¬ r.x0 = r.x1; omega)
 refine ⟨e, ?_, ?_⟩
 ·unfold fwS; rw [e, if_neg (by decide)]; exact decide_eq_true (by show r.x0 < r.x1; omega)
 ·unfold stS; rw [e, if_neg (by decide)]; rfl
theorem top_kind {r : Rect} (hr : r ∈ a) : upS (topR r) = false ∧ fwS (topR r) = false ∧ stS (topR r) := by
 have := ha.pos r hr
 have e : upS (topR r) = false := decide_eq_false (by show ¬ r.x1 = r.x0; omega)
 refine ⟨e, ?_, ?_⟩
 ·unfold fwS; rw [e, if_neg (by decide)]; exact decide_eq_false (by show ¬ r.x1 < r.x0; omega)
 ·unfold stS; rw [e, if_neg (by decide)]; rfl
omit ha in
theorem up_kind {x u v : Int} (h : u < v) : upS ((x, u), (x, v)) = true ∧ fwS ((x, u), (x, v)) = true ∧ stS ((x, u), (x, v)) := by
 have e : upS ((x, u), (x, v)) = true := decide_eq_true rfl
 refine ⟨e, ?_, ?_⟩
 ·unfold fwS; rw [e, if_pos rfl]; exact decide_eq_true h
 ·unfold stS; rw [e, if_pos rfl]; show u ≠ v; omega
omit ha in
theorem down_kind {x u v : Int} (h : u < v) : upS ((x, v), (x, u)) = true ∧ fwS ((x, v), (x, u)) = false ∧ stS ((x, v), (x, u)) := by
 have e : upS ((x, v), (x, u)) = true := decide_eq_true rfl
 refine ⟨e, ?_, ?_⟩
 ·unfold fwS; rw [e, if_pos rfl]; exact decide_eq_false (by show ¬ v < u; omega)
 ·unfold stS; rw [e, if_pos rfl]; show v ≠ u; omega
omit ha in
theorem xs0 {r : Rect} (hr : r ∈ a) : r.x0 ∈ xsB a := xs_mem.2 ⟨r, hr, .inl rfl⟩
omit ha in
theorem xs1 {r : Rect} (hr : r ∈ a) : r.x1 ∈ xsB a := xs_mem.2 ⟨r, hr, .inr rfl⟩
theorem bd_told {s : Sd} (h : s ∈ bdL a) : stS s ∧ (QIn a s.2.1 s.2.2 (upS s) (fwS s) ∧ s.2.1 ∈ xsB a ∧ s.2.2 ∈ ysX a s.2.1) ∧ QOut a s.1.1 s.1.2 (upS s) (fwS s) := by
 rcases (bd_mem ha).1 h with ⟨r, hr, rfl⟩ | ⟨r, hr, rfl⟩ | ⟨x, hx, u, v, h1, rfl, h2, h3⟩ | ⟨x, hx, u, v, h1, rfl, h2, h3⟩
 ·obtain ⟨k1, k2, k3⟩ := bot_kind ha hr
  rw [k1, k2]
  exact ⟨k3, ⟨(botE_at ha (xs1 hr)).1 ⟨r, hr, rfl, rfl⟩, xs1 hr, ysX_mem.2 ⟨r, hr, .inl rfl, .inl rfl⟩⟩, (bot_at ha (xs0 hr)).1 ⟨r, hr, rfl, rfl⟩⟩
 ·obtain ⟨k1, k2, k3⟩ := top_kind ha hr
  rw [k1, k2]
  exact ⟨k3, ⟨(top_at ha (xs0 hr)).1 ⟨r, hr, rfl, rfl⟩, xs0 hr, ysX_mem.2 ⟨r, hr, .inr rfl, .inr rfl⟩⟩, (topE_at ha (xs1 hr)).1 ⟨r, hr, rfl, rfl⟩⟩
 ·obtain ⟨k1, k2, k3⟩ := up_kind (x := x) (adj_lt (ysX_asc a x) h1)
  obtain ⟨c1, c2⟩ := col_const ha hx h1
  rw [k1, k2]
  exact ⟨k3, ⟨⟨c1.symm.trans h2, c2.symm.trans h3⟩, hx, (adj_mem h1).2⟩, h2, h3⟩
 ·obtain ⟨k1, k2, k3⟩ := down_kind (x := x) (adj_lt (ysX_asc a x) h1)
  obtain ⟨c1, c2⟩ := col_const ha hx h1
  rw [k1, k2]
  exact ⟨k3, ⟨⟨h2, h3⟩, hx, (adj_mem h1).1⟩, c2.symm.trans h2, c1.symm.trans h3⟩
theorem out_ex {x y : Int} (hx : x ∈ xsB a) (hy : y ∈ ysX a x) {o f : Bool} (h : QOut a x y o f) : ∃ t ∈ bdL a, t.1 = (x, y) ∧ upS t = o ∧ fwS t = f := by
 cases o <;> cases f
 ·obtain ⟨r, hr, h1, h2⟩ := (topE_at ha hx).2 h
  obtain ⟨k1, k2, _⟩ := top_kind ha hr
  exact ⟨topR r, (bd_mem ha).2 (.inr (.inl ⟨r, hr, rfl⟩)), by unfold topR; rw [h1, h2], k1, k2⟩
 ·obtain ⟨r, hr, h1, h2⟩ := (bot_at ha hx).2 h
  obtain ⟨k1, k2, _⟩ := bot_kind ha hr
  exact ⟨botR r, (bd_mem ha).2 (.inl ⟨r, hr, rfl⟩), by unfold botR; rw [h1, h2], k1, k2⟩
 ·obtain ⟨h1, h2⟩ := h
  have h1' := h1
  rw [← right_in_cell ha hx] at h1'
  obtain ⟨r, hr, hr2⟩ := List.any_eq_true.1 h1'
  rw [Bool.and_eq_true, decide_eq_true_eq, decide_eq_true_eq] at hr2
  obtain ⟨r1, r2⟩ := List.mem_filter.1 hr
  rw [decide_eq_true_eq] at r2
  obtain ⟨u, hu⟩ := adj_prev (ysX_asc a x) hy (ysX_mem.2 ⟨r, r1, .inr r2, .inl rfl⟩) (by omega)
  obtain ⟨c1, c2⟩ := col_const ha hx hu
  obtain ⟨k1, k2, _⟩ := down_kind (x := x) (adj_lt (ysX_asc a x) hu)
  exact ⟨((x, y), (x, u)), (bd_mem ha).2 (.inr (.inr (.inr ⟨x, hx, u, y, hu, rfl, c2.trans h1, c1.trans h2⟩))), rfl, k1, k2⟩
 ·obtain ⟨h1, h2⟩ := h
  have h1' := h1
  rw [← left_in_cell ha hx] at h1'
  obtain ⟨r, hr, hr2⟩ := List.any_eq_true.1 h1'
  rw [Bool.and_eq_true, decide_eq_true_eq, decide_eq_true_eq] at hr2
  obtain ⟨r1, r2⟩ := List.mem_filter.1 hr
  rw [decide_eq_true_eq] at r2
  obtain ⟨v, hv⟩ := adj_next (ysX_asc a x) hy (ysX_mem.2 ⟨r, r1, .inl r2, .inr rfl⟩) (by omega)
  obtain ⟨k1, k2, _⟩ := up_kind (x := x) (adj_lt (ysX_asc a x) hv)
  exact ⟨((x, y), (x, v)), (bd_mem ha).2 (.inr (.inr (.inl ⟨x, hx, y, v, hv, rfl, h1, h2⟩))), rfl, k1, k2⟩
theorem rect_uni {r s : Rect} (hr : r ∈ a) (hs : s ∈ a) (hx : r.x0 = s.x0 ∨ r.x1 = s.x1) (hy : r.y0 = s.y0 ∨ r.y1 = s.y1) : r = s := by
 have h1 := ha.pos r hr
 have h2 := ha.pos s hs
 rcases ha.two r hr s hs with q | q | ⟨_, _, q | q | q⟩
 ·omega
 ·omega
 ·exact q
 ·omega
 ·omega
theorem bd_uni {s t : Sd} (hs : s ∈ bdL a) (ht : t ∈ bdL a) (h : s.1 = t.1 ∨ s.2 = t.2) (h1 : upS s = upS t) (h2 : fwS s = fwS t) : s = t := by
 rcases (bd_mem ha).1 hs with ⟨r, hr, rfl⟩ | ⟨r, hr, rfl⟩ | ⟨x, hx, u, v, k1, rfl, _, _⟩ | ⟨x, hx, u, v, k1, rfl, _, _⟩ <;>
 rcases (bd_mem ha).1 ht with ⟨r', hr', rfl⟩ | ⟨r', hr', rfl⟩ | ⟨x', hx', u', v', k1', rfl, _, _⟩ | ⟨x', hx', u', v', k1', rfl, _, _⟩
 ·have : r = r' := by
   refine rect_uni ha hr hr' ?_ ?_ <;> rcases h with h | h <;> simp only [botR, Prod.mk.injEq] at h <;> omega
  rw [this]
 ·rw [(bot_kind ha hr).2.1, (top_kind ha hr').2.1] at h2; cases h2
 ·rw [(bot_kind ha hr).1, (up_kind (x := x') (adj_lt (ysX_asc a x') k1')).1] at h1; cases h1
 ·rw [(bot_kind ha hr).1, (down_kind (x := x') (adj_lt (ysX_asc a x') k1')).1] at h1; cases h1
 ·rw [(top_kind ha hr).2.1, (bot_kind ha hr').2.1] at h2; cases h2
 ·have : r = r' := by
   refine rect_uni ha hr hr' ?_ ?_ <;> rcases h with h | h <;> simp only [topR, Prod.mk.injEq] at h <;> omega
  rw [this]
 ·rw [(top_kind ha hr).1, (up_kind (x := x') (adj_lt (ysX_asc a x') k1')).1] at h1; cases h1
 ·rw [(top_kind ha hr).1, (down_kind (x := x') (adj_lt (ysX_asc a x') k1')).1] at h1; cases h1
 ·rw [(bot_kind ha hr').1, (up_kind (x := x) (adj_lt (ysX_asc a x) k1)).1] at h1; cases h1
 ·rw [(top_kind ha hr').1, (up_kind (x := x) (adj_lt (ysX_asc a x) k1)).1] at h1; cases h1
 ·simp only [Prod.mk.injEq] at h
  have ex : x = x' := by rcases h with h | h <;> exact h.1
  subst ex
  rcases h with ⟨_, h⟩ | ⟨_, h⟩
  ·subst h; rw [adj_unr (ysX_asc a x) k1 k1']
  ·subst h; rw [adj_unl (ysX_asc a x) k1 k1']
 ·rw [(up_kind (x := x) (adj_lt (ysX_asc a x) k1)).2.1, (down_kind (x := x') (adj_lt (ysX_asc a x') k1')).2.1] at h2; cases h2
 ·rw [(bot_kind ha hr').1, (down_kind (x := x) (adj_lt (ysX_asc a x) k1)).1] at h1; cases h1
 ·rw [(top_kind ha hr').1, (down_kind (x := x) (adj_lt (ysX_asc a x) k1)).1] at h1; cases h1
 ·rw [(down_kind (x := x) (adj_lt (ysX_asc a x) k1)).2.1, (up_kind (x := x') (adj_lt (ysX_asc a x') k1')).2.1] at h2; cases h2
 ·simp only [Prod.mk.injEq] at h
  have ex : x = x' := by rcases h with h | h <;> exact h.1
  subst ex
  rcases h with ⟨_, h⟩ | ⟨_, h⟩
  ·subst h; rw [adj_unl (ysX_asc a x) k1 k1']
  ·subst h; rw [adj_unr (ysX_asc a x) k1 k1']
end
end Go.Proofs.Ytcjdpkifooenkaa.Rg
namespace Go.Proofs.Ytcjdpkifooenkaa.Rg
def qIn (ne se nw sw : Bool) : Bool → Bool → Bool
 | false, true => nw && !sw
 | false, false => se && !ne
 | true, true => sw && !se
 | true, false => ne && !nw
def qOut (ne se nw sw : Bool) : Bool → Bool → Bool
 | false, true => ne && !se
 | false, false => sw && !nw
 | true, true => nw && !ne
 | true, false => se && !sw
def leftF (o f : Bool) : Bool := if o then !f else f
theorem qIn_iff {a : List Rect} {x y : Int} {o f : Bool} : QIn a x y o f ↔ qIn (cell a x y) (cell a x (y - 1)) (cell a (x - 1) y) (cell a (x - 1) (y - 1)) o f = true := by
 cases o <;> cases f <;> unfold QIn qIn <;> simp
theorem qOut_iff {a : List Rect} {x y : Int} {o f : Bool} : QOut a x y o f ↔ qOut (cell a x y) (cell a x (y - 1)) (cell a (x - 1) y) (cell a (x - 1) (y - 1)) o f = true := by
 cases o <;> cases f <;> unfold QOut qOut <;> simp
theorem q_next : ∀ ne se nw sw o f : Bool, qIn ne se nw sw o f = true → qOut ne se nw sw (!o) (leftF o f) = true ∨ ((∃ o' f' : Bool, qOut ne se nw sw o' f' = true) ∧ ∀ o1 f1 o2 f2 : Bool, qOut ne se nw sw o1 f1 = true → qOut ne se nw sw o2 f2 = true → o1 = o2 ∧ f1 = f2) := by decide
theorem q_rev : ∀ ne se nw sw o f g : Bool, qIn ne se nw sw o f = true → qOut ne se nw sw o g = true → f = g := by decide
theorem q_two : ∀ ne se nw sw o f p g : Bool, qIn ne se nw sw o f = true → qIn ne se nw sw p g = true → ¬ (o = p ∧ f = g) → qOut ne se nw sw (!o) (leftF o f) = true := by decide
theorem left_turn {s t : Sd} (hs : stS s) (ht : stS t) (h1 : upS t = !upS s) (h2 : fwS t = leftF (upS s) (fwS s)) : 0 < turnI s t := by
 cases q : upS s
 ·rw [q] at h1 h2
  rw [turn_ho hs ht q h1, if_pos (show fwS s = fwS t from by rw [h2]; rfl)]
  decide
 ·rw [q] at h1 h2
  rw [turn_up hs ht q h1, if_neg (fun e => by rw [h2] at e; unfold leftF at e; cases x : fwS s <;> rw [x] at e <;> simp at e)]
  decide
theorem nodup_fm {α β : Type} {f : α → List β} : ∀ {l : List α}, l.Nodup → (∀ x ∈ l, (f x).Nodup) → (∀ x ∈ l, ∀ y ∈ l, x ≠ y → ∀ z, z ∈ f x → z ∉ f y) → (l.flatMap f).Nodup
 | [], _, _, _ => List.nodup_nil
 | x :: l, h, h1, h2 => by
  rw [List.nodup_cons] at h
  rw [List.flatMap_cons, List.nodup_append]
  refine ⟨h1 x (List.mem_cons_self ..), nodup_fm h.2 (fun y hy => h1 y (List.mem_cons_of_mem _ hy)) fun y hy z hz => h2 y (List.mem_cons_of_mem _ hy) z (List.mem_cons_of_mem _ hz), fun u hu v hv huv => ?_⟩
  obtain ⟨y, hy, hyv⟩ := List.mem_flatMap.1 hv
  subst huv
  exact h2 x (List.mem_cons_self ..) y (List.mem_cons_of_mem _ hy) (fun e => h.1 (e ▸ hy)) u hu hyv
theorem up_nodup (x : Int) (L R : List Rect) : ∀ {ys : List Int}, ys.Pairwise (· < ·) → (upL x L R ys).Nodup
 | [], _ => List.nodup_nil
 | [_], _ => List.nodup_nil
 | c :: d :: ys, h => by
  have hcd : c < d := (List.pairwise_cons.1 h).1 d (List.mem_cons_self ..)
  have ih := up_nodup x L R (List.pairwise_cons.1 h).2
  have hge : ∀ u v, adjL (d :: ys) u v → d ≤ u := fun u v k => by
   rcases List.mem_cons.1 (adj_mem k).1 with q | q
   ·omega
   ·have := (List.pairwise_cons.1 (List.pairwise_cons.1 h).2).1 u q
    omega
  show ((if (inY L c && !inY R c) = true then [((x, c), (x, d))] else if (inY R c && !inY L c) = true then [((x, d), (x, c))] else []) ++ upL x L R (d :: ys)).Nodup
  rw [List.nodup_append]
  refine ⟨?_, ih, fun s hs t ht hst => ?_⟩
  ·split
   ·simp
   ·split <;> simp
  ·subst hst
   obtain ⟨u, v, k, k2⟩ := up_mem.1 ht
   have h1 := hge u v k
   have h2 := adj_lt (List.pairwise_cons.1 h).2 k
   have hs' : s = ((x, c), (x, d)) ∨ s = ((x, d), (x, c)) := by
    split at hs
    ·exact .inl (List.mem_singleton.1 hs)
    ·split at hs
     ·exact .inr (List.mem_singleton.1 hs)
     ·cases hs
   rcases hs' with e | e <;> rcases k2 with ⟨e2, _⟩ | ⟨e2, _⟩ <;> rw [e] at e2 <;> simp only [Prod.mk.injEq] at e2 <;> omega
section
variable {a : List Rect} (ha : Apart a)
include ha
theorem bd_nodup : (bdL a).Nodup := by
 unfold bdL
 rw [List.nodup_append]
 refine ⟨?_, ?_, fun s hs t ht hst => ?_⟩
 ·unfold bdH
  refine nodup_fm ha.nd (fun r hr => ?_) fun r hr s hs hrs z hz hz2 => ?_
  ·have := ha.pos r hr
   rw [List.nodup_cons]
   refine ⟨fun h => ?_, by simp⟩
   have h := List.mem_singleton.1 h
   unfold botR topR at h
   simp only [Prod.mk.injEq] at h
   omega
  ·have hr' := bot_kind ha hr
   have hr2 := top_kind ha hr
   have hs' := bot_kind ha hs
   have hs2 := top_kind ha hs
   have b1 : botR r ∈ bdL a := (bd_mem ha).2 (.inl ⟨r, hr, rfl⟩)
   simp only [List.mem_cons, List.not_mem_nil, or_false] at hz hz2
   rcases hz with e | e <;> rcases hz2 with e2 | e2 <;> rw [e] at e2
   ·refine hrs (rect_uni ha hr hs ?_ ?_) <;> simp only [botR, Prod.mk.injEq] at e2 <;> omega
   ·rw [e2] at hr'; rw [hs2.2.1] at hr'; cases hr'.2.1
   ·rw [e2] at hr2; rw [hs'.2.1] at hr2; cases hr2.2.1
   ·refine hrs (rect_uni ha hr hs ?_ ?_) <;> simp only [topR, Prod.mk.injEq] at e2 <;> omega
 ·have hxn : (xsB a).Nodup := (sortU_asc _).imp fun h => by omega
  refine nodup_fm hxn (fun x _ => up_nodup x _ _ (ysX_asc a x)) fun x _ y _ hxy z hz hz2 => ?_
  obtain ⟨u, v, _, k1⟩ := up_mem.1 hz
  obtain ⟨u', v', _, k2⟩ := up_mem.1 hz2
  refine hxy ?_
  rcases k1 with ⟨e, _⟩ | ⟨e, _⟩ <;> rcases k2 with ⟨e2, _⟩ | ⟨e2, _⟩ <;> rw [e] at e2 <;> simp only [Prod.mk.injEq] at e2 <;> omega
 ·subst hst
  obtain ⟨r, hr, h⟩ := List.mem_flatMap.1 hs
  obtain ⟨x, hx, h2⟩ := List.mem_flatMap.1 ht
  obtain ⟨u, v, _, k⟩ := up_mem.1 h2
  have := ha.pos r hr
  simp only [List.mem_cons, List.not_mem_nil, or_false] at h
  rcases h with e | e <;> rcases k with ⟨e2, _⟩ | ⟨e2, _⟩ <;> rw [e] at e2 <;> simp only [botR, topR, Prod.mk.injEq] at e2 <;> omega
theorem bd_net : Net (bdL a) where
 nd := bd_nodup ha
 st s hs := (bd_told ha hs).1
 out1 s hs t ht h h1 h2 := bd_uni ha hs ht (.inl h) h1 h2
 in1 s hs t ht h h1 h2 := bd_uni ha hs ht (.inr h) h1 h2
 rev s hs t ht h h1 := by
  have k1 := (bd_told ha hs).2.1.1
  have k2 := (bd_told ha ht).2.2
  rw [← h, qOut_iff, ← h1] at k2
  rw [qIn_iff] at k1
  exact q_rev _ _ _ _ _ _ _ k1 k2
 nxt s hs := by
  obtain ⟨k0, ⟨k1, k2, k3⟩, _⟩ := bd_told ha hs
  rw [qIn_iff] at k1
  rcases q_next _ _ _ _ _ _ k1 with h | ⟨⟨o, f, h⟩, hu⟩
  ·obtain ⟨t, t1, t2, t3, t4⟩ := out_ex ha k2 k3 (qOut_iff.2 h)
   exact .inl ⟨t, t1, t2, left_turn k0 (bd_told ha t1).1 t3 t4⟩
  ·obtain ⟨t, t1, t2, _, _⟩ := out_ex ha k2 k3 (qOut_iff.2 h)
   refine .inr ⟨⟨t, t1, t2⟩, fun t ht t' ht' e e' => ?_⟩
   have q1 := (bd_told ha ht).2.2
   have q2 := (bd_told ha ht').2.2
   rw [e, qOut_iff] at q1
   rw [e', qOut_iff] at q2
   obtain ⟨r1, r2⟩ := hu _ _ _ _ q1 q2
   exact bd_uni ha ht ht' (.inl (e.trans e'.symm)) r1 r2
 two s hs s' hs' hne h := by
  obtain ⟨k0, ⟨k1, k2, k3⟩, _⟩ := bd_told ha hs
  have q := (bd_told ha hs').2.1.1
  rw [← h, qIn_iff] at q
  rw [qIn_iff] at k1
  have := q_two _ _ _ _ _ _ _ _ k1 q fun e => hne (bd_uni ha hs hs' (.inr h) e.1 e.2)
  obtain ⟨t, t1, t2, t3, t4⟩ := out_ex ha k2 k3 (qOut_iff.2 this)
  exact ⟨t, t1, t2, left_turn k0 (bd_told ha t1).1 t3 t4⟩
end
def phiV (α g : Int → Int) (s : Sd) : Int := if upS s = true then α s.1.1 * (g s.2.2 - g s.1.2) else 0
theorem phiV_add (α g : Int → Int) : Addt (phiV α g) where
 up x a b c := by
  have e : ∀ p q : Int, phiV α g ((x, p), (x, q)) = α x * (g q - g p) := fun p q => if_pos (decide_eq_true rfl)
  rw [e, e, e, ← Int.mul_add]
  congr 1; omega
 ho y a b c := by
  have e : ∀ p q : Int, phiV α g ((p, y), (q, y)) = 0 := fun p q => by
   unfold phiV
   split
   ·show α p * (g y - g y) = 0
    rw [Int.sub_self, Int.mul_zero]
   ·rfl
  rw [e, e, e]; rfl
def gapS (g : Int → Int) (w : Int → Int) : List Int → Int
 | u :: v :: ys => w u * (g v - g u) + gapS g w (v :: ys)
 | _ => 0
theorem gap_add (g w w' : Int → Int) : ∀ ys, gapS g (fun u => w u + w' u) ys = gapS g w ys + gapS g w' ys
 | [] => rfl
 | [_] => rfl
 | u :: v :: ys => by
  show (w u + w' u) * (g v - g u) + gapS g (fun u => w u + w' u) (v :: ys) = (w u * (g v - g u) + gapS g w (v :: ys)) + (w' u * (g v - g u) + gapS g w' (v :: ys))
  rw [gap_add g w w' (v :: ys), Int.add_mul]; omega
theorem gap_zero (g w : Int → Int) : ∀ ys : List Int, (∀ u ∈ ys, w u = 0) → gapS g w ys = 0
 | [], _ => rfl
 | [_], _ => rfl
 | u :: v :: ys, h => by
  show w u * (g v - g u) + gapS g w (v :: ys) = 0
  rw [h u (List.mem_cons_self ..), Int.zero_mul, gap_zero g w (v :: ys) fun z hz => h z (List.mem_cons_of_mem _ hz)]; rfl
theorem gap_congr (g : Int → Int) {w w' : Int → Int} (h : ∀ u, w u = w' u) : ∀ ys, gapS g w ys = gapS g w' ys := fun ys => by rw [funext h]
theorem gap_one (g : Int → Int) {p q : Int} (hpq : p ≤ q) : ∀ {ys : List Int}, ys.Pairwise (· < ·) → p ∈ ys → q ∈ ys → gapS g (fun u => if p ≤ u ∧ u < q then 1 else 0) ys = g q - g p
 | [], _, h, _ => absurd h List.not_mem_nil
 | [u], _, h1, h2 => by
  rw [List.mem_singleton.1 h1, List.mem_singleton.1 h2]
  show 0 = _; omega
 | u :: v :: ys, hp, h1, h2 => by
  have huv : u < v := (List.pairwise_cons.1 hp).1 v (List.mem_cons_self ..)
  have hp2 := (List.pairwise_cons.1 hp).2
  show (if p ≤ u ∧ u < q then 1 else 0) * (g v - g u) + gapS g _ (v :: ys) = _
  rcases List.mem_cons.1 h1 with e1 | e1
  ·rcases List.mem_cons.1 h2 with e2 | e2
   ·rw [e1, e2, if_neg (by omega), Int.zero_mul, gap_zero g _ (v :: ys) fun z hz => if_neg (by have := (List.pairwise_cons.1 hp).1 z hz; omega)]
    omega
   ·have hq : u < q := (List.pairwise_cons.1 hp).1 q e2
    have hvq : v ≤ q := by
     rcases List.mem_cons.1 e2 with k | k
     ·omega
     ·have := (List.pairwise_cons.1 hp2).1 q k; omega
    have ih := gap_one g hvq hp2 (List.mem_cons_self ..) e2
    rw [if_pos (by omega), Int.one_mul, e1]
    have e3 : gapS g (fun z => if u ≤ z ∧ z < q then 1 else 0) (v :: ys) = gapS g (fun z => if v ≤ z ∧ z < q then 1 else 0) (v :: ys) := by
     have key : ∀ L : List Int, (∀ z ∈ L, v ≤ z) → gapS g (fun z => if u ≤ z ∧ z < q then 1 else 0) L = gapS g (fun z => if v ≤ z ∧ z < q then 1 else 0) L := by
      intro L
      induction L with
      | nil => exact fun _ => rfl
      | cons z L ih =>
       intro h
       cases L with
       | nil => rfl
       | cons z' L =>
        have := h z (List.mem_cons_self ..)
        show (if u ≤ z ∧ z < q then 1 else 0) * _ + gapS g _ (z' :: L) = (if v ≤ z ∧ z < q then 1 else 0) * _ + gapS g _ (z' :: L)
        rw [ih fun y hy => h y (List.mem_cons_of_mem _ hy)]
        by_cases k : z < q
        ·rw [if_pos (by omega), if_pos (by omega)]
        ·rw [if_neg (by omega), if_neg (by omega)]
     refine key _ fun z hz => ?_
     rcases List.mem_cons.1 hz with k | k
     ·omega
     ·have := (List.pairwise_cons.1 hp2).1 z k; omega
    rw [e3, ih]; omega
  ·have hup : u < p := (List.pairwise_cons.1 hp).1 p e1
   have e2 : q ∈ v :: ys := by
    rcases List.mem_cons.1 h2 with k | k
    ·omega
    ·exact k
   rw [if_neg (by omega), Int.zero_mul, gap_one g hpq hp2 e1 e2]
   omega
def rowsB (L : List Rect) (u : Int) : Int := (L.map fun r => if r.y0 ≤ u ∧ u < r.y1 then (1 : Int) else 0).sum
theorem rows_in : ∀ {L : List Rect} (u : Int), L.Pairwise (fun r s => r.y1 ≤ s.y0 ∨ s.y1 ≤ r.y0) → rowsB L u = if inY L u = true then 1 else 0
 | [], u, _ => rfl
 | r :: L, u, h => by
  rw [List.pairwise_cons] at h
  have ih := rows_in u h.2
  unfold rowsB at ih ⊢
  unfold inY at ih ⊢
  rw [List.map_cons, List.sum_cons, ih, List.any_cons]
  by_cases q : r.y0 ≤ u ∧ u < r.y1
  ·rw [if_pos q, decide_eq_true q.1, decide_eq_true q.2]
   have : (L.any fun r => decide (r.y0 ≤ u) && decide (u < r.y1)) = false := List.any_eq_false.2 fun s hs k => by
    rw [Bool.and_eq_true, decide_eq_true_eq, decide_eq_true_eq] at k
    have := h.1 s hs
    omega
   rw [this]; rfl
  ·rw [if_neg q]
   have : (decide (r.y0 ≤ u) && decide (u < r.y1)) = false := by
    rw [Bool.and_eq_false_iff, decide_eq_false_iff_not, decide_eq_false_iff_not]; omega
   rw [this, Bool.false_or, Int.zero_add]
theorem gap_rows (g : Int → Int) {ys : List Int} (hp : ys.Pairwise (· < ·)) : ∀ {L : List Rect}, (∀ r ∈ L, r.y0 ≤ r.y1 ∧ r.y0 ∈ ys ∧ r.y1 ∈ ys) → gapS g (rowsB L) ys = (L.map fun r => g r.y1 - g r.y0).sum
 | [], _ => gap_zero g _ ys fun _ _ => rfl
 | r :: L, h => by
  have ih := gap_rows g hp fun s hs => h s (List.mem_cons_of_mem _ hs)
  obtain ⟨h1, h2, h3⟩ := h r (List.mem_cons_self ..)
  have e : gapS g (rowsB (r :: L)) ys = gapS g (fun u => (if r.y0 ≤ u ∧ u < r.y1 then 1 else 0) + rowsB L u) ys := gap_congr g (fun u => rfl) ys
  rw [e, gap_add, gap_one g h1 hp h2 h3, ih]; rfl
theorem sum_up (α g : Int → Int) (x : Int) (L R : List Rect) : ∀ ys : List Int, ssum (phiV α g) (upL x L R ys) = α x * gapS g (fun u => (if inY L u = true then 1 else 0) - (if inY R u = true then 1 else 0)) ys
 | [] => by show 0 = α x * 0; simp
 | [_] => by show 0 = α x * 0; simp
 | u :: v :: ys => by
  have ih := sum_up α g x L R (v :: ys)
  show ssum (phiV α g) ((if (inY L u && !inY R u) = true then [((x, u), (x, v))] else if (inY R u && !inY L u) = true then [((x, v), (x, u))] else []) ++ upL x L R (v :: ys)) = α x * (((if inY L u = true then 1 else 0) - (if inY R u = true then 1 else 0)) * (g v - g u) + gapS g _ (v :: ys))
  unfold ssum at ih ⊢
  rw [List.map_append, List.sum_append, ih, Int.mul_add]
  congr 1
  have e : ∀ p q : Int, phiV α g ((x, p), (x, q)) = α x * (g q - g p) := fun p q => if_pos (decide_eq_true rfl)
  cases inY L u <;> cases inY R u
  ·simp
  ·show phiV α g ((x, v), (x, u)) + 0 = α x * ((0 - 1) * (g v - g u))
   rw [e, Int.add_zero]
   congr 1; omega
  ·show phiV α g ((x, u), (x, v)) + 0 = α x * ((1 - 0) * (g v - g u))
   rw [e, Int.add_zero]
   congr 1; omega
  ·simp
section
variable {a : List Rect} (ha : Apart a)
include ha
theorem ends_rows (x : Int) : (endsX a x).Pairwise (fun r s => r.y1 ≤ s.y0 ∨ s.y1 ≤ r.y0) := by
 unfold endsX
 refine (ha.nd.filter _).imp_of_mem ?_
 intro r s hr hs hne
 obtain ⟨r1, r2⟩ := List.mem_filter.1 hr
 obtain ⟨s1, s2⟩ := List.mem_filter.1 hs
 rw [decide_eq_true_eq] at r2 s2
 have p1 := ha.pos r r1
 have p2 := ha.pos s s1
 rcases ha.two r r1 s s1 with q | q | ⟨_, _, q | q | q⟩
 ·omega
 ·omega
 ·exact absurd q hne
 ·omega
 ·omega
theorem begs_rows (x : Int) : (begsX a x).Pairwise (fun r s => r.y1 ≤ s.y0 ∨ s.y1 ≤ r.y0) := by
 unfold begsX
 refine (ha.nd.filter _).imp_of_mem ?_
 intro r s hr hs hne
 obtain ⟨r1, r2⟩ := List.mem_filter.1 hr
 obtain ⟨s1, s2⟩ := List.mem_filter.1 hs
 rw [decide_eq_true_eq] at r2 s2
 have p1 := ha.pos r r1
 have p2 := ha.pos s s1
 rcases ha.two r r1 s s1 with q | q | ⟨_, _, q | q | q⟩
 ·omega
 ·omega
 ·exact absurd q hne
 ·omega
 ·omega
theorem sum_col (α g : Int → Int) (x : Int) : ssum (phiV α g) (colX a x) = α x * (((endsX a x).map fun r => g r.y1 - g r.y0).sum - ((begsX a x).map fun r => g r.y1 - g r.y0).sum) := by
 unfold colX
 rw [sum_up]
 congr 1
 have e : gapS g (fun u => (if inY (endsX a x) u = true then 1 else 0) - (if inY (begsX a x) u = true then 1 else 0)) (ysX a x) + gapS g (rowsB (begsX a x)) (ysX a x) = gapS g (rowsB (endsX a x)) (ysX a x) := by
  rw [← gap_add]
  refine gap_congr g (fun u => ?_) _
  rw [rows_in u (ends_rows ha x), rows_in u (begs_rows ha x)]
  omega
 have e1 := gap_rows g (ysX_asc a x) (L := endsX a x) fun r hr => by
  obtain ⟨r1, r2⟩ := List.mem_filter.1 hr
  rw [decide_eq_true_eq] at r2
  have := ha.pos r r1
  exact ⟨by omega, ysX_mem.2 ⟨r, r1, .inl r2, .inl rfl⟩, ysX_mem.2 ⟨r, r1, .inl r2, .inr rfl⟩⟩
 have e2 := gap_rows g (ysX_asc a x) (L := begsX a x) fun r hr => by
  obtain ⟨r1, r2⟩ := List.mem_filter.1 hr
  rw [decide_eq_true_eq] at r2
  have := ha.pos r r1
  exact ⟨by omega, ysX_mem.2 ⟨r, r1, .inr r2, .inl rfl⟩, ysX_mem.2 ⟨r, r1, .inr r2, .inr rfl⟩⟩
 rw [e1, e2] at e
 show gapS g _ (ysX a x) = _
 omega
end
theorem sum_swap (α : Int → Int) (f : Rect → Int) (h : Rect → Int) {xs : List Int} (hn : xs.Nodup) : ∀ a : List Rect, (∀ r ∈ a, f r ∈ xs) → (xs.map fun x => α x * ((a.filter fun r => decide (f r = x)).map h).sum).sum = (a.map fun r => α (f r) * h r).sum
 | [], _ => by
  have : ∀ L : List Int, (L.map fun x => α x * (([] : List Rect).map h).sum).sum = 0 := by
   intro L
   induction L with
   | nil => rfl
   | cons x L ih => rw [List.map_cons, List.sum_cons, ih]; simp
  simpa using this xs
 | r :: a, hm => by
  have ih := sum_swap α f h hn a fun s hs => hm s (List.mem_cons_of_mem _ hs)
  rw [List.map_cons, List.sum_cons, ← ih]
  have hr := hm r (List.mem_cons_self ..)
  have key : ∀ L : List Int, L.Nodup → (L.map fun x => α x * (((r :: a).filter fun r => decide (f r = x)).map h).sum).sum = (if f r ∈ L then α (f r) * h r else 0) + (L.map fun x => α x * ((a.filter fun r => decide (f r = x)).map h).sum).sum := by
   intro L
   induction L with
   | nil => exact fun _ => rfl
   | cons x L ihL =>
    intro hL
    rw [List.nodup_cons] at hL
    rw [List.map_cons, List.sum_cons, ihL hL.2, List.map_cons, List.sum_cons]
    by_cases q : f r = x
    ·rw [List.filter_cons_of_pos (p := fun r => decide (f r = x)) (decide_eq_true q), List.map_cons, List.sum_cons, Int.mul_add, if_neg (fun k => hL.1 (q ▸ k)), if_pos (by rw [q]; exact List.mem_cons_self ..), q]
     omega
    ·rw [List.filter_cons_of_neg (by simpa using q)]
     by_cases k : f r ∈ L
     ·rw [if_pos k, if_pos (List.mem_cons_of_mem _ k)]; omega
     ·rw [if_neg k, if_neg (fun z => by rcases List.mem_cons.1 z with w | w; exact q w; exact k w)]; omega
  rw [key xs hn, if_pos hr]
theorem ssum_app (φ : Sd → Int) (p q : List Sd) : ssum φ (p ++ q) = ssum φ p + ssum φ q := by
 unfold ssum; rw [List.map_append, List.sum_append]
theorem ssum_fm (φ : Sd → Int) (f : Int → List Sd) : ∀ L : List Int, ssum φ (L.flatMap f) = (L.map fun x => ssum φ (f x)).sum
 | [] => rfl
 | x :: L => by
  rw [List.flatMap_cons, ssum_app, ssum_fm φ f L, List.map_cons, List.sum_cons]
theorem sum_add {α : Type} (f g : α → Int) : ∀ L : List α, (L.map fun x => f x - g x).sum = (L.map f).sum - (L.map g).sum
 | [] => rfl
 | x :: L => by
  rw [List.map_cons, List.sum_cons, sum_add f g L, List.map_cons, List.sum_cons, List.map_cons, List.sum_cons]; omega
section
variable {a : List Rect} (ha : Apart a)
include ha
theorem sum_cols (α g : Int → Int) : ssum (phiV α g) ((xsB a).flatMap (colX a)) = (a.map fun r => (α r.x1 - α r.x0) * (g r.y1 - g r.y0)).sum := by
 have hn : (xsB a).Nodup := (sortU_asc _).imp fun h => by omega
 rw [ssum_fm]
 have e : (xsB a).map (fun x => ssum (phiV α g) (colX a x)) = (xsB a).map (fun x => α x * ((endsX a x).map fun r => g r.y1 - g r.y0).sum - α x * ((begsX a x).map fun r => g r.y1 - g r.y0).sum) := List.map_congr_left fun x _ => by rw [sum_col ha, Int.mul_sub]
 have e1 := sum_swap α (fun r => r.x1) (fun r => g r.y1 - g r.y0) hn a fun r hr => xs1 hr
 have e2 := sum_swap α (fun r => r.x0) (fun r => g r.y1 - g r.y0) hn a fun r hr => xs0 hr
 rw [e, sum_add]
 have e1 : ((xsB a).map fun x => α x * ((endsX a x).map fun r => g r.y1 - g r.y0).sum).sum = _ := e1
 have e2 : ((xsB a).map fun x => α x * ((begsX a x).map fun r => g r.y1 - g r.y0).sum).sum = _ := e2
 rw [e1, e2, ← sum_add]
 congr 1
 exact List.map_congr_left fun r _ => by rw [Int.sub_mul]
def crossI (x y : Int) (s : Sd) : Int := if upS s = true ∧ s.2.1 ≤ x ∧ min s.1.2 s.2.2 ≤ y ∧ y < max s.1.2 s.2.2 then (if s.2.2 < s.1.2 then 1 else -1) else 0
def leI (n z : Int) : Int := if z ≤ n then 1 else 0
omit ha in
theorem cross_phi (x y : Int) (s : Sd) : crossI x y s = phiV (leI x) (leI y) s := by
 unfold crossI phiV leI
 by_cases u : upS s = true
 ·have e : s.1.1 = s.2.1 := by unfold upS at u; exact of_decide_eq_true u
  rw [if_pos u, e]
  by_cases h1 : s.2.1 ≤ x
  ·rw [if_pos h1, Int.one_mul]
   by_cases h2 : s.2.2 ≤ y <;> by_cases h3 : s.1.2 ≤ y
   ·rw [if_neg (by omega), if_pos h2, if_pos h3]; rfl
   ·rw [if_pos ⟨u, h1, by omega, by omega⟩, if_pos (by omega), if_pos h2, if_neg h3]; rfl
   ·rw [if_pos ⟨u, h1, by omega, by omega⟩, if_neg (by omega), if_neg h2, if_pos h3]; rfl
   ·rw [if_neg (by omega), if_neg h2, if_neg h3]; rfl
  ·rw [if_neg h1, Int.zero_mul, if_neg (fun k => h1 k.2.1)]
 ·rw [if_neg u, if_neg (fun k => u k.1)]
theorem cross_cell (x y : Int) : (a.map fun r => (leI x r.x1 - leI x r.x0) * (leI y r.y1 - leI y r.y0)).sum = if cell a x y = true then 1 else 0 := by
 have e : ∀ r ∈ a, (leI x r.x1 - leI x r.x0) * (leI y r.y1 - leI y r.y0) = if r.has x y = true then 1 else 0 := fun r hr => by
  have := ha.pos r hr
  unfold leI Rect.has
  simp only [Bool.and_eq_true, decide_eq_true_eq]
  split <;> split <;> split <;> split <;> split <;> omega
 rw [List.map_congr_left e]
 have key : ∀ L : List Rect, L.Nodup → (∀ r ∈ L, r ∈ a) → (L.map fun r => if r.has x y = true then (1 : Int) else 0).sum = if cell L x y = true then 1 else 0 := by
  intro L
  induction L with
  | nil => exact fun _ _ => rfl
  | cons r L ih =>
   intro hn hm
   rw [List.nodup_cons] at hn
   rw [List.map_cons, List.sum_cons, ih hn.2 fun s hs => hm s (List.mem_cons_of_mem _ hs)]
   show _ = if (r.has x y || cell L x y) = true then 1 else 0
   cases q : r.has x y
   ·rw [Bool.false_or, if_neg (by decide), Int.zero_add]
   ·have : cell L x y = false := Bool.eq_false_iff.2 fun h => by
     obtain ⟨s, hs, s1, s2, s3, s4⟩ := cell_true.1 h
     unfold Rect.has at q
     simp only [Bool.and_eq_true, decide_eq_true_eq] at q
     rcases ha.two r (hm r (List.mem_cons_self ..)) s (hm s (List.mem_cons_of_mem _ hs)) with k | k | ⟨_, _, k | k | k⟩
     ·omega
     ·omega
     ·exact hn.1 (k ▸ hs)
     ·omega
     ·omega
    rw [this]; rfl
 exact key a ha.nd fun r hr => hr
theorem sum_bdH (α g : Int → Int) : ssum (phiV α g) (bdH a) = 0 := by
 have : ∀ L : List Rect, (∀ r ∈ L, r ∈ a) → ssum (phiV α g) (bdH L) = 0 := by
  intro L
  induction L with
  | nil => exact fun _ => rfl
  | cons r L ih =>
   intro h
   have hr := h r (List.mem_cons_self ..)
   show ssum (phiV α g) ([botR r, topR r] ++ bdH L) = 0
   rw [ssum_app, ih fun s hs => h s (List.mem_cons_of_mem _ hs)]
   unfold ssum phiV
   rw [List.map_cons, List.map_cons, (bot_kind ha hr).1, (top_kind ha hr).1]
   rfl
 exact this a fun r hr => hr
theorem bd_cross (x y : Int) : ssum (crossI x y) (bdL a) = if cell a x y = true then 1 else 0 := by
 rw [show crossI x y = phiV (leI x) (leI y) from funext (cross_phi x y)]
 unfold bdL
 rw [ssum_app, sum_bdH ha, sum_cols ha, cross_cell ha]
 omega
def shoeS (s : Sd) : Int := s.1.1 * s.2.2 - s.2.1 * s.1.2
omit ha in
theorem shoe_add : Addt shoeS where
 up x a b c := by
  show (x * b - x * a) + (x * c - x * b) = x * c - x * a
  omega
 ho y a b c := by
  show (a * y - b * y) + (b * y - c * y) = a * y - c * y
  omega
theorem bd_shoe : ssum shoeS (bdL a) = 2 * areaL a := by
 have h1 : ∀ L : List Rect, ssum shoeS (bdH L) = areaL L := by
  intro L
  induction L with
  | nil => rfl
  | cons r L ih =>
   show ssum shoeS ([botR r, topR r] ++ bdH L) = r.area + areaL L
   rw [ssum_app, ih]
   have e : ssum shoeS [botR r, topR r] = (r.x0 * r.y0 - r.x1 * r.y0) + ((r.x1 * r.y1 - r.x0 * r.y1) + 0) := rfl
   have e2 : r.area = (r.x1 - r.x0) * (r.y1 - r.y0) := rfl
   rw [e, e2, Int.sub_mul, Int.mul_sub, Int.mul_sub]
   omega
 have h2 : ssum shoeS ((xsB a).flatMap (colX a)) = ssum (phiV (fun z => z) (fun z => z)) ((xsB a).flatMap (colX a)) := by
  unfold ssum
  congr 1
  refine List.map_congr_left fun s hs => ?_
  obtain ⟨x, _, hx⟩ := List.mem_flatMap.1 hs
  obtain ⟨u, v, _, k⟩ := up_mem.1 hx
  have e : ∀ p q : Int, phiV (fun z => z) (fun z => z) ((x, p), (x, q)) = x * (q - p) := fun p q => if_pos (decide_eq_true rfl)
  rcases k with ⟨rfl, _⟩ | ⟨rfl, _⟩
  ·rw [e]; show x * v - x * u = _; rw [Int.mul_sub]
  ·rw [e]; show x * u - x * v = _; rw [Int.mul_sub]
 unfold bdL
 rw [ssum_app, h1, h2, sum_cols ha]
 have e : (a.map fun r => (r.x1 - r.x0) * (r.y1 - r.y0)).sum = areaL a := by
  have : ∀ L : List Rect, (L.map fun r => (r.x1 - r.x0) * (r.y1 - r.y0)).sum = areaL L := by
   intro L
   induction L with
   | nil => rfl
   | cons r L ih => rw [List.map_cons, List.sum_cons, ih]; rfl
  exact this a
 rw [e]; omega
end
end Go.Proofs.Ytcjdpkifooenkaa.Rg
