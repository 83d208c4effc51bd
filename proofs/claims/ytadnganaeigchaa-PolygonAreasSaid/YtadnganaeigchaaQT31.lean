/-
 The boundary of a polygon's region has the polygon as its only loop. Conditions: none. No program in sight.
-/
import Derived.Test.YtadnganaeigchaaQT30
import Derived.Test.YtadnganaeigchaaQT22
namespace Go.Proofs.Ytadnganaeigchaa.Rg
def pth (f : Nat → Nat) : Nat → List Nat → Nat → Prop
 | a, [], z => a = z
 | a, b :: l, z => a = b ∧ pth f (f b) l z
theorem pth_app {f : Nat → Nat} : ∀ {l m : List Nat} {a z : Nat}, pth f a (l ++ m) z ↔ ∃ y, pth f a l y ∧ pth f y m z
 | [], m, a, z => ⟨fun h => ⟨a, rfl, h⟩, fun ⟨y, h1, h2⟩ => by
   have h1 : a = y := h1
   subst h1; exact h2⟩
 | b :: l, m, a, z => by
  show (a = b ∧ pth f (f b) (l ++ m) z) ↔ ∃ y, (a = b ∧ pth f (f b) l y) ∧ pth f y m z
  rw [pth_app]
  constructor
  ·rintro ⟨h, y, h1, h2⟩; exact ⟨y, ⟨h, h1⟩, h2⟩
  ·rintro ⟨y, ⟨h, h1⟩, h2⟩; exact ⟨h, y, h1, h2⟩
theorem pth_of {f : Nat → Nat} : ∀ (l : List Nat) (a : Nat), (∀ (j : Nat) (h : j + 1 < (a :: l).length), (a :: l)[j + 1] = f (a :: l)[j]) → pth f a (a :: l) (f ((a :: l)[(a :: l).length - 1]'(by simp)))
 | [], a, _ => ⟨rfl, rfl⟩
 | b :: l, a, h => by
  have h0 : b = f a := h 0 (by simp)
  have ih := pth_of l b fun j hj => h (j + 1) (by simpa using hj)
  refine ⟨rfl, ?_⟩
  rw [← h0]
  exact ih
theorem Cyc.path {n : Nat} {f : Nat → Nat} {a : Nat} {l : List Nat} (h : Cyc n f (a :: l)) : pth f a (a :: l) a := by
 have := pth_of l a h.step
 rw [h.back (by simp)] at this
 exact this
theorem pth_cmp {f : Nat → Nat} : ∀ (c c' : List Nat) (a y y' : Nat), pth f a c y → pth f a c' y' → (∃ d, c' = c ++ d ∧ pth f y d y') ∨ (∃ d, c = c' ++ d ∧ pth f y' d y)
 | [], c', a, y, y', h1, h2 => by
  have h1 : a = y := h1
  subst h1; exact .inl ⟨c', rfl, h2⟩
 | b :: c, [], a, y, y', h1, h2 => by
  have h2 : a = y' := h2
  subst h2; exact .inr ⟨b :: c, rfl, h1⟩
 | b :: c, b' :: c', a, y, y', h1, h2 => by
  obtain ⟨e1, h1⟩ := h1
  obtain ⟨e2, h2⟩ := h2
  subst e1; subst e2
  rcases pth_cmp c c' _ y y' h1 h2 with ⟨d, e, h⟩ | ⟨d, e, h⟩
  ·exact .inl ⟨d, by rw [e]; rfl, h⟩
  ·exact .inr ⟨d, by rw [e]; rfl, h⟩
theorem pth_two {f : Nat → Nat} {t : Nat} {c c' : List Nat} (h1 : pth f t c t) (h2 : pth f t c' t) (n1 : c.Nodup) (n2 : c'.Nodup) (e1 : c ≠ []) (e2 : c' ≠ []) : c = c' := by
 have hd : ∀ {c : List Nat}, pth f t c t → c ≠ [] → t ∈ c := fun {c} h e => by
  cases c with
  | nil => exact absurd rfl e
  | cons b c =>
   have h : t = b ∧ _ := h
   rw [h.1]; exact List.mem_cons_self ..
 rcases pth_cmp c c' t t t h1 h2 with ⟨d, e, h⟩ | ⟨d, e, h⟩
 ·by_cases q : d = []
  ·rw [e, q, List.append_nil]
  ·exfalso
   rw [e, List.nodup_append] at n2
   exact n2.2.2 t (hd h1 e1) t (hd h q) rfl
 ·by_cases q : d = []
  ·rw [e, q, List.append_nil]
  ·exfalso
   rw [e, List.nodup_append] at n1
   exact n1.2.2 t (hd h2 e2) t (hd h q) rfl
theorem pth_turn {f : Nat → Nat} {a t : Nat} {c : List Nat} (h : pth f a c a) (ht : t ∈ c) : ∃ d, Rot c d ∧ pth f t d t ∧ t ∈ d := by
 obtain ⟨X, Y, rfl⟩ := List.append_of_mem ht
 obtain ⟨y, h1, h2⟩ := pth_app.1 h
 have e : y = t := h2.1
 subst e
 exact ⟨(y :: Y) ++ X, ⟨X, y :: Y, rfl, rfl⟩, pth_app.2 ⟨a, h2, h1⟩, by simp⟩
theorem Rot.nodup {c d : List Nat} (h : Rot c d) (hc : c.Nodup) : d.Nodup := by
 obtain ⟨X, Y, rfl, rfl⟩ := h
 exact (List.perm_append_comm.nodup_iff).1 hc
theorem cyc_same {f : Nat → Nat} {a a' t : Nat} {c c' : List Nat} (h1 : pth f a c a) (h2 : pth f a' c' a') (n1 : c.Nodup) (n2 : c'.Nodup) (t1 : t ∈ c) (t2 : t ∈ c') : Rot c c' := by
 obtain ⟨d, r1, p1, m1⟩ := pth_turn h1 t1
 obtain ⟨d', r2, p2, m2⟩ := pth_turn h2 t2
 have : d = d' := pth_two p1 p2 (r1.nodup n1) (r2.nodup n2) (List.ne_nil_of_mem m1) (List.ne_nil_of_mem m2)
 subst this
 exact r1.trans1 r2.symm
theorem rot_head {m : Pt} {r r' : List Pt} (h : Rot (m :: r) (m :: r')) (hc : (m :: r).count m = 1) : r = r' := by
 obtain ⟨X, Y, e1, e2⟩ := h
 cases X with
 | nil =>
  rw [List.append_nil] at e2
  rw [List.nil_append] at e1
  rw [← e1] at e2
  exact (List.cons.inj e2).2.symm
 | cons x X =>
  cases Y with
  | nil =>
   rw [List.append_nil] at e1
   rw [List.nil_append] at e2
   rw [← e1] at e2
   exact (List.cons.inj e2).2.symm
  | cons y Y =>
   exfalso
   have h1 : m = x := (List.cons.inj e1).1
   have h2 : m = y := (List.cons.inj e2).1
   rw [e1, List.count_append, ← h1, ← h2, List.count_cons_self, List.count_cons_self] at hc
   omega
theorem rotM_rot_eq {p q : List Pt} (h : Rot p q) {m : Pt} {r : List Pt} (hp : rotM p = m :: r) (hr : ∀ x ∈ r, ltPo m x = true) : rotM q = m :: r := by
 have h1 := rotM_rot p
 rw [hp] at h1
 have hmr : m ∉ r := fun q => by
  have := hr m q
  rw [ltP_irr] at this; cases this
 have c1 : (m :: r).count m = 1 := by rw [List.count_cons_self, List.count_eq_zero.2 hmr]
 have hq : Rot q (m :: r) := h.symm.trans1 h1
 obtain ⟨r', e, _⟩ := rotM_head (p := q) (m := m) ((hq.mem m).2 (List.mem_cons_self ..)) (fun x hx => by
  rcases List.mem_cons.1 ((hq.mem x).1 hx) with e | e
  ·rw [e]; exact ltP_irr m
  ·exact ltP_asym (hr x e)) (by rw [hq.count, c1])
 have h2 := rotM_rot q
 rw [e] at h2
 rw [e, rot_head (hq.symm.trans1 h2) c1]
theorem corn_app (l : List Sd) (X Y : List Nat) : cornF l (X ++ Y) = cornF l X ++ cornF l Y := List.flatMap_append
theorem Rot.corn {l : List Sd} {c d : List Nat} (h : Rot c d) : Rot (cornF l c) (cornF l d) := by
 obtain ⟨X, Y, rfl, rfl⟩ := h
 exact ⟨cornF l X, cornF l Y, corn_app l X Y, corn_app l Y X⟩
theorem rotM_way {l : List Sd} (hl : Net l) {v w : List Nat} (hv : Cyc l.length (nxI l) v) (h0 : v ≠ []) (h : Rot v w) : rotM (cornF l v) = rotM (cornF l w) := by
 obtain ⟨i, hi⟩ := least_ex (l := l) h0
 obtain ⟨r, e1, e2⟩ := loop_head hl hv hi
 rw [e1, rotM_rot_eq h.corn e1 e2]
theorem loops_mem {l : List Sd} {p : List Pt} : p ∈ loopsL l ↔ p ≠ [] ∧ ∃ w ∈ waysL l, rotM (cornF l w) = p := by
 unfold loopsL
 rw [List.mem_filter, List.mem_map]
 cases p <;> simp
theorem cornF_nil (l : List Sd) : cornF l [] = [] := rfl
theorem loops_ref {l l' : List Sd} (hl : Net l) (hl' : Net l') (h : Nat → Nat) (Q : Nat → Nat → Prop)
  (run : ∀ i, i < l.length → ∃ r, pth (nxI l') (h i) r (h (nxI l i)) ∧ r ≠ [] ∧ r.Nodup ∧ (∀ k ∈ r, k < l'.length ∧ Q i k) ∧ cornF l' r = cornF l [i])
  (hQ : ∀ i j k, i < l.length → j < l.length → Q i k → Q j k → i = j)
  (back : ∀ v ∈ waysL l', cornF l' v ≠ [] → ∃ i, i < l.length ∧ h i ∈ v) : ∀ p, p ∈ loopsL l ↔ p ∈ loopsL l' := by
 obtain ⟨a1, a2, a3⟩ := ways_net hl
 obtain ⟨b1, b2, b3⟩ := ways_net hl'
 -- a way of the coarse net, in the fine one
 have fine : ∀ w : List Nat, (∀ i ∈ w, i < l.length) → w.Nodup → ∀ a z, pth (nxI l) a w z → ∃ w', pth (nxI l') (h a) w' (h z) ∧ w'.Nodup ∧ (∀ k ∈ w', k < l'.length ∧ ∃ i ∈ w, Q i k) ∧ cornF l' w' = cornF l w ∧ (w ≠ [] → w' ≠ []) := by
  intro w
  induction w with
  | nil =>
   intro _ _ a z hp
   have hp : a = z := hp
   exact ⟨[], congrArg h hp, List.nodup_nil, fun k hk => absurd hk List.not_mem_nil, rfl, fun q => absurd rfl q⟩
  | cons b w ih =>
   intro hw hn a z hp
   obtain ⟨e, hp⟩ := hp
   subst e
   rw [List.nodup_cons] at hn
   have hb := hw a (List.mem_cons_self ..)
   obtain ⟨r, r1, r2, r3, r4, r5⟩ := run a hb
   obtain ⟨w', q1, q2, q3, q4, q5⟩ := ih (fun i hi => hw i (List.mem_cons_of_mem _ hi)) hn.2 _ _ hp
   refine ⟨r ++ w', pth_app.2 ⟨_, r1, q1⟩, ?_, fun k hk => ?_, ?_, fun _ q => r2 (List.append_eq_nil_iff.1 q).1⟩
   ·rw [List.nodup_append]
    refine ⟨r3, q2, fun k hk k' hk' e => ?_⟩
    subst e
    obtain ⟨_, i, hi, qi⟩ := q3 k hk'
    have := hQ a i k hb (hw i (List.mem_cons_of_mem _ hi)) (r4 k hk).2 qi
    rw [this] at hn
    exact hn.1 hi
   ·rcases List.mem_append.1 hk with q | q
    ·exact ⟨(r4 k q).1, a, List.mem_cons_self .., (r4 k q).2⟩
    ·obtain ⟨x, i, hi, qi⟩ := q3 k q
     exact ⟨x, i, List.mem_cons_of_mem _ hi, qi⟩
   ·rw [corn_app, r5, q4, ← corn_app]; rfl
 have inway : ∀ k, k < l'.length → ∃ v ∈ waysL l', k ∈ v := fun k hk => List.mem_flatten.1 (b3 k hk)
 -- a way of the coarse net and one of the fine net that share a number
 have both : ∀ w ∈ waysL l, ∀ w', pth (nxI l') (h (w.headD 0)) w' (h (w.headD 0)) → w'.Nodup → cornF l' w' = cornF l w → ∀ v ∈ waysL l', ∀ t, t ∈ v → t ∈ w' → rotM (cornF l' v) = rotM (cornF l w) := by
  intro w hw w' h1 h2 h3 v hv t t1 t2
  have hvn : v ≠ [] := List.ne_nil_of_mem t1
  have hc := b1 v hv
  cases v with
  | nil => exact absurd rfl hvn
  | cons x v =>
   have hr := cyc_same hc.path h1 hc.nd h2 t1 t2
   rw [rotM_way hl' hc hvn hr, h3]
 intro p
 rw [loops_mem, loops_mem]
 constructor
 ·rintro ⟨hp, w, hw, e⟩
  have hw0 : w ≠ [] := fun q => by rw [q, cornF_nil] at e; exact hp e.symm
  have hc := a1 w hw
  obtain ⟨b, w2, rfl⟩ : ∃ b w2, w = b :: w2 := by cases w with | nil => exact absurd rfl hw0 | cons b w2 => exact ⟨b, w2, rfl⟩
  obtain ⟨w', p1, p2, p3, p4, p5⟩ := fine _ hc.lt hc.nd _ _ hc.path
  obtain ⟨t, ht⟩ := List.exists_mem_of_ne_nil _ (p5 hw0)
  obtain ⟨v, hv, tv⟩ := inway t (p3 t ht).1
  exact ⟨hp, v, hv, (both _ hw w' p1 p2 p4 v hv t tv ht).trans e⟩
 ·rintro ⟨hp, v, hv, e⟩
  have hcv : cornF l' v ≠ [] := fun q => by rw [q] at e; exact hp e.symm
  obtain ⟨i, hi, hiv⟩ := back v hv hcv
  obtain ⟨w, hw, hiw⟩ := List.mem_flatten.1 (a3 i hi)
  have hc := a1 w hw
  obtain ⟨b, w2, rfl⟩ : ∃ b w2, w = b :: w2 := by cases w with | nil => cases hiw | cons b w2 => exact ⟨b, w2, rfl⟩
  -- the way from i on
  obtain ⟨X, Y, eX⟩ := List.append_of_mem hiw
  have hpath := hc.path
  have hlt := hc.lt
  have hnd := hc.nd
  rw [eX] at hpath hlt hnd
  obtain ⟨y, y1, y2⟩ := pth_app.1 hpath
  have ey : y = i := y2.1
  subst ey
  have hlX : ∀ k ∈ X, k < l.length := fun k hk => hlt k (List.mem_append_left _ hk)
  have hlY : ∀ k ∈ y :: Y, k < l.length := fun k hk => hlt k (List.mem_append_right _ hk)
  rw [List.nodup_append] at hnd
  obtain ⟨wX, x1, x2, x3, x4, x5⟩ := fine X hlX hnd.1 _ _ y1
  obtain ⟨wY, z1, z2, z3, z4, z5⟩ := fine (y :: Y) hlY hnd.2.1 _ _ y2
  have hcr : cornF l' (wX ++ wY) = cornF l (b :: w2) := by rw [corn_app, x4, z4, ← corn_app, ← eX]
  have hnn : (wX ++ wY).Nodup := by
   rw [List.nodup_append]
   refine ⟨x2, z2, fun k hk k' hk' e => ?_⟩
   subst e
   obtain ⟨_, i1, hi1, q1⟩ := x3 k hk
   obtain ⟨_, i2, hi2, q2⟩ := z3 k hk'
   exact hnd.2.2 i1 hi1 i2 hi2 (hQ i1 i2 k (hlX i1 hi1) (hlY i2 hi2) q1 q2)
  have hmem : h y ∈ wX ++ wY := by
   refine List.mem_append_right _ ?_
   have hne := z5 (by simp)
   cases wY with
   | nil => exact absurd rfl hne
   | cons c wY => rw [z1.1]; exact List.mem_cons_self ..
  exact ⟨hp, b :: w2, hw, (both _ hw (wX ++ wY) (pth_app.2 ⟨_, x1, z1⟩) hnn hcr v hv _ hiv hmem).symm.trans e⟩
end Go.Proofs.Ytadnganaeigchaa.Rg
namespace Go.Proofs.Ytadnganaeigchaa.Rg
theorem turn_dir {s t s' t' : Sd} (h1 : stS s) (h2 : stS t) (h1' : stS s') (h2' : stS t') (a : upS s = upS s') (b : fwS s = fwS s') (c : upS t = upS t') (d : fwS t = fwS t') : turnI s t = turnI s' t' := by
 by_cases q : upS s = upS t
 ·rw [turn_same h1 h2 q, turn_same h1' h2' (by rw [← a, ← c]; exact q)]
 ·cases hs : upS s
  ·have ht : upS t = true := by cases r : upS t <;> simp_all
   rw [turn_ho h1 h2 hs ht, turn_ho h1' h2' (a ▸ hs) (c ▸ ht), b, d]
  ·have ht : upS t = false := by cases r : upS t <;> simp_all
   rw [turn_up h1 h2 hs ht, turn_up h1' h2' (a ▸ hs) (c ▸ ht), b, d]
theorem q_int : ∀ A o f : Bool, qOut (!A) (!A) A A o f = true → o = true ∧ f = A := by decide
section
variable {a : List Rect} (ha : Apart a)
include ha
section
variable {Y : Int → List Int} (hY : Cuts a Y)
include hY
theorem col_all {x u v : Int} (hx : x ∈ xsB a) (h : adjL (Y x) u v) {z : Int} (h1 : u ≤ z) (h2 : z < v) : cell a (x - 1) z = cell a (x - 1) u ∧ cell a x z = cell a x u := by
 rw [← left_in_cell ha hx, ← left_in_cell ha hx, ← right_in_cell ha hx, ← right_in_cell ha hx]
 have key : ∀ L : List Rect, (∀ r ∈ L, r.y0 ∈ Y x ∧ r.y1 ∈ Y x) → inY L z = inY L u := fun L hL => any_ext fun r hr => by
  obtain ⟨k1, k2⟩ := hL r hr
  have k1 := adj_btw (hY.asc x) h k1
  have k2 := adj_btw (hY.asc x) h k2
  rw [Bool.eq_iff_iff, Bool.and_eq_true, Bool.and_eq_true, decide_eq_true_eq, decide_eq_true_eq, decide_eq_true_eq, decide_eq_true_eq]
  omega
 constructor
 ·refine key _ fun r hr => ?_
  obtain ⟨k1, k2⟩ := List.mem_filter.1 hr
  rw [decide_eq_true_eq] at k2
  exact hY.full r k1 (.inl k2)
 ·refine key _ fun r hr => ?_
  obtain ⟨k1, k2⟩ := List.mem_filter.1 hr
  rw [decide_eq_true_eq] at k2
  exact hY.full r k1 (.inr k2)
theorem bdy_up {s : Sd} (h : s ∈ bdY Y a) (hu : upS s = true) : ∃ x u v A, x ∈ xsB a ∧ adjL (Y x) u v ∧ fwS s = A ∧ cell a (x - 1) u = A ∧ cell a x u = !A ∧ s = if A = true then ((x, u), (x, v)) else ((x, v), (x, u)) := by
 rcases (bdy_mem ha hY).1 h with ⟨r, hr, rfl⟩ | ⟨r, hr, rfl⟩ | ⟨x, hx, u, v, h1, rfl, h2, h3⟩ | ⟨x, hx, u, v, h1, rfl, h2, h3⟩
 ·rw [(bot_kind ha hr).1] at hu; cases hu
 ·rw [(top_kind ha hr).1] at hu; cases hu
 ·exact ⟨x, u, v, true, hx, h1, (up_kind (adj_lt (hY.asc x) h1)).2.1, h2, h3, rfl⟩
 ·exact ⟨x, u, v, false, hx, h1, (down_kind (adj_lt (hY.asc x) h1)).2.1, h3, h2, rfl⟩
theorem bdy_ho {s : Sd} (h : s ∈ bdY Y a) (hu : upS s = false) : s ∈ bdH a := by
 have _ := ha
 rcases List.mem_append.1 h with q | q
 ·exact q
 ·obtain ⟨x, hx, q⟩ := List.mem_flatMap.1 q
  obtain ⟨u, v, k, k2⟩ := up_mem.1 q
  have hlt := adj_lt (hY.asc x) k
  rcases k2 with ⟨e, _⟩ | ⟨e, _⟩ <;> rw [e] at hu
  ·rw [(up_kind hlt).1] at hu; cases hu
  ·rw [(down_kind hlt).1] at hu; cases hu
end
variable {Y Z : Int → List Int} (hY : Cuts a Y) (hZ : Cuts a Z) (hYZ : ∀ x y, y ∈ Y x → y ∈ Z x)
include hY hZ hYZ
end
end Go.Proofs.Ytadnganaeigchaa.Rg
namespace Go.Proofs.Ytadnganaeigchaa.Rg
section
variable {a : List Rect} (ha : Apart a) {Y Z : Int → List Int} (hY : Cuts a Y) (hZ : Cuts a Z) (hYZ : ∀ x y, y ∈ Y x → y ∈ Z x)
include ha hY hZ hYZ
end
end Go.Proofs.Ytadnganaeigchaa.Rg
namespace Go.Proofs.Ytadnganaeigchaa.Rg
section
variable {a : List Rect} (ha : Apart a)
include ha
end
end Go.Proofs.Ytadnganaeigchaa.Rg
namespace Go.Proofs.Ytadnganaeigchaa.Rg
theorem par_one {α : Type} {f : α → Bool} : ∀ {l : List α}, (∀ i k (hi : i < l.length) (hk : k < l.length), f l[i] = true → f l[k] = true → i = k) → par (l.map f) = l.any f
 | [], _ => rfl
 | a :: l, h => by
  have ih := par_one (f := f) (l := l) fun i k hi hk h1 h2 => by
   have := h (i + 1) (k + 1) (by simp; omega) (by simp; omega) (by simpa using h1) (by simpa using h2)
   omega
  show (f a != par (l.map f)) = (f a || l.any f)
  rw [ih]
  cases q : f a
  ·simp
  ·have : l.any f = false := List.any_eq_false.2 fun b hb hf => by
    obtain ⟨i, hi, rfl⟩ := List.getElem_of_mem hb
    have := h 0 (i + 1) (by simp) (by simp; omega) (by simpa using q) (by simpa using hf)
    omega
   rw [this]; rfl
def onS (s : Sd) (x y : Int) : Prop := min s.1.1 s.2.1 ≤ x ∧ x ≤ max s.1.1 s.2.1 ∧ min s.1.2 s.2.2 ≤ y ∧ y ≤ max s.1.2 s.2.2
section
variable {p : List Pt} (hp : Poly p)
include hp
def sI (p : List Pt) (i : Nat) : Sd := gtS (sidesP p) i
def nI (p : List Pt) (i : Nat) : Nat := (i + 1) % p.length
omit hp in
theorem sI_get {i : Nat} (h : i < p.length) : sI p i = (sidesP p)[i]'(by rw [sides_len]; exact h) := gt_get _
omit hp in
theorem sI_mem {i : Nat} (h : i < p.length) : sI p i ∈ sidesP p := gt_mem (by rw [sides_len]; exact h)
omit hp in
theorem nI_lt {i : Nat} (h : i < p.length) : nI p i < p.length := Nat.mod_lt _ (by omega)
omit hp in
theorem sI_next {i : Nat} (h : i < p.length) : (sI p (nI p i)).1 = (sI p i).2 := by
 rw [sI_get h, sI_get (nI_lt h), sides_get h, sides_get (nI_lt h)]; rfl
theorem sI_kind {i : Nat} (h : i < p.length) : stS (sI p i) := by
 have hm := sI_mem h
 unfold stS
 split
 ·rename_i u
  exact hp.tall hm (of_decide_eq_true u)
 ·rename_i u
  refine hp.flat hm fun e => u ?_
  unfold upS; exact decide_eq_true e
theorem sI_turn {i : Nat} (h : i < p.length) : upS (sI p (nI p i)) = !upS (sI p i) := by
 have := hp.turns i (by rw [sides_len]; exact h)
 rw [← sI_get h] at this
 have e : (sidesP p)[(i + 1) % (sidesP p).length]'(Nat.mod_lt _ (by rw [sides_len]; omega)) = sI p (nI p i) := by
  rw [sI_get (nI_lt h)]
  congr 1
  rw [sides_len]; rfl
 rw [e] at this
 cases q : upS (sI p i) <;> cases r : upS (sI p (nI p i)) <;> simp_all
theorem touch {i k : Nat} (hi : i < p.length) (hk : k < p.length) (hne : i ≠ k) {x y : Int} (h1 : onS (sI p i) x y) (h2 : onS (sI p k) x y) : (k = nI p i ∧ (sI p i).2 = (x, y)) ∨ (i = nI p k ∧ (sI p k).2 = (x, y)) := by
 have hl := hp.len
 have hc : crossB (sI p i) (sI p k) = true := cross_true h1.1 h1.2.1 h2.1 h2.2.1 h1.2.2.1 h1.2.2.2 h2.2.2.1 h2.2.2.2
 have adj : k = nI p i ∨ i = nI p k := by
  have key : ∀ {i k : Nat}, i < p.length → k < p.length → i < k → crossB (sI p i) (sI p k) = true → k = nI p i ∨ i = nI p k := fun {i k} hi hk hik hc => by
   by_cases q1 : k = i + 1
   ·left
    unfold nI
    rw [Nat.mod_eq_of_lt (by omega)]; exact q1
   ·by_cases q2 : 1 < i + (sidesP p).length - k
    ·have := hp.apart i k (by rw [sides_len]; exact hi) (by rw [sides_len]; exact hk) (by omega) q2
     rw [← sI_get hi, ← sI_get hk, hc] at this
     cases this
    ·right
     rw [sides_len] at q2
     unfold nI
     have e : k + 1 = p.length := by omega
     rw [e, Nat.mod_self]; omega
  rcases Nat.lt_or_gt_of_ne hne with q | q
  ·exact key hi hk q hc
  ·rw [cross_comm] at hc
   exact (key hk hi q hc).symm
 have corner : ∀ {j : Nat}, j < p.length → onS (sI p j) x y → onS (sI p (nI p j)) x y → (sI p j).2 = (x, y) := fun {j} hj a b => by
  have e := sI_next hj
  have t := sI_turn hp hj
  have k1 := sI_kind hp hj
  have k2 := sI_kind hp (nI_lt hj)
  unfold onS at a b
  unfold stS at k1 k2
  rw [t] at k2
  have e1 : (sI p (nI p j)).1.1 = (sI p j).2.1 := by rw [e]
  have e2 : (sI p (nI p j)).1.2 = (sI p j).2.2 := by rw [e]
  cases u : upS (sI p j)
  ·rw [u, if_neg (by decide)] at k1
   rw [u] at k2 t
   have ux : (sI p (nI p j)).1.1 = (sI p (nI p j)).2.1 := by unfold upS at t; exact of_decide_eq_true t
   refine Prod.ext ?_ ?_
   ·show (sI p j).2.1 = x; omega
   ·show (sI p j).2.2 = y; omega
  ·rw [u] at k2 t
   rw [show (!true) = false from rfl, if_neg (by decide)] at k2
   have ux : (sI p j).1.1 = (sI p j).2.1 := by unfold upS at u; exact of_decide_eq_true u
   refine Prod.ext ?_ ?_
   ·show (sI p j).2.1 = x; omega
   ·show (sI p j).2.2 = y; omega
 rcases adj with e | e
 ·subst e; exact .inl ⟨rfl, corner hi h1 h2⟩
 ·subst e; exact .inr ⟨rfl, corner hk h2 h1⟩
theorem kin_one {i k : Nat} (hi : i < p.length) (hk : k < p.length) (hu : upS (sI p i) = upS (sI p k)) {x y : Int} (h1 : onS (sI p i) x y) (h2 : onS (sI p k) x y) : i = k := by
 by_cases hne : i = k
 ·exact hne
 ·rcases touch hp hi hk hne h1 h2 with ⟨e, _⟩ | ⟨e, _⟩
  ·rw [e, sI_turn hp hi] at hu
   cases q : upS (sI p i) <;> rw [q] at hu <;> cases hu
  ·rw [e, sI_turn hp hk] at hu
   cases q : upS (sI p k) <;> rw [q] at hu <;> cases hu
def edgeH (p : List Pt) (x y : Int) : Prop := ∃ i, i < p.length ∧ upS (sI p i) = false ∧ (sI p i).1.2 = y ∧ min (sI p i).1.1 (sI p i).2.1 ≤ x ∧ x < max (sI p i).1.1 (sI p i).2.1
def edgeV (p : List Pt) (x y : Int) : Prop := ∃ i, i < p.length ∧ upS (sI p i) = true ∧ (sI p i).1.1 = x ∧ min (sI p i).1.2 (sI p i).2.2 ≤ y ∧ y < max (sI p i).1.2 (sI p i).2.2
theorem cell_H (x y : Int) : polyS p x (y - 1) ≠ polyS p x y ↔ edgeH p x y := by
 have hx := par_xor (fun s => hB x s && decide (s.1.2 ≤ y)) (fun s => hB x s && decide (s.1.2 ≤ y - 1)) (sidesP p)
 have e : (sidesP p).map (fun s => ((hB x s && decide (s.1.2 ≤ y)) != (hB x s && decide (s.1.2 ≤ y - 1)))) = (sidesP p).map (fun s => hB x s && decide (s.1.2 = y)) := map_ext fun s _ => by
  cases hB x s
  ·rfl
  ·rw [Bool.true_and, Bool.true_and, Bool.true_and]
   by_cases q : s.1.2 = y
   ·rw [decide_eq_true q, decide_eq_true (show s.1.2 ≤ y by omega), decide_eq_false (show ¬ s.1.2 ≤ y - 1 by omega)]; rfl
   ·by_cases r : s.1.2 ≤ y
    ·rw [decide_eq_false q, decide_eq_true r, decide_eq_true (show s.1.2 ≤ y - 1 by omega)]; rfl
    ·rw [decide_eq_false q, decide_eq_false r, decide_eq_false (show ¬ s.1.2 ≤ y - 1 by omega)]; rfl
 have on : ∀ (i : Nat) (hi : i < (sidesP p).length), (hB x (sidesP p)[i] && decide ((sidesP p)[i].1.2 = y)) = true → upS (sI p i) = false ∧ onS (sI p i) x y := fun i hi h => by
  rw [Bool.and_eq_true, hB_iff, decide_eq_true_eq] at h
  have hi' : i < p.length := by rw [← sides_len p]; exact hi
  rw [← sI_get hi'] at h
  have k := sI_kind hp hi'
  have u : upS (sI p i) = false := by unfold upS; exact decide_eq_false (by omega)
  unfold stS at k
  rw [u, if_neg (by decide)] at k
  exact ⟨u, by unfold onS; omega⟩
 have h1 := par_one (f := fun s => hB x s && decide (s.1.2 = y)) (l := sidesP p) fun i k hi hk a b => by
  obtain ⟨u1, o1⟩ := on i hi a
  obtain ⟨u2, o2⟩ := on k hk b
  exact kin_one hp (by rw [← sides_len p]; exact hi) (by rw [← sides_len p]; exact hk) (u1.trans u2.symm) o1 o2
 rw [e, h1] at hx
 have hne : polyS p x (y - 1) ≠ polyS p x y ↔ (polyS p x y != polyS p x (y - 1)) = true := by
  cases polyS p x y <;> cases polyS p x (y - 1) <;> simp
 rw [hne]
 have hx' : (polyS p x y != polyS p x (y - 1)) = (sidesP p).any fun s => hB x s && decide (s.1.2 = y) := hx.symm
 rw [hx', List.any_eq_true]
 constructor
 ·rintro ⟨s, hs, h⟩
  obtain ⟨i, hi, rfl⟩ := List.getElem_of_mem hs
  have hi' : i < p.length := by rw [← sides_len p]; exact hi
  obtain ⟨u, _⟩ := on i hi h
  rw [Bool.and_eq_true, hB_iff, decide_eq_true_eq, ← sI_get hi'] at h
  exact ⟨i, hi', u, h.2, h.1.1, h.1.2⟩
 ·rintro ⟨i, hi, _, h2, h3, h4⟩
  exact ⟨sI p i, sI_mem hi, by rw [Bool.and_eq_true, hB_iff, decide_eq_true_eq]; exact ⟨⟨h3, h4⟩, h2⟩⟩
theorem cell_V (x y : Int) : polyS p (x - 1) y ≠ polyS p x y ↔ edgeV p x y := by
 rw [hp.upright, hp.upright]
 have hx := par_xor (vB x y) (vB (x - 1) y) (sidesP p)
 have e : (sidesP p).map (fun s => (vB x y s != vB (x - 1) y s)) = (sidesP p).map (fun s => vB x y s && decide (s.2.1 = x)) := map_ext fun s _ => by
  unfold vB
  cases decide (s.1.1 = s.2.1)
  ·rfl
  ·by_cases q : s.2.1 = x
   ·rw [decide_eq_true q, decide_eq_true (show s.2.1 ≤ x by omega), decide_eq_false (show ¬ s.2.1 ≤ x - 1 by omega)]
    cases decide (min s.1.2 s.2.2 ≤ y) <;> cases decide (y < max s.1.2 s.2.2) <;> rfl
   ·by_cases r : s.2.1 ≤ x
    ·rw [decide_eq_false q, decide_eq_true r, decide_eq_true (show s.2.1 ≤ x - 1 by omega)]
     cases decide (min s.1.2 s.2.2 ≤ y) <;> cases decide (y < max s.1.2 s.2.2) <;> rfl
    ·rw [decide_eq_false q, decide_eq_false r, decide_eq_false (show ¬ s.2.1 ≤ x - 1 by omega)]; rfl
 have on : ∀ (i : Nat) (hi : i < (sidesP p).length), (vB x y (sidesP p)[i] && decide ((sidesP p)[i].2.1 = x)) = true → upS (sI p i) = true ∧ onS (sI p i) x y ∧ (sI p i).1.1 = x ∧ min (sI p i).1.2 (sI p i).2.2 ≤ y ∧ y < max (sI p i).1.2 (sI p i).2.2 := fun i hi h => by
  have hi' : i < p.length := by rw [← sides_len p]; exact hi
  unfold vB at h
  simp only [Bool.and_eq_true, decide_eq_true_eq] at h
  rw [← sI_get hi'] at h
  exact ⟨by unfold upS; exact decide_eq_true h.1.1.1.1, by unfold onS; omega, by omega, h.1.1.2, h.1.2⟩
 have h1 := par_one (f := fun s => vB x y s && decide (s.2.1 = x)) (l := sidesP p) fun i k hi hk a b => by
  obtain ⟨u1, o1, _⟩ := on i hi a
  obtain ⟨u2, o2, _⟩ := on k hk b
  exact kin_one hp (by rw [← sides_len p]; exact hi) (by rw [← sides_len p]; exact hk) (u1.trans u2.symm) o1 o2
 rw [e, h1] at hx
 have hne : ∀ a b : Bool, a ≠ b ↔ (b != a) = true := by decide
 rw [hne, ← hx, List.any_eq_true]
 constructor
 ·rintro ⟨s, hs, h⟩
  obtain ⟨i, hi, rfl⟩ := List.getElem_of_mem hs
  obtain ⟨u, _, a, b, c⟩ := on i hi h
  exact ⟨i, by rw [← sides_len p]; exact hi, u, a, b, c⟩
 ·rintro ⟨i, hi, h1, h2, h3, h4⟩
  have hu : (sI p i).1.1 = (sI p i).2.1 := by unfold upS at h1; exact of_decide_eq_true h1
  refine ⟨sI p i, sI_mem hi, ?_⟩
  unfold vB
  simp only [Bool.and_eq_true, decide_eq_true_eq]
  refine ⟨⟨⟨⟨hu, ?_⟩, h3⟩, h4⟩, ?_⟩ <;> omega
end
end Go.Proofs.Ytadnganaeigchaa.Rg
namespace Go.Proofs.Ytadnganaeigchaa.Rg
theorem q_corH : ∀ ne se nw sw f g : Bool, (nw != sw) = f → (ne != se) = !f → (nw != ne) = g → (sw != se) = !g → qIn ne se nw sw false f = true → qOut ne se nw sw true g = true := by
 intro ne se nw sw f g
 cases ne <;> cases se <;> cases nw <;> cases sw <;> cases f <;> cases g <;> decide
theorem q_corV : ∀ ne se nw sw f g : Bool, (sw != se) = f → (nw != ne) = !f → (ne != se) = g → (nw != sw) = !g → qIn ne se nw sw true f = true → qOut ne se nw sw false g = true := by
 intro ne se nw sw f g
 cases ne <;> cases se <;> cases nw <;> cases sw <;> cases f <;> cases g <;> decide
theorem q_oneH : ∀ ne se nw sw f g : Bool, (nw != sw) = f → (ne != se) = !f → (nw != ne) = g → (sw != se) = !g → qOut ne se nw sw true g = true → ∀ o h : Bool, qOut ne se nw sw o h = true → o = true ∧ h = g := by decide
theorem q_oneV : ∀ ne se nw sw f g : Bool, (sw != se) = f → (nw != ne) = !f → (ne != se) = g → (nw != sw) = !g → qOut ne se nw sw false g = true → ∀ o h : Bool, qOut ne se nw sw o h = true → o = false ∧ h = g := by decide
theorem xor_of {a b : Bool} {P : Prop} (h : a ≠ b ↔ P) : ((b != a) = true ↔ P) := by
 rw [← h]; cases a <;> cases b <;> simp
theorem xor_of' {a b : Bool} {P : Prop} (h : a ≠ b ↔ P) : ((a != b) = true ↔ P) := by
 rw [← h]; cases a <;> cases b <;> simp
section
variable {p : List Pt} (hp : Poly p)
include hp
def okS (p : List Pt) (s : Sd) : Prop :=
 (upS s = false → ∀ x, min s.1.1 s.2.1 ≤ x → x < max s.1.1 s.2.1 → polyS p x s.1.2 = fwS s ∧ polyS p x (s.1.2 - 1) = !fwS s) ∧
 (upS s = true → ∀ y, min s.1.2 s.2.2 ≤ y → y < max s.1.2 s.2.2 → polyS p (s.1.1 - 1) y = fwS s ∧ polyS p s.1.1 y = !fwS s)
theorem side_ho {i : Nat} (h : i < p.length) (u : upS (sI p i) = false) : (sI p i).1.2 = (sI p i).2.2 ∧ (sI p i).1.1 ≠ (sI p i).2.1 ∧ (fwS (sI p i) = true ↔ (sI p i).1.1 < (sI p i).2.1) := by
 have k := sI_kind hp h
 unfold stS at k
 rw [u, if_neg (by decide)] at k
 refine ⟨k, by unfold upS at u; exact of_decide_eq_false u, ?_⟩
 unfold fwS
 rw [u, if_neg (by decide), decide_eq_true_eq]
theorem side_up {i : Nat} (h : i < p.length) (u : upS (sI p i) = true) : (sI p i).1.1 = (sI p i).2.1 ∧ (sI p i).1.2 ≠ (sI p i).2.2 ∧ (fwS (sI p i) = true ↔ (sI p i).1.2 < (sI p i).2.2) := by
 have k := sI_kind hp h
 unfold stS at k
 rw [u, if_pos rfl] at k
 refine ⟨by unfold upS at u; exact of_decide_eq_true u, k, ?_⟩
 unfold fwS
 rw [u, if_pos rfl, decide_eq_true_eq]
theorem free_H {i : Nat} (h : i < p.length) (u : upS (sI p i) = false) {x y : Int} (hy : y = (sI p i).1.2 ∨ y = (sI p i).1.2 - 1) (h1 : min (sI p i).1.1 (sI p i).2.1 < x) (h2 : x < max (sI p i).1.1 (sI p i).2.1) : ¬ edgeV p x y := by
 rintro ⟨j, hj, k1, k2, k3, k4⟩
 obtain ⟨a1, a2, _⟩ := side_ho hp h u
 obtain ⟨b1, b2, _⟩ := side_up hp hj k1
 have hne : i ≠ j := fun e => by rw [e, k1] at u; cases u
 have o1 : onS (sI p i) x (sI p i).1.2 := by unfold onS; omega
 have o2 : onS (sI p j) x (sI p i).1.2 := by unfold onS; omega
 rcases touch hp h hj hne o1 o2 with ⟨_, e⟩ | ⟨e', e⟩
 ·have : (sI p i).2.1 = x := by rw [e]
  omega
 ·have : (sI p i).1.1 = x := by rw [e', sI_next hj, e]
  omega
theorem free_V {i : Nat} (h : i < p.length) (u : upS (sI p i) = true) {x y : Int} (hx : x = (sI p i).1.1 ∨ x = (sI p i).1.1 - 1) (h1 : min (sI p i).1.2 (sI p i).2.2 < y) (h2 : y < max (sI p i).1.2 (sI p i).2.2) : ¬ edgeH p x y := by
 rintro ⟨j, hj, k1, k2, k3, k4⟩
 obtain ⟨a1, a2, _⟩ := side_up hp h u
 obtain ⟨b1, b2, _⟩ := side_ho hp hj k1
 have hne : i ≠ j := fun e => by rw [e, k1] at u; cases u
 have o1 : onS (sI p i) (sI p i).1.1 y := by unfold onS; omega
 have o2 : onS (sI p j) (sI p i).1.1 y := by unfold onS; omega
 rcases touch hp h hj hne o1 o2 with ⟨_, e⟩ | ⟨e', e⟩
 ·have : (sI p i).2.2 = y := by rw [e]
  omega
 ·have : (sI p i).1.2 = y := by rw [e', sI_next hj, e]
  omega
omit hp in
theorem run_const {f : Int → Bool} {lo hi : Int} (h : ∀ x, lo < x → x < hi → f (x - 1) = f x) : ∀ (n : Nat) (x : Int), lo ≤ x → x < hi → (x - lo).toNat = n → f x = f lo
 | 0, x, h1, _, h3 => by
  have : x = lo := by omega
  rw [this]
 | n + 1, x, h1, h2, h3 => by
  rw [← h x (by omega) h2]
  exact run_const h n (x - 1) (by omega) (by omega) (by omega)
theorem const_H {i : Nat} (h : i < p.length) (u : upS (sI p i) = false) {x : Int} (h1 : min (sI p i).1.1 (sI p i).2.1 ≤ x) (h2 : x < max (sI p i).1.1 (sI p i).2.1) {y : Int} (hy : y = (sI p i).1.2 ∨ y = (sI p i).1.2 - 1) :
  polyS p x y = polyS p (min (sI p i).1.1 (sI p i).2.1) y := by
 refine run_const (f := fun x => polyS p x y) (lo := min (sI p i).1.1 (sI p i).2.1) (hi := max (sI p i).1.1 (sI p i).2.1) (fun x a b => ?_) _ x h1 h2 rfl
 have := free_H hp h u hy a b
 rw [← cell_V hp] at this
 exact Classical.not_not.1 this
theorem const_V {i : Nat} (h : i < p.length) (u : upS (sI p i) = true) {y : Int} (h1 : min (sI p i).1.2 (sI p i).2.2 ≤ y) (h2 : y < max (sI p i).1.2 (sI p i).2.2) {x : Int} (hx : x = (sI p i).1.1 ∨ x = (sI p i).1.1 - 1) :
  polyS p x y = polyS p x (min (sI p i).1.2 (sI p i).2.2) := by
 refine run_const (f := fun y => polyS p x y) (lo := min (sI p i).1.2 (sI p i).2.2) (hi := max (sI p i).1.2 (sI p i).2.2) (fun y a b => ?_) _ y h1 h2 rfl
 have := free_V hp h u hx a b
 rw [← cell_H hp] at this
 exact Classical.not_not.1 this
theorem cor_H {i : Nat} (h : i < p.length) (u : upS (sI p i) = false) : let x := (sI p i).2.1; let y := (sI p i).2.2; let f := fwS (sI p i); let g := fwS (sI p (nI p i));
  (polyS p (x - 1) y != polyS p (x - 1) (y - 1)) = f ∧ (polyS p x y != polyS p x (y - 1)) = !f ∧ (polyS p (x - 1) y != polyS p x y) = g ∧ (polyS p (x - 1) (y - 1) != polyS p x (y - 1)) = !g := by
 intro x y f g
 obtain ⟨a1, a2, a3⟩ := side_ho hp h u
 have hn := nI_lt h
 have u' : upS (sI p (nI p i)) = true := by rw [sI_turn hp h, u]; rfl
 obtain ⟨b1, b2, b3⟩ := side_up hp hn u'
 have ec := sI_next h
 have e1 : (sI p (nI p i)).1.1 = x := by rw [ec]
 have e2 : (sI p (nI p i)).1.2 = y := by rw [ec]
 have oni : onS (sI p i) x y := by unfold onS; omega
 have onn : onS (sI p (nI p i)) x y := by unfold onS; omega
 have W := xor_of (cell_H hp (x - 1) y)
 have Ee := xor_of (cell_H hp x y)
 have N := xor_of' (cell_V hp x y)
 have So := xor_of' (cell_V hp x (y - 1))
 have hW : edgeH p (x - 1) y ↔ f = true := by
  constructor
  ·rintro ⟨j, hj, k1, k2, k3, k4⟩
   have e := kin_one hp hj h (k1.trans u.symm) (x := x) (y := y) (by unfold onS; have := side_ho hp hj k1; omega) oni
   subst e
   exact a3.2 (by omega)
  ·intro hf
   have := a3.1 hf
   exact ⟨i, h, u, a1, by omega, by omega⟩
 have hE : edgeH p x y ↔ f = false := by
  constructor
  ·rintro ⟨j, hj, k1, k2, k3, k4⟩
   have e := kin_one hp hj h (k1.trans u.symm) (x := x) (y := y) (by unfold onS; have := side_ho hp hj k1; omega) oni
   subst e
   cases q : f
   ·rfl
   ·have := a3.1 q; omega
  ·intro hf
   have : ¬ (sI p i).1.1 < (sI p i).2.1 := fun q => by rw [← a3] at q; rw [show f = true from q] at hf; cases hf
   exact ⟨i, h, u, a1, by omega, by omega⟩
 have hN : edgeV p x y ↔ g = true := by
  constructor
  ·rintro ⟨j, hj, k1, k2, k3, k4⟩
   have e := kin_one hp hj hn (k1.trans u'.symm) (x := x) (y := y) (by unfold onS; have := side_up hp hj k1; omega) onn
   subst e
   exact b3.2 (by omega)
  ·intro hf
   have := b3.1 hf
   exact ⟨nI p i, hn, u', e1, by omega, by omega⟩
 have hS : edgeV p x (y - 1) ↔ g = false := by
  constructor
  ·rintro ⟨j, hj, k1, k2, k3, k4⟩
   have e := kin_one hp hj hn (k1.trans u'.symm) (x := x) (y := y) (by unfold onS; have := side_up hp hj k1; omega) onn
   subst e
   cases q : g
   ·rfl
   ·have := b3.1 q; omega
  ·intro hf
   have : ¬ (sI p (nI p i)).1.2 < (sI p (nI p i)).2.2 := fun q => by rw [← b3] at q; rw [show g = true from q] at hf; cases hf
   exact ⟨nI p i, hn, u', e1, by omega, by omega⟩
 rw [hW] at W
 rw [hE] at Ee
 rw [hN] at N
 rw [hS] at So
 refine ⟨?_, ?_, ?_, ?_⟩
 ·rw [Bool.eq_iff_iff, W]
 ·rw [Bool.eq_iff_iff, Ee]; cases f <;> simp
 ·rw [Bool.eq_iff_iff, N]
 ·rw [Bool.eq_iff_iff, So]; cases g <;> simp
theorem cor_V {i : Nat} (h : i < p.length) (u : upS (sI p i) = true) : let x := (sI p i).2.1; let y := (sI p i).2.2; let f := fwS (sI p i); let g := fwS (sI p (nI p i));
  (polyS p (x - 1) (y - 1) != polyS p x (y - 1)) = f ∧ (polyS p (x - 1) y != polyS p x y) = !f ∧ (polyS p x y != polyS p x (y - 1)) = g ∧ (polyS p (x - 1) y != polyS p (x - 1) (y - 1)) = !g := by
 intro x y f g
 obtain ⟨a1, a2, a3⟩ := side_up hp h u
 have hn := nI_lt h
 have u' : upS (sI p (nI p i)) = false := by rw [sI_turn hp h, u]; rfl
 obtain ⟨b1, b2, b3⟩ := side_ho hp hn u'
 have ec := sI_next h
 have e1 : (sI p (nI p i)).1.1 = x := by rw [ec]
 have e2 : (sI p (nI p i)).1.2 = y := by rw [ec]
 have oni : onS (sI p i) x y := by unfold onS; omega
 have onn : onS (sI p (nI p i)) x y := by unfold onS; omega
 have W := xor_of (cell_H hp (x - 1) y)
 have Ee := xor_of (cell_H hp x y)
 have N := xor_of' (cell_V hp x y)
 have So := xor_of' (cell_V hp x (y - 1))
 have hS : edgeV p x (y - 1) ↔ f = true := by
  constructor
  ·rintro ⟨j, hj, k1, k2, k3, k4⟩
   have e := kin_one hp hj h (k1.trans u.symm) (x := x) (y := y) (by unfold onS; have := side_up hp hj k1; omega) oni
   subst e
   exact a3.2 (by omega)
  ·intro hf
   have := a3.1 hf
   exact ⟨i, h, u, a1, by omega, by omega⟩
 have hN : edgeV p x y ↔ f = false := by
  constructor
  ·rintro ⟨j, hj, k1, k2, k3, k4⟩
   have e := kin_one hp hj h (k1.trans u.symm) (x := x) (y := y) (by unfold onS; have := side_up hp hj k1; omega) oni
   subst e
   cases q : f
   ·rfl
   ·have := a3.1 q; omega
  ·intro hf
   have : ¬ (sI p i).1.2 < (sI p i).2.2 := fun q => by rw [← a3] at q; rw [show f = true from q] at hf; cases hf
   exact ⟨i, h, u, a1, by omega, by omega⟩
 have hE : edgeH p x y ↔ g = true := by
  constructor
  ·rintro ⟨j, hj, k1, k2, k3, k4⟩
   have e := kin_one hp hj hn (k1.trans u'.symm) (x := x) (y := y) (by unfold onS; have := side_ho hp hj k1; omega) onn
   subst e
   exact b3.2 (by omega)
  ·intro hf
   have := b3.1 hf
   exact ⟨nI p i, hn, u', e2, by omega, by omega⟩
 have hW : edgeH p (x - 1) y ↔ g = false := by
  constructor
  ·rintro ⟨j, hj, k1, k2, k3, k4⟩
   have e := kin_one hp hj hn (k1.trans u'.symm) (x := x) (y := y) (by unfold onS; have := side_ho hp hj k1; omega) onn
   subst e
   cases q : g
   ·rfl
   ·have := b3.1 q; omega
  ·intro hf
   have : ¬ (sI p (nI p i)).1.1 < (sI p (nI p i)).2.1 := fun q => by rw [← b3] at q; rw [show g = true from q] at hf; cases hf
   exact ⟨nI p i, hn, u', e2, by omega, by omega⟩
 rw [hW] at W
 rw [hE] at Ee
 rw [hN] at N
 rw [hS] at So
 refine ⟨?_, ?_, ?_, ?_⟩
 ·rw [Bool.eq_iff_iff, So]
 ·rw [Bool.eq_iff_iff, N]; cases f <;> simp
 ·rw [Bool.eq_iff_iff, Ee]
 ·rw [Bool.eq_iff_iff, W]; cases g <;> simp
def qI (p : List Pt) (x y : Int) (o f : Bool) : Bool := qIn (polyS p x y) (polyS p x (y - 1)) (polyS p (x - 1) y) (polyS p (x - 1) (y - 1)) o f
def qO (p : List Pt) (x y : Int) (o f : Bool) : Bool := qOut (polyS p x y) (polyS p x (y - 1)) (polyS p (x - 1) y) (polyS p (x - 1) (y - 1)) o f
theorem cor_out {i : Nat} (h : i < p.length) (hq : qI p (sI p i).2.1 (sI p i).2.2 (upS (sI p i)) (fwS (sI p i)) = true) :
  qO p (sI p i).2.1 (sI p i).2.2 (upS (sI p (nI p i))) (fwS (sI p (nI p i))) = true ∧ ∀ o g, qO p (sI p i).2.1 (sI p i).2.2 o g = true → o = upS (sI p (nI p i)) ∧ g = fwS (sI p (nI p i)) := by
 unfold qI at hq
 unfold qO
 cases u : upS (sI p i)
 ·rw [u] at hq
  have t : upS (sI p (nI p i)) = true := by rw [sI_turn hp h, u]; rfl
  rw [t]
  obtain ⟨c1, c2, c3, c4⟩ := cor_H hp h u
  have k := q_corH _ _ _ _ _ _ c1 c2 c3 c4 hq
  exact ⟨k, q_oneH _ _ _ _ _ _ c1 c2 c3 c4 k⟩
 ·rw [u] at hq
  have t : upS (sI p (nI p i)) = false := by rw [sI_turn hp h, u]; rfl
  rw [t]
  obtain ⟨c1, c2, c3, c4⟩ := cor_V hp h u
  have k := q_corV _ _ _ _ _ _ c1 c2 c3 c4 hq
  exact ⟨k, q_oneV _ _ _ _ _ _ c1 c2 c3 c4 k⟩
theorem out_ok {i : Nat} (h : i < p.length) (hq : qO p (sI p i).1.1 (sI p i).1.2 (upS (sI p i)) (fwS (sI p i)) = true) : okS p (sI p i) := by
 unfold qO at hq
 refine ⟨fun u x h1 h2 => ?_, fun u y h1 h2 => ?_⟩
 ·obtain ⟨a1, a2, a3⟩ := side_ho hp h u
  rw [u] at hq
  rw [const_H hp h u h1 h2 (.inl rfl), const_H hp h u h1 h2 (.inr rfl)]
  cases q : fwS (sI p i)
  ·rw [q] at hq
   have hlt : ¬ (sI p i).1.1 < (sI p i).2.1 := fun e => by rw [← a3, q] at e; cases e
   unfold qOut at hq
   rw [Bool.and_eq_true] at hq
   have c1 := const_H hp h u (x := (sI p i).1.1 - 1) (by omega) (by omega) (y := (sI p i).1.2) (.inl rfl)
   have c2 := const_H hp h u (x := (sI p i).1.1 - 1) (by omega) (by omega) (y := (sI p i).1.2 - 1) (.inr rfl)
   rw [← c1, ← c2]
   exact ⟨by simpa using hq.2, hq.1⟩
  ·rw [q] at hq
   have hlt := a3.1 q
   unfold qOut at hq
   rw [Bool.and_eq_true] at hq
   have e : min (sI p i).1.1 (sI p i).2.1 = (sI p i).1.1 := by omega
   rw [e]
   exact ⟨hq.1, by simpa using hq.2⟩
 ·obtain ⟨a1, a2, a3⟩ := side_up hp h u
  rw [u] at hq
  rw [const_V hp h u h1 h2 (.inl rfl), const_V hp h u h1 h2 (.inr rfl)]
  cases q : fwS (sI p i)
  ·rw [q] at hq
   have hlt : ¬ (sI p i).1.2 < (sI p i).2.2 := fun e => by rw [← a3, q] at e; cases e
   unfold qOut at hq
   rw [Bool.and_eq_true] at hq
   have c1 := const_V hp h u (y := (sI p i).1.2 - 1) (by omega) (by omega) (x := (sI p i).1.1) (.inl rfl)
   have c2 := const_V hp h u (y := (sI p i).1.2 - 1) (by omega) (by omega) (x := (sI p i).1.1 - 1) (.inr rfl)
   rw [← c1, ← c2]
   exact ⟨by simpa using hq.2, hq.1⟩
  ·rw [q] at hq
   have hlt := a3.1 q
   unfold qOut at hq
   rw [Bool.and_eq_true] at hq
   have e : min (sI p i).1.2 (sI p i).2.2 = (sI p i).1.2 := by omega
   rw [e]
   exact ⟨hq.1, by simpa using hq.2⟩
theorem ok_in {i : Nat} (h : i < p.length) (ho : okS p (sI p i)) : qI p (sI p i).2.1 (sI p i).2.2 (upS (sI p i)) (fwS (sI p i)) = true := by
 unfold qI
 cases u : upS (sI p i)
 ·obtain ⟨a1, a2, a3⟩ := side_ho hp h u
  have ho := ho.1 u
  cases q : fwS (sI p i)
  ·have hlt : ¬ (sI p i).1.1 < (sI p i).2.1 := fun e => by rw [← a3, q] at e; cases e
   obtain ⟨k1, k2⟩ := ho (sI p i).2.1 (by omega) (by omega)
   rw [a1, q] at k1 k2
   unfold qIn
   rw [k1, k2]; rfl
  ·have hlt := a3.1 q
   obtain ⟨k1, k2⟩ := ho ((sI p i).2.1 - 1) (by omega) (by omega)
   rw [a1, q] at k1 k2
   unfold qIn
   rw [k1, k2]; rfl
 ·obtain ⟨a1, a2, a3⟩ := side_up hp h u
  have ho := ho.2 u
  cases q : fwS (sI p i)
  ·have hlt : ¬ (sI p i).1.2 < (sI p i).2.2 := fun e => by rw [← a3, q] at e; cases e
   obtain ⟨k1, k2⟩ := ho (sI p i).2.2 (by omega) (by omega)
   rw [a1, q] at k1 k2
   unfold qIn
   rw [k1, k2]; rfl
  ·have hlt := a3.1 q
   obtain ⟨k1, k2⟩ := ho ((sI p i).2.2 - 1) (by omega) (by omega)
   rw [a1, q] at k1 k2
   unfold qIn
   rw [k1, k2]; rfl
end
structure Least (p : List Pt) : Prop where
 poly : Poly p
 first : upS (sI p 0) = false
 least : ∀ (j : Nat) (h : j < p.length), 0 < j → ltPo (p[0]'(by omega)) p[j] = true
section
variable {p : List Pt} (hp : Least p)
include hp
theorem base_in : qI p (sI p (p.length - 1)).2.1 (sI p (p.length - 1)).2.2 (upS (sI p (p.length - 1))) (fwS (sI p (p.length - 1))) = true := by
 have hl := hp.poly.len
 have hi : p.length - 1 < p.length := by omega
 have en : nI p (p.length - 1) = 0 := by unfold nI; rw [show p.length - 1 + 1 = p.length by omega, Nat.mod_self]
 have u : upS (sI p (p.length - 1)) = true := by
  have := sI_turn hp.poly hi
  rw [en, hp.first] at this
  cases q : upS (sI p (p.length - 1)) <;> rw [q] at this <;> simp_all
 obtain ⟨a1, a2, a3⟩ := side_up hp.poly hi u
 have e2 : (sI p (p.length - 1)).2 = p[0] := by
  rw [← sI_next hi, en, sI_get (by omega), sides_get (by omega)]
 have e1 : (sI p (p.length - 1)).1 = p[p.length - 1] := by rw [sI_get hi, sides_get hi]
 have hlt := hp.least (p.length - 1) hi (by omega)
 rw [ltP_iff] at hlt
 rw [← e1, ← e2] at hlt
 have hdown : ¬ (sI p (p.length - 1)).1.2 < (sI p (p.length - 1)).2.2 := by omega
 have hf : fwS (sI p (p.length - 1)) = false := by
  cases q : fwS (sI p (p.length - 1))
  ·rfl
  ·exact absurd (a3.1 q) hdown
 have hz : ∀ y, polyS p ((sI p (p.length - 1)).2.1 - 1) y = false := fun y => by
  unfold polyS
  refine par_false fun s hs => ?_
  have e : hB ((sI p (p.length - 1)).2.1 - 1) s = false := by
   cases q : hB ((sI p (p.length - 1)).2.1 - 1) s
   ·rfl
   ·exfalso
    rw [hB_iff] at q
    obtain ⟨m1, m2⟩ := sides_mem hs
    have key : ∀ v ∈ p, p[0].1 ≤ v.1 := fun v hv => by
     obtain ⟨j, hj, rfl⟩ := List.getElem_of_mem hv
     by_cases h0 : 0 < j
     ·have := hp.least j hj h0
      rw [ltP_iff] at this
      omega
     ·have : j = 0 := by omega
      subst this; omega
    have k1 := key _ m1
    have k2 := key _ m2
    rw [e2] at q
    omega
  rw [e, Bool.false_and]
 have hV := (cell_V hp.poly (sI p (p.length - 1)).2.1 (sI p (p.length - 1)).2.2).2 ⟨p.length - 1, hi, u, a1, by omega, by omega⟩
 rw [hz] at hV
 unfold qI
 rw [u, hf, hz]
 unfold qIn
 cases q : polyS p (sI p (p.length - 1)).2.1 (sI p (p.length - 1)).2.2
 ·rw [q] at hV; exact absurd rfl hV
 ·rfl
theorem all_ok : ∀ i, i < p.length → okS p (sI p i)
 | 0, h => by
  have hl := hp.poly.len
  have hi : p.length - 1 < p.length := by omega
  have en : nI p (p.length - 1) = 0 := by unfold nI; rw [show p.length - 1 + 1 = p.length by omega, Nat.mod_self]
  have := (cor_out hp.poly hi (base_in hp)).1
  rw [en, ← sI_next hi, en] at this
  exact out_ok hp.poly h this
 | i + 1, h => by
  have hi : i < p.length := by omega
  have en : nI p i = i + 1 := by unfold nI; exact Nat.mod_eq_of_lt h
  have := (cor_out hp.poly hi (ok_in hp.poly hi (all_ok i hi))).1
  rw [← sI_next hi, en] at this
  exact out_ok hp.poly h this
end
end Go.Proofs.Ytadnganaeigchaa.Rg
namespace Go.Proofs.Ytadnganaeigchaa.Rg
def insP (s t : Sd) : Prop := upS t = upS s ∧ fwS t = fwS s ∧ (upS s = true → t.1.1 = s.1.1 ∧ min s.1.2 s.2.2 ≤ min t.1.2 t.2.2 ∧ max t.1.2 t.2.2 ≤ max s.1.2 s.2.2) ∧ (upS s = false → t.1.2 = s.1.2 ∧ min s.1.1 s.2.1 ≤ min t.1.1 t.2.1 ∧ max t.1.1 t.2.1 ≤ max s.1.1 s.2.1)
def farP (s t : Sd) : Nat := (s.2.1 - t.1.1).natAbs + (s.2.2 - t.1.2).natAbs
theorem q_lie : ∀ A o h : Bool, qOut A (!A) A (!A) o h = true → o = false ∧ h = A := by decide
theorem q_inH : ∀ ne se nw sw f : Bool, qIn ne se nw sw false f = true → (nw != sw) = true ∨ (ne != se) = true := by decide
theorem q_inV : ∀ ne se nw sw f : Bool, qIn ne se nw sw true f = true → (nw != ne) = true ∨ (sw != se) = true := by decide
theorem q_outH : ∀ ne se nw sw f : Bool, qOut ne se nw sw false f = true → (nw != sw) = true ∨ (ne != se) = true := by decide
theorem q_outV : ∀ ne se nw sw f : Bool, qOut ne se nw sw true f = true → (nw != ne) = true ∨ (sw != se) = true := by decide
theorem only_one {α : Type} {L : List α} {p : α} (hn : L.Nodup) (h : ∀ q, q ∈ L ↔ q = p) : L = [p] := by
 cases L with
 | nil => exact absurd ((h p).2 rfl) List.not_mem_nil
 | cons a L =>
  have e := (h a).1 (List.mem_cons_self ..)
  subst e
  cases L with
  | nil => rfl
  | cons b L =>
   have e := (h b).1 (List.mem_cons_of_mem _ (List.mem_cons_self ..))
   subst e
   rw [List.nodup_cons] at hn
   exact absurd (List.mem_cons_self ..) hn.1
section
variable {p : List Pt} (hp : Least p)
include hp
theorem sides_net : Net (sidesP p) := by
 have hpo := hp.poly
 have ix : ∀ s ∈ sidesP p, ∃ i, i < p.length ∧ sI p i = s := fun s hs => by
  obtain ⟨i, hi, e⟩ := mem_gt hs
  rw [sides_len] at hi
  exact ⟨i, hi, e⟩
 have ends : ∀ i, i < p.length → onS (sI p i) (sI p i).1.1 (sI p i).1.2 ∧ onS (sI p i) (sI p i).2.1 (sI p i).2.2 := fun i _ => by unfold onS; omega
 have nd2 : ∀ i, i < p.length → (sI p i).1 ≠ (sI p i).2 := fun i hi e => by
  have k := sI_kind hpo hi
  have e1 : (sI p i).1.1 = (sI p i).2.1 := by rw [e]
  have e2 : (sI p i).1.2 = (sI p i).2.2 := by rw [e]
  unfold stS at k
  split at k
  ·exact k e2
  ·rename_i u; exact u (by unfold upS; exact decide_eq_true e1)
 have start : ∀ i k, i < p.length → k < p.length → (sI p k).1 = (sI p i).2 → k = nI p i := fun i k hi hk e => by
  have hne : i ≠ k := fun q => by subst q; exact nd2 i hi e
  have o2 : onS (sI p k) (sI p i).2.1 (sI p i).2.2 := by rw [← e]; exact (ends k hk).1
  rcases touch hpo hi hk hne (ends i hi).2 o2 with ⟨h, _⟩ | ⟨h, h2⟩
  ·exact h
  ·exact absurd (e.trans h2.symm) (nd2 k hk)
 refine ⟨?_, fun s hs => ?_, fun s hs t ht e u _ => ?_, fun s hs t ht e u _ => ?_, fun s hs t ht e u => ?_, fun s hs => ?_, fun s hs s' hs' hne e => ?_⟩
 ·rw [List.Nodup, List.pairwise_iff_getElem]
  intro i k hi hk hik e
  have hi' : i < p.length := by rw [← sides_len p]; exact hi
  have hk' : k < p.length := by rw [← sides_len p]; exact hk
  rw [← sI_get hi', ← sI_get hk'] at e
  have := kin_one hpo hi' hk' (by rw [e]) (ends i hi').1 (by rw [e]; exact (ends k hk').1)
  omega
 ·obtain ⟨i, hi, rfl⟩ := ix s hs
  exact sI_kind hpo hi
 ·obtain ⟨i, hi, rfl⟩ := ix s hs
  obtain ⟨k, hk, rfl⟩ := ix t ht
  rw [kin_one hpo hi hk u (ends i hi).1 (by rw [e]; exact (ends k hk).1)]
 ·obtain ⟨i, hi, rfl⟩ := ix s hs
  obtain ⟨k, hk, rfl⟩ := ix t ht
  rw [kin_one hpo hi hk u (ends i hi).2 (by rw [e]; exact (ends k hk).2)]
 ·obtain ⟨i, hi, rfl⟩ := ix s hs
  obtain ⟨k, hk, rfl⟩ := ix t ht
  rw [kin_one hpo hi hk u (ends i hi).2 (by rw [e]; exact (ends k hk).1)]
 ·obtain ⟨i, hi, rfl⟩ := ix s hs
  refine .inr ⟨⟨sI p (nI p i), sI_mem (nI_lt hi), sI_next hi⟩, fun t ht t' ht' e e' => ?_⟩
  obtain ⟨k, hk, rfl⟩ := ix t ht
  obtain ⟨k', hk', rfl⟩ := ix t' ht'
  rw [start i k hi hk e, start i k' hi hk' e']
 ·obtain ⟨i, hi, rfl⟩ := ix s hs
  obtain ⟨k, hk, rfl⟩ := ix s' hs'
  exfalso
  have hik : i ≠ k := fun q => hne (by rw [q])
  have o2 : onS (sI p k) (sI p i).2.1 (sI p i).2.2 := by rw [e]; exact (ends k hk).2
  rcases touch hpo hi hk hik (ends i hi).2 o2 with ⟨h, _⟩ | ⟨h, _⟩
  ·have := sI_next hi
   rw [← h, e] at this
   exact nd2 k hk this
  ·have := sI_next hk
   rw [← h, ← e] at this
   exact nd2 i hi this
theorem sides_nx {i : Nat} (hi : i < p.length) : nxI (sidesP p) i = nI p i := by
 have N := sides_net hp
 have hi' : i < (sidesP p).length := by rw [sides_len]; exact hi
 obtain ⟨h1, h2, _⟩ := N.next hi'
 have hn : nI p i < (sidesP p).length := by rw [sides_len]; exact nI_lt hi
 have hst := (N.nxt _ (gt_mem hi'))
 have hu : ∀ t ∈ sidesP p, ∀ t' ∈ sidesP p, t.1 = (sI p i).2 → t'.1 = (sI p i).2 → t = t' := by
  rcases hst with ⟨t, ht, e, hl⟩ | ⟨_, h⟩
  ·intro u hu u' hu' eu eu'
   have ix : ∀ s ∈ sidesP p, s.1 = (sI p i).2 → s = sI p (nI p i) := fun s hs es => by
    obtain ⟨k, hk, rfl⟩ := mem_gt hs
    have hk' : k < p.length := by rw [← sides_len p]; exact hk
    have hne : i ≠ k := fun q => by
     subst q
     have ks := sI_kind hp.poly hi
     have es : (sI p i).1 = (sI p i).2 := es
     have e1 : (sI p i).1.1 = (sI p i).2.1 := by rw [es]
     have e2 : (sI p i).1.2 = (sI p i).2.2 := by rw [es]
     unfold stS at ks
     split at ks
     ·exact ks e2
     ·rename_i q; exact q (by unfold upS; exact decide_eq_true e1)
    have o1 : onS (sI p i) (sI p i).2.1 (sI p i).2.2 := by unfold onS; omega
    have o2 : onS (sI p k) (sI p i).2.1 (sI p i).2.2 := by
     have es : (sI p k).1 = (sI p i).2 := es
     rw [← es]; unfold onS; omega
    rcases touch hp.poly hi hk' hne o1 o2 with ⟨h, _⟩ | ⟨h, h2⟩
    ·rw [h]; rfl
    ·exfalso
     have es : (sI p k).1 = (sI p i).2 := es
     have ks := sI_kind hp.poly hk'
     have ee : (sI p k).1 = (sI p k).2 := es.trans h2.symm
     have e1 : (sI p k).1.1 = (sI p k).2.1 := by rw [ee]
     have e2 : (sI p k).1.2 = (sI p k).2.2 := by rw [ee]
     unfold stS at ks
     split at ks
     ·exact ks e2
     ·rename_i q; exact q (by unfold upS; exact decide_eq_true e1)
   rw [ix u hu eu, ix u' hu' eu']
  ·exact h
 exact gt_inj N h1 hn (hu _ (gt_mem h1) _ (gt_mem hn) h2 (sI_next hi))
theorem sides_loops : ∀ q, q ∈ loopsL (sidesP p) ↔ q = p := by
 have N := sides_net hp
 have hl := hp.poly.len
 have path : ∀ m i, i + (m + 1) = p.length → pth (nxI (sidesP p)) i (List.range' i (m + 1)) 0 := by
  intro m
  induction m with
  | zero =>
   intro i h
   refine ⟨rfl, ?_⟩
   show nxI (sidesP p) i = 0
   rw [sides_nx hp (by omega)]
   unfold nI
   rw [show i + 1 = p.length by omega, Nat.mod_self]
  | succ m ih =>
   intro i h
   rw [List.range'_succ]
   refine ⟨rfl, ?_⟩
   rw [sides_nx hp (by omega)]
   have e : nI p i = i + 1 := by unfold nI; exact Nat.mod_eq_of_lt (by omega)
   rw [e]
   exact ih (i + 1) (by omega)
 have hpath := path (p.length - 1) 0 (by omega)
 rw [show p.length - 1 + 1 = p.length by omega, ← List.range_eq_range'] at hpath
 have hcr : cornF (sidesP p) (List.range p.length) = p.drop 1 ++ p.take 1 := by
  have h1 : ∀ L : List Nat, (∀ i ∈ L, i < p.length) → cornF (sidesP p) L = L.map fun i => (sI p i).2 := by
   intro L
   induction L with
   | nil => intro _; rfl
   | cons i L ih =>
    intro h
    have hi := h i (List.mem_cons_self ..)
    have e : cornF (sidesP p) (i :: L) = (if turnI (gtS (sidesP p) i) (gtS (sidesP p) (nxI (sidesP p) i)) = 0 then [] else [(gtS (sidesP p) i).2]) ++ cornF (sidesP p) L := rfl
    have hne : turnI (gtS (sidesP p) i) (gtS (sidesP p) (nxI (sidesP p) i)) ≠ 0 := fun q => by
     rw [sides_nx hp hi] at q
     have := (turn_zero (sI_kind hp.poly hi) (sI_kind hp.poly (nI_lt hi))).1 q
     rw [sI_turn hp.poly hi] at this
     cases r : upS (sI p i) <;> rw [r] at this <;> cases this
    rw [e, if_neg hne, ih fun j hj => h j (List.mem_cons_of_mem _ hj)]; rfl
  rw [h1 _ fun i hi => List.mem_range.1 hi]
  have h2 : ((List.range p.length).map fun i => (sI p i).2) = (sidesP p).map (·.2) := by
   apply List.ext_getElem
   ·rw [List.length_map, List.length_map, List.length_range, sides_len]
   ·intro i h3 h4
    rw [List.getElem_map, List.getElem_map, List.getElem_range]
    rw [List.length_map, List.length_range] at h3
    rw [sI_get h3]
  rw [h2]
  unfold sidesP
  exact List.map_snd_zip (by rw [List.length_append, List.length_drop, List.length_take]; omega)
 have hrot : Rot p (cornF (sidesP p) (List.range p.length)) := by
  rw [hcr]; exact ⟨p.take 1, p.drop 1, (List.take_append_drop 1 p).symm, rfl⟩
 obtain ⟨m, r, epr⟩ : ∃ m r, p = m :: r := by
  cases p with
  | nil => simp at hl
  | cons m r => exact ⟨m, r, rfl⟩
 have hmr : ∀ x ∈ r, ltPo m x = true := fun x hx => by
  obtain ⟨j, hj, e⟩ := List.getElem_of_mem hx
  have := hp.least (j + 1) (by rw [epr]; simp; omega) (by omega)
  simp only [epr, List.getElem_cons_zero, List.getElem_cons_succ] at this
  rw [e] at this
  exact this
 have hmn : m ∉ r := fun q => by
  have := hmr m q
  rw [ltP_irr] at this; cases this
 have hself : rotM p = p := by
  have c1 : (m :: r).count m = 1 := by rw [List.count_cons_self, List.count_eq_zero.2 hmn]
  obtain ⟨r', e, _⟩ := rotM_head (p := p) (m := m) (by rw [epr]; exact List.mem_cons_self ..) (fun x hx => by
   rw [epr] at hx
   rcases List.mem_cons.1 hx with q | q
   ·rw [q]; exact ltP_irr m
   ·exact ltP_asym (hmr x q)) (by rw [epr]; exact c1)
  have h2 := rotM_rot p
  rw [e] at h2
  rw [e]
  rw [epr] at h2 ⊢
  rw [rot_head h2 c1]
 have hall : rotM (cornF (sidesP p) (List.range p.length)) = p := by
  have := rotM_rot_eq hrot (m := m) (r := r) (by rw [hself, epr]) hmr
  rw [this, epr]
 obtain ⟨a1, a2, a3⟩ := ways_net N
 have way : ∀ w ∈ waysL (sidesP p), w ≠ [] → rotM (cornF (sidesP p) w) = p := fun w hw h0 => by
  have hc := a1 w hw
  cases w with
  | nil => exact absurd rfl h0
  | cons b w =>
   have hb : b < p.length := by rw [← sides_len p]; exact hc.lt b (List.mem_cons_self ..)
   have hr := cyc_same hc.path hpath hc.nd List.nodup_range (List.mem_cons_self ..) (List.mem_range.2 hb)
   rw [rotM_way N hc h0 hr, hall]
 intro q
 rw [loops_mem]
 constructor
 ·rintro ⟨hq, w, hw, e⟩
  rw [← e]
  exact way w hw fun h => by rw [h, cornF_nil] at e; exact hq e.symm
 ·rintro rfl
  obtain ⟨w, hw, h0⟩ := List.mem_flatten.1 (a3 0 (by rw [sides_len]; omega))
  exact ⟨by rw [epr]; simp, w, hw, way w hw (List.ne_nil_of_mem h0)⟩
end
end Go.Proofs.Ytadnganaeigchaa.Rg
