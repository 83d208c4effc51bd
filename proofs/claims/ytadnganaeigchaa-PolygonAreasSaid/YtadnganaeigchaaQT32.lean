/-
 Chapter 07: the statement on areas, walked. Conditions: none.
-/
import Derived.Test.YtadnganaeigchaaQT31
import Derived.Test.YtadnganaeigchaaQT29
import Derived.Test.YtadnganaeigchaaQT30
namespace Go.Proofs.Ytadnganaeigchaa.Rg
section
variable {p : List Pt} (hp : Least p)
include hp
theorem poly_apart : Apart (polyL p) := hp.poly.form.1.apart
theorem poly_cell (x y : Int) : cell (polyL p) x y = polyS p x y := hp.poly.form.2 x y
theorem qO_iff {x y : Int} {o f : Bool} : QOut (polyL p) x y o f ↔ qO p x y o f = true := by
 rw [qOut_iff, poly_cell hp, poly_cell hp, poly_cell hp, poly_cell hp]; rfl
theorem qI_iff {x y : Int} {o f : Bool} : QIn (polyL p) x y o f ↔ qI p x y o f = true := by
 rw [qIn_iff, poly_cell hp, poly_cell hp, poly_cell hp, poly_cell hp]; rfl
theorem xs_of {x y : Int} (h : polyS p (x - 1) y ≠ polyS p x y) : x ∈ xsB (polyL p) := by
 rw [← poly_cell hp, ← poly_cell hp] at h
 cases q : cell (polyL p) x y
 ·rw [q] at h
  have h1 : cell (polyL p) (x - 1) y = true := by cases r : cell (polyL p) (x - 1) y; · rw [r] at h; exact absurd rfl h
                                                  ·rfl
  obtain ⟨r, hr, r1, r2, r3, r4⟩ := cell_true.1 h1
  have : r.x1 = x := by
   by_cases e : r.x1 = x
   ·exact e
   ·have := cell_true.2 ⟨r, hr, show r.x0 ≤ x by omega, show x < r.x1 by omega, r3, r4⟩
    rw [q] at this; cases this
  rw [← this]; exact xs1 hr
 ·rw [q] at h
  have h1 : cell (polyL p) (x - 1) y = false := by cases r : cell (polyL p) (x - 1) y; · rfl
                                                   ·rw [r] at h; exact absurd rfl h
  obtain ⟨r, hr, r1, r2, r3, r4⟩ := cell_true.1 q
  have : r.x0 = x := by
   by_cases e : r.x0 = x
   ·exact e
   ·have := cell_true.2 ⟨r, hr, show r.x0 ≤ x - 1 by omega, show x - 1 < r.x1 by omega, r3, r4⟩
    rw [h1] at this; cases this
  rw [← this]; exact xs0 hr
theorem ys_of {x y : Int} (hx : x ∈ xsB (polyL p)) (h : (polyS p (x - 1) y != polyS p (x - 1) (y - 1)) = true ∨ (polyS p x y != polyS p x (y - 1)) = true) : y ∈ ysX (polyL p) x := by
 have ha := poly_apart hp
 rw [← poly_cell hp, ← poly_cell hp, ← poly_cell hp, ← poly_cell hp] at h
 rcases h with h | h
 ·cases q : cell (polyL p) (x - 1) y
  ·rw [q] at h
   obtain ⟨r, hr, e1, e2⟩ := (topE_at ha hx).2 ⟨by simpa using h, q⟩
   exact ysX_mem.2 ⟨r, hr, .inl e1, .inr e2.symm⟩
  ·rw [q] at h
   obtain ⟨r, hr, e1, e2⟩ := (botE_at ha hx).2 ⟨q, by simpa using h⟩
   exact ysX_mem.2 ⟨r, hr, .inl e1, .inl e2.symm⟩
 ·cases q : cell (polyL p) x y
  ·rw [q] at h
   obtain ⟨r, hr, e1, e2⟩ := (top_at ha hx).2 ⟨by simpa using h, q⟩
   exact ysX_mem.2 ⟨r, hr, .inr e1, .inr e2.symm⟩
  ·rw [q] at h
   obtain ⟨r, hr, e1, e2⟩ := (bot_at ha hx).2 ⟨q, by simpa using h⟩
   exact ysX_mem.2 ⟨r, hr, .inr e1, .inl e2.symm⟩
theorem cor_grid {i : Nat} (h : i < p.length) : (sI p i).2.1 ∈ xsB (polyL p) ∧ (sI p i).2.2 ∈ ysX (polyL p) (sI p i).2.1 := by
 have key : ∀ x y : Int, ((polyS p (x - 1) y != polyS p x y) = true ∨ (polyS p (x - 1) (y - 1) != polyS p x (y - 1)) = true) → ((polyS p (x - 1) y != polyS p (x - 1) (y - 1)) = true ∨ (polyS p x y != polyS p x (y - 1)) = true) → x ∈ xsB (polyL p) ∧ y ∈ ysX (polyL p) x := fun x y h1 h2 => by
  have hx : x ∈ xsB (polyL p) := by
   rcases h1 with h1 | h1
   ·exact xs_of hp (y := y) (by simpa using h1)
   ·exact xs_of hp (y := y - 1) (by simpa using h1)
  exact ⟨hx, ys_of hp hx h2⟩
 cases u : upS (sI p i)
 ·obtain ⟨c1, c2, c3, c4⟩ := cor_H hp.poly h u
  refine key _ _ ?_ ?_
  ·cases g : fwS (sI p (nI p i))
   ·rw [g] at c4; exact .inr c4
   ·rw [g] at c3; exact .inl c3
  ·cases f : fwS (sI p i)
   ·rw [f] at c2; exact .inr c2
   ·rw [f] at c1; exact .inl c1
 ·obtain ⟨c1, c2, c3, c4⟩ := cor_V hp.poly h u
  refine key _ _ ?_ ?_
  ·cases f : fwS (sI p i)
   ·rw [f] at c2; exact .inl c2
   ·rw [f] at c1; exact .inr c1
  ·cases g : fwS (sI p (nI p i))
   ·rw [g] at c4; exact .inl c4
   ·rw [g] at c3; exact .inr c3
omit hp in
theorem prev_ex {i : Nat} (h : i < p.length) : ∃ j, j < p.length ∧ nI p j = i := by
 by_cases q : i = 0
 ·refine ⟨p.length - 1, by omega, ?_⟩
  unfold nI
  rw [show p.length - 1 + 1 = p.length by omega, Nat.mod_self, q]
 ·refine ⟨i - 1, by omega, ?_⟩
  unfold nI
  rw [show i - 1 + 1 = i by omega]
  exact Nat.mod_eq_of_lt h
theorem start_at {i : Nat} (h : i < p.length) : (sI p i).1.1 ∈ xsB (polyL p) ∧ (sI p i).1.2 ∈ ysX (polyL p) (sI p i).1.1 ∧ qO p (sI p i).1.1 (sI p i).1.2 (upS (sI p i)) (fwS (sI p i)) = true := by
 obtain ⟨j, hj, e⟩ := prev_ex h
 have e1 : (sI p i).1 = (sI p j).2 := by rw [← e]; exact sI_next hj
 obtain ⟨g1, g2⟩ := cor_grid hp hj
 have hq := (cor_out hp.poly hj (ok_in hp.poly hj (all_ok hp j hj))).1
 rw [e] at hq
 rw [e1]
 exact ⟨g1, g2, hq⟩
theorem side_int {i : Nat} (h : i < p.length) {t n : Sd} (ht : t ∈ bdL (polyL p)) (hn : n ∈ bdL (polyL p)) (hi : insP (sI p i) t) (hne : t.2 ≠ (sI p i).2) (n1 : n.1 = t.2) :
  insP (sI p i) n ∧ turnI t n = 0 ∧ farP (sI p i) n < farP (sI p i) t := by
 have ha := poly_apart hp
 have hpo := hp.poly
 obtain ⟨i1, i2, i3, i4⟩ := hi
 have st := (bd_told ha ht).1
 have sn := (bd_told ha hn).1
 have qo := (bd_told ha hn).2.2
 rw [qO_iff hp] at qo
 have ok := all_ok hp i h
 have sx : n.1.1 = t.2.1 := by rw [n1]
 have sy : n.1.2 = t.2.2 := by rw [n1]
 cases u : upS (sI p i)
 ·obtain ⟨a1, a2, a3⟩ := side_ho hpo h u
  obtain ⟨j1, j2, j3⟩ := i4 u
  rw [u] at i1
  have kt : t.1.2 = t.2.2 ∧ t.1.1 ≠ t.2.1 ∧ (fwS t = true ↔ t.1.1 < t.2.1) := by
   unfold stS at st
   rw [i1, if_neg (by decide)] at st
   refine ⟨st, by unfold upS at i1; exact of_decide_eq_false i1, ?_⟩
   unfold fwS; rw [i1, if_neg (by decide), decide_eq_true_eq]
  obtain ⟨k1, k2, k3⟩ := kt
  have hx2 : t.2.1 ≠ (sI p i).2.1 := fun e => hne (Prod.ext e (by show t.2.2 = (sI p i).2.2; omega))
  have hdir : ((sI p i).1.1 < (sI p i).2.1 ↔ t.1.1 < t.2.1) := by rw [← a3, ← k3, i2]
  have b1 : min (sI p i).1.1 (sI p i).2.1 < t.2.1 ∧ t.2.1 < max (sI p i).1.1 (sI p i).2.1 := by omega
  obtain ⟨o1, o2⟩ := ok.1 u t.2.1 (by omega) b1.2
  obtain ⟨o3, o4⟩ := ok.1 u (t.2.1 - 1) (by omega) (by omega)
  have ey : n.1.2 = (sI p i).1.2 := by omega
  rw [sx, ey] at qo
  unfold qO at qo
  rw [o1, o2, o3, o4] at qo
  obtain ⟨d1, d2⟩ := q_lie _ _ _ qo
  have hh := bdy_ho ha (cuts_own (polyL p)) hn d1
  have kn : n.1.2 = n.2.2 ∧ n.1.1 ≠ n.2.1 ∧ (fwS n = true ↔ n.1.1 < n.2.1) := by
   unfold stS at sn
   rw [d1, if_neg (by decide)] at sn
   refine ⟨sn, by unfold upS at d1; exact of_decide_eq_false d1, ?_⟩
   unfold fwS; rw [d1, if_neg (by decide), decide_eq_true_eq]
  obtain ⟨m1, m2, m3⟩ := kn
  have hdn : ((sI p i).1.1 < (sI p i).2.1 ↔ n.1.1 < n.2.1) := by rw [← a3, ← m3, d2]
  have nox : ¬ (min n.1.1 n.2.1 < (sI p i).2.1 ∧ (sI p i).2.1 < max n.1.1 n.2.1) := by
   unfold bdH at hh
   obtain ⟨r, hr, q⟩ := List.mem_flatMap.1 hh
   have hpos := ha.pos r hr
   have := no_cross ha (cor_grid hp h).1 hr
   rcases List.mem_cons.1 q with e | e
   ·rw [e]; unfold botR; simp only; omega
   ·rw [List.mem_singleton.1 e]; unfold topR; simp only; omega
  refine ⟨⟨d1.trans u.symm, d2, (fun q => by rw [u] at q; cases q), fun _ => ⟨ey, ?_, ?_⟩⟩, turn_same st sn (by rw [i1, d1]), ?_⟩
  ·omega
  ·omega
  ·unfold farP
   rw [sx, sy]
   omega
 ·obtain ⟨a1, a2, a3⟩ := side_up hpo h u
  obtain ⟨j1, j2, j3⟩ := i3 u
  rw [u] at i1
  have kt : t.1.1 = t.2.1 ∧ t.1.2 ≠ t.2.2 ∧ (fwS t = true ↔ t.1.2 < t.2.2) := by
   unfold stS at st
   rw [i1, if_pos rfl] at st
   refine ⟨by unfold upS at i1; exact of_decide_eq_true i1, st, ?_⟩
   unfold fwS; rw [i1, if_pos rfl, decide_eq_true_eq]
  obtain ⟨k1, k2, k3⟩ := kt
  have hx2 : t.2.2 ≠ (sI p i).2.2 := fun e => hne (Prod.ext (by show t.2.1 = (sI p i).2.1; omega) e)
  have hdir : ((sI p i).1.2 < (sI p i).2.2 ↔ t.1.2 < t.2.2) := by rw [← a3, ← k3, i2]
  have b1 : min (sI p i).1.2 (sI p i).2.2 < t.2.2 ∧ t.2.2 < max (sI p i).1.2 (sI p i).2.2 := by omega
  obtain ⟨o1, o2⟩ := ok.2 u t.2.2 (by omega) b1.2
  obtain ⟨o3, o4⟩ := ok.2 u (t.2.2 - 1) (by omega) (by omega)
  have ex : n.1.1 = (sI p i).1.1 := by omega
  rw [sy, ex] at qo
  unfold qO at qo
  rw [o1, o2, o3, o4] at qo
  obtain ⟨d1, d2⟩ := q_int _ _ _ qo
  obtain ⟨x, v0, v1, A, hx, had, fa, _, _, en⟩ := bdy_up ha (cuts_own (polyL p)) hn d1
  have hlt := adj_lt (ysX_asc _ x) had
  have kn : n.1.1 = n.2.1 ∧ n.1.2 ≠ n.2.2 ∧ (fwS n = true ↔ n.1.2 < n.2.2) := by
   unfold stS at sn
   rw [d1, if_pos rfl] at sn
   refine ⟨by unfold upS at d1; exact of_decide_eq_true d1, sn, ?_⟩
   unfold fwS; rw [d1, if_pos rfl, decide_eq_true_eq]
  obtain ⟨m1, m2, m3⟩ := kn
  have hdn : ((sI p i).1.2 < (sI p i).2.2 ↔ n.1.2 < n.2.2) := by rw [← a3, ← m3, d2]
  have nox : ¬ (min n.1.2 n.2.2 < (sI p i).2.2 ∧ (sI p i).2.2 < max n.1.2 n.2.2) := by
   have hg := (cor_grid hp h).2
   have ex2 : x = (sI p i).2.1 := by
    have : n.1.1 = x := by rw [en]; cases A <;> rfl
    omega
   rw [← ex2] at hg
   have := adj_btw (ysX_asc _ x) had hg
   rw [en]
   cases A
   ·simp only [Bool.false_eq_true, if_false]; omega
   ·simp only [if_true]; omega
  refine ⟨⟨d1.trans u.symm, d2, fun _ => ⟨ex, ?_, ?_⟩, (fun q => by rw [u] at q; cases q)⟩, turn_same st sn (by rw [i1, d1]), ?_⟩
  ·omega
  ·omega
  ·unfold farP
   rw [sx, sy]
   omega
end
end Go.Proofs.Ytadnganaeigchaa.Rg
namespace Go.Proofs.Ytadnganaeigchaa.Rg
section
variable {p : List Pt} (hp : Least p)
include hp
theorem ins_on {i : Nat} (h : i < p.length) {t : Sd} (hi : insP (sI p i) t) : upS t = upS (sI p i) ∧ onS (sI p i) t.1.1 t.1.2 := by
 obtain ⟨i1, i2, i3, i4⟩ := hi
 refine ⟨i1, ?_⟩
 cases u : upS (sI p i)
 ·obtain ⟨a1, a2, a3⟩ := side_ho hp.poly h u
  have := i4 u
  unfold onS; omega
 ·obtain ⟨a1, a2, a3⟩ := side_up hp.poly h u
  have := i3 u
  unfold onS; omega
theorem poly_loops : ∀ q, q ∈ loopsL (sidesP p) ↔ q ∈ loopsL (bdL (polyL p)) := by
 have hpo := hp.poly
 have ha := poly_apart hp
 have N1 := sides_net hp
 have N2 := bd_net ha
 have hlen := sides_len p
 generalize hl' : bdL (polyL p) = l'
 rw [hl'] at N2
 have mem2 : ∀ {s}, s ∈ l' → s ∈ bdL (polyL p) := fun h => by rw [hl']; exact h
 have hd : ∀ i, i < p.length → ∃ k, k < l'.length ∧ (gtS l' k).1 = (sI p i).1 ∧ upS (gtS l' k) = upS (sI p i) ∧ fwS (gtS l' k) = fwS (sI p i) := fun i hi => by
  obtain ⟨h1, h2, h3⟩ := start_at hp hi
  obtain ⟨t, t1, t2, t3, t4⟩ := out_ex ha h1 h2 ((qO_iff hp).2 h3)
  rw [hl'] at t1
  obtain ⟨k, hk, e⟩ := mem_gt t1
  exact ⟨k, hk, by rw [e]; exact t2, by rw [e]; exact t3, by rw [e]; exact t4⟩
 obtain ⟨h, hh⟩ : ∃ h : Nat → Nat, ∀ i, i < p.length → h i < l'.length ∧ (gtS l' (h i)).1 = (sI p i).1 ∧ upS (gtS l' (h i)) = upS (sI p i) ∧ fwS (gtS l' (h i)) = fwS (sI p i) := by
  refine ⟨fun i => if q : i < p.length then Classical.choose (hd i q) else 0, fun i hi => ?_⟩
  simp only [dif_pos hi]
  exact Classical.choose_spec (hd i hi)
 have one : ∀ {i k}, i < p.length → k < l'.length → (gtS l' k).1 = (sI p i).1 → upS (gtS l' k) = upS (sI p i) → fwS (gtS l' k) = fwS (sI p i) → k = h i := fun {i k} hi hk e1 e2 e3 => by
  obtain ⟨a1, a2, a3, a4⟩ := hh i hi
  exact gt_inj N2 hk a1 (N2.out1 _ (gt_mem hk) _ (gt_mem a1) (e1.trans a2.symm) (e2.trans a3.symm) (e3.trans a4.symm))
 -- what leads on from a corner
 have lead : ∀ i k, i < p.length → k < l'.length → (gtS l' k).2 = (sI p i).2 → nxI l' k = h (nI p i) := fun i k hi hk e1 => by
  obtain ⟨m1, m2, _⟩ := N2.next hk
  have qo := (bd_told ha (mem2 (gt_mem m1))).2.2
  rw [qO_iff hp, m2, e1] at qo
  obtain ⟨d1, d2⟩ := (cor_out hpo hi (ok_in hpo hi (all_ok hp i hi))).2 _ _ qo
  exact one (nI_lt hi) m1 (by rw [m2, e1, sI_next hi]) d1 d2
 have fin : ∀ i k, i < p.length → k < l'.length → (gtS l' k).2 = (sI p i).2 → upS (gtS l' k) = upS (sI p i) → fwS (gtS l' k) = fwS (sI p i) → nxI l' k = h (nxI (sidesP p) i) ∧ cornF l' [k] = cornF (sidesP p) [i] := fun i k hi hk e1 e2 e3 => by
  have el := lead i k hi hk e1
  rw [sides_nx hp hi]
  refine ⟨el, ?_⟩
  obtain ⟨a1, a2, a3, a4⟩ := hh (nI p i) (nI_lt hi)
  have et : turnI (gtS l' k) (gtS l' (h (nI p i))) = turnI (sI p i) (sI p (nI p i)) := turn_dir (bd_told ha (mem2 (gt_mem hk))).1 (bd_told ha (mem2 (gt_mem a1))).1 (sI_kind hpo hi) (sI_kind hpo (nI_lt hi)) e2 e3 a3 a4
  show (if turnI (gtS l' k) (gtS l' (nxI l' k)) = 0 then [] else [(gtS l' k).2]) ++ [] = (if turnI (gtS (sidesP p) i) (gtS (sidesP p) (nxI (sidesP p) i)) = 0 then [] else [(gtS (sidesP p) i).2]) ++ []
  rw [sides_nx hp hi, el, et, e1]; rfl
 refine loops_ref N1 N2 h (fun i k => insP (sI p i) (gtS l' k)) (fun i hi => ?_) (fun i j k hi hj q1 q2 => ?_) fun v hv hc => ?_
 ·rw [hlen] at hi
  obtain ⟨a1, a2, a3, a4⟩ := hh i hi
  have ht := mem2 (gt_mem a1)
  have run : ∀ (m k : Nat), k < l'.length → insP (sI p i) (gtS l' k) → farP (sI p i) (gtS l' k) ≤ m →
    ∃ r, pth (nxI l') k r (h (nxI (sidesP p) i)) ∧ r ≠ [] ∧ r.Nodup ∧ (∀ j ∈ r, (j < l'.length ∧ insP (sI p i) (gtS l' j)) ∧ farP (sI p i) (gtS l' j) ≤ farP (sI p i) (gtS l' k)) ∧ cornF l' r = cornF (sidesP p) [i] := by
   intro m
   induction m with
   | zero =>
    intro k hk hin hm
    by_cases q : (gtS l' k).2 = (sI p i).2
    ·obtain ⟨f1, f2⟩ := fin i k hi hk q hin.1 hin.2.1
     exact ⟨[k], ⟨rfl, f1⟩, by simp, by simp, fun j hj => by rw [List.mem_singleton.1 hj]; exact ⟨⟨hk, hin⟩, Nat.le_refl _⟩, f2⟩
    ·obtain ⟨m1, m2, _⟩ := N2.next hk
     obtain ⟨_, _, g3⟩ := side_int hp hi (mem2 (gt_mem hk)) (mem2 (gt_mem m1)) hin q m2
     omega
   | succ m ih =>
    intro k hk hin hm
    by_cases q : (gtS l' k).2 = (sI p i).2
    ·obtain ⟨f1, f2⟩ := fin i k hi hk q hin.1 hin.2.1
     exact ⟨[k], ⟨rfl, f1⟩, by simp, by simp, fun j hj => by rw [List.mem_singleton.1 hj]; exact ⟨⟨hk, hin⟩, Nat.le_refl _⟩, f2⟩
    ·obtain ⟨m1, m2, _⟩ := N2.next hk
     obtain ⟨g1, g2, g3⟩ := side_int hp hi (mem2 (gt_mem hk)) (mem2 (gt_mem m1)) hin q m2
     obtain ⟨r, r1, r2, r3, r4, r5⟩ := ih (nxI l' k) m1 g1 (by omega)
     refine ⟨k :: r, ⟨rfl, r1⟩, by simp, List.nodup_cons.2 ⟨fun hkr => ?_, r3⟩, fun j hj => ?_, ?_⟩
     ·have := (r4 k hkr).2
      omega
     ·rcases List.mem_cons.1 hj with e | e
      ·rw [e]; exact ⟨⟨hk, hin⟩, Nat.le_refl _⟩
      ·have := r4 j e
       exact ⟨this.1, by omega⟩
     ·have e : cornF l' (k :: r) = (if turnI (gtS l' k) (gtS l' (nxI l' k)) = 0 then [] else [(gtS l' k).2]) ++ cornF l' r := rfl
      rw [e, if_pos g2, r5]; rfl
  have hin : insP (sI p i) (gtS l' (h i)) := by
   have e1 : (gtS l' (h i)).1.1 = (sI p i).1.1 := by rw [a2]
   have e2 : (gtS l' (h i)).1.2 = (sI p i).1.2 := by rw [a2]
   have st := (bd_told ha ht).1
   refine ⟨a3, a4, fun u => ⟨e1, ?_⟩, fun u => ⟨e2, ?_⟩⟩
   ·obtain ⟨b1, b2, b3⟩ := side_up hpo hi u
    obtain ⟨x, v0, v1, A, hx, had, fa, _, _, en⟩ := bdy_up ha (cuts_own (polyL p)) ht (a3.trans u)
    have hlt := adj_lt (ysX_asc _ x) had
    have hg := (cor_grid hp hi).2
    have ex : x = (sI p i).2.1 := by
     have : (gtS l' (h i)).1.1 = x := by rw [en]; cases A <;> rfl
     omega
    rw [← ex] at hg
    have hb := adj_btw (ysX_asc _ x) had hg
    rw [← a4, fa] at b3
    rw [en] at e2 ⊢
    cases A
    ·have : ¬ (sI p i).1.2 < (sI p i).2.2 := fun q => by rw [← b3] at q; cases q
     simp only [Bool.false_eq_true, if_false] at e2 ⊢
     omega
    ·have := b3.1 rfl
     simp only [if_true] at e2 ⊢
     omega
   ·obtain ⟨b1, b2, b3⟩ := side_ho hpo hi u
    have hh' := bdy_ho ha (cuts_own (polyL p)) ht (a3.trans u)
    have hfd : fwS (gtS l' (h i)) = true ↔ (gtS l' (h i)).1.1 < (gtS l' (h i)).2.1 := by
     unfold fwS; rw [a3, u, if_neg (by decide), decide_eq_true_eq]
    rw [← a4] at b3
    have hb : (sI p i).1.1 < (sI p i).2.1 ↔ (gtS l' (h i)).1.1 < (gtS l' (h i)).2.1 := by rw [← b3, hfd]
    clear hfd b3
    unfold bdH at hh'
    obtain ⟨r, hr, q⟩ := List.mem_flatMap.1 hh'
    have hpos := ha.pos r hr
    have hno := no_cross ha (cor_grid hp hi).1 hr
    rcases List.mem_cons.1 q with e | e
    ·rw [e] at e1 hb ⊢
     unfold botR at e1 hb ⊢
     simp only at e1 hb ⊢
     omega
    ·rw [List.mem_singleton.1 e] at e1 hb ⊢
     unfold topR at e1 hb ⊢
     simp only at e1 hb ⊢
     omega
  obtain ⟨r, r1, r2, r3, r4, r5⟩ := run _ (h i) a1 hin (Nat.le_refl _)
  exact ⟨r, r1, r2, r3, fun k hk => (r4 k hk).1, r5⟩
 ·rw [hlen] at hi hj
  obtain ⟨u1, o1⟩ := ins_on hp hi q1
  obtain ⟨u2, o2⟩ := ins_on hp hj q2
  exact kin_one hpo hi hj (u1.symm.trans u2) o1 o2
 ·have hcy := (ways_net N2).1 v hv
  obtain ⟨x, hx⟩ := List.exists_mem_of_ne_nil _ hc
  obtain ⟨k, hk, ht, _⟩ := cornF_mem.1 hx
  have hkl := hcy.lt k hk
  obtain ⟨m1, m2, _⟩ := N2.next hkl
  have hnv : nxI l' k ∈ v := (hcy.clo N2.inj k hkl).1 hk
  have tt := bd_told ha (mem2 (gt_mem hkl))
  have tn := bd_told ha (mem2 (gt_mem m1))
  have hne : upS (gtS l' k) ≠ upS (gtS l' (nxI l' k)) := fun e => ht (turn_same tt.1 tn.1 e)
  have qi := (qI_iff hp).1 tt.2.1.1
  have qo := (qO_iff hp).1 tn.2.2
  rw [m2] at qo
  -- a side lies and one stands at that point
  have hH : (polyS p ((gtS l' k).2.1 - 1) (gtS l' k).2.2 != polyS p ((gtS l' k).2.1 - 1) ((gtS l' k).2.2 - 1)) = true ∨ (polyS p (gtS l' k).2.1 (gtS l' k).2.2 != polyS p (gtS l' k).2.1 ((gtS l' k).2.2 - 1)) = true := by
   cases u : upS (gtS l' k)
   ·rw [u] at qi; exact q_inH _ _ _ _ _ qi
   ·rw [u] at hne
    have un : upS (gtS l' (nxI l' k)) = false := by cases q : upS (gtS l' (nxI l' k)); · rfl
                                                    ·rw [q] at hne; exact absurd rfl hne
    rw [un] at qo; exact q_outH _ _ _ _ _ qo
  have hV : (polyS p ((gtS l' k).2.1 - 1) (gtS l' k).2.2 != polyS p (gtS l' k).2.1 (gtS l' k).2.2) = true ∨ (polyS p ((gtS l' k).2.1 - 1) ((gtS l' k).2.2 - 1) != polyS p (gtS l' k).2.1 ((gtS l' k).2.2 - 1)) = true := by
   cases u : upS (gtS l' k)
   ·rw [u] at hne
    have un : upS (gtS l' (nxI l' k)) = true := by cases q : upS (gtS l' (nxI l' k)); · rw [q] at hne; exact absurd rfl hne
                                                   ·rfl
    rw [un] at qo; exact q_outV _ _ _ _ _ qo
   ·rw [u] at qi; exact q_inV _ _ _ _ _ qi
  obtain ⟨j, hj, ju, jo⟩ : ∃ j, j < p.length ∧ upS (sI p j) = false ∧ onS (sI p j) (gtS l' k).2.1 (gtS l' k).2.2 := by
   rcases hH with q | q
   ·obtain ⟨j, hj, k1, k2, k3, k4⟩ := (xor_of (cell_H hpo ((gtS l' k).2.1 - 1) (gtS l' k).2.2)).1 q
    have := side_ho hpo hj k1
    exact ⟨j, hj, k1, by unfold onS; omega⟩
   ·obtain ⟨j, hj, k1, k2, k3, k4⟩ := (xor_of (cell_H hpo (gtS l' k).2.1 (gtS l' k).2.2)).1 q
    have := side_ho hpo hj k1
    exact ⟨j, hj, k1, by unfold onS; omega⟩
  obtain ⟨j', hj', ju', jo'⟩ : ∃ j, j < p.length ∧ upS (sI p j) = true ∧ onS (sI p j) (gtS l' k).2.1 (gtS l' k).2.2 := by
   rcases hV with q | q
   ·obtain ⟨j, hj, k1, k2, k3, k4⟩ := (xor_of' (cell_V hpo (gtS l' k).2.1 (gtS l' k).2.2)).1 q
    have := side_up hpo hj k1
    exact ⟨j, hj, k1, by unfold onS; omega⟩
   ·obtain ⟨j, hj, k1, k2, k3, k4⟩ := (xor_of' (cell_V hpo (gtS l' k).2.1 ((gtS l' k).2.2 - 1))).1 q
    have := side_up hpo hj k1
    exact ⟨j, hj, k1, by unfold onS; omega⟩
  have hjj : j ≠ j' := fun e => by rw [e, ju'] at ju; cases ju
  obtain ⟨i, hi, ei⟩ : ∃ i, i < p.length ∧ (sI p i).2 = (gtS l' k).2 := by
   rcases touch hpo hj hj' hjj jo jo' with ⟨_, e⟩ | ⟨_, e⟩
   ·exact ⟨j, hj, e⟩
   ·exact ⟨j', hj', e⟩
  refine ⟨nI p i, by rw [hlen]; exact nI_lt hi, ?_⟩
  rw [← lead i k hi hkl ei.symm]
  exact hnv
theorem poly_only : loopsL (bdL (polyL p)) = [p] := by
 have hn : (loopsL (bdL (polyL p))).Nodup := by
  have := loops_heads (bd_net (poly_apart hp))
  exact List.Pairwise.imp (fun h e => h (by rw [e])) (List.pairwise_map.1 this)
 exact only_one hn fun q => (poly_loops hp q).symm.trans (sides_loops hp q)
theorem poly_shoe : csum shoeS p = 2 * areaL (polyL p) := by
 have h1 := loops_sum (bd_net (poly_apart hp)) shoe_add
 rw [poly_only hp, bd_shoe (poly_apart hp)] at h1
 simpa using h1
theorem poly_some : polyL p ≠ [] := fun e => by
 have := poly_only hp
 rw [e] at this
 have h2 : loopsL (bdL []) = [] := rfl
 rw [h2] at this
 cases this
end
end Go.Proofs.Ytadnganaeigchaa.Rg
namespace Go.Proofs.Ytadnganaeigchaa.Rg
theorem filter_perm {α : Type} (p : α → Bool) : ∀ l : List α, (l.filter p ++ l.filter (fun a => !p a)).Perm l
 | [] => .refl _
 | a :: l => by
  have ih := filter_perm p l
  cases h : p a
  ·rw [List.filter_cons_of_neg (by simp [h]), List.filter_cons_of_pos (by simp [h])]
   exact List.perm_middle.trans (ih.cons a)
  ·rw [List.filter_cons_of_pos h, List.filter_cons_of_neg (by simp [h])]
   exact ih.cons a
theorem absorb_perm : ∀ (n i : Nat) (part left : List Rect), ((absorb n i part left).1 ++ (absorb n i part left).2).Perm (part ++ left)
 | 0, _, _, _ => .refl _
 | n + 1, i, part, left => by
  unfold absorb
  cases h : part[i]? with
  | none => exact .refl _
  | some r =>
   refine (absorb_perm n (i + 1) _ _).trans ?_
   rw [List.append_assoc]
   exact (filter_perm (touchB r) left).append_left part
theorem absorb_sub : ∀ (n i : Nat) (part left : List Rect), (absorb n i part left).2.Sublist left
 | 0, _, _, _ => .refl _
 | n + 1, i, part, left => by
  unfold absorb
  cases h : part[i]? with
  | none => exact .refl _
  | some r => exact (absorb_sub n (i + 1) _ _).trans List.filter_sublist
theorem absorb_conn {C : Rect → Prop} : ∀ (n i : Nat) (part left : List Rect), (∀ r ∈ part, C r) → (∀ r s, r ∈ (absorb n i part left).1 → s ∈ (absorb n i part left).1 → C r → touchB r s = true → C s) → ∀ r ∈ (absorb n i part left).1, C r
 | 0, _, _, _, h, _ => h
 | n + 1, i, part, left, h, k => by
  unfold absorb at k ⊢
  cases hi : part[i]? with
  | none => exact h
  | some q =>
   rw [hi] at k
   simp only at k ⊢
   obtain ⟨t, e⟩ := absorb_part n (i + 1) (part ++ left.filter (touchB q)) (left.filter fun s => !touchB q s)
   have hq := List.mem_of_getElem? hi
   refine absorb_conn n (i + 1) _ _ (fun r hr => ?_) k
   rcases List.mem_append.1 hr with hr | hr
   ·exact h r hr
   ·exact k q r (by rw [e]; simp [hq]) (by rw [e]; exact List.mem_append_left _ (List.mem_append_right _ hr)) (h q hq) (List.mem_filter.1 hr).2
theorem absorb_shut : ∀ (n i : Nat) (part left : List Rect), part.length + left.length ≤ i + n → (∀ (j : Nat) (hj : j < part.length), j < i → ∀ s ∈ left, touchB part[j] s = false) → ∀ r ∈ (absorb n i part left).1, ∀ s ∈ (absorb n i part left).2, touchB r s = false
 | 0, i, part, left, hl, h => fun r hr s hs => by
  obtain ⟨j, hj, rfl⟩ := List.mem_iff_getElem.1 hr
  have hj : j < part.length := hj
  exact h j hj (by omega) s hs
 | n + 1, i, part, left, hl, h => by
  unfold absorb
  cases hi : part[i]? with
  | none =>
   have hi := List.getElem?_eq_none_iff.1 hi
   intro r hr s hs
   obtain ⟨j, hj, rfl⟩ := List.mem_iff_getElem.1 hr
   exact h j hj (Nat.lt_of_lt_of_le hj hi) s hs
  | some q =>
   obtain ⟨hlt, rfl⟩ := List.getElem?_eq_some_iff.1 hi
   have hf := filter_both (touchB part[i]) left
   refine absorb_shut n (i + 1) _ _ (by rw [List.length_append]; omega) fun j hj hji s hs => ?_
   rw [List.getElem_append_left (by omega)]
   have hs' := List.mem_filter.1 hs
   by_cases e : j = i
   ·subst e
    simpa using hs'.2
   ·exact h j (by omega) (by omega) s hs'.1
structure PF (a : List Rect) (P : List (List Rect)) : Prop where
 perm : P.flatten.Perm a
 sep : P.Pairwise fun p q => ∀ r ∈ p, ∀ s ∈ q, touchB r s = false
 conn : ∀ p ∈ P, ∃ h t, p = h :: t ∧ ∀ C : Rect → Prop, C h → (∀ r s, r ∈ p → s ∈ p → C r → touchB r s = true → C s) → ∀ r ∈ p, C r
 least : ∀ R : Rect → Rect → Prop, a.Pairwise R → (∀ p ∈ P, ∀ h t, p = h :: t → ∀ s ∈ t, R h s) ∧ P.Pairwise fun p q => ∀ h t, p = h :: t → ∀ s ∈ q, R h s
theorem partsF_pf : ∀ (n : Nat) (a : List Rect), a.length ≤ n → PF a (partsF n a)
 | 0, a, h => by
  have : a = [] := List.eq_nil_of_length_eq_zero (by omega)
  subst this
  exact ⟨.refl _, .nil, fun p hp => absurd hp List.not_mem_nil, fun R _ => ⟨fun p hp => absurd hp List.not_mem_nil, .nil⟩⟩
 | n + 1, [], _ => ⟨.refl _, .nil, fun p hp => absurd hp List.not_mem_nil, fun R _ => ⟨fun p hp => absurd hp List.not_mem_nil, .nil⟩⟩
 | n + 1, r :: l, h => by
  have hperm := absorb_perm (l.length + 2) 0 [r] l
  have hsub := absorb_sub (l.length + 2) 0 [r] l
  have hshut := absorb_shut (l.length + 2) 0 [r] l (by rw [List.length_singleton]; omega) fun j _ hj => absurd hj (Nat.not_lt_zero j)
  have hconn := fun C => absorb_conn (C := C) (l.length + 2) 0 [r] l
  obtain ⟨t, ht⟩ := absorb_part (l.length + 2) 0 [r] l
  have hlen := absorb_len (l.length + 2) 0 [r] l
  unfold partsF
  generalize hX : absorb (l.length + 2) 0 [r] l = X at *
  obtain ⟨p, q⟩ := X
  simp only at *
  have ht : p = r :: t := ht
  subst ht
  rw [List.length_cons] at h hlen
  have ih := partsF_pf n q (by simp only [List.length_singleton] at hlen; omega)
  have hqP : ∀ u ∈ partsF n q, ∀ s ∈ u, s ∈ q := fun u hu s hs => ih.perm.mem_iff.1 (List.mem_flatten.2 ⟨u, hu, hs⟩)
  have hp' : (t ++ q).Perm l := (List.perm_cons r).1 hperm
  refine ⟨?_, List.pairwise_cons.2 ⟨fun u hu x hx s hs => hshut x hx s (hqP u hu s hs), ih.sep⟩, fun u hu => ?_, fun R hR => ?_⟩
  ·exact (List.Perm.append_left _ ih.perm).trans hperm
  ·rcases List.mem_cons.1 hu with rfl | hu
   ·refine ⟨r, t, rfl, fun C hC hcl => hconn C (fun s hs => by rw [List.mem_singleton.1 hs]; exact hC) hcl⟩
   ·exact ih.conn u hu
  ·obtain ⟨k1, k2⟩ := List.pairwise_cons.1 hR
   obtain ⟨i1, i2⟩ := ih.least R (k2.sublist hsub)
   refine ⟨fun u hu g w e s hs => ?_, List.pairwise_cons.2 ⟨fun u hu g w e s hs => ?_, i2⟩⟩
   ·rcases List.mem_cons.1 hu with rfl | hu
    ·injection e with e1 e2
     subst e1; subst e2
     exact k1 s (hp'.mem_iff.1 (List.mem_append_left _ hs))
    ·exact i1 u hu g w e s hs
   ·injection e with e1 e2
    subst e1
    exact k1 s (hp'.mem_iff.1 (List.mem_append_right _ (hqP u hu s hs)))
theorem parts_pf (a : List Rect) : PF a (partsL a) := partsF_pf _ a (Nat.le_refl _)
end Go.Proofs.Ytadnganaeigchaa.Rg
namespace Go.Proofs.Ytadnganaeigchaa.Rg
def ordR (r s : Rect) : Prop := r.x1 ≤ s.x0 ∨ (r.x0 = s.x0 ∧ r.x1 = s.x1 ∧ r.y1 < s.y0)
theorem canS_pair : ∀ {c : List (Int × Int)} {b : Int}, canS b c → c.Pairwise (fun u v => u.2 < v.1) ∧ ∀ u ∈ c, b < u.1
 | [], _, _ => ⟨.nil, fun u hu => absurd hu List.not_mem_nil⟩
 | (f, t) :: c, b, h => by
  obtain ⟨h1, h2, h3⟩ := h
  obtain ⟨k1, k2⟩ := canS_pair h3
  refine ⟨List.pairwise_cons.2 ⟨fun u hu => k2 u hu, k1⟩, fun u hu => ?_⟩
  rcases List.mem_cons.1 hu with rfl | hu
  ·exact h1
  ·have := k2 u hu; omega
theorem Can.pair : ∀ {c : List (Int × Int)}, Can c → c.Pairwise (fun u v => u.2 < v.1)
 | [], _ => .nil
 | (f, t) :: c, h => by
  obtain ⟨k1, k2⟩ := canS_pair h.2
  exact List.pairwise_cons.2 ⟨fun u hu => k2 u hu, k1⟩
theorem emit_mem {s : Slab} {r : Rect} (h : r ∈ emit s) : ∃ u ∈ s.col, r = ⟨s.x0, u.1, s.x1, u.2⟩ := by
 obtain ⟨u, hu, rfl⟩ := List.mem_map.1 h
 exact ⟨u, hu, rfl⟩
theorem canT_ord : ∀ {T : List Slab} {b : Int} {c : List (Int × Int)}, canT b c T → (outT T).Pairwise ordR ∧ ∀ r ∈ outT T, b ≤ r.x0
 | [], _, _, _ => ⟨.nil, fun r hr => absurd hr List.not_mem_nil⟩
 | s :: T, b, c, h => by
  obtain ⟨h1, h2, h3, h4, h5, h6⟩ := h
  obtain ⟨k1, k2⟩ := canT_ord h6
  have e : outT (s :: T) = emit s ++ outT T := rfl
  rw [e]
  refine ⟨List.pairwise_append.2 ⟨?_, k1, fun r hr q hq => ?_⟩, fun r hr => ?_⟩
  ·unfold emit
   rw [List.pairwise_map]
   exact h4.pair.imp fun huv => .inr ⟨rfl, rfl, huv⟩
  ·obtain ⟨u, _, rfl⟩ := emit_mem hr
   exact .inl (k2 q hq)
  ·rcases List.mem_append.1 hr with hr | hr
   ·obtain ⟨u, _, rfl⟩ := emit_mem hr
    exact h1
   ·have := k2 r hr; omega
theorem Form.ord {l : List Rect} (h : Form l) : l.Pairwise ordR := by
 obtain ⟨b, T, h1, rfl⟩ := h
 exact (canT_ord h1).1
theorem has_iff {r : Rect} {x y : Int} : r.has x y = true ↔ r.x0 ≤ x ∧ x < r.x1 ∧ r.y0 ≤ y ∧ y < r.y1 := by
 unfold Rect.has
 simp only [Bool.and_eq_true, decide_eq_true_eq]
 exact ⟨fun h => ⟨h.1.1, h.1.2, h.2.1, h.2.2⟩, fun h => ⟨⟨h.1, h.2.1⟩, h.2.2.1, h.2.2.2⟩⟩
theorem cell_iff {l : List Rect} {x y : Int} : cell l x y = true ↔ ∃ r ∈ l, r.has x y = true := List.any_eq_true
theorem corner_has {r : Rect} (h : r.x0 < r.x1 ∧ r.y0 < r.y1) : r.has r.x0 r.y0 = true := has_iff.2 ⟨Int.le_refl _, h.1, Int.le_refl _, h.2⟩
end Go.Proofs.Ytadnganaeigchaa.Rg
namespace Go.Proofs.Ytadnganaeigchaa.Rg
def nearC (x y u v : Int) : Prop := (x = u ∧ -1 ≤ y - v ∧ y - v ≤ 1) ∨ (y = v ∧ -1 ≤ x - u ∧ x - u ≤ 1)
def nearR (r s : Rect) : Prop := (gapX r s < 0 ∧ gapY r s ≤ 0) ∨ (gapX r s ≤ 0 ∧ gapY r s < 0)
def pos (r : Rect) : Prop := r.x0 < r.x1 ∧ r.y0 < r.y1
theorem nearC_symm {x y u v : Int} (h : nearC x y u v) : nearC u v x y := by unfold nearC at *; omega
theorem near_of_cells {r s : Rect} {x y u v : Int} (h1 : r.has x y = true) (h2 : s.has u v = true) (h : nearC x y u v) : nearR r s := by
 have h1 := has_iff.1 h1
 have h2 := has_iff.1 h2
 unfold nearR gapX gapY
 unfold nearC at h
 omega
def sym (r s : Rect) : Prop := ordR r s ∨ ordR s r
theorem not_near {r s : Rect} (h : touchB r s = false) (ho : sym r s) : ¬ nearR r s := fun hn => by
 have h : ¬ (touchB r s = true) := by rw [h]; exact Bool.false_ne_true
 unfold touchB at h
 simp only [Bool.or_eq_true, Bool.and_eq_true, decide_eq_true_eq] at h
 unfold nearR at hn
 unfold sym ordR at ho
 unfold gapX gapY at *
 omega
variable {x : List Rect}
theorem parts_sym (hf : Form x) : (partsL x).flatten.Pairwise sym :=
 ((parts_pf x).perm.pairwise_iff (R := sym) fun h => h.elim .inr .inl).2 (hf.ord.imp .inl)
theorem parts_mem {p : List Rect} (hp : p ∈ partsL x) {r : Rect} (hr : r ∈ p) : r ∈ x := (parts_pf x).perm.mem_iff.1 (List.mem_flatten.2 ⟨p, hp, hr⟩)
theorem parts_pos (hf : Form x) {p : List Rect} (hp : p ∈ partsL x) : ∀ r ∈ p, pos r := fun _ hr => hf.pos _ (parts_mem hp hr)
theorem pw_and {α : Type} {R S : α → α → Prop} : ∀ {l : List α}, l.Pairwise R → l.Pairwise S → l.Pairwise fun a b => R a b ∧ S a b
 | [], _, _ => .nil
 | _ :: _, h, k => by
  obtain ⟨h1, h2⟩ := List.pairwise_cons.1 h
  obtain ⟨k1, k2⟩ := List.pairwise_cons.1 k
  exact List.pairwise_cons.2 ⟨fun b hb => ⟨h1 b hb, k1 b hb⟩, pw_and h2 k2⟩
theorem parts_far (hf : Form x) : (partsL x).Pairwise fun p q => ∀ r ∈ p, ∀ s ∈ q, ¬ nearR r s := by
 have h1 := (List.pairwise_flatten.1 (parts_sym hf)).2
 have h2 := (parts_pf x).sep
 exact (pw_and h1 h2).imp fun h r hr s hs => not_near (h.2 r hr s hs) (h.1 r hr s hs)
def apartC (S T : Int → Int → Bool) : Prop := ∀ a b c d, S a b = true → T c d = true → ¬ nearC a b c d
theorem parts_apart (hf : Form x) : (partsL x).Pairwise fun p q => apartC (cell p) (cell q) :=
 (parts_far hf).imp fun h a b c d h1 h2 hn => by
  obtain ⟨r, hr, k1⟩ := cell_iff.1 h1
  obtain ⟨s, hs, k2⟩ := cell_iff.1 h2
  exact h r hr s hs (near_of_cells k1 k2 hn)
theorem rect_conn {D : Int → Int → Prop} {r : Rect} (hD : ∀ a b c d, r.has a b = true → r.has c d = true → nearC a b c d → D a b → D c d) : ∀ (n : Nat) (a b : Int), (a - r.x0 + (b - r.y0)).toNat = n → r.has a b = true → (D a b ↔ D r.x0 r.y0)
 | 0, a, b, hn, h => by
  have h1 := has_iff.1 h
  rw [show a = r.x0 by omega, show b = r.y0 by omega]
 | n + 1, a, b, hn, h => by
  have h1 := has_iff.1 h
  by_cases ha : r.x0 < a
  ·have h2 : r.has (a - 1) b = true := has_iff.2 (by omega)
   have k1 : nearC a b (a - 1) b := by unfold nearC; omega
   rw [← rect_conn hD n (a - 1) b (by omega) h2]
   exact ⟨hD _ _ _ _ h h2 k1, hD _ _ _ _ h2 h (nearC_symm k1)⟩
  ·have h2 : r.has a (b - 1) = true := has_iff.2 (by omega)
   have k1 : nearC a b a (b - 1) := by unfold nearC; omega
   rw [← rect_conn hD n a (b - 1) (by omega) h2]
   exact ⟨hD _ _ _ _ h h2 k1, hD _ _ _ _ h2 h (nearC_symm k1)⟩
theorem part_cell (hf : Form x) {p : List Rect} (hp : p ∈ partsL x) : ∃ h t, p = h :: t ∧ cell p h.x0 h.y0 = true := by
 obtain ⟨h, t, e, _⟩ := (parts_pf x).conn p hp
 refine ⟨h, t, e, cell_iff.2 ⟨h, by rw [e]; exact List.mem_cons_self .., corner_has ?_⟩⟩
 exact parts_pos hf hp h (by rw [e]; exact List.mem_cons_self ..)
theorem apart_of {p q : List Rect} {P : List (List Rect)} (h : P.Pairwise fun p q => apartC (cell p) (cell q)) (hp : p ∈ P) (hq : q ∈ P) (hne : p ≠ q) : apartC (cell p) (cell q) := by
 induction P with
 | nil => exact absurd hp List.not_mem_nil
 | cons w P ih =>
  obtain ⟨h1, h2⟩ := List.pairwise_cons.1 h
  rcases List.mem_cons.1 hp with e1 | hp'
  ·rcases List.mem_cons.1 hq with e2 | hq'
   ·exact absurd (e1.trans e2.symm) hne
   ·rw [e1]; exact h1 q hq'
  ·rcases List.mem_cons.1 hq with e2 | hq'
   ·rw [e2]; exact fun a b c d k1 k2 k3 => h1 p hp' c d a b k2 k1 (nearC_symm k3)
   ·exact ih h2 hp' hq'
theorem part_full (hf : Form x) {p : List Rect} (hp : p ∈ partsL x) {a b c d : Int} (h : cell p a b = true) (hc : cell x c d = true) (hn : nearC a b c d) : cell p c d = true := by
 obtain ⟨s, hs, k⟩ := cell_iff.1 hc
 obtain ⟨q, hq, hsq⟩ := List.mem_flatten.1 ((parts_pf x).perm.mem_iff.2 hs)
 by_cases e : p = q
 ·subst e; exact cell_iff.2 ⟨s, hsq, k⟩
 ·exact absurd hn (apart_of (parts_apart hf) hp hq e a b c d h (cell_iff.2 ⟨s, hsq, k⟩))
end Go.Proofs.Ytadnganaeigchaa.Rg
namespace Go.Proofs.Ytadnganaeigchaa.Rg
def begC (s : Sd) : Int × Int := match upS s, fwS s with
 | false, true => (s.1.1, s.1.2)
 | false, false => (s.1.1 - 1, s.1.2 - 1)
 | true, true => (s.1.1 - 1, s.1.2)
 | true, false => (s.1.1, s.1.2 - 1)
def endC (s : Sd) : Int × Int := match upS s, fwS s with
 | false, true => (s.2.1 - 1, s.2.2)
 | false, false => (s.2.1, s.2.2 - 1)
 | true, true => (s.2.1 - 1, s.2.2 - 1)
 | true, false => (s.2.1, s.2.2)
section
variable {x : List Rect} (hf : Form x) {P : List Rect} (hP : P ∈ partsL x)
include hf hP
theorem part_step {a b c d : Int} (h : cell P a b = true) (hc : cell x c d = true) (hn : (a = c ∧ -1 ≤ b - d ∧ b - d ≤ 1) ∨ (b = d ∧ -1 ≤ a - c ∧ a - c ≤ 1)) : cell P c d = true := part_full hf hP h hc hn
theorem part_row {r : Rect} (hr : r ∈ x) {a b c d : Int} (h1 : r.has a b = true) (h2 : r.has c d = true) (h : cell P a b = true) : cell P c d = true := by
 have key : ∀ {u v : Int}, r.has u v = true → (cell P u v = true ↔ cell P r.x0 r.y0 = true) := fun {u v} hh =>
  rect_conn (D := fun u v => cell P u v = true) (fun _ _ _ _ _ k2 k3 k4 => part_full hf hP k4 (cell_iff.2 ⟨r, hr, k2⟩) k3) _ u v rfl hh
 exact (key h2).2 ((key h1).1 h)
theorem part_piece {s : Sd} (hs : s ∈ bdL x) (h : cell P (begC s).1 (begC s).2 = true) : cell P (endC s).1 (endC s).2 = true := by
 have ha := hf.apart
 rcases (bd_mem ha).1 hs with ⟨r, hr, rfl⟩ | ⟨r, hr, rfl⟩ | ⟨c, hc, u, v, k1, rfl, k2, k3⟩ | ⟨c, hc, u, v, k1, rfl, k2, k3⟩
 ·obtain ⟨q1, q2, _⟩ := bot_kind ha hr
  have hpos := ha.pos r hr
  unfold begC at h
  unfold endC
  rw [q1, q2] at h ⊢
  exact part_row hf hP hr (has_iff.2 (by unfold botR; simp only; omega)) (has_iff.2 (by unfold botR; simp only; omega)) h
 ·obtain ⟨q1, q2, _⟩ := top_kind ha hr
  have hpos := ha.pos r hr
  unfold begC at h
  unfold endC
  rw [q1, q2] at h ⊢
  exact part_row hf hP hr (has_iff.2 (by unfold topR; simp only; omega)) (has_iff.2 (by unfold topR; simp only; omega)) h
 ·have hlt := adj_lt (ysX_asc x c) k1
  obtain ⟨q1, q2, _⟩ := up_kind (x := c) hlt
  unfold begC at h
  unfold endC
  rw [q1, q2] at h ⊢
  simp only at h ⊢
  have go : ∀ (n : Nat) (z : Int), u ≤ z → z < v → (z - u).toNat = n → cell P (c - 1) z = true := by
   intro n
   induction n with
   | zero => intro z h1 h2 h3; rw [show z = u by omega]; exact h
   | succ n ih =>
    intro z h1 h2 h3
    have := ih (z - 1) (by omega) (by omega) (by omega)
    exact part_step hf hP this (by rw [(col_all ha (cuts_own x) hc k1 h1 h2).1]; exact k2) (by omega)
  exact go _ (v - 1) (by omega) (by omega) rfl
 ·have hlt := adj_lt (ysX_asc x c) k1
  obtain ⟨q1, q2, _⟩ := down_kind (x := c) hlt
  unfold begC at h
  unfold endC
  rw [q1, q2] at h ⊢
  simp only at h ⊢
  have go : ∀ (n : Nat) (z : Int), u ≤ z → z < v → (v - 1 - z).toNat = n → cell P c z = true := by
   intro n
   induction n with
   | zero => intro z h1 h2 h3; rw [show z = v - 1 by omega]; exact h
   | succ n ih =>
    intro z h1 h2 h3
    have := ih (z + 1) (by omega) (by omega) (by omega)
    exact part_step hf hP this (by rw [(col_all ha (cuts_own x) hc k1 h1 h2).2]; exact k2) (by omega)
  exact go _ u (by omega) (by omega) rfl
theorem part_turn {s t : Sd} (hs : s ∈ bdL x) (ht : t ∈ bdL x) (h1 : t.1 = s.2) (hl : 0 < turnI s t ∨ ∀ q ∈ bdL x, q.1 = s.2 → ¬ 0 < turnI s q) (h : cell P (endC s).1 (endC s).2 = true) : cell P (begC t).1 (begC t).2 = true := by
 have ha := hf.apart
 obtain ⟨ks, ⟨qi, x1, x2⟩, _⟩ := bd_told ha hs
 obtain ⟨kt, _, qo⟩ := bd_told ha ht
 have left : ∀ (o f : Bool), upS s = o → fwS s = f → 0 < turnI s t ∨ ¬ QOut x s.2.1 s.2.2 (!o) (leftF o f) := fun o f e1 e2 => by
  rcases hl with q | q
  ·exact .inl q
  ·refine .inr fun h => ?_
   obtain ⟨u, u1, u2, u3, u4⟩ := out_ex ha x1 x2 h
   exact q u u1 u2 (left_turn ks (bd_told ha u1).1 (by rw [u3, e1]) (by rw [u4, e1, e2]))
 have le := left _ _ rfl rfl
 have hrev : upS s = upS t → fwS s = fwS t := (bd_net ha).rev s hs t ht h1.symm
 have hturn : 0 < turnI s t → upS t = !upS s ∧ fwS t = leftF (upS s) (fwS s) := fun q => by
  cases u : upS s
  ·have ut : upS t = true := by
    cases r : upS t
    ·rw [turn_same ks kt (by rw [u, r])] at q; omega
    ·rfl
   rw [turn_ho ks kt u ut] at q
   refine ⟨ut, ?_⟩
   by_cases e : fwS s = fwS t
   ·unfold leftF; simp [e]
   ·rw [if_neg e] at q; omega
  ·have ut : upS t = false := by
    cases r : upS t
    ·rfl
    ·rw [turn_same ks kt (by rw [u, r])] at q; omega
   rw [turn_up ks kt u ut] at q
   refine ⟨ut, ?_⟩
   by_cases e : fwS s = fwS t
   ·rw [if_pos e] at q; omega
   ·unfold leftF; simp
    cases a : fwS s <;> cases b : fwS t <;> rw [a, b] at e <;> simp_all
 have e1 : t.1.1 = s.2.1 := by rw [h1]
 have e2 : t.1.2 = s.2.2 := by rw [h1]
 unfold endC at h
 unfold begC
 rw [e1, e2] at qo ⊢
 generalize s.2.1 = X at *
 generalize s.2.2 = Y at *
 cases os : upS s <;> cases fs : fwS s <;> rw [os, fs] at qi h le hturn <;> rw [os, fs] at hrev <;> cases ot : upS t <;> cases ft : fwS t <;> rw [ot, ft] at qo hturn <;> rw [ot, ft] at hrev <;> simp only at h ⊢ <;> unfold QIn at qi <;> unfold QOut at qo le <;> simp only [leftF, Bool.not_true, Bool.not_false, if_true, Bool.false_eq_true, if_false] at le hturn <;> simp only [reduceCtorEq, forall_const, false_implies, implies_true, and_true, and_false, true_and, imp_false, Int.not_lt] at hrev hturn
 all_goals first
  | exact h
  | exact part_step hf hP h qo.1 (by omega)
  | (rcases le with q | q
     ·omega
     ·have hm := (Bool.not_eq_false _).mp (fun hc => q ⟨qi.1, hc⟩)
      exact part_step hf hP (part_step hf hP h hm (by omega)) qo.1 (by omega))
end
theorem cyc_keep {n : Nat} {f : Nat → Nat} {c : List Nat} (hc : Cyc n f c) {Q : Nat → Prop} (hQ : ∀ i, i < n → Q i → Q (f i)) {i : Nat} (hi : i ∈ c) (h : Q i) : ∀ j ∈ c, Q j := by
 have hp : 0 < c.length := List.length_pos_of_mem hi
 have up : ∀ (k : Nat) (a : Nat) (ha : a < c.length) (hb : a + k < c.length), Q c[a] → Q c[a + k] := by
  intro k
  induction k with
  | zero => intro a ha hb q; exact q
  | succ k ih =>
   intro a ha hb q
   have := hQ _ (hc.lt _ (List.getElem_mem (show a + k < c.length by omega))) (ih a ha (by omega) q)
   rw [← hc.step (a + k) (by omega)] at this
   exact this
 obtain ⟨a, ha, rfl⟩ := List.mem_iff_getElem.1 hi
 have h0 : Q c[0] := by
  have := up (c.length - 1 - a) a ha (by omega) h
  have := hQ _ (hc.lt _ (List.getElem_mem _)) this
  have e : a + (c.length - 1 - a) = c.length - 1 := by omega
  simp only [e] at this
  rw [hc.back hp] at this
  exact this
 intro j hj
 obtain ⟨b, hb, rfl⟩ := List.mem_iff_getElem.1 hj
 have := up b 0 hp (by omega) h0
 simpa using this
theorem one_way {l : List Sd} (hl : Net l) {p : List Pt} (h : loopsL l = [p]) {i j : Nat} (hi : i < l.length) (hj : j < l.length) : ∃ c ∈ waysL l, i ∈ c ∧ j ∈ c := by
 obtain ⟨h1, h2, h3⟩ := ways_net hl
 have em : ∀ c ∈ waysL l, (!(rotM (cornF l c)).isEmpty) = !c.isEmpty := fun c hc => by
  cases hcc : c with
  | nil => rfl
  | cons a r =>
   have := (loop_told hl (h1 c hc) (by rw [hcc]; simp)).len
   rw [hcc] at this
   cases hr : rotM (cornF l (a :: r)) with
   | nil => rw [hr] at this; simp at this
   | cons _ _ => rfl
 have e : (((waysL l).filter fun c => !c.isEmpty).map fun c => rotM (cornF l c)) = [p] := by
  rw [← h]
  unfold loopsL
  rw [List.filter_map]
  congr 1
  exact List.filter_congr fun c hc => (em c hc).symm
 have e1 : ((waysL l).filter fun c => !c.isEmpty).length = 1 := by
  have := congrArg List.length e
  rwa [List.length_map] at this
 obtain ⟨c0, e2⟩ := List.length_eq_one_iff.1 e1
 have one : ∀ k, k < l.length → ∃ c ∈ waysL l, k ∈ c ∧ c = c0 := fun k hk => by
  obtain ⟨c, hc, hkc⟩ := List.mem_flatten.1 (h3 k hk)
  refine ⟨c, hc, hkc, ?_⟩
  have : c ∈ (waysL l).filter fun c => !c.isEmpty := List.mem_filter.2 ⟨hc, by cases c with | nil => cases hkc | cons _ _ => rfl⟩
  rw [e2] at this
  exact List.mem_singleton.1 this
 obtain ⟨c, hc, k1, k2⟩ := one i hi
 obtain ⟨c', hc', k3, k4⟩ := one j hj
 exact ⟨c, hc, k1, by rw [k2, ← k4]; exact k3⟩
theorem one_part {x : List Rect} (hf : Form x) {p : List Pt} (h : loopsL (bdL x) = [p]) : (partsL x).length = 1 := by
 have ha := hf.apart
 have N := bd_net ha
 have hne : x ≠ [] := fun e => by
  rw [e] at h
  have : loopsL (bdL []) = [] := by decide
  rw [this] at h; cases h
 have hpf := parts_pf x
 have key : ∀ {P}, P ∈ partsL x → ∀ r ∈ x, cell P r.x0 r.y0 = true := fun {P} hP r hr => by
  obtain ⟨g, t, e, hg⟩ := part_cell hf hP
  have hgx : g ∈ x := parts_mem hP (by rw [e]; exact List.mem_cons_self ..)
  have b1 : botR g ∈ bdL x := (bd_mem ha).2 (.inl ⟨g, hgx, rfl⟩)
  have b2 : botR r ∈ bdL x := (bd_mem ha).2 (.inl ⟨r, hr, rfl⟩)
  obtain ⟨i, hi, ei⟩ := mem_gt b1
  obtain ⟨j, hj, ej⟩ := mem_gt b2
  obtain ⟨c, hc, ic, jc⟩ := one_way N h hi hj
  have cb : ∀ {q}, q ∈ x → begC (botR q) = (q.x0, q.y0) := fun {q} hq => by
   obtain ⟨q1, q2, _⟩ := bot_kind ha hq
   unfold begC
   rw [q1, q2]
   rfl
  have := cyc_keep ((ways_net N).1 c hc) (Q := fun k => cell P (begC (gtS (bdL x) k)).1 (begC (gtS (bdL x) k)).2 = true) (fun k hk hq => by
   obtain ⟨n1, n2, n3⟩ := N.next hk
   refine part_turn hf hP (gt_mem hk) (gt_mem n1) n2 ?_ (part_piece hf hP (gt_mem hk) hq)
   rcases n3 with q | q
   ·exact .inl q
   ·exact .inr q.1) ic (by show cell P (begC (gtS (bdL x) i)).1 (begC (gtS (bdL x) i)).2 = true; rw [ei, cb hgx]; exact hg) j jc
  simp only [ej, cb hr] at this
  exact this
 match hm : partsL x with
 | [] =>
  have := hpf.perm
  rw [hm] at this
  exact absurd (List.Perm.nil_eq this).symm hne
 | [_] => rfl
 | P :: P' :: R =>
  have hP : P ∈ partsL x := by rw [hm]; simp
  have hP' : P' ∈ partsL x := by rw [hm]; simp
  obtain ⟨g, t, e, hg⟩ := part_cell hf hP'
  have hgx : g ∈ x := parts_mem hP' (by rw [e]; exact List.mem_cons_self ..)
  have hpa := parts_apart hf
  rw [hm] at hpa
  exact absurd (.inl ⟨rfl, by omega, by omega⟩) ((List.pairwise_cons.1 hpa).1 P' (List.mem_cons_self ..) _ _ _ _ (key hP g hgx) hg)
end Go.Proofs.Ytadnganaeigchaa.Rg
namespace Go.Proofs.Ytadnganaeigchaa.Rg
theorem right_least {p : List Pt} (h : rightP p = true) : Least p := by
 have hl := (rightP_len h).1
 refine ⟨rightP_poly h, ?_, fun j hj h0 => ?_⟩
 ·unfold rightP at h
  simp only [Bool.and_eq_true] at h
  have := h.2
  have e : sd p 0 = sI p 0 := rfl
  rw [← e]
  cases q : upS (sd p 0)
  ·rfl
  ·rw [q] at this; cases this
 ·unfold rightP at h
  simp only [Bool.and_eq_true] at h
  have := allFr_true.1 h.1.1.2 j (Nat.zero_le _) (by omega)
  unfold okI okJ at this
  simp only [Bool.and_eq_true, Bool.or_eq_true, decide_eq_true_eq] at this
  rcases this.2.2 with q | q
  ·omega
  ·have e1 : p.getD 0 (0, 0) = p[0]'(by omega) := by rw [List.getD_eq_getElem?_getD, List.getElem?_eq_getElem (by omega)]; rfl
   have e2 : p.getD j (0, 0) = p[j] := by rw [List.getD_eq_getElem?_getD, List.getElem?_eq_getElem hj]; rfl
   rw [e1, e2] at q
   exact q
theorem sumZ_sum {α : Type} (f : α → Int) : ∀ l : List α, sumZ f l = (l.map f).sum
 | [] => rfl
 | a :: l => by
  show f a + sumZ f l = _
  rw [sumZ_sum f l, List.map_cons, List.sum_cons]
section
variable {p : List Pt} (h : rightP p = true)
include h
theorem right_shoe : shoeP p = 2 * areaL (polyL p) := by
 rw [← poly_shoe (right_least h), csum_sides]
 exact sumZ_sum _ _
theorem right_pos : 0 < areaL (polyL p) := by
 have hf := (rightP_poly h).form.1
 have hne := poly_some (right_least h)
 have hp : ∀ r ∈ polyL p, 0 < r.area := fun r hr => by
  have := hf.apart.pos r hr
  show 0 < (r.x1 - r.x0) * (r.y1 - r.y0)
  exact Int.mul_pos (by omega) (by omega)
 generalize polyL p = l at *
 match l, hne with
 | a :: l, _ =>
  have key : ∀ m : List Rect, (∀ r ∈ m, 0 < r.area) → 0 ≤ areaL m := fun m => by
   induction m with
   | nil => exact fun _ => Int.le_refl _
   | cons b m ih =>
    intro q
    have := q b (List.mem_cons_self ..)
    have := ih fun r hr => q r (List.mem_cons_of_mem _ hr)
    show 0 ≤ b.area + areaL m
    omega
  have := key l fun r hr => hp r (List.mem_cons_of_mem _ hr)
  have := hp a (List.mem_cons_self ..)
  show 0 < a.area + areaL l
  omega
theorem right_one : (partsL (polyL p)).length = 1 := one_part (rightP_poly h).form.1 (poly_only (right_least h))
end
end Go.Proofs.Ytadnganaeigchaa.Rg
namespace Go.Proofs.Ytadnganaeigchaa.Bm
open Go Go.RowKit
open Rg (Rect Pt sidesP rightP polyL partsL ofL areaL bdL)
theorem poly_reg {p : List Pt} (h : rightP p = true) (hl : (polyL p).length ≤ 200) : regB (polyL p) = true := by
 have hp := Rg.rightP_poly h
 obtain ⟨hf, hc⟩ := hp.form
 exact regB_iff.2 ⟨List.all_eq_true.2 fun r hr => okR_iff.2 (hf.box (fun x y hxy => hp.inGrid (by rw [← hc]; exact hxy)) r hr), hl, hf⟩
theorem out_right {p : List Pt} (h : rightP p = true) : outL (bdL (polyL p)) = [p] := by
 unfold outL
 rw [Rg.poly_only (Rg.right_least h), List.mergeSort_singleton]
theorem out_none : outL (bdL []) = [] := by
 unfold outL
 have e : Rg.loopsL (bdL []) = [] := rfl
 rw [e, List.mergeSort_nil]
theorem area_right {p : List Pt} (h : rightP p = true) : areaP p = areaL (polyL p) := by
 unfold areaP
 rw [if_pos h, Rg.right_shoe h]
 exact Int.mul_tdiv_cancel_left _ (by decide)
set_option maxHeartbeats 2000000 in
theorem areas_law (p : List Pt) : ∃ h', L E 3 [lst false (spanR.vals p)] [] 0 = some (.bool true, h') := by
 refine ⟨[], ?_⟩
 have sm := small_spec
 have ln : ∀ h, lenT .sl h (lst false (spanR.vals p)) = some (.int .i64 p.length) := fun h => Rec.tree_len
 have rf : ∀ h, reify E.P 8 h (lst false (spanR.vals p)) = some (lst false (spanR.vals p)) := fun _ => rfl
 have sv0 : settled depth (lst false (spanR.vals p)) = true := rfl
 have bP : ∀ d n, below (d + 1) n (lst false (spanR.vals p)) = true := fun d n => rfl
 have hG : p.length ≤ 1000000 → _ := pregion_spec false p
 have hA : p.length ≤ 1000000 → _ := parea_spec false p
 have hS : p.length ≤ 1000000 → _ := same_pts false false p p
 rw [decide_eq_true rfl] at hS
 have io : ∀ A : Value, cellsL A = [A] → fitsTT ⟨some false, some 1⟩ A = true → indexAddrT (.sl 22 ⟨some false, some 1⟩) (lst false [A]) (.int .i64 0) = some (cptr A) := fun A h1 h2 => by
  rw [index_lst]; simp [h1, h2]
 have io := io (lst false (spanR.vals p)) rfl rfl
 have lo : ∀ h, lenT .sl h (lst false [lst false (spanR.vals p)]) = some (.int .i64 1) := fun h => len_lst
 have ro : ∀ h, reify E.P 8 h (lst false [lst false (spanR.vals p)]) = some (lst false [lst false (spanR.vals p)]) := fun _ => rfl
 have l0 : ∀ h, lenT .sl h (lst false []) = some (.int .i64 0) := fun h => len_lst
 have hO := fun hr hl => outline_spec (some false) (polyL p) Rec.ok_some (poly_reg (p := p) hr hl)
 have hO : rightP p = true → (polyL p).length ≤ 200 → pureCall E.P (L E) 6 [rectR.o (some false) (polyL p)] = some (lst false [lst false (spanR.vals p)]) := fun h1 h2 => by
  rw [hO h1 h2, out_right h1]; rfl
 have ft : fitsTT ⟨some false, some 1⟩ (lst false (spanR.vals p)) = true := rfl
 generalize hPV : lst false (spanR.vals p) = PV at *
 rw [L_fn F3 rfl]
 by_cases h60 : 60 < p.length
 ·have h60' : 60 < (p.length : Int) := by omega
  simp -implicitDefEqProofs [r3, p3, ret0 m4, sm, ln, h60, h60']
 have h60' : ¬ (60 < (p.length : Int)) := by omega
 have hG := hG (by omega)
 have hA := hA (by omega)
 have hS := hS (by omega)
 have eO := outline_spec none [] (fun _ => rfl) (by kernel_rfl)
 rw [out_none] at eO
 have eO : pureCall E.P (L E) 6 [.slice none 0 0] = some (lst false []) := eO
 have sn : settled depth (.slice none 0 0) = true := rfl
 have bad : ∀ e : Int, e ≠ 0 → polyX p = .error e → ∃ v, v = some (Value.bool true, ([] : Heap)) ∧ L E 3 [PV] [] 0 = v := fun e he eX => by
  rw [eX] at hG
  simp only [resL] at hG
  refine ⟨_, rfl, ?_⟩
  rw [L_fn F3 rfl]
  simp -implicitDefEqProofs [r3, p3, ret0 m4, sm, ln, h60, h60', ret1 m5, sv0, hG, he, ret1 m6, eO, sn, l0, Rec.o]
 rw [← L_fn F3 rfl]
 by_cases hr : rightP p = true
 case neg =>
  obtain ⟨v, e1, e2⟩ := bad 10 (by decide) (by unfold polyX; rw [if_neg hr])
  rw [e2, e1]
 by_cases h200 : 200 < (polyL p).length
 ·obtain ⟨v, e1, e2⟩ := bad 6 (by decide) (by unfold polyX; rw [if_pos hr, if_pos h200])
  rw [e2, e1]
 have eX : polyX p = .ok (polyL p) := by unfold polyX; rw [if_pos hr, if_neg h200]
 rw [eX] at hG
 simp only [resL] at hG
 have hO := hO hr (by omega)
 have hreg := poly_reg hr (by omega)
 have hne := Rg.poly_some (Rg.right_least hr)
 have hB := area2_spec (some false) (polyL p) Rec.ok_some (by omega)
 rw [hreg, if_pos rfl] at hB
 rw [area_right hr] at hA
 have hpos := Rg.right_pos hr
 have hP := parts_spec (some false) (polyL p) Rec.ok_some hne (by omega)
 rw [hreg, if_pos rfl] at hP
 have hPl : ∀ h, lenT .sl h (lst false (partV ((partsL (polyL p)).map ofL))) = some (.int .i64 1) := fun h => by
  rw [len_lst]
  unfold partV
  rw [List.length_map, List.length_map, Rg.right_one hr]; rfl
 have ra : ∀ h, reify E.P 8 h (rectR.o (some false) (polyL p)) = some (rectR.o (some false) (polyL p)) := fun h => Rec.o_reify
 have sa : settled depth (rectR.o (some false) (polyL p)) = true := rfl
 have eAV : rectR.o (some false) (polyL p) = lst false (rectR.vals (polyL p)) := rfl
 rw [eAV] at hO hB hP ra sa
 clear eAV
 generalize areaL (polyL p) = A at *
 generalize lst false (rectR.vals (polyL p)) = AV at *
 generalize lst false (partV ((partsL (polyL p)).map ofL)) = QV at *
 generalize lst false [PV] = OV at *
 rw [L_fn F3 rfl]
 simp -implicitDefEqProofs [r3, p3, ret0 m4, sm, ln, h60, h60', ret1 m5, sv0, hG, ret1 m6, hO, sa, ra, lo, io, ft, ro, rf, ret0 m7, hA, ret0 m8, hB, hpos, ret0 m9, hS, ret1 m10, hP, hPl]
end Go.Proofs.Ytadnganaeigchaa.Bm
