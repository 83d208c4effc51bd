/-
  A law whose runs may be told under several readings of the program. Conditions: each lemma says its own.
-/
import Derived.Test.YteaoeebakmdcnaaQP21
import Derived.Test.YteaoeebakmdcnaaQP20
import Derived.Test.YteaoeebakmdcnaaQP18
import Derived.Test.YteaoeebakmdcnaaQP11
namespace Go.Proofs.Yteaoeebakmdcnaa.Rg

def nearC (x y u v : Int) : Prop := (x = u ∧ -1 ≤ y - v ∧ y - v ≤ 1) ∨ (y = v ∧ -1 ≤ x - u ∧ x - u ≤ 1)
def nearR (r s : Rect) : Prop := (gapX r s < 0 ∧ gapY r s ≤ 0) ∨ (gapX r s ≤ 0 ∧ gapY r s < 0)
def pos (r : Rect) : Prop := r.x0 < r.x1 ∧ r.y0 < r.y1
theorem nearC_symm {x y u v : Int} (h : nearC x y u v) : nearC u v x y := by unfold nearC at *; omega
theorem near_of_cells {r s : Rect} {x y u v : Int} (h1 : r.has x y = true) (h2 : s.has u v = true) (h : nearC x y u v) : nearR r s := by
  have h1 := has_iff.1 h1
  have h2 := has_iff.1 h2
  unfold nearR gapX gapY
  unfold nearC at h
  omega
theorem cells_of_near {r s : Rect} (hr : pos r) (hs : pos s) (h : nearR r s) : ∃ x y u v, r.has x y = true ∧ s.has u v = true ∧ nearC x y u v := by
  unfold nearR gapX gapY at h
  unfold pos at hr hs
  have pick : ∀ x y u v : Int, (r.x0 ≤ x ∧ x < r.x1 ∧ r.y0 ≤ y ∧ y < r.y1) → (s.x0 ≤ u ∧ u < s.x1 ∧ s.y0 ≤ v ∧ v < s.y1) → nearC x y u v → ∃ x y u v, r.has x y = true ∧ s.has u v = true ∧ nearC x y u v := fun x y u v a b c => ⟨x, y, u, v, has_iff.2 a, has_iff.2 b, c⟩
  by_cases gx : max r.x0 s.x0 - min r.x1 s.x1 < 0
  · by_cases gy : max r.y0 s.y0 - min r.y1 s.y1 < 0
    · exact pick (max r.x0 s.x0) (max r.y0 s.y0) (max r.x0 s.x0) (max r.y0 s.y0) (by omega) (by omega) (by unfold nearC; omega)
    · by_cases e : r.y1 ≤ s.y0
      · exact pick (max r.x0 s.x0) (r.y1 - 1) (max r.x0 s.x0) s.y0 (by omega) (by omega) (by unfold nearC; omega)
      · exact pick (max r.x0 s.x0) r.y0 (max r.x0 s.x0) (s.y1 - 1) (by omega) (by omega) (by unfold nearC; omega)
  · by_cases e : r.x1 ≤ s.x0
    · exact pick (r.x1 - 1) (max r.y0 s.y0) s.x0 (max r.y0 s.y0) (by omega) (by omega) (by unfold nearC; omega)
    · exact pick r.x0 (max r.y0 s.y0) (s.x1 - 1) (max r.y0 s.y0) (by omega) (by omega) (by unfold nearC; omega)
theorem touch_near {r s : Rect} (h : touchB r s = true) : nearR r s := by
  unfold touchB at h
  unfold nearR
  simp only [Bool.or_eq_true, Bool.and_eq_true, decide_eq_true_eq] at h
  omega
def sym (r s : Rect) : Prop := ordR r s ∨ ordR s r
theorem not_near {r s : Rect} (h : touchB r s = false) (ho : sym r s) : ¬ nearR r s := fun hn => by
  have h : ¬ (touchB r s = true) := by rw [h]; exact Bool.false_ne_true
  unfold touchB at h
  simp only [Bool.or_eq_true, Bool.and_eq_true, decide_eq_true_eq] at h
  unfold nearR at hn
  unfold sym ordR at ho
  unfold gapX gapY at *
  omega
theorem sym_apart {r s : Rect} (h : sym r s) {x y : Int} (h1 : r.has x y = true) (h2 : s.has x y = true) : False := by
  rcases h with h | h
  · exact ord_apart h h1 h2
  · exact ord_apart h h2 h1

/-! ### The parts of a region -/
variable {x : List Rect}
theorem cell_perm {l m : List Rect} (h : l.Perm m) (u v : Int) : cell l u v = cell m u v := by
  rw [Bool.eq_iff_iff, cell_iff, cell_iff]
  exact ⟨fun ⟨r, hr, k⟩ => ⟨r, h.mem_iff.1 hr, k⟩, fun ⟨r, hr, k⟩ => ⟨r, h.mem_iff.2 hr, k⟩⟩
theorem parts_sym (hf : Form x) : (partsL x).flatten.Pairwise sym :=
  ((parts_pf x).perm.pairwise_iff (R := sym) fun h => h.elim .inr .inl).2 (hf.ord.imp .inl)
theorem parts_mem {p : List Rect} (hp : p ∈ partsL x) {r : Rect} (hr : r ∈ p) : r ∈ x := (parts_pf x).perm.mem_iff.1 (List.mem_flatten.2 ⟨p, hp, hr⟩)
theorem parts_pos (hf : Form x) {p : List Rect} (hp : p ∈ partsL x) : ∀ r ∈ p, pos r := fun _ hr => hf.pos _ (parts_mem hp hr)
theorem pw_and {α : Type} {R S : α → α → Prop} : ∀ {l : List α}, l.Pairwise R → l.Pairwise S → l.Pairwise fun a b => R a b ∧ S a b
  | [], _, _ => .nil
  | _ :: _, h, k => by
    obtain ⟨h1, h2⟩ := List.pairwise_cons.1 h
    obtain ⟨k1, k2⟩ := List.pairwise_cons.1 k
    exact List.pairwise_cons.2 ⟨fun b hb => ⟨h1 b hb, k1 b hb⟩, pw_and h2 k2⟩
theorem parts_far (hf : Form x) : (partsL x).Pairwise fun p q => ∀ r ∈ p, ∀ s ∈ q, ¬ nearR r s := by
  have h1 := (List.pairwise_flatten.1 (parts_sym hf)).2
  have h2 := (parts_pf x).sep
  exact (pw_and h1 h2).imp fun h r hr s hs => not_near (h.2 r hr s hs) (h.1 r hr s hs)
def apartC (S T : Int → Int → Bool) : Prop := ∀ a b c d, S a b = true → T c d = true → ¬ nearC a b c d
theorem parts_apart (hf : Form x) : (partsL x).Pairwise fun p q => apartC (cell p) (cell q) :=
  (parts_far hf).imp fun h a b c d h1 h2 hn => by
    obtain ⟨r, hr, k1⟩ := cell_iff.1 h1
    obtain ⟨s, hs, k2⟩ := cell_iff.1 h2
    exact h r hr s hs (near_of_cells k1 k2 hn)
theorem ofP (hf : Form x) {p : List Rect} (hp : p ∈ partsL x) : Form (ofL p) ∧ ∀ u v, cell (ofL p) u v = cell p u v := ofL_ok fun r hr => (parts_pos hf hp r hr).2

/-! ### They are connected -/
theorem rect_conn {D : Int → Int → Prop} {r : Rect} (hD : ∀ a b c d, r.has a b = true → r.has c d = true → nearC a b c d → D a b → D c d) : ∀ (n : Nat) (a b : Int), (a - r.x0 + (b - r.y0)).toNat = n → r.has a b = true → (D a b ↔ D r.x0 r.y0)
  | 0, a, b, hn, h => by
    have h1 := has_iff.1 h
    rw [show a = r.x0 by omega, show b = r.y0 by omega]
  | n + 1, a, b, hn, h => by
    have h1 := has_iff.1 h
    by_cases ha : r.x0 < a
    · have h2 : r.has (a - 1) b = true := has_iff.2 (by omega)
      have k1 : nearC a b (a - 1) b := by unfold nearC; omega
      rw [← rect_conn hD n (a - 1) b (by omega) h2]
      exact ⟨hD _ _ _ _ h h2 k1, hD _ _ _ _ h2 h (nearC_symm k1)⟩
    · have h2 : r.has a (b - 1) = true := has_iff.2 (by omega)
      have k1 : nearC a b a (b - 1) := by unfold nearC; omega
      rw [← rect_conn hD n a (b - 1) (by omega) h2]
      exact ⟨hD _ _ _ _ h h2 k1, hD _ _ _ _ h2 h (nearC_symm k1)⟩
theorem part_conn (hf : Form x) {p : List Rect} (hp : p ∈ partsL x) {D : Int → Int → Prop} (hD : ∀ a b c d, cell p a b = true → cell p c d = true → nearC a b c d → D a b → D c d) {a b : Int} (h0 : cell p a b = true) (h1 : D a b) : ∀ c d, cell p c d = true → D c d := by
  obtain ⟨h, t, e, hc⟩ := (parts_pf x).conn p hp
  have hpos := parts_pos hf hp
  have inn : ∀ r ∈ p, ∀ c d, r.has c d = true → (D c d ↔ D r.x0 r.y0) := fun r hr c d hh =>
    rect_conn (fun a b c d k1 k2 => hD a b c d (cell_iff.2 ⟨r, hr, k1⟩) (cell_iff.2 ⟨r, hr, k2⟩)) _ c d rfl hh
  have all := hc (fun r => D r.x0 r.y0 ↔ D h.x0 h.y0) Iff.rfl fun r s hr hs hC ht => by
    obtain ⟨a, b, c, d, k1, k2, k3⟩ := cells_of_near (hpos r hr) (hpos s hs) (touch_near ht)
    have q1 := hD a b c d (cell_iff.2 ⟨r, hr, k1⟩) (cell_iff.2 ⟨s, hs, k2⟩) k3
    have q2 := hD c d a b (cell_iff.2 ⟨s, hs, k2⟩) (cell_iff.2 ⟨r, hr, k1⟩) (nearC_symm k3)
    have i1 := inn r hr a b k1
    have i2 := inn s hs c d k2
    exact ⟨fun hh => hC.1 (i1.1 (q2 (i2.2 hh))), fun hh => i2.1 (q1 (i1.2 (hC.2 hh)))⟩
  obtain ⟨r, hr, k⟩ := cell_iff.1 h0
  have hh : D h.x0 h.y0 := (all r hr).1 ((inn r hr a b k).1 h1)
  intro c d hcd
  obtain ⟨s, hs, k2⟩ := cell_iff.1 hcd
  exact (inn s hs c d k2).2 ((all s hs).2 hh)
theorem part_cell (hf : Form x) {p : List Rect} (hp : p ∈ partsL x) : ∃ h t, p = h :: t ∧ cell p h.x0 h.y0 = true := by
  obtain ⟨h, t, e, _⟩ := (parts_pf x).conn p hp
  refine ⟨h, t, e, cell_iff.2 ⟨h, by rw [e]; exact List.mem_cons_self .., corner_has ?_⟩⟩
  exact parts_pos hf hp h (by rw [e]; exact List.mem_cons_self ..)
theorem of_ne (hf : Form x) {p : List Rect} (hp : p ∈ partsL x) : ofL p ≠ [] := fun e => by
  obtain ⟨h, t, _, k⟩ := part_cell hf hp
  rw [← (ofP hf hp).2, e] at k
  cases k
/-- Each part is one part of its own. -/
theorem part_one (hf : Form x) {p : List Rect} (hp : p ∈ partsL x) : (partsL (ofL p)).map ofL = [ofL p] := by
  obtain ⟨fl, cl⟩ := ofP hf hp
  have hne := of_ne hf hp
  generalize hl : ofL p = l at *
  have pf := parts_pf l
  have hsym := List.pairwise_flatten.1 (parts_sym fl)
  have hfar := parts_far fl
  cases hP : partsL l with
  | nil =>
    have := pf.perm
    rw [hP] at this
    exact absurd (List.Perm.nil_eq this).symm hne
  | cons q rest =>
    have hq : q ∈ partsL l := by rw [hP]; exact List.mem_cons_self ..
    rw [hP] at hsym hfar
    obtain ⟨g, t, _, kq⟩ := part_cell fl hq
    have key : ∀ c d, cell p c d = true → cell q c d = true := by
      refine part_conn hf hp (D := fun c d => cell q c d = true) (fun a b c d h1 h2 hn hD => ?_) (a := g.x0) (b := g.y0) ?_ kq
      · rw [← cl] at h2
        obtain ⟨s, hs, k2⟩ := cell_iff.1 h2
        obtain ⟨r, hr, k1⟩ := cell_iff.1 hD
        have hs' : s ∈ (partsL l).flatten := pf.perm.mem_iff.2 hs
        obtain ⟨w, hw, hsw⟩ := List.mem_flatten.1 hs'
        rw [hP] at hw
        rcases List.mem_cons.1 hw with rfl | hw
        · exact cell_iff.2 ⟨s, hsw, k2⟩
        · exact absurd (near_of_cells k1 k2 hn) ((List.pairwise_cons.1 hfar).1 w hw r hr s hsw)
      · obtain ⟨r, hr, k⟩ := cell_iff.1 kq
        rw [← cl]
        exact cell_iff.2 ⟨r, parts_mem hq hr, k⟩
    have hrest : rest = [] := by
      cases rest with
      | nil => rfl
      | cons w rest =>
        have hw : w ∈ partsL l := by rw [hP]; exact List.mem_cons_of_mem _ (List.mem_cons_self ..)
        obtain ⟨g', t', e', kw⟩ := part_cell fl hw
        obtain ⟨s, hs, k2⟩ := cell_iff.1 kw
        have h1 := key g'.x0 g'.y0 (by rw [← cl]; exact cell_iff.2 ⟨s, parts_mem hw hs, k2⟩)
        obtain ⟨r, hr, k1⟩ := cell_iff.1 h1
        exact (sym_apart ((List.pairwise_cons.1 hsym.2).1 w (List.mem_cons_self ..) r hr s hs) k1 k2).elim
    subst hrest
    have hperm : q.Perm l := by
      have := pf.perm
      rw [hP] at this
      simpa using this
    obtain ⟨f2, c2⟩ := ofP fl hq
    have : ofL q = l := f2.ext fl fun u v => by rw [c2, cell_perm hperm]
    rw [List.map_cons, List.map_nil, this]

/-! ### They are apart, and in ascending order -/
theorem parts_apart2 (hf : Form x) : ((partsL x).map ofL).Pairwise fun l m => ∀ r ∈ l, ∀ s ∈ m, ¬ nearR r s := by
  rw [List.pairwise_map]
  refine (List.Pairwise.imp_of_mem ?_ (parts_apart hf))
  intro p q hp hq h r hr s hs hn
  obtain ⟨f1, c1⟩ := ofP hf hp
  obtain ⟨f2, c2⟩ := ofP hf hq
  obtain ⟨a, b, c, d, k1, k2, k3⟩ := cells_of_near (f1.pos r hr) (f2.pos s hs) hn
  exact h a b c d (by rw [← c1]; exact cell_iff.2 ⟨r, hr, k1⟩) (by rw [← c2]; exact cell_iff.2 ⟨s, hs, k2⟩) k3
theorem part_head (hf : Form x) {p : List Rect} (hp : p ∈ partsL x) {g h : Rect} {t u : List Rect} (e : ofL p = g :: t) (e2 : p = h :: u) : g.x0 = h.x0 ∧ g.y0 = h.y0 := by
  obtain ⟨f1, c1⟩ := ofP hf hp
  have hl := ((parts_pf x).least ordR hf.ord).1 p hp h u e2
  have hpp := parts_pos hf hp
  have ho := f1.ord
  have hpo := f1.pos
  rw [e] at ho hpo
  have k1 : cell (h :: u) g.x0 g.y0 = true := by rw [← e2, ← c1, e]; exact cell_iff.2 ⟨g, List.mem_cons_self .., corner_has (hpo g (List.mem_cons_self ..))⟩
  have k2 : cell (g :: t) h.x0 h.y0 = true := by rw [← e, c1, e2]; exact cell_iff.2 ⟨h, List.mem_cons_self .., corner_has (hpp h (by rw [e2]; exact List.mem_cons_self ..))⟩
  have q1 := least_cell (fun r hr => hpp r (by rw [e2]; exact hr)) hl k1
  have q2 := least_cell hpo (List.pairwise_cons.1 ho).1 k2
  omega
theorem parts_asc (hf : Form x) : ((partsL x).map ofL).Pairwise fun l m => ∀ g t g' t', l = g :: t → m = g' :: t' → ltC g.x0 g.y0 g'.x0 g'.y0 := by
  rw [List.pairwise_map]
  refine (List.Pairwise.imp_of_mem ?_ ((parts_pf x).least ordR hf.ord).2)
  intro p q hp hq h g t g' t' e1 e2
  obtain ⟨a, u, ea, _⟩ := part_cell hf hp
  obtain ⟨b, w, eb, _⟩ := part_cell hf hq
  have h1 := part_head hf hp e1 ea
  have h2 := part_head hf hq e2 eb
  have h3 := ord_lt (parts_pos hf hp a (by rw [ea]; exact List.mem_cons_self ..)) (h a u ea b (by rw [eb]; exact List.mem_cons_self ..))
  rw [h1.1, h1.2, h2.1, h2.2]
  exact h3

/-! ### All together -/
theorem nodup_sub {α : Type} [DecidableEq α] : ∀ {l m : List α}, l.Pairwise (· ≠ ·) → (∀ a ∈ l, a ∈ m) → l.length ≤ m.length
  | [], _, _, _ => Nat.zero_le _
  | a :: l, m, h, hm => by
    obtain ⟨h1, h2⟩ := List.pairwise_cons.1 h
    have ha := hm a (List.mem_cons_self ..)
    have ih := nodup_sub (m := m.erase a) h2 fun b hb => (List.mem_erase_of_ne (h1 b hb).symm).2 (hm b (List.mem_cons_of_mem _ hb))
    rw [List.length_erase_of_mem ha] at ih
    have := List.length_pos_of_mem ha
    rw [List.length_cons]; omega
def corner (r : Rect) : Int × Int := (r.x0, r.y0)
theorem apart_of {p q : List Rect} {P : List (List Rect)} (h : P.Pairwise fun p q => apartC (cell p) (cell q)) (hp : p ∈ P) (hq : q ∈ P) (hne : p ≠ q) : apartC (cell p) (cell q) := by
  induction P with
  | nil => exact absurd hp List.not_mem_nil
  | cons w P ih =>
    obtain ⟨h1, h2⟩ := List.pairwise_cons.1 h
    rcases List.mem_cons.1 hp with e1 | hp'
    · rcases List.mem_cons.1 hq with e2 | hq'
      · exact absurd (e1.trans e2.symm) hne
      · rw [e1]; exact h1 q hq'
    · rcases List.mem_cons.1 hq with e2 | hq'
      · rw [e2]; exact fun a b c d k1 k2 k3 => h1 p hp' c d a b k2 k1 (nearC_symm k3)
      · exact ih h2 hp' hq'
theorem part_full (hf : Form x) {p : List Rect} (hp : p ∈ partsL x) {a b c d : Int} (h : cell p a b = true) (hc : cell x c d = true) (hn : nearC a b c d) : cell p c d = true := by
  obtain ⟨s, hs, k⟩ := cell_iff.1 hc
  obtain ⟨q, hq, hsq⟩ := List.mem_flatten.1 ((parts_pf x).perm.mem_iff.2 hs)
  by_cases e : p = q
  · subst e; exact cell_iff.2 ⟨s, hsq, k⟩
  · exact absurd hn (apart_of (parts_apart hf) hp hq e a b c d h (cell_iff.2 ⟨s, hsq, k⟩))
theorem part_in {p : List Rect} (hp : p ∈ partsL x) {a b : Int} (h : cell p a b = true) : cell x a b = true := by
  obtain ⟨s, hs, k⟩ := cell_iff.1 h
  exact cell_iff.2 ⟨s, parts_mem hp hs, k⟩
theorem start_in (hf : Form x) {p : List Rect} (hp : p ∈ partsL x) {a b : Int} (h : start (cell p) a b) : start (cell x) a b := by
  obtain ⟨h1, h2, z, h3⟩ := h
  refine ⟨part_in hp h1, ?_, z, fun e => ?_⟩
  · cases q : cell x a (b - 1)
    · rfl
    · have := part_full hf hp h1 q (by unfold nearC; omega)
      rw [h2] at this; cases this
  · cases q1 : cell p a z
    · cases q2 : cell p (a - 1) z
      · rw [q1, q2] at h3; exact h3 rfl
      · have k1 := part_in hp q2
        have := part_full hf hp q2 (c := a) (d := z) (by rw [e]; exact k1) (by unfold nearC; omega)
        rw [q1] at this; cases this
    · cases q2 : cell p (a - 1) z
      · have k1 := part_in hp q1
        have := part_full hf hp q1 (c := a - 1) (d := z) (by rw [← e]; exact k1) (by unfold nearC; omega)
        rw [q2] at this; cases this
      · rw [q1, q2] at h3; exact h3 rfl
theorem parts_len (hf : Form x) : ((partsL x).map ofL).flatten.length ≤ x.length := by
  have key := nodup_sub (l := ((partsL x).map ofL).flatten.map corner) (m := x.map corner) ?_ ?_
  · rwa [List.length_map, List.length_map] at key
  · rw [List.pairwise_map, List.pairwise_flatten]
    refine ⟨fun l hl => ?_, ?_⟩
    · obtain ⟨p, hp, rfl⟩ := List.mem_map.1 hl
      obtain ⟨f1, _⟩ := ofP hf hp
      refine List.Pairwise.imp_of_mem ?_ f1.ord
      intro r s hr hs h e
      have := ord_lt (f1.pos r hr) h
      unfold corner at e
      injection e with e1 e2
      unfold ltC at this
      omega
    · rw [List.pairwise_map]
      refine List.Pairwise.imp_of_mem ?_ (parts_apart hf)
      intro p q hp hq h r hr s hs e
      obtain ⟨f1, c1⟩ := ofP hf hp
      obtain ⟨f2, c2⟩ := ofP hf hq
      unfold corner at e
      injection e with e1 e2
      refine h r.x0 r.y0 s.x0 s.y0 ?_ ?_ (by unfold nearC; omega)
      · rw [← c1]; exact cell_iff.2 ⟨r, hr, corner_has (f1.pos r hr)⟩
      · rw [← c2]; exact cell_iff.2 ⟨s, hs, corner_has (f2.pos s hs)⟩
  · intro a ha
    obtain ⟨r, hr, rfl⟩ := List.mem_map.1 ha
    obtain ⟨l, hl, hrl⟩ := List.mem_flatten.1 hr
    obtain ⟨p, hp, rfl⟩ := List.mem_map.1 hl
    obtain ⟨f1, c1⟩ := ofP hf hp
    have h1 := f1.start.1 r hrl
    have e : cell (ofL p) = cell p := funext fun u => funext fun v => c1 u v
    rw [e] at h1
    obtain ⟨s, hs, k1, k2⟩ := hf.start.2 r.x0 r.y0 (start_in hf hp h1)
    exact List.mem_map.2 ⟨s, hs, by unfold corner; rw [k1, k2]⟩
theorem cell_flat : ∀ (P : List (List Rect)) (u v : Int), cell P.flatten u v = P.any fun p => cell p u v
  | [], _, _ => rfl
  | p :: P, u, v => by rw [List.flatten_cons, cell_append, cell_flat P, List.any_cons]
theorem parts_cells (hf : Form x) (u v : Int) : cell ((partsL x).map ofL).flatten u v = cell x u v := by
  rw [← cell_perm (parts_pf x).perm, cell_flat, cell_flat, List.any_map]
  exact any_ext fun p hp => (ofP hf hp).2 u v
theorem parts_whole (hf : Form x) : ofL ((partsL x).map ofL).flatten = x := by
  have hy : ∀ r ∈ ((partsL x).map ofL).flatten, r.y0 < r.y1 := fun r hr => by
    obtain ⟨l, hl, hrl⟩ := List.mem_flatten.1 hr
    obtain ⟨p, hp, rfl⟩ := List.mem_map.1 hl
    exact ((ofP hf hp).1.pos r hrl).2
  obtain ⟨f, c⟩ := ofL_ok hy
  exact f.ext hf fun u v => by rw [c, parts_cells hf]

/-! ### Their areas -/
def sumA : List (List Rect) → Int
  | [] => 0
  | l :: Q => areaL l + sumA Q
theorem cnt_parts {n : Nat} : ∀ {P : List (List Rect)}, P.Pairwise (fun p q => apartC (cell p) (cell q)) → (∀ p ∈ P, areaL (ofL p) = cnt n (cell p)) → sumA (P.map ofL) = cnt n (cell P.flatten)
  | [], _, _ => (cnt_none (n := n)).symm
  | p :: P, h, ha => by
    obtain ⟨h1, h2⟩ := List.pairwise_cons.1 h
    have ih := cnt_parts h2 fun q hq => ha q (List.mem_cons_of_mem _ hq)
    show areaL (ofL p) + sumA (P.map ofL) = _
    rw [ha p (List.mem_cons_self ..), ih]
    have k := cnt_add (n := n) (S := cell p) (T := cell P.flatten) (U := cell (p :: P).flatten) (V := fun _ _ => false) fun u v => by
      rw [List.flatten_cons, cell_append]
      cases q1 : cell p u v
      · cases cell P.flatten u v <;> rfl
      · cases q2 : cell P.flatten u v
        · rfl
        · rw [cell_flat, List.any_eq_true] at q2
          obtain ⟨q, hq, k⟩ := q2
          exact absurd (by unfold nearC; omega) (h1 q hq u v u v q1 k)
    rw [k, cnt_none]
    omega
theorem parts_area (hf : Form x) {n : Nat} (hb : ∀ r ∈ x, r.inBox n) : sumA ((partsL x).map ofL) = areaL x := by
  rw [cnt_parts (n := n) (parts_apart hf) fun p hp => ?_, area_form hf hb]
  · exact cnt_congr fun u v => cell_perm (parts_pf x).perm u v
  · obtain ⟨f, c⟩ := ofP hf hp
    rw [area_form f (f.box fun u v h => cell_box hb (part_in hp (by rw [← c]; exact h)))]
    exact cnt_congr c
end Go.Proofs.Yteaoeebakmdcnaa.Rg

namespace Go.Proofs.Yteaoeebakmdcnaa.Bm
open Go Go.RowKit
open Rg (Rect areaL nearR gapX gapY)

set_option maxHeartbeats 1000000 in
theorem apart_true (x y : Bool) (a b : List Rect) (ha : a.length ≤ 1000000) (hb : b.length ≤ 1000000) (oa : ∀ r ∈ a, r.inBox 1048576) (ob : ∀ r ∈ b, r.inBox 1048576) (h : ∀ r ∈ a, ∀ s ∈ b, ¬ nearR r s) :
    pureCall E.P (L E) 10 [lst x (rectR.vals a), lst y (rectR.vals b)] = some (.bool true) := by
  rw [pureCall_fn F10 rfl]
  simp -implicitDefEqProofs [r10, p10]
  rw [LL_for (γ := Unit) a () (fun i _ => [(5, .int .i64 i)]) (fun _ _ => []) (fun _ _ _ => (.exit 0, [(5, undef)], [])) (fun _ _ => True) (by omega) trivial]
  · simp -implicitDefEqProofs [k10_2]
  · simp -implicitDefEqProofs [k10_2]
  · rfl
  · intro nx i c hi _
    simp -implicitDefEqProofs [r10_2, k10_2, hi, len_l, Rec.vals_len, trim_le]
  · intro nx i r rest c hi hv hd hw _ ih
    have ih := ih () trivial
    have hi' : (i : Int) < (a.length : Int) := by omega
    have ixi := Rec.index_tree (R := rectR) (x := x) (t := 32) (h0 := 4) (k := .i64) rfl hi
    rw [hv, rect_val] at ixi
    have hr := oa r (by rw [← hv]; exact List.getElem_mem hi)
    have hn := h r (by rw [← hv]; exact List.getElem_mem hi)
    simp -implicitDefEqProofs [k10_2] at ih
    simp -implicitDefEqProofs [r10_2, k10_2, hi', len_l, Rec.vals_len, -List.getElem?_map]
    rw [LL_for (γ := Unit) b () (fun i _ => [(6, .int .i64 i)]) (fun _ _ => []) (fun _ _ _ => (.exit 2, [(6, undef)], [])) (fun _ _ => True) (by omega) trivial]
    · simp -implicitDefEqProofs [k10_5, hw, trim_le]
      exact ih
    · simp -implicitDefEqProofs [k10_5]
    · rfl
    · intro nx k c hk _
      simp -implicitDefEqProofs [r10_5, k10_5, hk, len_l, Rec.vals_len, trim_le]
    · intro nx k s rest2 c hk hv2 hd2 hw2 _ ih2
      have ih2 := ih2 () trivial
      have hk' : (k : Int) < (b.length : Int) := by omega
      have ixk := Rec.index_tree (R := rectR) (x := y) (t := 32) (h0 := 4) (k := .i64) rfl hk
      rw [hv2, rect_val] at ixk
      have hs := ob s (by rw [← hv2]; exact List.getElem_mem hk)
      have hn := hn s (by rw [← hv2]; exact List.getElem_mem hk)
      unfold Rect.inBox at hr hs
      unfold nearR gapX gapY at hn
      have wx : IntKind.i64.wrap (min r.x1 s.x1 - max r.x0 s.x0) = min r.x1 s.x1 - max r.x0 s.x0 := wrap64 (by omega) (by omega)
      have wy : IntKind.i64.wrap (min r.y1 s.y1 - max r.y0 s.y0) = min r.y1 s.y1 - max r.y0 s.y0 := wrap64 (by omega) (by omega)
      generalize hX : min r.x1 s.x1 - max r.x0 s.x0 = X at *
      generalize hY : min r.y1 s.y1 - max r.y0 s.y0 = Y at *
      simp -implicitDefEqProofs [k10_5] at ih2
      by_cases h1 : 0 < X
      · have h2 : ¬ (0 ≤ Y) := by omega
        have h3 : 0 ≤ X := by omega
        have h4 : ¬ (0 < Y) := by omega
        simp -implicitDefEqProofs [r10_5, k10_5, hk', len_l, Rec.vals_len, ixi, ixk, min_int6, max_int, hX, hY, wx, wy, h1, h2, h3, h4, hw2, trim_le]
        exact ih2
      · by_cases h3 : 0 ≤ X
        · have h4 : ¬ (0 < Y) := by omega
          simp -implicitDefEqProofs [r10_5, k10_5, hk', len_l, Rec.vals_len, ixi, ixk, min_int6, max_int, hX, hY, wx, wy, h1, h3, h4, hw2, trim_le]
          exact ih2
        · simp -implicitDefEqProofs [r10_5, k10_5, hk', len_l, Rec.vals_len, ixi, ixk, min_int6, max_int, hX, hY, wx, wy, h1, h3, hw2, trim_le]
          exact ih2
end Go.Proofs.Yteaoeebakmdcnaa.Bm

namespace Go.Proofs.Yteaoeebakmdcnaa.Bm
open Go Go.RowKit
open Rg (Rect areaL cell ofL partsL nearR sumA ltC)

theorem area_r2 {a : List Rect} (h : regB a = true) (hl : a.length ≤ 200) : pureCall E.P (L E) 11 [lst false (rectR.vals a)] = some (.int .i64 (areaL a)) := by
  rw [area_l false a (by omega), h]; rfl
theorem areaL_le : ∀ {l : List Rect}, (∀ r ∈ l, r.inBox 1048576) → 0 ≤ areaL l ∧ areaL l ≤ l.length * 1099511627776
  | [], _ => by simp [areaL]
  | r :: l, h => by
    have h1 := area_bound (okR_iff.2 (h r (by simp)))
    have h2 := areaL_le (l := l) fun s hs => h s (by simp [hs])
    show 0 ≤ r.area + areaL l ∧ r.area + areaL l ≤ ((l.length + 1 : Nat) : Int) * 1099511627776
    omega
theorem sumA_le : ∀ {Q : List (List Rect)}, (∀ l ∈ Q, ∀ r ∈ l, r.inBox 1048576) → 0 ≤ sumA Q ∧ sumA Q ≤ Q.flatten.length * 1099511627776
  | [], _ => by simp [sumA]
  | l :: Q, h => by
    have h1 := areaL_le (h l (by simp))
    have h2 := sumA_le (Q := Q) fun m hm => h m (by simp [hm])
    show 0 ≤ areaL l + sumA Q ∧ areaL l + sumA Q ≤ (l :: Q).flatten.length * 1099511627776
    rw [List.flatten_cons, List.length_append]
    omega
theorem sumA_app : ∀ (P Q : List (List Rect)), sumA (P ++ Q) = sumA P + sumA Q
  | [], Q => by simp [sumA]
  | l :: P, Q => by
    show areaL l + sumA (P ++ Q) = areaL l + sumA P + sumA Q
    rw [sumA_app P Q]; omega
theorem part_index {Q : List (List Rect)} {i : Nat} (hi : i < Q.length) : indexAddrT (.sl 22 ⟨some false, some 1⟩) (lst false (partV Q)) (.int .i64 (i : Int)) = some (cptr (lst false (rectR.vals Q[i]))) := by
  have hl : i < (partV Q).length := by unfold partV; rw [List.length_map]; exact hi
  have e : (partV Q)[i] = lst false (rectR.vals Q[i]) := List.getElem_map _
  rw [index_lst, if_pos (by omega), Int.toNat_natCast, List.getElem?_eq_getElem hl, e, Option.bind_some]
  rfl
theorem parts_nil0 : pureCall E.P (L E) 7 [.slice none 0 0] = some (lst false []) := pureCall_le (evF_L 30) (by kernel_rfl)
/-- What is known of the parts of a region. -/
structure QF (x : List Rect) (Q : List (List Rect)) : Prop where
  reg : ∀ l ∈ Q, regB l = true ∧ l ≠ [] ∧ l.length ≤ 200 ∧ ∀ r ∈ l, r.inBox 1048576
  one : ∀ l ∈ Q, (partsL l).map ofL = [l]
  far : Q.Pairwise fun l m => ∀ r ∈ l, ∀ s ∈ m, ¬ nearR r s
  asc : Q.Pairwise fun l m => ∀ g t g' t', l = g :: t → m = g' :: t' → ltC g.x0 g.y0 g'.x0 g'.y0
  len : Q.flatten.length ≤ 200
  whole : ofR Q.flatten = .ok x
  area : sumA Q = areaL x
theorem qf_of {x : List Rect} {S : Int → Int → Bool} (h : Reg x S) : QF x ((partsL x).map ofL) := by
  have hlen := Rg.parts_len h.form
  have hx := h.len
  have hbox : ∀ l ∈ (partsL x).map ofL, ∀ r ∈ l, r.inBox 1048576 := fun l hl => by
    obtain ⟨p, hp, rfl⟩ := List.mem_map.1 hl
    obtain ⟨f, c⟩ := Rg.ofP h.form hp
    exact f.box fun u v k => Rg.cell_box h.ok (Rg.part_in hp (by rw [← c]; exact k))
  have hll : ∀ l ∈ (partsL x).map ofL, l.length ≤ 200 := fun l hl => by
    have := (List.sublist_flatten_of_mem hl).length_le
    omega
  refine ⟨fun l hl => ?_, fun l hl => ?_, Rg.parts_apart2 h.form, Rg.parts_asc h.form, by omega, ?_, Rg.parts_area (n := 1048576) h.form h.ok⟩
  · obtain ⟨p, hp, rfl⟩ := List.mem_map.1 hl
    obtain ⟨f, c⟩ := Rg.ofP h.form hp
    exact ⟨regB_iff.2 ⟨box_ok (hbox _ hl) (Int.le_refl _), hll _ hl, f⟩, Rg.of_ne h.form hp, hll _ hl, hbox _ hl⟩
  · obtain ⟨p, hp, rfl⟩ := List.mem_map.1 hl
    exact Rg.part_one h.form hp
  · unfold ofR
    have e1 : ((partsL x).map ofL).flatten.all okR = true := List.all_eq_true.2 fun r hr => by
      obtain ⟨l, hl, hrl⟩ := List.mem_flatten.1 hr
      exact okR_iff.2 (hbox l hl r hrl)
    rw [if_pos e1, if_neg (by omega), Rg.parts_whole h.form, if_pos hx]
set_option maxHeartbeats 4000000 in
theorem parts_law (a : List Rect) (h0 : a ≠ []) : ∃ h', L E 3 [lst false (rectR.vals a)] [] 0 = some (.bool true, h') := by
  have sm := small_spec
  rw [L_fn F3 rfl]
  by_cases h1 : 12 < a.length
  · have h1' : 12 < (a.length : Int) := by omega
    exact ⟨[], by simp -implicitDefEqProofs [r3, p3, ret0 m5, sm, len_l, Rec.vals_len, h1']⟩
  have h1' : ¬ (12 < (a.length : Int)) := by omega
  have la := of_l false a (by omega)
  cases oa : a.all okR
  · rw [of_bad oa] at la
    simp only [resL] at la
    have pn := parts_nil0
    have sn : settled depth (.slice none 0 0) = true := rfl
    refine ⟨[], ?_⟩
    simp -implicitDefEqProofs [r3, p3, ret0 m5, sm, len_l, Rec.vals_len, h1', ret4 m6, frzL, la, ret1 m7, sn, pn]
  obtain ⟨x, ex, rx⟩ := of_reg oa (by omega)
  rw [ex] at la
  simp only [resL] at la
  have lx := rx.len
  have x0 : x ≠ [] := fun e => by
    obtain ⟨r, t, rfl⟩ : ∃ r t, a = r :: t := by
      cases a with
      | nil => exact absurd rfl h0
      | cons r t => exact ⟨r, t, rfl⟩
    have hr := okR_iff.1 (List.all_eq_true.1 oa r (List.mem_cons_self ..))
    unfold Rect.inBox at hr
    have := rx.cell r.x0 r.y0
    rw [e, Rg.cell_iff.2 ⟨r, List.mem_cons_self .., Rg.corner_has ⟨hr.2.1, hr.2.2.2.2.1⟩⟩] at this
    cases this
  have px := parts_l false x (by omega) x0 rx.right
  obtain ⟨q1, q2, q3, q4, q5, q6, q7⟩ := qf_of rx
  generalize hQ : (partsL x).map ofL = Q at *
  have smx : pureCall E.P (L E) 9 [lst false (rectR.vals x), lst false (rectR.vals x)] = some (.bool true) := by
    rw [same_l false false x x (by omega), decide_eq_true rfl]
  have ax := area_r2 rx.right lx
  have lw := of_l false Q.flatten (by omega)
  rw [q6] at lw
  simp only [resL] at lw
  obtain ⟨h2, fz⟩ : ∃ h2, frzAll E.P 0 [rectR.sl 0 Q.flatten] [rectR.row 32 Q.flatten] = some ([lst false (rectR.vals Q.flatten)], h2) := ⟨_, frzAll_row (Rec.freeze_row rfl sR4 aR4 (Nat.zero_le _))⟩
  refine ⟨h2, ?_⟩
  have hQl : Q.length ≤ 1000000 := by
    have : Q.length ≤ Q.flatten.length := by
      have : ∀ P : List (List Rect), (∀ l ∈ P, l ≠ []) → P.length ≤ P.flatten.length := fun P => by
        induction P with
        | nil => exact fun _ => Nat.le_refl _
        | cons l P ih =>
          intro h
          have h1 := List.length_pos_iff.2 (h l (List.mem_cons_self ..))
          have h2 := ih fun m hm => h m (List.mem_cons_of_mem _ hm)
          rw [List.flatten_cons, List.length_append, List.length_cons]; omega
      exact this Q fun l hl => (q1 l hl).2.1
    omega
  simp -implicitDefEqProofs [r3, p3, ret0 m5, sm, len_l, Rec.vals_len, h1', ret4 m6, frzL, la, ret1 m7, set_l, px, prep_new, newK_nil sR4]
  rw [LL_for (γ := List Rect × Int) Q ([], 0) (fun i c => [(7, rectR.sl 0 c.1), (8, .int .i64 c.2), (9, .int .i64 i)]) (fun _ c => [rectR.row 32 c.1])
    (fun _ rest c => (.exit 0, [(7, rectR.sl 0 (c.1 ++ rest.flatten)), (8, .int .i64 (c.2 + sumA rest)), (9, undef)], [rectR.row 32 (c.1 ++ rest.flatten)])) (fun i c => c.1 = (Q.take i).flatten ∧ c.2 = sumA (Q.take i)) (by omega) ⟨rfl, rfl⟩]
  · rw [List.nil_append, Int.zero_add, q7]
    simp -implicitDefEqProofs [k3_11, ret4 m6, fz, lw, ret0 m9, rf_l, smx, ret0 m11, ax]
  · simp -implicitDefEqProofs [k3_11, Rec.sl_nil]
  · rfl
  · intro nx i c hi _
    simp -implicitDefEqProofs [r3_11, k3_11, hi, partV, trim_le, sumA]
  · intro nx i l rest c hi hv hd hw hinv ih
    obtain ⟨c1, c2⟩ := c
    obtain ⟨e1, e2⟩ := hinv
    simp only at e1 e2 ih ⊢
    have hmem : l ∈ Q := by rw [← hv]; exact List.getElem_mem hi
    obtain ⟨lr, ln, ll, lb⟩ := q1 l hmem
    obtain ⟨r0, t0, el⟩ : ∃ r t, l = r :: t := by
      cases l with
      | nil => exact absurd rfl ln
      | cons r t => exact ⟨r, t, rfl⟩
    have hi' : (i : Int) < (Q.length : Int) := by omega
    have hpl : (partV Q).length = Q.length := List.length_map _
    have ixi := part_index hi
    rw [hv] at ixi
    have hll : ¬ (l.length = 0) := fun e => ln (List.eq_nil_of_length_eq_zero e)
    have hll' : ¬ ((l.length : Int) = 0) := by omega
    have rl := right_l false l (by omega)
    rw [lr] at rl
    have pl := parts_l false l (by omega) ln lr
    rw [q2 l hmem] at pl
    have hp1 : (partV [l]).length = 1 := rfl
    have ixo : indexAddrT (.sl 22 ⟨some false, some 1⟩) (lst false (partV [l])) (.int .i64 0) = some (cptr (lst false (rectR.vals l))) := part_index (Q := [l]) (i := 0) Nat.zero_lt_one
    have sml : pureCall E.P (L E) 9 [lst false (rectR.vals l), lst false (rectR.vals l)] = some (.bool true) := by
      rw [same_l false false l l (by omega), decide_eq_true rfl]
    have al := area_r2 lr ll
    have lpos : 0 < l.length := by omega
    have ix0 : indexAddrT (.sl 32 ⟨some true, some 4⟩) (lst false (rectR.vals l)) (.int .i64 0) = some (cptr (.agg ⟨[.int .i64 r0.x0, .int .i64 r0.y0, .int .i64 r0.x1, .int .i64 r0.y1]⟩)) := by
      have := Rec.index_tree (R := rectR) (x := false) (t := 32) (h0 := 4) (k := .i64) (l := l) (i := 0) rfl lpos
      rw [← rect_val]
      have e : l[0] = r0 := by simp [el]
      rw [e] at this
      exact this
    have et : Q.take (i + 1) = Q.take i ++ [l] := by rw [← hv]; exact List.take_succ_eq_append_getElem hi
    have ef : Q.flatten = (Q.take i).flatten ++ (l ++ rest.flatten) := by
      rw [← List.flatten_cons, ← hd, ← List.flatten_append, List.take_append_drop]
    have sA := sumA_le (Q := Q.take i) fun m hm => (q1 m (List.mem_of_mem_take hm)).2.2.2
    have sL := areaL_le lb
    have hfl : (Q.take i).flatten.length + (l.length + rest.flatten.length) ≤ 200 := by
      have := q5
      rw [ef, List.length_append, List.length_append] at this
      exact this
    rw [← e1, ← e2] at sA
    rw [← e1] at hfl
    have ih := ih (c1 ++ l, c2 + areaL l) ⟨by show c1 ++ l = _; rw [et, List.flatten_append, ← e1, List.flatten_cons, List.flatten_nil, List.append_nil], by show c2 + areaL l = _; rw [et, sumA_app, ← e2]; show _ = c2 + (areaL l + 0); omega⟩
    have eR1 : c1 ++ (l :: rest).flatten = (c1 ++ l) ++ rest.flatten := by rw [List.flatten_cons, List.append_assoc]
    have eR2 : c2 + sumA (l :: rest) = c2 + areaL l + sumA rest := (Int.add_assoc _ _ _).symm
    rw [eR1, eR2]
    have ap := Rec.app (R := rectR) (el := ⟨32, 4, 32, .agg ⟨[.int .i64 0, .int .i64 0, .int .i64 0, .int .i64 0]⟩, ⟨some true, some 4⟩⟩) (h := [rectR.row 32 c1]) (lo := 0) (b := 0) (t := 32) (acc := c1) (m := l) (u := lst false (rectR.vals l)) rfl rfl (Rec.cells_tree rfl l) (Nat.zero_le _) (by show (c1.length + l.length) * 32 ≤ 2 ^ 47; omega)
    have wA : IntKind.i64.wrap (c2 + areaL l) = c2 + areaL l := wrap64 (by omega) (by omega)
    generalize hF : c1 ++ l ++ rest.flatten = F at *
    generalize hG : c2 + areaL l + sumA rest = G at *
    clear hF hG
    have far : ∀ (k : Nat) (hk : k < i), pureCall E.P (L E) 10 [lst false (rectR.vals l), lst false (rectR.vals (Q[k]'(by omega)))] = some (.bool true) := fun k hk => by
      have hkQ : k < Q.length := by omega
      have hm := q1 Q[k] (List.getElem_mem hkQ)
      refine apart_true false false l Q[k] (by omega) (by have := hm.2.2.1; omega) lb hm.2.2.2 fun r hr s hs hn => ?_
      refine List.pairwise_iff_getElem.1 q3 k i hkQ hi hk s hs r (by rw [hv]; exact hr) ?_
      unfold Rg.nearR Rg.gapX Rg.gapY at hn ⊢
      omega
    have hti : (Q.take i).length = i := by rw [List.length_take]; omega
    have tri : ¬ (0 < (i : Int)) ∨ ∃ (j : Nat) (g : List Rect) (g0 : Rect), 0 < (i : Int) ∧ IntKind.i64.wrap ((i : Int) - 1) = (j : Int) ∧ indexAddrT (.sl 22 ⟨some false, some 1⟩) (lst false (partV Q)) (.int .i64 (j : Int)) = some (cptr (lst false (rectR.vals g))) ∧
        indexAddrT (.sl 32 ⟨some true, some 4⟩) (lst false (rectR.vals g)) (.int .i64 0) = some (cptr (.agg ⟨[.int .i64 g0.x0, .int .i64 g0.y0, .int .i64 g0.x1, .int .i64 g0.y1]⟩)) ∧ ltC g0.x0 g0.y0 r0.x0 r0.y0 := by
      by_cases hi0 : 0 < i
      · have hjl : i - 1 < Q.length := by omega
        have hgm : Q[i - 1] ∈ Q := List.getElem_mem hjl
        have lt := List.pairwise_iff_getElem.1 q4 (i - 1) i hjl hi (by omega)
        rw [hv] at lt
        obtain ⟨g0, u0, eg⟩ : ∃ r t, Q[i - 1] = r :: t := by
          cases hg : Q[i - 1] with
          | nil => exact absurd hg (q1 _ hgm).2.1
          | cons r t => exact ⟨r, t, rfl⟩
        refine .inr ⟨i - 1, Q[i - 1], g0, by omega, (wrap64 (by omega) (by omega)).trans (by omega), part_index hjl, ?_, lt g0 u0 r0 t0 eg el⟩
        have h0 : 0 < (Q[i - 1]).length := by rw [eg]; exact Nat.zero_lt_succ _
        have := Rec.index_tree (R := rectR) (x := false) (t := 32) (h0 := 4) (k := .i64) (l := Q[i - 1]) (i := 0) rfl h0
        rw [← rect_val]
        have e : (Q[i - 1])[0] = g0 := by simp [eg]
        rw [e] at this
        exact this
      · exact .inl (by omega)
    have tri2 : ¬ (0 < (i : Int)) ∨ (∃ (j : Nat) (g : List Rect) (g0 : Rect), 0 < (i : Int) ∧ IntKind.i64.wrap ((i : Int) - 1) = (j : Int) ∧ indexAddrT (.sl 22 ⟨some false, some 1⟩) (lst false (partV Q)) (.int .i64 (j : Int)) = some (cptr (lst false (rectR.vals g))) ∧
        indexAddrT (.sl 32 ⟨some true, some 4⟩) (lst false (rectR.vals g)) (.int .i64 0) = some (cptr (.agg ⟨[.int .i64 g0.x0, .int .i64 g0.y0, .int .i64 g0.x1, .int .i64 g0.y1]⟩)) ∧ ¬ (r0.x0 < g0.x0) ∧ r0.x0 = g0.x0 ∧ ¬ (r0.y0 ≤ g0.y0)) ∨
        ∃ (j : Nat) (g : List Rect) (g0 : Rect), 0 < (i : Int) ∧ IntKind.i64.wrap ((i : Int) - 1) = (j : Int) ∧ indexAddrT (.sl 22 ⟨some false, some 1⟩) (lst false (partV Q)) (.int .i64 (j : Int)) = some (cptr (lst false (rectR.vals g))) ∧
        indexAddrT (.sl 32 ⟨some true, some 4⟩) (lst false (rectR.vals g)) (.int .i64 0) = some (cptr (.agg ⟨[.int .i64 g0.x0, .int .i64 g0.y0, .int .i64 g0.x1, .int .i64 g0.y1]⟩)) ∧ ¬ (r0.x0 < g0.x0) ∧ ¬ (r0.x0 = g0.x0) := by
      rcases tri with h | ⟨j, g, g0, k1, k2, k3, k4, k5⟩
      · exact .inl h
      · unfold Rg.ltC at k5
        by_cases e : r0.x0 = g0.x0
        · exact .inr (.inl ⟨j, g, g0, k1, k2, k3, k4, by omega, e, by omega⟩)
        · exact .inr (.inr ⟨j, g, g0, k1, k2, k3, k4, by omega, e⟩)
    clear tri
    rcases tri2 with hz | ⟨j, g, g0, hz, wj, ixj, ixg, cA, cE, cB⟩ | ⟨j, g, g0, hz, wj, ixj, ixg, cA, cE⟩
    case' inl =>
      have hzN : ¬ (0 < i) := by omega
      simp -implicitDefEqProofs [r3_11, k3_11, len_l, hi', hpl, ixi, Rec.vals_len, hll, hll', ret0 m8, rf_l, rl, ret1 m7, set_l, pl, hp1, ixo, ret0 m9, sml, hz, hzN, -List.getElem?_map]
    case' inr.inl =>
      have hzN : 0 < i := by omega
      simp -implicitDefEqProofs [r3_11, k3_11, len_l, hi', hpl, ixi, Rec.vals_len, hll, hll', ret0 m8, rf_l, rl, ret1 m7, set_l, pl, hp1, ixo, ret0 m9, sml, hz, hzN, wj, ixj, ix0, ixg, cA, cE, cB, -List.getElem?_map]
    case' inr.inr =>
      have hzN : 0 < i := by omega
      simp -implicitDefEqProofs [r3_11, k3_11, len_l, hi', hpl, ixi, Rec.vals_len, hll, hll', ret0 m8, rf_l, rl, ret1 m7, set_l, pl, hp1, ixo, ret0 m9, sml, hz, hzN, wj, ixj, ix0, ixg, cA, cE, -List.getElem?_map]
    all_goals
      rw [LL_for (γ := Unit) (Q.take i) () (fun k _ => [(11, .int .i64 k)]) (fun _ _ => [rectR.row 32 c1]) (fun _ _ _ => (.exit 2, [(11, undef)], [rectR.row 32 c1])) (fun _ _ => True) (by omega) trivial]
      · simp -implicitDefEqProofs [k3_11] at ih
        simp -implicitDefEqProofs [k3_21, ixi, ap, ret0 m11, rf_l, al, wA, hw, trim_le]
        exact ih
      · simp -implicitDefEqProofs [k3_21]
      · rfl
      · intro nx k c hk _
        rw [hti] at hk
        subst hk
        simp -implicitDefEqProofs [r3_21, k3_21, trim_le]
      · intro nx k v rest2 c hk hv2 hd2 hw2 _ ih2
        have ih2 := ih2 () trivial
        have hki : k < i := by omega
        have hki' : (k : Int) < (i : Int) := by omega
        have hkQ : k < Q.length := by omega
        have ixk := part_index hkQ
        have fk := far k hki
        simp -implicitDefEqProofs [k3_21] at ih2
        simp -implicitDefEqProofs [r3_21, k3_21, hki, hki', ixi, ixk, ret0 m10, rf_l, fk, hw2, trim_le, -List.getElem?_map]
        exact ih2
end Go.Proofs.Yteaoeebakmdcnaa.Bm

namespace Go.Proofs.Yteaoeebakmdcnaa.Bm
open Go Go.RowKit
open Rg (Rect areaL)

noncomputable def E2 : Env := { E with prep := fun f r => if f = 17 then [] else E.prep f r }
theorem M2 (f : FuncId) : E2.mode f = E.mode f := rfl
theorem F2s : rfnOf E2 5 = some r5 := by kernel_rfl
theorem F2p : rfnOf E2 3 = some r3 := by kernel_rfl
set_option maxRecDepth 100000 in
theorem e2_parts : pureCall E2.P (L E2) 7 [lst true [rectR.val ⟨0, 0, 1, 1⟩, rectR.val ⟨1, 1, 2, 2⟩]] = some (lst false [lst false [rectR.val ⟨0, 0, 1, 1⟩], lst false [rectR.val ⟨1, 1, 2, 2⟩]]) := pureCall_le (evF_L 30) (by kernel_rfl)
set_option maxRecDepth 100000 in
theorem e2_of : pureCall E2.P (L E2) 6 [lst true (rectR.vals exA)] = some (.tuple ⟨[lst false (rectR.vals exW), .int .i64 0]⟩) := pureCall_le (evF_L 30) (by kernel_rfl)
set_option maxRecDepth 100000 in
theorem e2_minus : pureCall E2.P (L E2) 14 [lst true (rectR.vals [⟨0, 0, 3, 3⟩]), lst true (rectR.vals [⟨1, 1, 2, 2⟩])] = some (.tuple ⟨[lst false (rectR.vals exR), .int .i64 0]⟩) := pureCall_le (evF_L 30) (by kernel_rfl)
set_option maxRecDepth 100000 in
theorem e2_area : pureCall E2.P (L E2) 11 [lst true (rectR.vals exW)] = some (.int .i64 7) := pureCall_le (evF_L 30) (by kernel_rfl)
set_option maxRecDepth 100000 in
theorem e2_nil : pureCall E2.P (L E2) 8 [.slice none 0 0] = some (.bool true) := pureCall_le (evF_L 30) (by kernel_rfl)
set_option maxRecDepth 100000 in
theorem e2_bad : pureCall E2.P (L E2) 8 [lst true (rectR.vals [⟨3, 0, 3, 1⟩])] = some (.bool false) := pureCall_le (evF_L 30) (by kernel_rfl)
set_option maxRecDepth 100000 in
theorem e2_same1 : pureCall E2.P (L E2) 9 [lst false (rectR.vals exW), lst true (rectR.vals exW)] = some (.bool true) := pureCall_le (evF_L 30) (by kernel_rfl)
set_option maxRecDepth 100000 in
theorem e2_same2 : pureCall E2.P (L E2) 9 [lst false (rectR.vals exR), lst true (rectR.vals exR)] = some (.bool true) := pureCall_le (evF_L 30) (by kernel_rfl)
set_option maxRecDepth 100000 in
theorem e2_of0 (x : Bool) : pureCall E2.P (L E2) 6 [lst x []] = some (.tuple ⟨[.slice none 0 0, .int .i64 0]⟩) := pureCall_le (evF_L 30) (by cases x <;> kernel_rfl)
set_option maxRecDepth 100000 in
theorem e2_parts0 : pureCall E2.P (L E2) 7 [.slice none 0 0] = some (lst false []) := pureCall_le (evF_L 30) (by kernel_rfl)
set_option maxRecDepth 100000 in
theorem e2_same0 : pureCall E2.P (L E2) 9 [.slice none 0 0, .slice none 0 0] = some (.bool true) := pureCall_le (evF_L 30) (by kernel_rfl)
set_option maxRecDepth 100000 in
theorem e2_area0 : pureCall E2.P (L E2) 11 [.slice none 0 0] = some (.int .i64 0) := pureCall_le (evF_L 30) (by kernel_rfl)
theorem small2 : pureCall E2.P (L E2) 5 [] = some (.bool true) := by
  have a1 := fun h => lits2 h ⟨0, 0, 2, 2⟩ ⟨1, 1, 3, 3⟩
  have a2 := fun h => lits1 h ⟨0, 0, 3, 3⟩
  have a3 := fun h => lits1 h ⟨1, 1, 2, 2⟩
  have a4 := fun h => lits2 h ⟨0, 0, 1, 1⟩ ⟨1, 1, 2, 2⟩
  have a5 := fun h => lits3 h ⟨0, 0, 1, 2⟩ ⟨1, 0, 2, 3⟩ ⟨2, 1, 3, 3⟩
  have a6 := fun h => lits4 h ⟨0, 0, 1, 3⟩ ⟨1, 0, 2, 1⟩ ⟨1, 2, 2, 3⟩ ⟨2, 0, 3, 3⟩
  have a7 := fun h => lits1 h ⟨3, 0, 3, 1⟩
  simp only [elR, rect_val] at a1 a2 a3 a4 a5 a6 a7
  have c1 := e2_of
  have c2 := e2_minus
  have c3 := e2_parts
  have c4 := e2_area
  have c5 := e2_nil
  have c6 := e2_bad
  have c7 := e2_same1
  have c8 := e2_same2
  have fz : ∀ h, frzAll E2.P 0 [lst true (rectR.vals exA)] h = some ([lst true (rectR.vals exA)], h) := fun h => frzAll_row (frz_lst h true exA)
  simp only [exA, exW, exR, rect_val, Rec.o, decide_true] at c1 c2 c3 c4 c5 c6 c7 c8 fz
  have so : ∀ b l, settled depth (lst b (rectR.vals l)) = true := fun _ _ => rfl
  have so2 : settled depth (lst true [Value.agg ⟨[.int .i64 0, .int .i64 0, .int .i64 1, .int .i64 1]⟩, Value.agg ⟨[.int .i64 1, .int .i64 1, .int .i64 2, .int .i64 2]⟩]) = true := rfl
  have rl : ∀ h b l, reify E2.P 8 h (lst b (rectR.vals l)) = some (lst b (rectR.vals l)) := fun _ _ _ => rfl
  have vv : [Value.agg ⟨[.int .i64 0, .int .i64 0, .int .i64 1, .int .i64 1]⟩, Value.agg ⟨[.int .i64 1, .int .i64 1, .int .i64 2, .int .i64 2]⟩] = rectR.vals [⟨0, 0, 1, 1⟩, ⟨1, 1, 2, 2⟩] := rfl
  rw [vv] at c3
  rw [pureCall_fn (E := E2) F2s rfl]
  simp -implicitDefEqProofs [r5, p5, b4_all, a1, a2, a3, a4, a5, a6, a7, ret4 (M2 6), fz, c1, ret1 (M2 14), so, c2, ret1 (M2 7), c3, ret0 (M2 9), ret0 (M2 11), ret0 (M2 8), rl, c7, c8, c4, c5, c6]

end Go.Proofs.Yteaoeebakmdcnaa.Bm

namespace Go.Proofs.Yteaoeebakmdcnaa.Bm
open Go Go.RowKit
open Rg (Rect areaL)

theorem sR42 : szOf E2.P 32 = some 4 := sR4
theorem fr0 (h : Heap) : frzAll E2.P 0 [lst false []] h = some ([lst false []], h) := rfl
theorem parts_empty : ∃ h', L E2 3 [lst false []] [] 0 = some (.bool true, h') := by
  have sm := small2
  have c1 := e2_of0 false
  have c2 := e2_parts0
  have c3 := e2_same0
  have c4 := e2_area0
  have sn : settled depth (.slice none 0 0) = true := rfl
  have rn : ∀ h, reify E2.P 8 h (.slice none 0 0) = some (.slice none 0 0) := fun h => rfl
  have fz : ∃ h2, frzAll E2.P 0 [rectR.sl 0 []] [rectR.row 32 []] = some ([lst false []], h2) := ⟨_, frzAll_row (Rec.freeze_row (R := rectR) (l := []) rfl sR4 aR4 (Nat.zero_le _))⟩
  obtain ⟨h2, fz⟩ := fz
  rw [L_fn (E := E2) F2p rfl]
  refine ⟨h2, ?_⟩
  simp -implicitDefEqProofs [r3, p3, ret0 (M2 5), sm, ret4 (M2 6), fr0, c1, ret1 (M2 7), sn, c2, prep_new, newK_nil sR42]
  rw [LL_for (γ := Unit) ([] : List Unit) () (fun i _ => [(7, rectR.sl 0 []), (9, .int .i64 i)]) (fun _ _ => [rectR.row 32 []]) (fun _ _ _ => (.exit 0, [(7, rectR.sl 0 []), (9, undef)], [rectR.row 32 []])) (fun _ _ => True) (by decide) trivial]
  · simp -implicitDefEqProofs [k3_11, ret4 (M2 6), fz, c1, ret0 (M2 9), rn, c3, ret0 (M2 11), c4]
  · simp -implicitDefEqProofs [k3_11, Rec.sl_nil]
  · rfl
  · intro nx i c hi _
    simp -implicitDefEqProofs [r3_11, k3_11, hi, trim_le]
  · intro nx i r rest c hi
    exact absurd hi (Nat.not_lt_zero i)
theorem orcE2 : OrcSound E2 := by
  have key : ∀ g k, E2.orc g = some k → (∃ F N, k = inG F N ∧ SortCon E2.P g F N) ∨ ∃ q m F, k = inC q m F ∧ CellCon E2.P g q m F := fun g k h => by
    have h : E.orc g = some k := h
    rw [E_orc] at h
    by_cases h1 : g = 30
    · subst h1; simp only [if_true, Option.some.injEq] at h; exact .inl ⟨_, _, h.symm, conSort⟩
    · by_cases h2 : g = 31
      · subst h2; simp only [h1, if_false, if_true, Option.some.injEq] at h; exact .inl ⟨_, _, h.symm, conComp⟩
      · by_cases h3 : g = 41
        · subst h3; simp only [h1, h2, if_false, if_true, Option.some.injEq] at h; exact .inr ⟨_, _, _, h.symm, conSpan⟩
        · simp only [h1, h2, h3, if_false] at h; cases h
  refine ⟨fun g k hg args h lo r _ => ?_, fun g k hg args h lo v h' hr hlo B M w args' hs hv => ?_, fun g k hg args h lo v h' hr _ => ?_⟩
  · rcases key g k hg with ⟨F, N, _, hC⟩ | ⟨q, m, F, _, hC⟩
    · exact hC.dfd
    · exact hC.dfd
  · rcases key g k hg with ⟨F, N, rfl, hC⟩ | ⟨q, m, F, rfl, hC⟩
    · exact in_sound hC hr hlo args' hs hv
    · exact inC_sound hC hr hlo args' hs hv
  · rcases key g k hg with ⟨F, N, rfl, _⟩ | ⟨q, m, F, rfl, _⟩
    · exact inG_keep hr
    · exact inC_keep hr
end Go.Proofs.Yteaoeebakmdcnaa.Bm

namespace Go.Proofs.Yteaoeebakmdcnaa.Bm
open Go Go.RowKit Go.ChangeShapes Go.WideShapes
/-- A law without named variables: if the machine answers true on all trees, under one reading or another, the statement's contract holds. -/
theorem law_contract2 {H : Type} {enc : TypeId × Value → H} {P : Program} (hP : OkProg P) (hl : laidOutB P = true) (hm : mapsRowed P = true) {tl : List TypeId} (hL : closedT P tl = true)
    {f : FuncId} {fn : Func} {s : ChangeSpec} {apart fresh handsOn : Bool} (hts : ∀ t ∈ fn.params.toList, t ∈ tl ∧ P.readableRec t = true ∧ t < P.types.size) (hsv : s.vars = []) {tb : TypeId} (hres : fn.resultTypes = #[tb]) (htb : P.underlying tb = some .bool)
    (hspec : ∀ ds : List (DataW H), ds.length = fn.params.size → s.fn H ds = { results := [.lit (.bool true)], args := ds, vars := [] })
    (hlaw : ∀ tr : List Value, tr.length = fn.params.size → (∀ (j : Nat) t u, fn.params.toList[j]? = some t → tr[j]? = some u → ∃ n c, Wt P n t c ∧ u = elemV P t c) → ∃ E : Env, P = E.P ∧ OrcSound E ∧ (∀ g, E.glob g = none) ∧ ∃ h', L E f tr [] 0 = some (.bool true, h'))
    {W : World} {base : Nat} {args : Array Value} {ds gs : List (DataW H)} {before : List MemPlace}
    (hval : ∀ (j : Nat) t v, fn.params[j]? = some t → args[j]? = some v → Value.okWide P W .any base t v)
    (hW : DataW.Whole enc P fn.params.toList s.vars apart W args.toList ds gs before) :
    Calls P f args W fun e W' => ∃ v, e = .returned v ∧ s.post enc P fn apart fresh handsOn false W args v W' := by
  have hW' := hW
  obtain ⟨p, q, hA, hV, hpq, hfz, hnd⟩ := hW
  rw [hsv] at hV
  obtain ⟨rfl, rfl⟩ : gs = [] ∧ q = [] := by
    cases gs with
    | nil => exact ⟨rfl, hV⟩
    | cons => exact hV.elim
  rw [List.append_nil] at hpq
  subst hpq
  obtain ⟨tr, k1, k2, k3⟩ := tree_args (W := W) hl hm hL fn.params.toList args.toList ds before (fun t ht => (hts t ht).1) hA fun j t v ht hv => hval j t v (by simpa using ht) (by simpa using hv)
  obtain ⟨E, rfl, hO, hglob, h', hL'⟩ := hlaw tr (by simpa using k2) k3
  have hs0 : HSim E W.heap.size ⟨fun _ => none, cellsW W⟩ [] W :=
    ⟨(fun g v hg => (by rw [hglob] at hg; cases hg)), fun _ _ _ h => h, fun o l hl => (by cases hl), Nat.le_refl _, fun o l hl => (by cases hl), fun o l t c g hl => (by cases hl), fun o l es ck hl => (by cases hl), fun o₁ o₂ l₁ l₂ hl => (by cases hl)⟩
  refine ((L_sound hP hO).snd f tr [] 0 _ _ hL' (Nat.le_refl _) _ _ W args hs0 ⟨k1.1, fun i u u' hu hu' => TRel.toV (M := ⟨fun _ => none, cellsW W⟩) (k1.2 i u u' hu hu')⟩).mono ?_
  rintro e W' ⟨v', rfl, M2, q1, q2, q3⟩
  have hb : Below W.heap.size W W' := below_of_evo (by rintro b ⟨o, l, _, hl, _⟩; cases hl) q3
  obtain rfl := q1.bool
  have hlt : ∀ x ∈ before, x.block < W.heap.size := fun x hx => hW'.lt x hx
  have hdl : ds.length = fn.params.size := by
    have : ∀ (ts : List TypeId) (vs : List Value) (ds : List (DataW H)) (ps : List MemPlace), DataW.TrodAll enc E.P W 0 (fun _ => true) true ts vs ds ps → ds.length = ts.length := by
      intro ts
      induction ts with
      | nil => intro vs ds ps h; cases vs <;> cases ds <;> first | rfl | exact h.elim
      | cons t ts ih =>
        intro vs ds ps h
        obtain ⟨v, vs', d, ds', p, q, rfl, rfl, rfl, hd, hrest⟩ := trodAll_cons h
        simp [ih _ _ _ hrest]
    simpa using this _ _ _ _ hA
  have hsp := hspec ds hdl
  refine ⟨_, rfl, ds, [], before, [], before, [], hW', ?_, ?_, ?_, hb.frame _ |> World.keptBut_mono fun p hp => ⟨hp, .inr (.inl hp)⟩, fun h => by cases h⟩
  · rw [List.append_nil, hsp, hres]
    exact ⟨[], [], shut_bool htb true, rfl, rfl⟩
  · rw [List.append_nil, hsp]
    exact trodAll_below hl hb _ _ _ _ (fun t ht => (hts t ht).2) hA hlt
  · rw [List.append_nil, hsp, hsv]
    rfl

end Go.Proofs.Yteaoeebakmdcnaa.Bm
