/-
 Chapter 18: the laws' arguments as data, and what is known of other functions. Conditions: none.
-/
import Derived.Test.YtcclbpcifohhkaaGreatQT24
import Derived.Test.YtcclbpcifohhkaaGreatQT16
import Derived.Test.YtcclbpcifohhkaaGreatChecked
import Derived.Shelf.Sort.Plain
import Derived.Shelf.Slices.In.SortNone
import Derived.Shelf.Slices.CompactI
import Derived.Shelf.SlSortCmp.WholeK
import Derived.Shelf.SlSortCmp.NoneTotal
import Derived.Test.YtcclbpcifohhkaaGreatRows
namespace Go.Proofs.YtcclbpcifohhkaaGreat.Rg
structure Zn where
 nm : ByteArray
 ov : Bool
 cs : List Pt
def gtO (n : Int) : Option (Nat × Int) → Bool
 | none => true
 | some (_, m) => decide (m < n)
def bestW : Nat → Option (Nat × Int) → List (Zn × Int) → Option (Nat × Int)
 | _, o, [] => o
 | i, o, (z, n) :: W => bestW (i + 1) (if !z.ov && decide (0 < n) && gtO n o then some (i, n) else o) W
def isO (o : Option (Nat × Int)) (i : Nat) : Bool := match o with
 | none => false
 | some (b, _) => decide (i = b)
def namesF (o : Option (Nat × Int)) : Nat → List (Zn × Int) → List ByteArray
 | _, [] => []
 | i, (z, n) :: W => (if isO o i || (z.ov && decide (0 < n)) then [z.nm] else []) ++ namesF o (i + 1) W
def noBet (n : Int) (i : Nat) : Nat → List (Zn × Int) → Bool
 | _, [] => true
 | k, (z, m) :: W => (z.ov || !(decide (n < m) || (decide (m = n) && decide (k < i)))) && noBet n i (k + 1) W
theorem noBet_iff (n : Int) (i : Nat) : ∀ (W : List (Zn × Int)) (k : Nat), noBet n i k W = true ↔ ∀ j (h : j < W.length), W[j].1.ov = true ∨ ¬ (n < W[j].2 ∨ (W[j].2 = n ∧ k + j < i))
 | [], k => ⟨fun _ j h => absurd h (Nat.not_lt_zero j), fun _ => rfl⟩
 | (z, m) :: W, k => by
  have ih := noBet_iff n i W (k + 1)
  show ((z.ov || !(decide (n < m) || (decide (m = n) && decide (k < i)))) && noBet n i (k + 1) W) = true ↔ _
  rw [Bool.and_eq_true, ih]
  have e0 : (z.ov || !(decide (n < m) || (decide (m = n) && decide (k < i)))) = true ↔ (z.ov = true ∨ ¬ (n < m ∨ (m = n ∧ k < i))) := by
   cases z.ov
   ·rw [Bool.false_or, Bool.not_eq_true', Bool.or_eq_false_iff, decide_eq_false_iff_not, Bool.and_eq_false_iff, decide_eq_false_iff_not, decide_eq_false_iff_not]
    constructor
    ·intro h; exact .inr (by omega)
    ·intro h
     have h := h.resolve_left Bool.false_ne_true
     omega
   ·exact ⟨fun _ => .inl rfl, fun _ => rfl⟩
  rw [e0]
  constructor
  ·rintro ⟨h0, h1⟩ j h
   cases j with
   | zero => exact h0
   | succ j =>
    have := h1 j (by simpa using h)
    simp only [List.getElem_cons_succ]
    rw [show k + (j + 1) = k + 1 + j by omega]
    exact this
  ·intro h
   refine ⟨h 0 (Nat.zero_lt_succ _), fun j hj => ?_⟩
   have := h (j + 1) (by simpa using hj)
   simp only [List.getElem_cons_succ] at this
   rw [show k + (j + 1) = k + 1 + j by omega] at this
   exact this
def BestI (W : List (Zn × Int)) (i : Nat) : Option (Nat × Int) → Prop
 | none => ∀ k (h : k < W.length), k < i → W[k].1.ov = true ∨ W[k].2 ≤ 0
 | some (b, m) => ∃ h : b < W.length, b < i ∧ W[b].1.ov = false ∧ W[b].2 = m ∧ 0 < m ∧ ∀ k (h : k < W.length), k < i → W[k].1.ov = true ∨ (W[k].2 ≤ m ∧ (k < b → W[k].2 < m))
theorem bestI_step {W : List (Zn × Int)} {i : Nat} (hi : i < W.length) {o : Option (Nat × Int)} (h : BestI W i o) : BestI W (i + 1) (if !W[i].1.ov && decide (0 < W[i].2) && gtO W[i].2 o then some (i, W[i].2) else o) := by
 cases hc : (!W[i].1.ov && decide (0 < W[i].2) && gtO W[i].2 o)
 ·rw [if_neg (by decide)]
  cases o with
  | none =>
   intro k hk hki
   by_cases e : k = i
   ·subst e
    cases hov : W[k].1.ov
    ·rw [hov] at hc
     by_cases q : 0 < W[k].2
     ·rw [decide_eq_true q] at hc; exact absurd hc (by simp [gtO])
     ·exact .inr (by omega)
    ·exact .inl rfl
   ·exact h k hk (by omega)
  | some bm =>
   obtain ⟨b, m⟩ := bm
   obtain ⟨h0, h1, h2, h3, h4, h5⟩ := h
   refine ⟨h0, by omega, h2, h3, h4, fun k hk hki => ?_⟩
   by_cases e : k = i
   ·subst e
    cases hov : W[k].1.ov
    ·rw [hov] at hc
     by_cases q : 0 < W[k].2
     ·rw [decide_eq_true q] at hc
      have : ¬ (m < W[k].2) := fun w => by
       have hg : gtO W[k].2 (some (b, m)) = true := decide_eq_true w
       rw [hg] at hc; exact absurd hc (by decide)
      exact .inr ⟨by omega, fun hkb => absurd hkb (by omega)⟩
     ·exact .inr ⟨by omega, fun hkb => absurd hkb (by omega)⟩
    ·exact .inl rfl
   ·exact h5 k hk (by omega)
 ·rw [if_pos rfl]
  rw [Bool.and_eq_true, Bool.and_eq_true, Bool.not_eq_true', decide_eq_true_eq] at hc
  obtain ⟨⟨c1, c2⟩, c3⟩ := hc
  refine ⟨hi, by omega, c1, rfl, c2, fun k hk hki => ?_⟩
  by_cases e : k = i
  ·subst e
   exact .inr ⟨Int.le_refl _, fun q => absurd q (Nat.lt_irrefl _)⟩
  ·cases o with
   | none =>
    rcases h k hk (by omega) with q | q
    ·exact .inl q
    ·exact .inr ⟨by omega, fun _ => by omega⟩
   | some bm =>
    obtain ⟨b, m⟩ := bm
    obtain ⟨h0, h1, h2, h3, h4, h5⟩ := h
    have c3 : m < W[i].2 := of_decide_eq_true c3
    rcases h5 k hk (by omega) with q | ⟨q, _⟩
    ·exact .inl q
    ·exact .inr ⟨by omega, fun _ => by omega⟩
theorem bestW_ok {W : List (Zn × Int)} : ∀ (d i : Nat) (o : Option (Nat × Int)), W.length - i = d → i ≤ W.length → BestI W i o → BestI W W.length (bestW i o (W.drop i))
 | 0, i, o, hd, hi, h => by
  have e : i = W.length := by omega
  subst e
  rw [List.drop_length]; exact h
 | d + 1, i, o, hd, hi, h => by
  have hl : i < W.length := by omega
  rw [List.drop_eq_getElem_cons hl]
  exact bestW_ok d (i + 1) _ (by omega) (by omega) (bestI_step hl h)
theorem bestI_zero (W : List (Zn × Int)) : BestI W 0 none := fun k _ hk => absurd hk (Nat.not_lt_zero k)
theorem best_ok (W : List (Zn × Int)) : BestI W W.length (bestW 0 none W) := bestW_ok (W := W) W.length 0 none rfl (Nat.zero_le _) (bestI_zero W)
def inL (W : List (Zn × Int)) (z : Zn) (n : Int) (i : Nat) : Bool := decide (0 < n) && (z.ov || noBet n i 0 W)
theorem chosen_eq {W : List (Zn × Int)} {i : Nat} (hi : i < W.length) : (isO (bestW 0 none W) i || (W[i].1.ov && decide (0 < W[i].2))) = inL W W[i].1 W[i].2 i := by
 have hb := best_ok W
 unfold inL
 generalize bestW 0 none W = o at hb
 cases hov : W[i].1.ov
 ·rw [Bool.false_and, Bool.or_false, Bool.false_or, Bool.eq_iff_iff, Bool.and_eq_true, decide_eq_true_eq, noBet_iff]
  cases o with
  | none =>
   constructor
   ·intro h; exact absurd h Bool.false_ne_true
   ·rintro ⟨h, _⟩
    rcases hb i hi hi with q | q
    ·rw [hov] at q; exact absurd q (by decide)
    ·omega
  | some bm =>
   obtain ⟨b, m⟩ := bm
   obtain ⟨h0, h1, h2, h3, h4, h5⟩ := hb
   have e : isO (some (b, m)) i = true ↔ i = b := decide_eq_true_iff
   rw [e]
   constructor
   ·rintro rfl
    rw [h3]
    refine ⟨h4, fun j hj => ?_⟩
    rcases h5 j hj hj with q | ⟨q1, q2⟩
    ·exact .inl q
    ·refine .inr fun q => ?_
     rcases q with q | ⟨q, q'⟩
     ·omega
     ·have := q2 (by omega); omega
   ·rintro ⟨hp, ha⟩
    have h6 := h5 i hi hi
    rw [hov] at h6
    have h6 := h6.resolve_left (by decide)
    have h7 := (ha b h0).resolve_left (by rw [h2]; decide)
    rw [h3] at h7
    have e1 : W[i].2 = m := by omega
    apply Classical.byContradiction
    intro hne
    by_cases hl : i < b
    ·have := h6.2 hl; omega
    ·exact h7 (.inr ⟨e1.symm, by omega⟩)
 ·rw [Bool.true_and, Bool.true_or, Bool.and_true]
  have : isO o i = false := by
   cases o with
   | none => rfl
   | some bm =>
    obtain ⟨b, m⟩ := bm
    obtain ⟨h0, h1, h2, _⟩ := hb
    refine decide_eq_false fun e => ?_
    subst e
    rw [hov] at h2; exact absurd h2 (by decide)
  rw [this, Bool.false_or]
end Go.Proofs.YtcclbpcifohhkaaGreat.Rg
namespace Go.Proofs.YtcclbpcifohhkaaGreat.Rg
theorem grid_nat : ∃ n : Nat, (n : Int) = 1048576 := ⟨Int.toNat 1048576, Int.toNat_of_nonneg (by decide)⟩
theorem share_area {a c z : List Rect} (ba : ∀ r ∈ a, r.inBox 1048576) (bc : ∀ r ∈ c, r.inBox 1048576) (bz : ∀ r ∈ z, r.inBox 1048576) (oa : Once a) (oz : Once z) (fc : Form c) (hc : ∀ x y, cell c x y = (cell a x y && cell z x y)) : comA a z = areaL c := by
 obtain ⟨n, hn⟩ := grid_nat
 rw [← hn] at ba bc bz
 rw [com_cells ba bz oa oz, area_form fc bc]
 exact cnt_congr fun x y => (hc x y).symm
theorem sumN_le {f g : Int → Int} : ∀ {n : Nat}, (∀ i : Nat, i < n → f i ≤ g i) → sumN n f ≤ sumN n g
 | 0, _ => Int.le_refl _
 | n + 1, h => by
  have ih := sumN_le (f := f) (g := g) (n := n) fun i hi => h i (by omega)
  have h1 := h n (by omega)
  show sumN n f + f n ≤ sumN n g + g n
  omega
end Go.Proofs.YtcclbpcifohhkaaGreat.Rg
namespace Go.Proofs.YtcclbpcifohhkaaGreat.Bm
open Go Go.RowKit
open Rg (Rect Pt rightP polyL capR meetB capA comR comA corn stepP rowP comP ltP)
theorem cap_ok {r s : Rect} (hr : okR r = true) (hs : okR s = true) : okR (capR r s) = meetB r s := by
 rw [okR_iff] at hr hs
 rw [Bool.eq_iff_iff, okR_iff, Rg.meet_iff]
 unfold Rg.Rect.inBox capR at *
 simp only
 omega
theorem intersect_spec (r s : Rect) (hr : okR r = true) (hs : okR s = true) : pureCall E.P (L E) 32 [rectR.val r, rectR.val s] = some (.tuple ⟨[if meetB r s then rectR.val (capR r s) else rectR.val zeroR, .bool (meetB r s)]⟩) := by
 have h1 := right_s r
 have h2 := right_s s
 have h3 := checked_s (capR r s)
 rw [hr] at h1
 rw [hs] at h2
 rw [cap_ok hr hs] at h3
 have e : capR r s = ⟨max r.x0 s.x0, max r.y0 s.y0, min r.x1 s.x1, min r.y1 s.y1⟩ := rfl
 rw [pureCall_fn F32 rfl]
 rw [rect_val, rect_val]
 rw [e] at h3 ⊢
 cases hm : meetB r s
 ·rw [hm] at h3
  simp -implicitDefEqProofs [r32, padS, ret0 m50, h1, h2, min_int, max_int, b4_all, ret0 m54, h3, rect_val]
 ·rw [hm] at h3
  simp -implicitDefEqProofs [r32, padS, ret0 m50, h1, h2, min_int, max_int, b4_all, ret0 m54, h3, rect_val]
def ptO (p : Pt) : AObj := .cells 66 [.int .i64 p.1, .int .i64 p.2] 0
def boxO (r : Rect) : AObj := .cells 84 [.int .i64 r.x0, .int .i64 r.y0, .int .i64 r.x1, .int .i64 r.y1] 0
def bndR (n z : Int) (j : Nat) : Prop := n ≤ z ∧ z ≤ n + 1099511627776 * j
def bndA (z : Int) (i : Nat) : Prop := 0 ≤ z ∧ z ≤ 219902325555200 * i
theorem capA_le {r s : Rect} (hr : okR r = true) (hs : okR s = true) : capA r s ≤ 1099511627776 := by
 unfold capA
 cases h : meetB r s
 ·exact (by decide : (0 : Int) ≤ 1099511627776)
 ·rw [if_pos rfl]
  exact (area_bound (by rw [cap_ok hr hs, h])).2
theorem comR_le {r : Rect} (hr : okR r = true) : ∀ {b : List Rect}, (∀ s ∈ b, okR s = true) → comR r b ≤ 1099511627776 * b.length
 | [], _ => by show (0 : Int) ≤ _; simp
 | s :: b, h => by
  have h1 := capA_le hr (h s (List.mem_cons_self ..))
  have h2 := comR_le hr fun t ht => h t (List.mem_cons_of_mem s ht)
  show capA r s + comR r b ≤ 1099511627776 * ((b.length + 1 : Nat) : Int)
  omega
theorem comR_cons (r s : Rect) (l : List Rect) : comR r (s :: l) = capA r s + comR r l := rfl
theorem comA_cons (r : Rect) (a b : List Rect) : comA (r :: a) b = comR r b + comA a b := rfl
theorem rowP_cons (r s : Rect) (p : Pt) (l : List Rect) : rowP r p (s :: l) = rowP r (stepP r p s) l := rfl
theorem comP_cons (r : Rect) (a b : List Rect) (p : Pt) : comP (r :: a) b p = comP a b (rowP r p b) := rfl
set_option maxHeartbeats 4000000 in
theorem zcommon_spec (ka kb : Option Bool) (a b : List Rect) (ha : Rec.Ok ka a) (hb : Rec.Ok kb b) (la : a.length ≤ 200) (lb : b.length ≤ 200) (oa : ∀ r ∈ a, okR r = true) (ob : ∀ r ∈ b, okR r = true) :
  pureCall E.P (L E) 17 [rectR.o ka a, rectR.o kb b] = some (.tuple ⟨[.int .i64 (comA a b), .agg ⟨[.int .i64 (comP a b (1048576, 0)).1, .int .i64 (comP a b (1048576, 0)).2]⟩]⟩) := by
 have lna : ∀ h, lenT .sl h (rectR.o ka a) = some (.int .i64 a.length) := fun h => Rec.o_len ha
 have lnb : ∀ h, lenT .sl h (rectR.o kb b) = some (.int .i64 b.length) := fun h => Rec.o_len hb
 have xa : ∀ (i : Nat) (h : i < a.length), indexAddrT (.sl 84 ⟨some true, some 4⟩) (rectR.o ka a) (.int .i64 (i : Int)) = some (cptr (rectR.val a[i])) := fun i h => Rec.o_index (R := rectR) (s := 4) rfl ha h
 have xb : ∀ (i : Nat) (h : i < b.length), indexAddrT (.sl 84 ⟨some true, some 4⟩) (rectR.o kb b) (.int .i64 (i : Int)) = some (cptr (rectR.val b[i])) := fun i h => Rec.o_index (R := rectR) (s := 4) rfl hb h
 have bla : ∀ d n, below (d + 1) n (rectR.o ka a) = true := fun d n => Rec.o_bel
 have blb : ∀ d n, below (d + 1) n (rectR.o kb b) = true := fun d n => Rec.o_bel
 rw [pureCall_fn F17 rfl]
 generalize rectR.o ka a = VA at *
 generalize rectR.o kb b = VB at *
 have b1 : buildT (Bl.fs ⟨[.int .i64 0, .int .i64 0]⟩ ⟨[(0, 1), (1, 1)]⟩) #[(0, .int .i64 1048576)] = some (.agg ⟨[.int .i64 1048576, .int .i64 0]⟩) := rfl
 simp -implicitDefEqProofs [r17, p17, lna, b1]
 rw [LL_for (γ := Int × Pt) a (0, (1048576, 0)) (fun i c => [(6, .int .i64 c.1), (18, .int .i64 i)]) (fun _ c => [ptO (0, 0), ptO c.2])
  (fun _ rest c => (.exit 0, [(6, .int .i64 (c.1 + comA rest b)), (18, undef)], [ptO (0, 0), ptO (comP rest b c.2)])) (fun i c => bndA c.1 i) (by omega) ⟨Int.le_refl _, Int.le_refl _⟩]
 ·rw [Int.zero_add]
  generalize comP a b (1048576, 0) = q
  simp -implicitDefEqProofs [k17_3, ptO]
 ·simp -implicitDefEqProofs [k17_3]
 ·rfl
 ·intro nx i c hi _
  simp -implicitDefEqProofs [r17_3, k17_3, hi, trim_le, comA, comP]
 ·intro nx i r rest c hi hv hd hw hc ih
  obtain ⟨n, p⟩ := c
  have xi := xa i hi
  rw [hv, rect_val] at xi
  have hr : okR r = true := oa r (hv ▸ List.getElem_mem hi)
  have h0 := Rg.comR_nonneg r b
  have ih := ih (n + comR r b, rowP r p b) (by
   have h1 := comR_le hr ob
   obtain ⟨g1, g2⟩ := hc
   refine ⟨?_, ?_⟩ <;> simp only at * <;> omega)
  simp -implicitDefEqProofs [k17_3] at ih
  rw [comA_cons, comP_cons, ← Int.add_assoc]
  simp -implicitDefEqProofs [r17_3, k17_3, hi, lnb, xi, ptO]
  rw [LL_for (γ := Int × Pt) b (n, p) (fun j c => [(6, .int .i64 c.1), (24, .int .i64 j)]) (fun _ c => [ptO (0, 0), ptO c.2, boxO r])
   (fun _ rest c => (.exit 2, [(6, .int .i64 (c.1 + comR r rest)), (24, undef)], [ptO (0, 0), ptO (rowP r c.2 rest), boxO r])) (fun j c => bndR n c.1 j) (by omega) ⟨Int.le_refl _, by simp⟩]
  ·generalize rowP r p b = q at ih ⊢
   simp -implicitDefEqProofs [k17_6, ptO, boxO, hw, trim_cut, bla, blb]
   exact ih
  ·simp -implicitDefEqProofs [k17_6]
  ·rfl
  ·intro nx2 j c hj _
   have e1 : rowP r c.2 [] = c.2 := rfl
   simp -implicitDefEqProofs [r17_6, k17_6, hj, trim_le, comR, e1, ptO, boxO]
  ·intro nx2 j s rest2 c hj hv2 hd2 hw2 hc2 ih2
   obtain ⟨n2, p2⟩ := c
   have xj := xb j hj
   rw [hv2, rect_val] at xj
   have hs : okR s = true := ob s (hv2 ▸ List.getElem_mem hj)
   have isp := intersect_spec r s hr hs
   rw [rect_val, rect_val] at isp
   obtain ⟨g1, g2⟩ := hc2
   obtain ⟨g3, g4⟩ := hc
   simp only at g1 g2 g3 g4
   rw [comR_cons, rowP_cons, ← Int.add_assoc]
   cases hm : meetB r s
   ·have ec : capA r s = 0 := by unfold capA; rw [hm]; rfl
    have es : stepP r p2 s = p2 := by unfold stepP; rw [hm]; rfl
    have ih2 := ih2 (n2, p2) ⟨g1, by simp only; omega⟩
    rw [ec, es, Int.add_zero]
    rw [hm] at isp
    simp -implicitDefEqProofs [k17_6, ptO, boxO] at ih2
    simp -implicitDefEqProofs [r17_6, k17_6, hj, xj, ptO, boxO, ret0 m32, isp, rect_val, zeroR, hw2, trim_cut, bla, blb]
    exact ih2
   ·have ec : capA r s = (capR r s).area := by unfold capA; rw [hm, if_pos rfl]
    have hk := cap_ok hr hs
    rw [hm] at hk
    have ars := area_spec (capR r s) hk
    have abd := area_bound hk
    have c1 := cmp_spec (capR r s).x0 p2.1
    have c2 := cmp_spec (capR r s).y0 p2.2
    have c3 := cor_spec [cmpI (capR r s).x0 p2.1, cmpI (capR r s).y0 p2.2] (by show 2 ≤ 1000; omega)
    have rf : ∀ h (u v : Int), reify E.P 8 h (lst true [.int .i64 u, .int .i64 v]) = some (lst true [.int .i64 u, .int .i64 v]) := fun _ _ _ => rfl
    simp only [List.map_cons, List.map_nil] at c3
    have c4 := cmpP_lt (corn r s) p2
    have e4 : cmpP (corn r s) p2 = orL [cmpI (capR r s).x0 p2.1, cmpI (capR r s).y0 p2.2] := rfl
    rw [e4] at c4
    have es : stepP r p2 s = if ltP (corn r s) p2 = true then corn r s else p2 := by unfold stepP; rw [hm, Bool.true_and]
    have wn : IntKind.i64.wrap (n2 + (capR r s).area) = n2 + (capR r s).area := wrap64 (by omega) (by omega)
    have ih2 := ih2 (n2 + (capR r s).area, stepP r p2 s) ⟨by simp only; omega, by simp only; omega⟩
    have ecn : corn r s = ((capR r s).x0, (capR r s).y0) := rfl
    rw [es] at ih2 ⊢
    rw [ec]
    rw [hm] at isp
    rw [rect_val] at ars
    generalize capR r s = q at *
    by_cases hl : ltP (corn r s) p2 = true
    ·have hlt := c4.2 hl
     rw [if_pos hl] at ih2 ⊢
     rw [ecn] at ih2 ⊢
     simp -implicitDefEqProofs [k17_6, ptO, boxO] at ih2
     simp -implicitDefEqProofs [r17_6, k17_6, hj, xj, ptO, boxO, ret0 m32, isp, rect_val, ret0 m33, ars, wn, b2_all, ret0 m35, c1, c2, lit_ints2, ret0 m34, rf, c3, hlt, hw2, trim_cut, bla, blb]
     exact ih2
    ·have hlt : ¬ (orL [cmpI q.x0 p2.1, cmpI q.y0 p2.2] < 0) := fun h => hl (c4.1 h)
     rw [if_neg hl] at ih2 ⊢
     simp -implicitDefEqProofs [k17_6, ptO, boxO] at ih2
     simp -implicitDefEqProofs [r17_6, k17_6, hj, xj, ptO, boxO, ret0 m32, isp, rect_val, ret0 m33, ars, wn, b2_all, ret0 m35, c1, c2, lit_ints2, ret0 m34, rf, c3, hlt, hw2, trim_cut, bla, blb]
     exact ih2
open Rg (Rect Pt Zn rightP polyL comA comP)
def kR : Except Int (List Rect) → Option Bool
 | .error _ => none
 | .ok _ => some false
def lR : Except Int (List Rect) → List Rect
 | .error _ => []
 | .ok l => l
def eR : Except Int (List Rect) → Int
 | .error e => e
 | .ok _ => 0
theorem resL_eq (r : Except Int (List Rect)) : resL r = .tuple ⟨[rectR.o (kR r) (lR r), .int .i64 (eR r)]⟩ := by cases r <;> rfl
theorem kR_ok (r : Except Int (List Rect)) : Rec.Ok (kR r) (lR r) := by
 cases r
 ·exact fun _ => rfl
 ·exact Rec.ok_some
theorem poly_reg {p : List Pt} (h : rightP p = true) (hl : (polyL p).length ≤ 200) : regB (polyL p) = true := by
 have hp := Rg.rightP_poly h
 obtain ⟨hf, hc⟩ := hp.form
 exact regB_iff.2 ⟨List.all_eq_true.2 fun r hr => okR_iff.2 (hf.box (fun x y hxy => hp.inGrid (by rw [← hc]; exact hxy)) r hr), hl, hf⟩
theorem pregion_o (x : Bool) (p : List Pt) (hp : p.length ≤ 1000000) : pureCall E.P (L E) 19 [lst x (spanR.vals p)] = some (.tuple ⟨[rectR.o (kR (polyX p)) (lR (polyX p)), .int .i64 (eR (polyX p))]⟩) := by
 rw [← resL_eq]; exact pregion_spec x p hp
theorem polyX_reg (p : List Pt) : regB (lR (polyX p)) = true := by
 unfold polyX
 cases hr : rightP p
 ·exact regB_iff.2 ⟨rfl, by show 0 ≤ 200; omega, Rg.Form.nil⟩
 ·rw [if_pos rfl]
  by_cases h : 200 < (polyL p).length
  ·rw [if_pos h]; exact regB_iff.2 ⟨rfl, by show 0 ≤ 200; omega, Rg.Form.nil⟩
  ·rw [if_neg h]; exact poly_reg hr (by omega)
theorem polyX_err {p : List Pt} (h : eR (polyX p) ≠ 0) : kR (polyX p) = none ∧ lR (polyX p) = [] := by
 cases hq : polyX p
 ·exact ⟨rfl, rfl⟩
 ·rw [hq] at h; exact absurd rfl h
theorem polyX_ok {p : List Pt} (h : eR (polyX p) = 0) : kR (polyX p) = some false := by
 unfold polyX at *
 cases hr : rightP p
 ·rw [hr, if_neg (by decide)] at h; exact absurd (show (10 : Int) = 0 from h) (by decide)
 ·rw [hr, if_pos rfl] at h
  rw [if_pos rfl]
  by_cases hl : 200 < (polyL p).length
  ·rw [if_pos hl] at h; exact absurd (show (6 : Int) = 0 from h) (by decide)
  ·rw [if_neg hl]; rfl
def cellsZ (z : Zn) : List Rect := lR (polyX z.cs)
theorem cellsZ_reg (z : Zn) : regB (cellsZ z) = true := polyX_reg z.cs
abbrev Op := Option (Bool × List Value)
def opV : Op → Value
 | none => .slice none 0 0
 | some (b, l) => lst b l
theorem op_set {n : Nat} {o : Op} : settled (n + 1) (opV o) = true := by cases o <;> rfl
theorem op_bel {d n : Nat} {o : Op} : below (d + 1) n (opV o) = true := by cases o <;> rfl
structure Pl where
 d : Op
 t : Op
 r : Op
 c : Op
 v : Op
 s : Op
 h : Int
 x : Bool
 y : Bool
 zs : List Zn
def znE (y : Bool) (z : Zn) : List Value := [.string z.nm, .bool z.ov, lst y (spanR.vals z.cs)]
def znR (y : Bool) : Rec Zn where
 enc z := znE y z
 m := 2
 len _ := rfl
 set _ := rfl
 bel _ _ := rfl
def Pl.zv (p : Pl) : Value := lst p.x ((znR p.y).vals p.zs)
def Pl.cells (p : Pl) : List Value := [opV p.d, opV p.t, p.zv, opV p.r, opV p.c, opV p.v, opV p.s, .int .i64 p.h]
def Pl.val (p : Pl) : Value := .agg ⟨p.cells⟩
theorem Pl.zv_set {n : Nat} (p : Pl) : settled (n + 1) p.zv = true := rfl
theorem Pl.set (p : Pl) : settled depth p.val = true := by
 show [opV p.d, opV p.t, p.zv, opV p.r, opV p.c, opV p.v, opV p.s, .int .i64 p.h].all (settled 7) = true
 simp only [List.all_cons, List.all_nil, op_set, Pl.zv_set, Bool.and_true, Bool.true_and]; rfl
theorem zn_val {y : Bool} {z : Zn} : (znR y).val z = .agg ⟨[.string z.nm, .bool z.ov, lst y (spanR.vals z.cs)]⟩ := rfl
theorem zcells_spec (y : Bool) (z : Zn) (hz : z.cs.length ≤ 64) : pureCall E.P (L E) 18 [(znR y).val z] = some (rectR.o (kR (polyX z.cs)) (cellsZ z)) := by
 have hG := pregion_o y z.cs (by omega)
 have sv : settled depth (lst y (spanR.vals z.cs)) = true := rfl
 rw [zn_val, pureCall_fn F18 rfl]
 unfold cellsZ
 by_cases he : eR (polyX z.cs) = 0
 ·rw [he] at hG
  rw [polyX_ok he] at hG ⊢
  simp -implicitDefEqProofs [r18, padS, ret1 m19, sv, hG, Rec.o]
 ·obtain ⟨e1, e2⟩ := polyX_err he
  rw [e1, e2] at hG ⊢
  simp -implicitDefEqProofs [r18, padS, ret1 m19, sv, hG, Rec.o, he]
end Go.Proofs.YtcclbpcifohhkaaGreat.Bm
namespace Go.Proofs.YtcclbpcifohhkaaGreat
open Go Go.RowKit Go.Shelf Go.Sort
def lays189_ren : Go.Shelf.Ren := ⟨fun | 189 => 37 | 125 => 60 | 257 => 59 | 128 => 78 | 129 => 79 | 294 => 69 | 295 => 70 | 296 => 71 | 297 => 72 | 298 => 73 | 299 => 74 | 216 => 75 | 300 => 76 | 301 => 77 | 328 => 87 | 329 => 88 | 330 => 89 | 331 => 90 | 332 => 91 | 215 => 55 | 343 => 96 | n => n, fun | 28 => 37 | 3 => 3 | 46 => 117 | 0 => 0 | 51 => 140 | 53 => 142 | 4 => 4 | 183 => 132 | 182 => 131 | 131 => 137 | 5 => 5 | 9 => 9 | 218 => 150 | 222 => 154 | 228 => 161 | 229 => 162 | n => n, fun | n => n⟩
theorem lays189 : Go.Proofs.Lays.n189 Tryz.prog lays189_ren := {
 mixed := by kernel_rfl
 f125 := Tryz.func60.trans (congrArg some (by kernel_rfl))
 f128 := Tryz.func78.trans (congrArg some (by kernel_rfl))
 f129 := Tryz.func79.trans (congrArg some (by kernel_rfl))
 f189 := Tryz.func37.trans (congrArg some (by kernel_rfl))
 f215 := Tryz.func55.trans (congrArg some (by kernel_rfl))
 f216 := Tryz.func75.trans (congrArg some (by kernel_rfl))
 f257 := Tryz.func59.trans (congrArg some (by kernel_rfl))
 f294 := Tryz.func69.trans (congrArg some (by kernel_rfl))
 f295 := Tryz.func70.trans (congrArg some (by kernel_rfl))
 f296 := Tryz.func71.trans (congrArg some (by kernel_rfl))
 f297 := Tryz.func72.trans (congrArg some (by kernel_rfl))
 f298 := Tryz.func73.trans (congrArg some (by kernel_rfl))
 f299 := Tryz.func74.trans (congrArg some (by kernel_rfl))
 f300 := Tryz.func76.trans (congrArg some (by kernel_rfl))
 f301 := Tryz.func77.trans (congrArg some (by kernel_rfl))
 f328 := Tryz.func87.trans (congrArg some (by kernel_rfl))
 f329 := Tryz.func88.trans (congrArg some (by kernel_rfl))
 f330 := Tryz.func89.trans (congrArg some (by kernel_rfl))
 f331 := Tryz.func90.trans (congrArg some (by kernel_rfl))
 f332 := Tryz.func91.trans (congrArg some (by kernel_rfl))
 f343 := Tryz.func96.trans (congrArg some (by kernel_rfl))
 t0 := Tryz.underlying0
 a0 := Tryz.isAgg0
 z0 := Tryz.sizeOf0
 v0 := Tryz.zeroValue0
 t3 := Tryz.underlying3
 a3 := Tryz.isAgg3
 z3 := Tryz.sizeOf3
 v3 := Tryz.zeroValue3
 t4 := Tryz.underlying4
 a4 := Tryz.isAgg4
 z4 := Tryz.sizeOf4
 v4 := Tryz.zeroValue4
 t5 := Tryz.underlying5
 a5 := Tryz.isAgg5
 z5 := Tryz.sizeOf5
 v5 := Tryz.zeroValue5
 t9 := Tryz.underlying9
 a9 := Tryz.isAgg9
 z9 := Tryz.sizeOf9
 v9 := Tryz.zeroValue9
 t28 := Tryz.underlying37
 a28 := Tryz.isAgg37
 z28 := Tryz.sizeOf37
 v28 := Tryz.zeroValue37
 t46 := Tryz.underlying117
 a46 := Tryz.isAgg117
 z46 := Tryz.sizeOf117
 v46 := Tryz.zeroValue117
 t51 := Tryz.underlying140
 a51 := Tryz.isAgg140
 z51 := Tryz.sizeOf140
 v51 := Tryz.zeroValue140
 t53 := Tryz.underlying142
 a53 := Tryz.isAgg142
 z53 := Tryz.sizeOf142
 v53 := Tryz.zeroValue142
 t131 := Tryz.underlying137
 a131 := Tryz.isAgg137
 z131 := Tryz.sizeOf137
 v131 := Tryz.zeroValue137
 t182 := Tryz.underlying131
 a182 := Tryz.isAgg131
 z182 := Tryz.sizeOf131
 v182 := Tryz.zeroValue131
 t183 := Tryz.underlying132
 a183 := Tryz.isAgg132
 z183 := Tryz.sizeOf132
 v183 := Tryz.zeroValue132
 t218 := Tryz.underlying150
 a218 := Tryz.isAgg150
 z218 := Tryz.sizeOf150
 v218 := Tryz.zeroValue150
 t222 := Tryz.underlying154
 a222 := Tryz.isAgg154
 z222 := Tryz.sizeOf154
 v222 := Tryz.zeroValue154
 t228 := Tryz.underlying161
 a228 := Tryz.isAgg161
 z228 := Tryz.sizeOf161
 v228 := Tryz.zeroValue161
 t229 := Tryz.underlying162
 a229 := Tryz.isAgg162
 z229 := Tryz.sizeOf162
 v229 := Tryz.zeroValue162 }
theorem conSort : Bm.SortCon Tryz.prog 37 Bm.sortI none where
 row blk off cap zs w hH hblk hsz _ := by
  rw [← Bm.sortI_eq]
  exact Any.slices_Sort_int lays189 blk off cap zs w hH hblk hsz
 none p cap w := Any.slices_Sort_int_none lays189 p cap w
 dfd := ⟨_, Tryz.func37, rfl⟩
 len := Bm.sortI_len
 cut := fun _ h => by cases h
end Go.Proofs.YtcclbpcifohhkaaGreat
namespace Go.Proofs.YtcclbpcifohhkaaGreat
open Go Go.RowKit Go.Shelf Go.Sort
def laysNm220_ren : Go.Shelf.Ren := ⟨fun | 20 => 38 | n => n, fun | 22 => 37 | 3 => 3 | 4 => 4 | 0 => 0 | n => n, fun | n => n⟩
theorem laysNm220 : Go.Proofs.Lays2.n20 Tryz.prog laysNm220_ren := {
 mixed := by kernel_rfl
 f20 := Tryz.func38.trans (congrArg some (by kernel_rfl))
 t0 := Tryz.underlying0
 a0 := Tryz.isAgg0
 z0 := Tryz.sizeOf0
 v0 := Tryz.zeroValue0
 t3 := Tryz.underlying3
 a3 := Tryz.isAgg3
 z3 := Tryz.sizeOf3
 v3 := Tryz.zeroValue3
 t4 := Tryz.underlying4
 a4 := Tryz.isAgg4
 z4 := Tryz.sizeOf4
 v4 := Tryz.zeroValue4
 t22 := Tryz.underlying37
 a22 := Tryz.isAgg37
 z22 := Tryz.sizeOf37
 v22 := Tryz.zeroValue37
 i3 := by kernel_rfl }
theorem conComp : Bm.SortCon Tryz.prog 38 Bm.compF (some Bm.compN) where
 row blk off cap zs w hH hblk hsz hc := (Any.slices_Compact_int laysNm220 blk off cap zs w hH (by omega) hc).mono fun e w' h => by
  rw [Bm.compact_eq] at h
  exact ⟨h.1, h.2.imp fun n k => ⟨#[], by rw [k]; exact (grow_empty _).symm⟩⟩
 none p cap w := Any.slices_Compact_int_empty laysNm220 p cap w
 dfd := ⟨_, Tryz.func38, rfl⟩
 len := Bm.compF_len
 cut := fun m h zs => by cases h; exact Bm.compG_len zs none
end Go.Proofs.YtcclbpcifohhkaaGreat
namespace Go.Proofs.YtcclbpcifohhkaaGreat
open Go Go.RowKit Go.Shelf Go.Sort
def laysSpan_ren : Go.Shelf.Ren := ⟨fun | 6 => 85 | 15 => 60 | 14 => 95 | 28 => 78 | 29 => 79 | 20 => 97 | 21 => 98 | 22 => 99 | 23 => 100 | 24 => 101 | 25 => 102 | 26 => 103 | 27 => 104 | 46 => 105 | 47 => 88 | 48 => 89 | 49 => 106 | 50 => 107 | 57 => 108 | n => n, fun | 22 => 118 | 24 => 127 | 25 => 149 | 3 => 3 | 39 => 117 | 0 => 0 | 53 => 140 | 55 => 142 | 4 => 4 | 46 => 132 | 45 => 131 | 50 => 137 | 5 => 5 | 9 => 9 | 66 => 150 | 70 => 154 | 76 => 161 | 77 => 162 | n => n, fun | n => n⟩
theorem laysSpan : Go.Proofs.SlLaysF0.n6 Tryz.prog laysSpan_ren := {
 mixed := by kernel_rfl
 f6 := ⟨Tryz.f85.name, by decide, Tryz.func85.trans (congrArg some (by kernel_rfl))⟩
 f14 := ⟨Tryz.f95.name, by decide, Tryz.func95.trans (congrArg some (by kernel_rfl))⟩
 f15 := Tryz.func60.trans (congrArg some (by kernel_rfl))
 f20 := ⟨Tryz.f97.name, by decide, Tryz.func97.trans (congrArg some (by kernel_rfl))⟩
 f21 := ⟨Tryz.f98.name, by decide, Tryz.func98.trans (congrArg some (by kernel_rfl))⟩
 f22 := ⟨Tryz.f99.name, by decide, Tryz.func99.trans (congrArg some (by kernel_rfl))⟩
 f23 := ⟨Tryz.f100.name, by decide, Tryz.func100.trans (congrArg some (by kernel_rfl))⟩
 f24 := ⟨Tryz.f101.name, by decide, Tryz.func101.trans (congrArg some (by kernel_rfl))⟩
 f25 := ⟨Tryz.f102.name, by decide, Tryz.func102.trans (congrArg some (by kernel_rfl))⟩
 f26 := ⟨Tryz.f103.name, by decide, Tryz.func103.trans (congrArg some (by kernel_rfl))⟩
 f27 := ⟨Tryz.f104.name, by decide, Tryz.func104.trans (congrArg some (by kernel_rfl))⟩
 f28 := Tryz.func78.trans (congrArg some (by kernel_rfl))
 f29 := Tryz.func79.trans (congrArg some (by kernel_rfl))
 f46 := ⟨Tryz.f105.name, by decide, Tryz.func105.trans (congrArg some (by kernel_rfl))⟩
 f47 := Tryz.func88.trans (congrArg some (by kernel_rfl))
 f48 := Tryz.func89.trans (congrArg some (by kernel_rfl))
 f49 := ⟨Tryz.f106.name, by decide, Tryz.func106.trans (congrArg some (by kernel_rfl))⟩
 f50 := ⟨Tryz.f107.name, by decide, Tryz.func107.trans (congrArg some (by kernel_rfl))⟩
 f57 := ⟨Tryz.f108.name, by decide, Tryz.func108.trans (congrArg some (by kernel_rfl))⟩
 t0 := Tryz.underlying0
 a0 := Tryz.isAgg0
 z0 := Tryz.sizeOf0
 v0 := Tryz.zeroValue0
 t3 := Tryz.underlying3
 a3 := Tryz.isAgg3
 z3 := Tryz.sizeOf3
 v3 := Tryz.zeroValue3
 t4 := Tryz.underlying4
 a4 := Tryz.isAgg4
 z4 := Tryz.sizeOf4
 v4 := Tryz.zeroValue4
 t5 := Tryz.underlying5
 a5 := Tryz.isAgg5
 z5 := Tryz.sizeOf5
 v5 := Tryz.zeroValue5
 t9 := Tryz.underlying9
 a9 := Tryz.isAgg9
 z9 := Tryz.sizeOf9
 v9 := Tryz.zeroValue9
 t22 := Tryz.underlying118
 a22 := Tryz.isAgg118
 z22 := Tryz.sizeOf118
 v22 := Tryz.zeroValue118
 t25 := Tryz.underlying149
 a25 := Tryz.isAgg149
 z25 := Tryz.sizeOf149
 v25 := Tryz.zeroValue149
 t39 := Tryz.underlying117
 a39 := Tryz.isAgg117
 z39 := Tryz.sizeOf117
 v39 := Tryz.zeroValue117
 t45 := Tryz.underlying131
 a45 := Tryz.isAgg131
 z45 := Tryz.sizeOf131
 v45 := Tryz.zeroValue131
 t46 := Tryz.underlying132
 a46 := Tryz.isAgg132
 z46 := Tryz.sizeOf132
 v46 := Tryz.zeroValue132
 t50 := Tryz.underlying137
 a50 := Tryz.isAgg137
 z50 := Tryz.sizeOf137
 v50 := Tryz.zeroValue137
 t53 := Tryz.underlying140
 a53 := Tryz.isAgg140
 z53 := Tryz.sizeOf140
 v53 := Tryz.zeroValue140
 t55 := Tryz.underlying142
 a55 := Tryz.isAgg142
 z55 := Tryz.sizeOf142
 v55 := Tryz.zeroValue142
 t66 := Tryz.underlying150
 a66 := Tryz.isAgg150
 z66 := Tryz.sizeOf150
 v66 := Tryz.zeroValue150
 t70 := Tryz.underlying154
 a70 := Tryz.isAgg154
 z70 := Tryz.sizeOf154
 v70 := Tryz.zeroValue154
 t76 := Tryz.underlying161
 a76 := Tryz.isAgg161
 z76 := Tryz.sizeOf161
 v76 := Tryz.zeroValue161
 t77 := Tryz.underlying162
 a77 := Tryz.isAgg162
 z77 := Tryz.sizeOf162
 v77 := Tryz.zeroValue162 }
set_option maxHeartbeats 1000000 in
theorem nan_walk (x : Int) (W : World) : Calls Tryz.prog 55 #[.int .i64 x] W fun e w' => e = .returned (.bool false) ∧ w' = W := by
 go_enter Tryz.func55, Tryz.ntmps55
 go_wp2
 go_ret
 exact ⟨rfl, rfl⟩
set_option maxHeartbeats 1000000 in
theorem compare_walk (x y : Int) (W : World) : Calls Tryz.prog 35 #[.int .i64 x, .int .i64 y] W fun e w' => e = .returned (.int .i64 (cmpI x y)) ∧ w' = W := by
 unfold cmpI
 have h1 := fun x W => nan_walk x W
 go_enter Tryz.func35, Tryz.ntmps35
 by_cases hxy : x < y
 ·rw [if_pos hxy]
  go_wp2_with (go_at_call 55; refine (h1 _ _).mono ?_; rintro e w' ⟨rfl, rfl⟩)
  go_ret
  exact ⟨rfl, rfl⟩
 ·rw [if_neg hxy]
  by_cases hyx : y < x
  ·rw [if_pos hyx]
   go_wp2_with (go_at_call 55; refine (h1 _ _).mono ?_; rintro e w' ⟨rfl, rfl⟩)
   go_ret
   exact ⟨rfl, rfl⟩
  ·rw [if_neg hyx]
   go_wp2_with (go_at_call 55; refine (h1 _ _).mono ?_; rintro e w' ⟨rfl, rfl⟩)
   go_ret
   exact ⟨rfl, rfl⟩
set_option maxHeartbeats 1000000 in
theorem closure_walk (x y : Int × Int) (W : World) : Calls Tryz.prog 86 #[.agg #[.int .i64 x.1, .int .i64 x.2], .agg #[.int .i64 y.1, .int .i64 y.2]] W fun e w' => e = .returned (.int .i64 (cmpS x y)) ∧ ∃ q os', w' = grow (W.drewN q) os' := by
 have hcon := fun W' => compare_walk x.1 y.1 W'
 unfold cmpS
 generalize cmpI x.1 y.1 = r at hcon ⊢
 go_enter Tryz.func86, Tryz.ntmps86
 go_wp2_with (go_at_call 35; refine (hcon _).mono ?_; rintro e w' ⟨rfl, rfl⟩)
 go_ret
 exact ⟨rfl, 0, _, by rw [alloc_eq_grow, alloc_eq_grow, grow_grow]; rfl⟩
theorem conSpan : Bm.CellCon Tryz.prog 85 86 2 sortSF where
 row blk off cap n c d w hF hc hH hblk h0 hn hcap := by
  unfold sortSF at hF
  cases e : spanD c with
  | none => rw [e] at hF; cases hF
  | some l =>
   rw [e] at hF; cases hF
   have ec := spanD_some e
   subst ec
   have hl : l.toArray.size = n := by
    rw [flat_len] at hc
    simp; omega
   have eg : ∀ args w, (callFunc 86 args).run Tryz.prog w = .ok (.enter 86 args) w := enters_of Tryz.func86 (by kernel_rfl) rfl
   have con := AnyQ.slices_SortFunc_eq laysSpan 2 Tryz.isAgg127 Tryz.sizeOf127 spanV (fun _ => rfl) (fun x v hv => by simp [spanV] at hv; rcases hv with rfl | rfl <;> rfl) cmpS swoS 86 #[] blk off cap l.toArray w eg (fun _ _ _ _ x y => closure_walk x y _) (by unfold HoldsK; rw [flatK_flat]; exact hH) hblk (by rw [hl]; exact hn)
   change Calls Tryz.prog 85 _ _ _ at con
   rw [hl] at con
   refine con.mono fun e w' he => ⟨he.1, ?_⟩
   obtain ⟨m, os, rfl⟩ := he.2
   refine ⟨m, os, ?_⟩
   unfold sortWorldK putRowK
   rw [flatK_flat]
   show _ = grow (putRow id (Sort.ahead w m) blk off ((sortS l).flatMap spanV).toArray) os
   unfold sortS
   rw [hl]
 none p cap w := AnyF.slices_SortFunc_none laysSpan p cap _ w
 dfd := ⟨_, Tryz.func85, rfl⟩
 len c d h := by
  unfold sortSF at h
  cases e : spanD c with
  | none => rw [e] at h; cases h
  | some l =>
   rw [e] at h; cases h
   rw [spanD_some e, flat_len, flat_len, (sortS_perm l).length_eq]
 atoms c d h := by
  unfold sortSF at h
  cases e : spanD c with
  | none => rw [e] at h; cases h
  | some l =>
   rw [e] at h; cases h
   have key : ∀ l : List (Int × Int), (l.flatMap spanV).all Bm.atom = true := by
    intro l
    induction l with
    | nil => rfl
    | cons x l ih => rw [List.flatMap_cons, List.all_append, ih]; rfl
   exact ⟨by rw [spanD_some e]; exact key _, key _⟩
 pos := by decide
end Go.Proofs.YtcclbpcifohhkaaGreat
namespace Go.Proofs.YtcclbpcifohhkaaGreat.Bm
open Go Go.RowKit
open Rg (Rect Zn)
theorem okE : OkProg E.P := okProg_of (by kernel_rfl) (by kernel_rfl)
theorem laidE : laidOutB E.P = true := by kernel_rfl
theorem mapsE : mapsRowed E.P = true := by kernel_rfl
noncomputable def tlE : List TypeId := closeT E.P 8 [30, 31, 5, 3]
theorem closedE : closedT E.P tlE = true := by kernel_rfl
theorem in30 : 30 ∈ tlE := List.contains_iff_mem.1 (by kernel_rfl)
theorem in31 : 31 ∈ tlE := List.contains_iff_mem.1 (by kernel_rfl)
theorem in5 : 5 ∈ tlE := List.contains_iff_mem.1 (by kernel_rfl)
theorem fU8 : E.P.underlying 5 = some (.int .u8) := by kernel_rfl
theorem gU8 : aggT E.P 5 = some false := by kernel_rfl
theorem in3 : 3 ∈ tlE := List.contains_iff_mem.1 (by kernel_rfl)
theorem ui : E.P.underlying 3 = some (.int .i64) := by kernel_rfl
theorem u4 : E.P.underlying 4 = some .bool := by kernel_rfl
theorem uSt : E.P.underlying 9 = some .string := by kernel_rfl
theorem uRs : E.P.underlying 31 = some (.slice 84) := by kernel_rfl
theorem fR : fsOf E.P 84 = some [(0, 3), (1, 3), (2, 3), (3, 3)] := by kernel_rfl
theorem nR : E.P.cellsOf 84 = 4 := by kernel_rfl
theorem ni : E.P.cellsOf 3 = 1 := by kernel_rfl
theorem nB : E.P.cellsOf 4 = 1 := by kernel_rfl
theorem nS : E.P.cellsOf 9 = 1 := by kernel_rfl
theorem gR : aggT E.P 84 = some true := by kernel_rfl
theorem gRs : aggT E.P 31 = some false := by kernel_rfl
theorem gi : aggT E.P 3 = some false := by kernel_rfl
theorem uPs : E.P.underlying 34 = some (.slice 66) := by kernel_rfl
theorem fPt : fsOf E.P 66 = some [(0, 3), (1, 3)] := by kernel_rfl
theorem nPt : E.P.cellsOf 66 = 2 := by kernel_rfl
theorem nPs : E.P.cellsOf 34 = 1 := by kernel_rfl
theorem gPt : aggT E.P 66 = some true := by kernel_rfl
theorem fZ : fsOf E.P 36 = some [(0, 9), (1, 4), (2, 34)] := by kernel_rfl
theorem nZ : E.P.cellsOf 36 = 3 := by kernel_rfl
theorem gZ : aggT E.P 36 = some true := by kernel_rfl
theorem fP : fsOf E.P 30 = some [(0, 22), (1, 23), (2, 24), (3, 25), (4, 26), (5, 27), (6, 28), (7, 3)] := by kernel_rfl
theorem nP : E.P.cellsOf 30 = 8 := by kernel_rfl
theorem gP : aggT E.P 30 = some true := by kernel_rfl
theorem nLDef : E.P.cellsOf 22 = 1 := by kernel_rfl
theorem uLDef : E.P.underlying 22 = some (.slice 191) := by kernel_rfl
theorem nLTable : E.P.cellsOf 23 = 1 := by kernel_rfl
theorem uLTable : E.P.underlying 23 = some (.slice 193) := by kernel_rfl
theorem nLZone : E.P.cellsOf 24 = 1 := by kernel_rfl
theorem uLZone : E.P.underlying 24 = some (.slice 36) := by kernel_rfl
theorem nLRule : E.P.cellsOf 25 = 1 := by kernel_rfl
theorem uLRule : E.P.underlying 25 = some (.slice 197) := by kernel_rfl
theorem nLCap : E.P.cellsOf 26 = 1 := by kernel_rfl
theorem uLCap : E.P.underlying 26 = some (.slice 199) := by kernel_rfl
theorem nLView : E.P.cellsOf 27 = 1 := by kernel_rfl
theorem uLView : E.P.underlying 27 = some (.slice 203) := by kernel_rfl
theorem nLPoint3 : E.P.cellsOf 28 = 1 := by kernel_rfl
theorem uLPoint3 : E.P.underlying 28 = some (.slice 201) := by kernel_rfl
def i64ok (z : Int) : Prop := -9223372036854775808 ≤ z ∧ z ≤ 9223372036854775807
def RectI (r : Rect) : Prop := i64ok r.x0 ∧ i64ok r.y0 ∧ i64ok r.x1 ∧ i64ok r.y1
theorem rect_of {n : Nat} {c : List Value} (h : Wt E.P n 84 c) : ∃ r : Rect, c = rectR.enc r ∧ RectI r := by
 obtain ⟨hl, hf⟩ := wt_struct fR h
 rw [nR] at hl
 obtain ⟨a0, c, rfl⟩ := List.exists_cons_of_length_eq_add_one hl; have hl := Nat.succ.inj hl
 obtain ⟨a1, c, rfl⟩ := List.exists_cons_of_length_eq_add_one hl; have hl := Nat.succ.inj hl
 obtain ⟨a2, c, rfl⟩ := List.exists_cons_of_length_eq_add_one hl; have hl := Nat.succ.inj hl
 obtain ⟨a3, c, rfl⟩ := List.exists_cons_of_length_eq_add_one hl; have hl := Nat.succ.inj hl
 obtain rfl := List.eq_nil_of_length_eq_zero hl
 obtain ⟨m0, q0⟩ := hf (0, 3) (by simp)
 replace q0 : Wt E.P m0 3 [a0] := by simpa [ni] using q0
 obtain ⟨m1, q1⟩ := hf (1, 3) (by simp)
 replace q1 : Wt E.P m1 3 [a1] := by simpa [ni] using q1
 obtain ⟨m2, q2⟩ := hf (2, 3) (by simp)
 replace q2 : Wt E.P m2 3 [a2] := by simpa [ni] using q2
 obtain ⟨m3, q3⟩ := hf (3, 3) (by simp)
 replace q3 : Wt E.P m3 3 [a3] := by simpa [ni] using q3
 obtain ⟨z0, e, h0⟩ := wt_int ui q0; obtain rfl := List.singleton_inj.1 e
 obtain ⟨z1, e, h1⟩ := wt_int ui q1; obtain rfl := List.singleton_inj.1 e
 obtain ⟨z2, e, h2⟩ := wt_int ui q2; obtain rfl := List.singleton_inj.1 e
 obtain ⟨z3, e, h3⟩ := wt_int ui q3; obtain rfl := List.singleton_inj.1 e
 exact ⟨⟨z0, z1, z2, z3⟩, rfl, i64_wf h0, i64_wf h1, i64_wf h2, i64_wf h3⟩
theorem rects_of {n : Nat} {c : List Value} (h : Wt E.P n 31 c) : ∃ l : List Rect, c = [lst false (rectR.vals l)] ∧ l.length ≤ maxLen ∧ ∀ r ∈ l, RectI r := by
 obtain ⟨ls, rfl, h2, h3⟩ := wt_slice uRs h
 obtain ⟨rs, rfl, k2⟩ := choose_list (cells := rectR.enc) (Q := RectI) ls fun x hx => by
  obtain ⟨m, hm⟩ := h3 x hx
  exact rect_of hm
 refine ⟨rs, ?_, by simpa using h2, k2⟩
 have e : ∀ l : List Rect, (l.map rectR.enc).map (elemV E.P 84) = rectR.vals l := by
  intro l
  induction l with
  | nil => rfl
  | cons r l ih =>
   rw [List.map_cons, List.map_cons, ih]
   unfold elemV
   rw [if_pos gR]
   rfl
 rw [e]
theorem rectsV {n : Nat} {c : List Value} (h : Wt E.P n 31 c) : ∃ l : List Rect, elemV E.P 31 c = lst false (rectR.vals l) ∧ l.length ≤ maxLen ∧ ∀ r ∈ l, RectI r := by
 obtain ⟨l, rfl, hl⟩ := rects_of h
 exact ⟨l, by simp [elemV, gRs], hl⟩
theorem intV {n : Nat} {c : List Value} (h : Wt E.P n 3 c) : ∃ z : Int, elemV E.P 3 c = .int .i64 z ∧ i64ok z := by
 obtain ⟨z, rfl, hz⟩ := wt_int ui h
 exact ⟨z, by simp [elemV, gi], i64_wf hz⟩
theorem pt_of {n : Nat} {c : List Value} (h : Wt E.P n 66 c) : ∃ v : Int × Int, c = spanR.enc v := by
 obtain ⟨hl, hf⟩ := wt_struct fPt h
 rw [nPt] at hl
 obtain ⟨a0, c, rfl⟩ := List.exists_cons_of_length_eq_add_one hl; have hl := Nat.succ.inj hl
 obtain ⟨a1, c, rfl⟩ := List.exists_cons_of_length_eq_add_one hl; have hl := Nat.succ.inj hl
 obtain rfl := List.eq_nil_of_length_eq_zero hl
 obtain ⟨m0, q0⟩ := hf (0, 3) (by simp)
 replace q0 : Wt E.P m0 3 [a0] := by simpa [ni] using q0
 obtain ⟨m1, q1⟩ := hf (1, 3) (by simp)
 replace q1 : Wt E.P m1 3 [a1] := by simpa [ni] using q1
 obtain ⟨z0, e, h0⟩ := wt_int ui q0; obtain rfl := List.singleton_inj.1 e
 obtain ⟨z1, e, h1⟩ := wt_int ui q1; obtain rfl := List.singleton_inj.1 e
 exact ⟨(z0, z1), rfl⟩
theorem pts_of {n : Nat} {c : List Value} (h : Wt E.P n 34 c) : ∃ l : List (Int × Int), c = [lst false (spanR.vals l)] := by
 obtain ⟨ls, rfl, h2, h3⟩ := wt_slice uPs h
 obtain ⟨rs, rfl, k2⟩ := choose_list (cells := spanR.enc) (Q := fun _ => True) ls fun x hx => by
  obtain ⟨m, hm⟩ := h3 x hx
  obtain ⟨v, e⟩ := pt_of hm
  exact ⟨v, e, trivial⟩
 refine ⟨rs, ?_⟩
 have e : ∀ l : List (Int × Int), (l.map spanR.enc).map (elemV E.P 66) = spanR.vals l := by
  intro l
  induction l with
  | nil => rfl
  | cons r l ih =>
   rw [List.map_cons, List.map_cons, ih]
   unfold elemV
   rw [if_pos gPt]
   rfl
 rw [e]
theorem zone_of {n : Nat} {c : List Value} (h : Wt E.P n 36 c) : ∃ z : Zn, c = (znR false).enc z := by
 obtain ⟨hl, hf⟩ := wt_struct fZ h
 rw [nZ] at hl
 obtain ⟨a0, c, rfl⟩ := List.exists_cons_of_length_eq_add_one hl; have hl := Nat.succ.inj hl
 obtain ⟨a1, c, rfl⟩ := List.exists_cons_of_length_eq_add_one hl; have hl := Nat.succ.inj hl
 obtain ⟨a2, c, rfl⟩ := List.exists_cons_of_length_eq_add_one hl; have hl := Nat.succ.inj hl
 obtain rfl := List.eq_nil_of_length_eq_zero hl
 obtain ⟨m0, q0⟩ := hf (0, 9) (by simp)
 replace q0 : Wt E.P m0 9 [a0] := by simpa [nS] using q0
 obtain ⟨m1, q1⟩ := hf (1, 4) (by simp)
 replace q1 : Wt E.P m1 4 [a1] := by simpa [nB] using q1
 obtain ⟨m2, q2⟩ := hf (2, 34) (by simp)
 replace q2 : Wt E.P m2 34 [a2] := by simpa [nPs] using q2
 obtain ⟨s, e, _⟩ := wt_str uSt q0; obtain rfl := List.singleton_inj.1 e
 obtain ⟨b, e⟩ := wt_bool u4 q1; obtain rfl := List.singleton_inj.1 e
 obtain ⟨l, e⟩ := pts_of q2; obtain rfl := List.singleton_inj.1 e
 exact ⟨⟨s, b, l⟩, rfl⟩
theorem zones_of {n : Nat} {c : List Value} (h : Wt E.P n 24 c) : ∃ l : List Zn, c = [lst false ((znR false).vals l)] ∧ l.length ≤ maxLen := by
 obtain ⟨ls, rfl, h2, h3⟩ := wt_slice uLZone h
 obtain ⟨rs, rfl, k2⟩ := choose_list (cells := (znR false).enc) (Q := fun _ => True) ls fun x hx => by
  obtain ⟨m, hm⟩ := h3 x hx
  obtain ⟨z, e⟩ := zone_of hm
  exact ⟨z, e, trivial⟩
 refine ⟨rs, ?_, by simpa using h2⟩
 have e : ∀ l : List Zn, (l.map (znR false).enc).map (elemV E.P 36) = (znR false).vals l := by
  intro l
  induction l with
  | nil => rfl
  | cons r l ih =>
   rw [List.map_cons, List.map_cons, ih]
   unfold elemV
   rw [if_pos gZ]
   rfl
 rw [e]
theorem plan_of {n : Nat} {c : List Value} (h : Wt E.P n 30 c) : ∃ p : Pl, c = p.cells ∧ p.zs.length ≤ maxLen := by
 obtain ⟨hl, hf⟩ := wt_struct fP h
 rw [nP] at hl
 obtain ⟨a0, c, rfl⟩ := List.exists_cons_of_length_eq_add_one hl; have hl := Nat.succ.inj hl
 obtain ⟨a1, c, rfl⟩ := List.exists_cons_of_length_eq_add_one hl; have hl := Nat.succ.inj hl
 obtain ⟨a2, c, rfl⟩ := List.exists_cons_of_length_eq_add_one hl; have hl := Nat.succ.inj hl
 obtain ⟨a3, c, rfl⟩ := List.exists_cons_of_length_eq_add_one hl; have hl := Nat.succ.inj hl
 obtain ⟨a4, c, rfl⟩ := List.exists_cons_of_length_eq_add_one hl; have hl := Nat.succ.inj hl
 obtain ⟨a5, c, rfl⟩ := List.exists_cons_of_length_eq_add_one hl; have hl := Nat.succ.inj hl
 obtain ⟨a6, c, rfl⟩ := List.exists_cons_of_length_eq_add_one hl; have hl := Nat.succ.inj hl
 obtain ⟨a7, c, rfl⟩ := List.exists_cons_of_length_eq_add_one hl; have hl := Nat.succ.inj hl
 obtain rfl := List.eq_nil_of_length_eq_zero hl
 obtain ⟨m0, q0⟩ := hf (0, 22) (by simp)
 replace q0 : Wt E.P m0 22 [a0] := by simpa [nLDef] using q0
 obtain ⟨m1, q1⟩ := hf (1, 23) (by simp)
 replace q1 : Wt E.P m1 23 [a1] := by simpa [nLTable] using q1
 obtain ⟨m2, q2⟩ := hf (2, 24) (by simp)
 replace q2 : Wt E.P m2 24 [a2] := by simpa [nLZone] using q2
 obtain ⟨m3, q3⟩ := hf (3, 25) (by simp)
 replace q3 : Wt E.P m3 25 [a3] := by simpa [nLRule] using q3
 obtain ⟨m4, q4⟩ := hf (4, 26) (by simp)
 replace q4 : Wt E.P m4 26 [a4] := by simpa [nLCap] using q4
 obtain ⟨m5, q5⟩ := hf (5, 27) (by simp)
 replace q5 : Wt E.P m5 27 [a5] := by simpa [nLView] using q5
 obtain ⟨m6, q6⟩ := hf (6, 28) (by simp)
 replace q6 : Wt E.P m6 28 [a6] := by simpa [nLPoint3] using q6
 obtain ⟨m7, q7⟩ := hf (7, 3) (by simp)
 replace q7 : Wt E.P m7 3 [a7] := by simpa [ni] using q7
 obtain ⟨l0, e, _⟩ := wt_list uLDef q0; obtain rfl := List.singleton_inj.1 e
 obtain ⟨l1, e, _⟩ := wt_list uLTable q1; obtain rfl := List.singleton_inj.1 e
 obtain ⟨zs, e, hz⟩ := zones_of q2; obtain rfl := List.singleton_inj.1 e
 obtain ⟨l3, e, _⟩ := wt_list uLRule q3; obtain rfl := List.singleton_inj.1 e
 obtain ⟨l4, e, _⟩ := wt_list uLCap q4; obtain rfl := List.singleton_inj.1 e
 obtain ⟨l5, e, _⟩ := wt_list uLView q5; obtain rfl := List.singleton_inj.1 e
 obtain ⟨l6, e, _⟩ := wt_list uLPoint3 q6; obtain rfl := List.singleton_inj.1 e
 obtain ⟨hr, e, _⟩ := wt_int ui q7; obtain rfl := List.singleton_inj.1 e
 exact ⟨⟨some (false, l0), some (false, l1), some (false, l3), some (false, l4), some (false, l5), some (false, l6), hr, false, false, zs⟩, rfl, hz⟩
theorem planV {n : Nat} {c : List Value} (h : Wt E.P n 30 c) : ∃ p : Pl, elemV E.P 30 c = p.val ∧ p.zs.length ≤ 9223372036854775807 := by
 obtain ⟨p, rfl, hp⟩ := plan_of h
 exact ⟨p, by simp [elemV, gP, Pl.val], Nat.le_trans hp (by decide)⟩
theorem u8V {n : Nat} {c : List Value} (h : Wt E.P n 5 c) : ∃ z : Int, elemV E.P 5 c = .int .u8 z ∧ 0 ≤ z ∧ z ≤ 255 := by
 obtain ⟨z, rfl, hz⟩ := wt_int fU8 h
 exact ⟨z, by simp [elemV, gU8], by simpa [Lit.wf, IntKind.min, IntKind.max, IntKind.signed, IntKind.bits] using hz⟩
theorem orcE : OrcSound E := by
 have key : ∀ g k, E.orc g = some k → (∃ F N, k = inG F N ∧ SortCon E.P g F N) ∨ ∃ q m F, k = inC q m F ∧ CellCon E.P g q m F := fun g k h => by
  rw [E_orc] at h
  by_cases h1 : g = 37
  ·subst h1; simp only [if_true, Option.some.injEq] at h; exact .inl ⟨_, _, h.symm, conSort⟩
  ·by_cases h2 : g = 38
   ·subst h2; simp only [h1, if_false, if_true, Option.some.injEq] at h; exact .inl ⟨_, _, h.symm, conComp⟩
   ·by_cases h3 : g = 85
    ·subst h3; simp only [h1, h2, if_false, if_true, Option.some.injEq] at h; exact .inr ⟨_, _, _, h.symm, conSpan⟩
    ·simp only [h1, h2, h3, if_false] at h; cases h
 refine ⟨fun g k hg args h lo r _ => ?_, fun g k hg args h lo v h' hr hlo B M w args' hs hv => ?_, fun g k hg args h lo v h' hr _ => ?_⟩
 ·rcases key g k hg with ⟨F, N, _, hC⟩ | ⟨q, m, F, _, hC⟩
  ·exact hC.dfd
  ·exact hC.dfd
 ·rcases key g k hg with ⟨F, N, rfl, hC⟩ | ⟨q, m, F, rfl, hC⟩
  ·exact in_sound hC hr hlo args' hs hv
  ·exact inC_sound hC hr hlo args' hs hv
 ·rcases key g k hg with ⟨F, N, rfl, _⟩ | ⟨q, m, F, rfl, _⟩
  ·exact inG_keep hr
  ·exact inC_keep hr
end Go.Proofs.YtcclbpcifohhkaaGreat.Bm
