/-
 Chapter 36, plain: what the waves compute: a labelling with ranks that is its own certificate. Conditions: the case is right. No program in sight.
-/
import Derived.Test.YtbadgapficfbpaaQT18
namespace Go.Proofs.Ytbadgapficfbpaa.Bm
open Go Go.RowKit
theorem inS_len {r : Int} : ∀ {W : List Int} {s : List Int × List Int}, (W.foldl (inS r) s).1.length = s.1.length ∧ (W.foldl (inS r) s).2.length = s.2.length
 | [], s => ⟨rfl, rfl⟩
 | i :: W, s => by
  rw [List.foldl_cons]
  have := inS_len (r := r) (W := W) (s := inS r s i)
  simpa [inS] using this
structure OutInv (n c : Nat) (s : (List Int × List Int) × List Int) : Prop where
 lab : s.1.1.length = n
 rk : s.1.2.length = n
 out : ∀ i ∈ s.2, 0 ≤ i ∧ i.toNat < n
 cnt : s.2.length + s.1.1.count 0 ≤ c
theorem OutInv.step {n c : Nat} {s : (List Int × List Int) × List Int} (h : OutInv n c s) {r k : Int} (h0 : 0 ≤ k) (h1 : k.toNat < n) : OutInv n c (outS r s k) := by
 unfold outS
 split
 ·rename_i hz
  have hk : k.toNat < s.1.1.length := by rw [h.lab]; exact h1
  have hc := count_set0 (v := 2) hk (by rw [getI_eq hk]; exact hz) (by decide)
  refine ⟨by simp [h.lab], by simp [h.rk], fun i hi => ?_, ?_⟩
  ·rcases List.mem_append.1 hi with hi | hi
   ·exact h.out i hi
   ·rw [List.mem_singleton.1 hi]; exact ⟨h0, h1⟩
  ·have := h.cnt
   simp only [List.length_append, List.length_singleton]
   omega
 ·exact h
theorem OutInv.fold {n c : Nat} {r : Int} : ∀ {l : List Int} {s : (List Int × List Int) × List Int}, OutInv n c s → (∀ k ∈ l, 0 ≤ k ∧ k.toNat < n) → OutInv n c (l.foldl (outS r) s)
 | [], _, h, _ => h
 | k :: l, s, h, hl => (h.step (hl k (by simp)).1 (hl k (by simp)).2).fold fun j hj => hl j (by simp [hj])
structure LessInv (n B N : Nat) (L : List Int) (s : List Int × List Int) : Prop where
 left : s.1.length = n
 low : ∀ x ∈ s.1, -(B : Int) ≤ x ∧ x ≤ 100000
 next : ∀ i ∈ s.2, 0 ≤ i ∧ i.toNat < n ∧ getI L i = 0
 len : s.2.length ≤ N
theorem LessInv.step {n B N : Nat} {L : List Int} {s : List Int × List Int} (h : LessInv n B N L s) {k : Int} (h0 : 0 ≤ k) (h1 : k.toNat < n) : LessInv n (B + 1) (N + 1) L (lessS L s k) := by
 unfold lessS
 have hg := h.low _ (getI_mem (k := k) (by rw [h.left]; exact h1))
 refine ⟨by simp [h.left], fun x hx => ?_, fun i hi => ?_, ?_⟩
 ·rcases List.mem_or_eq_of_mem_set hx with hx | rfl
  ·have := h.low x hx; omega
  ·omega
 ·split at hi
  ·rename_i hz
   rcases List.mem_append.1 hi with hi | hi
   ·exact h.next i hi
   ·rw [List.mem_singleton.1 hi]; exact ⟨h0, h1, hz.2⟩
  ·exact h.next i hi
 ·have := h.len
  split <;> simp <;> omega
theorem LessInv.fold {n : Nat} {L : List Int} : ∀ {l : List Int} {B N : Nat} {s : List Int × List Int}, LessInv n B N L s → (∀ k ∈ l, 0 ≤ k ∧ k.toNat < n) → LessInv n (B + l.length) (N + l.length) L (l.foldl (lessS L) s)
 | [], _, _, _, h, _ => h
 | k :: l, B, N, s, h, hl => by
  have := (h.step (hl k (by simp)).1 (hl k (by simp)).2).fold (l := l) fun j hj => hl j (by simp [hj])
  rw [List.foldl_cons, List.length_cons, show B + (l.length + 1) = B + 1 + l.length by omega, show N + (l.length + 1) = N + 1 + l.length by omega]
  exact this
theorem graphG_bound : ∀ (A : List (List Int)) (i m : Nat) (G : List (List Int)), (∀ a ∈ A, a.length ≤ 300) → (∀ g ∈ G, g.length ≤ m) → ∀ g ∈ graphG A i G, g.length ≤ m + A.length * 300
 | [], _, _, _, _, h => fun g hg => by have := h g hg; omega
 | a :: A, i, m, G, ha, h => fun g hg => by
  have hfb : ∀ (a : List Int) (G : List (List Int)) (m : Nat), (∀ g ∈ G, g.length ≤ m) → ∀ g ∈ a.foldl (addA i) G, g.length ≤ m + a.length := by
   intro a
   induction a with
   | nil => intro G m h g hg; exact h g hg
   | cons k a ih =>
    intro G m h g hg
    have := ih (addA i G k) (m + 1) (addA_bound h) g hg
    simp; omega
  have h1 := ha a (by simp)
  have := graphG_bound A (i + 1) (m + a.length) _ (fun b hb => ha b (by simp [hb])) (hfb a G m h) g hg
  simp only [List.length_cons]
  omega
theorem graphF_bound {A : List (List Int)} (h : rightB A = true) : ∀ g ∈ graphF A, g.length ≤ 90000 := fun g hg => by
 obtain ⟨h1, h2⟩ := right_at h
 have := graphG_bound A 0 0 (List.replicate A.length []) (fun a ha => (h2 a ha).2) (fun g hg => by simp [List.eq_of_mem_replicate hg]) g hg
 omega
theorem wave0_in : ∀ (G : List (List Int)) (i : Nat), ∀ z ∈ wave0 G i, (i : Int) ≤ z ∧ z < i + G.length
 | [], _, _, h => by cases h
 | g :: G, i, z, h => by
  have ih := wave0_in G (i + 1) z
  rw [show wave0 (g :: G) i = if g = [] then (i : Int) :: wave0 G (i + 1) else wave0 G (i + 1) from rfl] at h
  simp only [List.length_cons]
  split at h
  ·rcases List.mem_cons.1 h with rfl | h
   ·omega
   ·have := ih h; omega
  ·have := ih h; omega
theorem wave0_len : ∀ (G : List (List Int)) (i : Nat), (wave0 G i).length ≤ G.length
 | [], _ => Nat.le_refl _
 | g :: G, i => by
  have := wave0_len G (i + 1)
  rw [show wave0 (g :: G) i = if g = [] then (i : Int) :: wave0 G (i + 1) else wave0 G (i + 1) from rfl]
  split <;> simp <;> omega
theorem getL_ok {n : Nat} {A : List (List Int)} (hat : ∀ a ∈ A, (∀ k ∈ a, 0 ≤ k ∧ k < n) ∧ a.length ≤ 300) (i : Int) : (∀ k ∈ getL A i, 0 ≤ k ∧ k.toNat < n) ∧ (getL A i).length ≤ 300 := by
 unfold getL
 rw [List.getD_eq_getElem?_getD]
 cases h : A[i.toNat]? with
 | none => exact ⟨fun k hk => (by cases hk), by simp⟩
 | some a =>
  obtain ⟨q1, q2⟩ := hat a (List.mem_of_getElem? h)
  exact ⟨fun k hk => by have := q1 k hk; omega, q2⟩
theorem OutInv.foldW {n c : Nat} {r : Int} {A : List (List Int)} (hat : ∀ a ∈ A, (∀ k ∈ a, 0 ≤ k ∧ k < n) ∧ a.length ≤ 300) : ∀ (W : List Int) (s : (List Int × List Int) × List Int), OutInv n c s → OutInv n c (W.foldl (fun s i => (getL A i).foldl (outS r) s) s)
 | [], _, h => h
 | i :: W, _s, h => OutInv.foldW hat W _ (h.fold (getL_ok hat i).1)
theorem LessInv.foldW {n : Nat} {L : List Int} {A : List (List Int)} (hat : ∀ a ∈ A, (∀ k ∈ a, 0 ≤ k ∧ k < n) ∧ a.length ≤ 300) : ∀ (W : List Int) (B N : Nat) (s : List Int × List Int), LessInv n B N L s →
  ∃ B' N', B' ≤ B + W.length * 300 ∧ N' ≤ N + W.length * 300 ∧ LessInv n B' N' L (W.foldl (fun s k => (getL A k).foldl (lessS L) s) s)
 | [], B, N, s, h => ⟨B, N, by simp, by simp, h⟩
 | i :: W, B, N, s, h => by
  obtain ⟨q1, q2⟩ := getL_ok hat i
  obtain ⟨B', N', h1, h2, h3⟩ := LessInv.foldW hat W _ _ _ (h.fold q1)
  refine ⟨B', N', ?_, ?_, h3⟩ <;> simp only [List.length_cons] <;> omega
theorem inS_count {r : Int} : ∀ (W : List Int) (s : List Int × List Int), (W.foldl (inS r) s).1.count 0 ≤ s.1.count 0
 | [], _ => Nat.le_refl _
 | i :: W, s => Nat.le_trans (inS_count W _) (count_set_le (by decide))
theorem outS_count {r : Int} : ∀ (W : List Int) (s : (List Int × List Int) × List Int), (W.foldl (outS r) s).1.1.count 0 ≤ s.1.1.count 0
 | [], _ => Nat.le_refl _
 | i :: W, s => by
  refine Nat.le_trans (outS_count W _) ?_
  unfold outS
  split
  ·exact count_set_le (by decide)
  ·exact Nat.le_refl _
theorem outW_count {r : Int} {A : List (List Int)} : ∀ (W : List Int) (s : (List Int × List Int) × List Int), (W.foldl (fun s i => (getL A i).foldl (outS r) s) s).1.1.count 0 ≤ s.1.1.count 0
 | [], _ => Nat.le_refl _
 | _i :: W, s => Nat.le_trans (outW_count W _) (outS_count _ s)
theorem GInv.step {n m : Nat} {r : Int} {s : GS} {A : List (List Int)} (h : GInv n (m + 1) r s) (hn : n ≤ 300) (hat : ∀ a ∈ A, (∀ k ∈ a, 0 ≤ k ∧ k < n) ∧ a.length ≤ 300) (hw : s.wave ≠ []) : GInv n m (r + 2) (waveS A r s) := by
 obtain ⟨lab, rk, lf, W⟩ := s
 obtain ⟨i1, i2, i3, i4, i5, i6, i7, i8, i9⟩ := h
 simp only at i1 i2 i3 i4 i5 i6 i7 i8 i9 hw
 obtain ⟨n1, n2⟩ := inS_len (r := r) (W := W) (s := (lab, rk))
 simp only at n1 n2
 have c1 : (W.foldl (inS r) (lab, rk)).1.count 0 < m := by
  obtain ⟨w, W', rfl⟩ := List.exists_cons_of_ne_nil hw
  obtain ⟨q1, q2, q3⟩ := i4 w (by simp)
  have hk : w.toNat < lab.length := by omega
  have := count_set0 (v := 1) hk (by rw [getI_eq hk]; exact q3) (by decide)
  have h2 := inS_count (r := r) W' (inS r (lab, rk) w)
  rw [List.foldl_cons]
  simp only [inS] at h2 ⊢
  omega
 have io : OutInv n 300 (W.foldl (inS r) (lab, rk), []) := ⟨by rw [n1, i1], by rw [n2, i2], fun i hi => (by cases hi), by
  have := List.count_le_length (a := (0 : Int)) (l := (W.foldl (inS r) (lab, rk)).1)
  simp only [List.length_nil]
  omega⟩
 have io2 := io.foldW (r := r) hat W
 have c2 := outW_count (r := r) (A := A) W (W.foldl (inS r) (lab, rk), [])
 unfold waveS
 simp only
 generalize W.foldl (inS r) (lab, rk) = s1 at *
 generalize W.foldl (fun s i => (getL A i).foldl (outS r) s) (s1, []) = s2 at *
 obtain ⟨⟨L, R⟩, out⟩ := s2
 have b4 := io2.cnt
 simp only at c2 b4
 obtain ⟨B', N', h1, h2, h3⟩ := LessInv.foldW (L := L) hat out ((n + 1 - (m + 1)) * 90000) 0 (lf, []) ⟨i3, i9, fun i hi => (by cases hi), by simp⟩
 have hl := h3.len
 exact ⟨io2.lab, io2.rk, h3.left, h3.next, by simp only; omega, by simp only; omega, by omega, by omega, fun y hy => by have := h3.low y hy; omega⟩
theorem outS_len {r : Int} : ∀ {l : List Int} {s : (List Int × List Int) × List Int}, (l.foldl (outS r) s).1.1.length = s.1.1.length ∧ (l.foldl (outS r) s).1.2.length = s.1.2.length
 | [], s => ⟨rfl, rfl⟩
 | k :: l, s => by
  rw [List.foldl_cons]
  have := outS_len (r := r) (l := l) (s := outS r s k)
  rw [this.1, this.2]
  unfold outS
  split <;> simp
theorem outW_len {A : List (List Int)} {r : Int} : ∀ {W : List Int} {s : (List Int × List Int) × List Int}, (W.foldl (fun s i => (getL A i).foldl (outS r) s) s).1.1.length = s.1.1.length ∧ (W.foldl (fun s i => (getL A i).foldl (outS r) s) s).1.2.length = s.1.2.length
 | [], s => ⟨rfl, rfl⟩
 | i :: W, s => by
  rw [List.foldl_cons]
  have := outW_len (A := A) (r := r) (W := W) (s := (getL A i).foldl (outS r) s)
  rw [this.1, this.2]
  exact outS_len
theorem waves_len {A : List (List Int)} : ∀ {m : Nat} {r : Int} {s : GS}, (wavesS A m r s).lab.length = s.lab.length ∧ (wavesS A m r s).rk.length = s.rk.length
 | 0, _, _ => ⟨rfl, rfl⟩
 | m + 1, r, s => by
  unfold wavesS
  split
  ·exact ⟨rfl, rfl⟩
  ·have := waves_len (A := A) (m := m) (r := r + 2) (s := waveS A r s)
   rw [this.1, this.2]
   unfold waveS
   simp only [outW_len.1, outW_len.2]
   exact inS_len
theorem reify_row {L : List Int} {h : Heap} {b n : Nat} (hn : L.length = n) (ho : h[b]? = some (rowC L)) : reify E.P 8 h (.slice (some ⟨b, 0, none⟩) n n) = some (rowT L) := by
 subst hn
 rw [reify_slice]
 by_cases h0 : L.length = 0
 ·have : L = [] := List.eq_nil_of_length_eq_zero h0
  subst this; rfl
 ·rw [if_neg h0, ho]
  show reifyS E.P 7 h (some (.cells 3 (L.map (.int .i64)) 0)) _ _ = _
  rw [reifyS_cells, s3, Option.bind_some, if_pos ⟨rfl, Nat.one_pos, by simp⟩]
  have e : ((L.map (Value.int .i64)).drop 0).take (L.length * 1) = L.map (.int .i64) := by rw [List.drop_zero, Nat.mul_one, List.take_of_length_le (by simp)]
  rw [e, reifyC_set (by simp [List.all_eq_true]), Option.bind_some, elems_one a3 s3]; rfl
set_option maxRecDepth 20000 in
set_option maxHeartbeats 4000000 in
theorem grounded_spec (x : Bool) (l : List Claim) (hc : CaseOk l) (hl : l.length ≤ maxLen) : pureCall E.P (L E) 10 [lst x (l.map Claim.val)] =
  some (if rightB (atts l) then .tuple #[rowT (groundF (atts l)).1, rowT (groundF (atts l)).2, .int .i64 0] else .tuple #[.slice none 0 0, .slice none 0 0, .int .i64 1]) := by
 have rs := right_spec x l hc hl
 rw [pureCall_fn F10 rfl]
 cases hr : rightB (atts l)
 ·rw [hr] at rs
  simp -implicitDefEqProofs [r10, p10, ret0 m13, rs]
 ·rw [hr] at rs
  obtain ⟨hn, hat⟩ := right_at hr
  rw [atts_len] at hn hat
  have gs := graph_spec x l hc hr
  have hG : (graphF (atts l)).length = l.length := by rw [graphF_len, atts_len]
  have mk := fun h => make_one (h := h) (el := ⟨3, 1, 8, .int .i64 0, ⟨some false, some 1⟩⟩) (n := l.length) (k := .i64) (k' := .i64) rfl rfl (by omega) (by decide)
  have hz : List.replicate l.length (Value.int .i64 0) = (zerosI l.length).map (.int .i64) := by simp [zerosI]
  simp -implicitDefEqProofs [hz] at mk
  simp -implicitDefEqProofs [r10, p10, ret0 m13, rs, ret1s m27, gs, mk, prep_new, newK_nil s3]
  have hGb := graphF_bound hr
  generalize hGe : graphF (atts l) = G at *
  rw [LL_for (γ := List Int × List Int) G (zerosI l.length, []) (fun i s => [(9, rowS_ 3 s.2), (40, .int .i64 i)]) (fun _ s => [rowC (zerosI l.length), rowC (zerosI l.length), rowC s.1, rowG s.2])
   (fun i rest s => let o := startF rest i s; (.exit 0, [(9, rowS_ 3 o.2), (40, undef)], [rowC (zerosI l.length), rowC (zerosI l.length), rowC o.1, rowG o.2])) (fun i s => s.1.length = l.length ∧ s.2.length ≤ i) (by omega) ⟨by simp [zerosI], by simp⟩]
  ·rw [startF_eq G 0 _ _ (by simp [zerosI, hG])]
   simp only [List.take_zero, List.nil_append]
   have hw0 := wave0_in G 0
   have hwl := wave0_len G 0
   have hl0 : ∀ y ∈ G.map (fun g => (g.length : Int)), 0 ≤ y ∧ y ≤ 90000 := fun y hy => by
    obtain ⟨g, hg, rfl⟩ := List.mem_map.1 hy
    have := hGb g hg
    omega
   have hst : groundF (atts l) = ((wavesS (atts l) (l.length + 1) 1 ⟨zerosI l.length, zerosI l.length, G.map (fun g => (g.length : Int)), wave0 G 0⟩).lab, (wavesS (atts l) (l.length + 1) 1 ⟨zerosI l.length, zerosI l.length, G.map (fun g => (g.length : Int)), wave0 G 0⟩).rk) := by
    unfold groundF startS
    rw [hGe, atts_len]
   rw [hst]
   have hll : (G.map (fun g => (g.length : Int))).length = l.length := by simp [hG]
   generalize G.map (fun g => (g.length : Int)) = L0 at *
   generalize wave0 G 0 = W0 at *
   obtain ⟨o3, ho3, fz⟩ := frz_int (h := [rowC (zerosI l.length), rowC (zerosI l.length), rowC L0, rowG W0]) (b := 3) (W := W0) rfl
   simp -implicitDefEqProofs [k10_8, rowS_, prep_frz] at fz ⊢
   simp -implicitDefEqProofs [fz]
   have hr0 : (0 : Int) ≤ 1 := by omega
   rw [LL_rec (α := Nat × Int × GS) (l.length + 1, 1, ⟨zerosI l.length, zerosI l.length, L0, W0⟩) (fun a => [(9, lst false (a.2.2.wave.map (.int .i64))), (11, .int .i64 a.2.1)]) (fun a => [rowC a.2.2.lab, rowC a.2.2.rk, rowC a.2.2.left, o3])
    (fun a => let o := wavesS (atts l) a.1 a.2.1 a.2.2; (.exit 2, [(9, undef), (11, undef)], [rowC o.lab, rowC o.rk, rowC o.left, o3])) (fun a => GInv l.length a.1 a.2.1 a.2.2) (fun a => a.1)]
   ·have wl := waves_len (A := atts l) (m := l.length + 1) (r := 1) (s := ⟨zerosI l.length, zerosI l.length, L0, W0⟩)
    simp only [zerosI, List.length_replicate] at wl
    simp only [zerosI]
    generalize wavesS (atts l) (l.length + 1) 1 ⟨List.replicate l.length 0, List.replicate l.length 0, L0, W0⟩ = o at *
    have r1 := reify_row (h := [rowC o.lab, rowC o.rk, rowC o.left, o3]) (b := 0) wl.1 rfl
    have r2 := reify_row (h := [rowC o.lab, rowC o.rk, rowC o.left, o3]) (b := 1) wl.2 rfl
    simp -implicitDefEqProofs [k10_15, -reify_slice, r1, r2]
   ·refine ⟨by simp [zerosI], by simp [zerosI], by simpa using hll, fun i hi => ?_, by simpa using Nat.le_trans hwl (by omega), by simp [zerosI], by simp <;> omega, by simp, fun y hy => ?_⟩
    ·obtain ⟨h1, h2⟩ := hw0 i hi
     have : i.toNat < l.length := by omega
     exact ⟨by omega, this, by simp only [getI, zerosI, List.getD_eq_getElem?_getD, List.getElem?_replicate]; split <;> rfl⟩
    ·have := hl0 y hy
     simp; omega
   ·simp -implicitDefEqProofs [k10_15]
   ·rfl
   ·intro nx a hi ih
    obtain ⟨m, r, s⟩ := a
    simp only at hi ih
    by_cases hw : s.wave = []
    ·have hfin : wavesS (atts l) m r s = s := by
      cases m with
      | zero => rfl
      | succ m => unfold wavesS; rw [if_pos hw]
     simp only [hfin]
     simp -implicitDefEqProofs [r10_15, k10_15, hw, trim_le]
    ·obtain ⟨m, rfl⟩ : ∃ k, m = k + 1 := ⟨m - 1, by have := hi.open_; omega⟩
     have hst : wavesS (atts l) (m + 1) r s = wavesS (atts l) m (r + 2) (waveS (atts l) r s) := by
      rw [wavesS, if_neg hw]
     simp only [hst]
     have ih := ih (m, r + 2, waveS (atts l) r s) (by simp) (hi.step hn hat hw)
     obtain ⟨lab, rk, lf, W⟩ := s
     obtain ⟨i1, i2, i3, i4, i5, i6, i7, i8, i9⟩ := hi
     simp only at i1 i2 i3 i4 i5 i6 i7 i8 i9 hw
     have hwl : 0 < W.length := List.length_pos_iff.2 hw
     have hr2 := wrap64 (z := r + 2) (by omega) (by omega)
     have hr1 := wrap64 (z := r + 1) (by omega) (by omega)
     simp -implicitDefEqProofs [r10_15, k10_15, hwl, prep_new, newK_nil s3]
     simp only [waveS] at ih ⊢
     have sp : ∀ (L : List Int) (k : Int), k.toNat < L.length → ∀ v, splice (L.map (.int .i64)) k.toNat [v] = (L.map (.int .i64)).set k.toNat v := fun L k hk v => splice_one (by simpa using hk)
     rw [LL_for (γ := List Int × List Int) W (lab, rk) (fun j _ => [(68, .int .i64 j)]) (fun _ s => [rowC s.1, rowC s.2, rowC lf, o3, rowG [], rowG []])
      (fun _ rest s => let o := rest.foldl (inS r) s; (.exit 4, [(68, undef)], [rowC o.1, rowC o.2, rowC lf, o3, rowG [], rowG []])) (fun _ s => s.1.length = l.length ∧ s.2.length = l.length) (by omega) ⟨i1, i2⟩]
     ·obtain ⟨n1, n2⟩ := inS_len (r := r) (W := W) (s := (lab, rk))
      simp only at n1 n2
      have io : OutInv l.length 300 (W.foldl (inS r) (lab, rk), []) := ⟨by rw [n1, i1], by rw [n2, i2], fun i hi => (by cases hi), by
       have := List.count_le_length (a := (0 : Int)) (l := (W.foldl (inS r) (lab, rk)).1)
       simp only [List.length_nil]
       omega⟩
      generalize W.foldl (inS r) (lab, rk) = s1 at *
      simp -implicitDefEqProofs [k10_19]
      rw [LL_for (γ := (List Int × List Int) × List Int) W (s1, []) (fun j c => [(12, rowS_ 4 c.2), (82, .int .i64 j)]) (fun _ c => [rowC c.1.1, rowC c.1.2, rowC lf, o3, rowG c.2, rowG []])
       (fun _ rest c => let o := rest.foldl (fun c i => (getL (atts l) i).foldl (outS r) c) c; (.exit 6, [(12, rowS_ 4 o.2), (82, undef)], [rowC o.1.1, rowC o.1.2, rowC lf, o3, rowG o.2, rowG []])) (fun _ c => OutInv l.length 300 c) (by omega) io]
      ·have hatI : ∀ i, 0 ≤ i → i.toNat < l.length → (∀ k ∈ getL (atts l) i, 0 ≤ k ∧ k.toNat < l.length) ∧ (getL (atts l) i).length ≤ 300 := fun i h0 h1 => by
        have hm : getL (atts l) i ∈ atts l := by rw [getL_at h1]; exact List.mem_map.2 ⟨_, List.getElem_mem h1, rfl⟩
        obtain ⟨q1, q2⟩ := hat _ hm
        exact ⟨fun k hk => by have := q1 k hk; omega, q2⟩
       have io2 : OutInv l.length 300 (W.foldl (fun c i => (getL (atts l) i).foldl (outS r) c) (s1, [])) := by
        have key : ∀ (W : List Int) c, OutInv l.length 300 c → (∀ i ∈ W, 0 ≤ i ∧ i.toNat < l.length) → OutInv l.length 300 (W.foldl (fun c i => (getL (atts l) i).foldl (outS r) c) c) := by
         intro W
         induction W with
         | nil => intro c h _; exact h
         | cons i W ihW =>
          intro c h hW
          rw [List.foldl_cons]
          exact ihW _ (h.fold (hatI i (hW i (by simp)).1 (hW i (by simp)).2).1) fun j hj => hW j (by simp [hj])
        exact key W _ io fun i hi => ⟨(i4 i hi).1, (i4 i hi).2.1⟩
       generalize W.foldl (fun c i => (getL (atts l) i).foldl (outS r) c) (s1, []) = s2 at *
       obtain ⟨⟨L, R⟩, out⟩ := s2
       obtain ⟨b1, b2, b3, b4⟩ := io2
       simp only at b1 b2 b3 b4 ih
       obtain ⟨B0, hB0⟩ : ∃ B, B = (l.length + 1 - (m + 1)) * 90000 := ⟨_, rfl⟩
       rw [← hB0] at i9
       have hB1 : B0 ≤ 90000 * 301 := by omega
       obtain ⟨o4, ho4, fz4⟩ := frz_int (h := [rowC L, rowC R, rowC lf, o3, rowG out, rowG []]) (b := 4) (W := out) rfl
       simp -implicitDefEqProofs at fz4
       simp -implicitDefEqProofs [k10_24, rowS_, prep_frz, fz4]
       rw [LL_for (γ := List Int × List Int) out (lf, []) (fun j c => [(13, rowS_ 5 c.2), (117, .int .i64 j)]) (fun _ c => [rowC L, rowC R, rowC c.1, o3, o4, rowG c.2])
        (fun _ rest c => let o := rest.foldl (fun c k => (getL (atts l) k).foldl (lessS L) c) c; (.exit 10, [(13, rowS_ 5 o.2), (117, undef)], [rowC L, rowC R, rowC o.1, o3, o4, rowG o.2])) (fun j c => ∃ B N, B ≤ B0 + j * 300 ∧ N ≤ j * 300 ∧ LessInv l.length B N L c) (by omega) ⟨B0, 0, by omega, by omega, i3, i9, fun i hi => (by cases hi), by simp⟩]
       ·generalize out.foldl (fun c k => (getL (atts l) k).foldl (lessS L) c) (lf, []) = s3 at *
        obtain ⟨lf2, nxt⟩ := s3
        simp only at ih
        obtain ⟨o5, ho5, fz5⟩ := frz_int (h := [rowC L, rowC R, rowC lf2, o3, o4, rowG nxt]) (b := 5) (W := nxt) rfl
        simp -implicitDefEqProofs at fz5
        simp -implicitDefEqProofs [k10_15] at ih
        simp -implicitDefEqProofs [k10_35, rowS_, prep_frz, fz5, hr2, trim_cut, ho3, rowC_bel]
        exact ih
       ·simp -implicitDefEqProofs [k10_35, rowS_]
       ·simp -implicitDefEqProofs [rowC, rowG]
       ·intro nx2 j c hj _
        simp -implicitDefEqProofs [r10_35, k10_35, hj, rowC, rowG, rowS_, trim_le]
       ·intro nx2 j v rest c hj hv hd hwj ⟨B, N0, gB, gN, g⟩ ihj
        obtain ⟨p1, p2⟩ := b3 v (hv ▸ List.getElem_mem hj)
        obtain ⟨hI1, hI2⟩ := hatI v p1 p2
        have ci := case_idx (x := x) p1 p2
        have hcv := hc l[v.toNat] (List.getElem_mem p2)
        rw [getL_at p2] at hI1 hI2
        have hgl : getL (atts l) v = l[v.toNat].att := getL_at p2
        simp only [List.foldl_cons, hgl]
        have gf := g.fold hI1
        have ihj := ihj (l[v.toNat].att.foldl (lessS L) c) ⟨_, _, by omega, by omega, gf⟩
        obtain ⟨cl, ecl⟩ : ∃ cl, l[v.toNat] = cl := ⟨_, rfl⟩
        rw [ecl] at ci hcv hI1 hI2 ihj
        rw [ecl]
        obtain ⟨hk, ha⟩ := hcv
        unfold maxLen at ha
        simp -implicitDefEqProofs [r10_35, k10_35, hj, hv, rowS_, ci, Claim.val, Claim.cells, il_len hk]
        rw [LL_for (γ := List Int × List Int) cl.att c (fun j c => [(13, rowS_ 5 c.2), (127, .int .i64 j)]) (fun _ c => [rowC L, rowC R, rowC c.1, o3, o4, rowG c.2])
         (fun _ rest c => let o := rest.foldl (lessS L) c; (.exit 12, [(13, rowS_ 5 o.2), (127, undef)], [rowC L, rowC R, rowC o.1, o3, o4, rowG o.2])) (fun jj c => ∃ B N, B ≤ B0 + j * 300 + jj ∧ N ≤ j * 300 + jj ∧ LessInv l.length B N L c) ha ⟨B, N0, by omega, by omega, g⟩]
        ·simp -implicitDefEqProofs [k10_35, rowS_] at ihj
         simp -implicitDefEqProofs [k10_38, rowS_, hwj, trim_le]
         exact ihj
        ·simp -implicitDefEqProofs [k10_38, rowS_]
        ·rfl
        ·intro nx3 jj c hjj _
         simp -implicitDefEqProofs [r10_38, k10_38, hjj, rowS_, trim_le]
        ·intro nx3 jj u rest3 c hjj hu hdd hwjj ⟨B', N', gB', gN', gg⟩ ihjj
         obtain ⟨u1, u2⟩ := hI1 u (hu ▸ List.getElem_mem hjj)
         have ihjj := ihjj (lessS L c u) ⟨_, _, by omega, by omega, gg.step u1 u2⟩
         obtain ⟨F, N⟩ := c
         have gl : F.length = l.length := gg.left
         have gn : N.length ≤ N' := gg.len
         have gw := gg.low (getI F u) (getI_mem (L := F) (by rw [gl]; exact u2))
         have u3 : u < l.length := by omega
         have u4 : u.toNat + 1 ≤ F.length := by omega
         have u5 : u.toNat < F.length := by omega
         have u6 : u.toNat < L.length := by rw [b1]; exact u2
         have e1 := sp F u u5
         have gF := getI_eq u5
         have gL := getI_eq u6
         have hwu := wrap64 (z := getI F u - 1) (by omega) (by omega)
         have hw0 : IntKind.i64.wrap 0 = 0 := wrap64 (by omega) (by omega)
         have hbd : (N.length + 1) * 8 ≤ 140737488355328 := by omega
         simp only [List.foldl_cons]
         unfold lessS at ihjj ⊢
         by_cases z1 : getI F u - 1 = 0
         ·by_cases z2 : getI L u = 0
          ·simp -implicitDefEqProofs [k10_38, rowC, rowG, rowS_, z1, z2] at ihjj
           simp -implicitDefEqProofs [r10_38, k10_38, hjj, il_idxN hk hjj, hu, index_slice, u1, u3, u4, u5, u6, e1, gF, gL, hw0, z1, z2, hwjj, build_one', Value.cells, appS_grown, hbd, rowC, rowG, rowS_, trim_cut, ho3, ho4, -splice, -List.all_eq_true, -List.all_map, map_below, set_below]
           exact ihjj
          ·simp -implicitDefEqProofs [k10_38, rowC, rowG, rowS_, z1, z2] at ihjj
           simp -implicitDefEqProofs [r10_38, k10_38, hjj, il_idxN hk hjj, hu, index_slice, u1, u3, u4, u5, u6, e1, gF, gL, hw0, z1, z2, hwjj, rowC, rowG, rowS_, trim_le, -splice]
           exact ihjj
         ·simp -implicitDefEqProofs [k10_38, rowC, rowG, rowS_, z1] at ihjj
          simp -implicitDefEqProofs [r10_38, k10_38, hjj, il_idxN hk hjj, hu, index_slice, u1, u3, u4, u5, e1, gF, hwu, z1, hwjj, rowC, rowG, rowS_, trim_le, -splice]
          exact ihjj
      ·simp -implicitDefEqProofs [k10_24, rowS_]
      ·simp -implicitDefEqProofs [rowC, rowG]
      ·intro nx2 j c hj _
       simp -implicitDefEqProofs [r10_24, k10_24, hj, rowC, rowG, rowS_, trim_le]
      ·intro nx2 j v rest c hj hv hd hwj g ihj
       obtain ⟨p1, p2, _⟩ := i4 v (hv ▸ List.getElem_mem hj)
       have ci := case_idx (x := x) p1 p2
       have hcv := hc l[v.toNat] (List.getElem_mem p2)
       have hgl : getL (atts l) v = l[v.toNat].att := getL_at p2
       obtain ⟨hI1, hI2⟩ := hat _ (List.mem_map.2 ⟨_, List.getElem_mem p2, rfl⟩)
       have hI1 : ∀ k ∈ l[v.toNat].att, 0 ≤ k ∧ k.toNat < l.length := fun k hk => by have := hI1 k hk; omega
       simp only [List.foldl_cons, hgl]
       have ihj := ihj (l[v.toNat].att.foldl (outS r) c) (g.fold hI1)
       obtain ⟨cl, ecl⟩ : ∃ cl, l[v.toNat] = cl := ⟨_, rfl⟩
       rw [ecl] at ci hcv hI1 hI2 ihj
       rw [ecl]
       obtain ⟨hk, ha⟩ := hcv
       unfold maxLen at ha
       simp -implicitDefEqProofs [r10_24, k10_24, hj, hv, rowS_, ci, Claim.val, Claim.cells, il_len hk]
       rw [LL_for (γ := (List Int × List Int) × List Int) cl.att c (fun j c => [(12, rowS_ 4 c.2), (92, .int .i64 j)]) (fun _ c => [rowC c.1.1, rowC c.1.2, rowC lf, o3, rowG c.2, rowG []])
        (fun _ rest c => let o := rest.foldl (outS r) c; (.exit 8, [(12, rowS_ 4 o.2), (92, undef)], [rowC o.1.1, rowC o.1.2, rowC lf, o3, rowG o.2, rowG []])) (fun _ c => OutInv l.length 300 c) ha g]
       ·simp -implicitDefEqProofs [k10_24, rowS_] at ihj
        simp -implicitDefEqProofs [k10_27, rowS_, hwj, trim_le]
        exact ihj
       ·simp -implicitDefEqProofs [k10_27, rowS_]
       ·rfl
       ·intro nx3 jj c hjj _
        simp -implicitDefEqProofs [r10_27, k10_27, hjj, rowS_, trim_le]
       ·intro nx3 jj u rest3 c hjj hu hdd hwjj gg ihjj
        obtain ⟨u1, u2⟩ := hI1 u (hu ▸ List.getElem_mem hjj)
        have ihjj := ihjj (outS r c u) (gg.step u1 u2)
        obtain ⟨⟨F, R⟩, N⟩ := c
        have gl : F.length = l.length := gg.lab
        have gr : R.length = l.length := gg.rk
        have gn := gg.cnt
        simp only at gn
        have u3 : u < l.length := by omega
        have u4 : u.toNat + 1 ≤ F.length := by omega
        have u5 : u.toNat < F.length := by omega
        have u6 : u.toNat + 1 ≤ R.length := by omega
        have e1 := sp F u u5
        have e2 := sp R u (by omega)
        have gF := getI_eq u5
        have hbd : (N.length + 1) * 8 ≤ 140737488355328 := by omega
        simp only [List.foldl_cons]
        unfold outS at ihjj ⊢
        by_cases z1 : getI F u = 0
        ·simp -implicitDefEqProofs [k10_27, rowC, rowG, rowS_, z1] at ihjj
         simp -implicitDefEqProofs [r10_27, k10_27, hjj, il_idxN hk hjj, hu, index_slice, u1, u3, u4, u5, u6, e1, e2, gF, hr1, z1, hwjj, build_one', Value.cells, appS_grown, hbd, rowC, rowG, rowS_, trim_cut, ho3, -splice, -List.all_eq_true, -List.all_map, map_below, set_below]
         exact ihjj
        ·simp -implicitDefEqProofs [k10_27, rowC, rowG, rowS_, z1] at ihjj
         simp -implicitDefEqProofs [r10_27, k10_27, hjj, il_idxN hk hjj, hu, index_slice, u1, u3, u5, gF, z1, hwjj, rowC, rowG, rowS_, trim_le, -splice]
         exact ihjj
     ·simp -implicitDefEqProofs [k10_19]
     ·simp -implicitDefEqProofs [rowC, rowG]
     ·intro nx2 j s hj _
      simp -implicitDefEqProofs [r10_19, k10_19, hj, rowC, rowG, trim_le]
     ·intro nx2 j v rest s hj hv hd hwj ⟨g1, g2⟩ ihj
      obtain ⟨p1, p2, _⟩ := i4 v (hv ▸ List.getElem_mem hj)
      obtain ⟨A, R⟩ := s
      simp only at g1 g2
      have ihj := ihj (inS r (A, R) v) ⟨by simpa [inS] using g1, by simpa [inS] using g2⟩
      simp only [List.foldl_cons]
      have p3 : v < l.length := by omega
      have p4 : v.toNat + 1 ≤ A.length := by omega
      have p5 : v.toNat + 1 ≤ R.length := by omega
      have e1 := sp A v (by omega)
      have e2 := sp R v (by omega)
      simp -implicitDefEqProofs [k10_19, rowC, rowG, inS] at ihj
      simp -implicitDefEqProofs [r10_19, k10_19, hj, hv, hwj, index_slice, p1, p3, p4, p5, e1, e2, rowC, rowG, inS, trim_le, -splice]
      exact ihj
  ·simp -implicitDefEqProofs [k10_8, rowS_]
  ·simp -implicitDefEqProofs [rowC, rowG]
  ·intro nx i s hi _
   have hi2 : ¬ (i < l.length) := by omega
   simp -implicitDefEqProofs [r10_8, k10_8, hi2, startF, rowC, rowG, rowS_, trim_le]
  ·intro nx i g rest s hi hv hd hw ⟨hs1, hs2⟩ ih
   obtain ⟨lf, W⟩ := s
   simp only at hs1 hs2
   have hi2 : i < l.length := by omega
   have hi3 : i < lf.length := by omega
   have hi4 : ((i : Int) < l.length) := by omega
   have ih := ih (lf.set i g.length, if g = [] then W ++ [(i : Int)] else W) ⟨by simp [hs1], by split <;> simp <;> omega⟩
   have hbd : (W.length + 1) * 8 ≤ 140737488355328 := by omega
   simp only [startF]
   have e4 := fun v => splice_one (c := lf.map (.int .i64)) (off := i) (v := v) (by simpa using hi3)
   have hi5 : i + 1 ≤ lf.length := hi3
   by_cases hg : g = []
   ·subst hg
    simp -implicitDefEqProofs [k10_8, rowC, rowG, rowS_] at ih
    simp -implicitDefEqProofs [r10_8, k10_8, hi, hi3, hi4, hi5, hv, rowT, rowC, rowG, rowS_, index_slice, e4, hw, build_one', Value.cells, appS_grown, hbd, trim_cut, -splice, -List.all_eq_true, -List.all_map, map_below, set_below]
    exact ih
   ·have hg' : g.length ≠ 0 := fun e => hg (List.eq_nil_of_length_eq_zero e)
    simp -implicitDefEqProofs [k10_8, rowC, rowG, rowS_, hg] at ih
    simp -implicitDefEqProofs [r10_8, k10_8, hi, hi3, hi4, hi5, hv, rowT, rowC, rowG, rowS_, index_slice, e4, hw, hg, hg', -splice, -List.all_eq_true, -List.all_map]
    exact ih
end Go.Proofs.Ytbadgapficfbpaa.Bm
namespace Go.Proofs.Ytbadgapficfbpaa.Bm
open Go Go.RowKit
theorem graphG_in : ∀ (A : List (List Int)) (i n : Nat) (G : List (List Int)), i + A.length ≤ n → (∀ g ∈ G, ∀ k ∈ g, 0 ≤ k ∧ k.toNat < n) → ∀ g ∈ graphG A i G, ∀ k ∈ g, 0 ≤ k ∧ k.toNat < n
 | [], _, _, _, _, h => h
 | a :: A, i, n, G, hn, h => by
  simp only [List.length_cons] at hn
  refine graphG_in A (i + 1) n _ (by omega) ?_
  have : ∀ (a : List Int) (G : List (List Int)), (∀ g ∈ G, ∀ k ∈ g, 0 ≤ k ∧ k.toNat < n) → ∀ g ∈ a.foldl (addA i) G, ∀ k ∈ g, 0 ≤ k ∧ k.toNat < n := by
   intro a
   induction a with
   | nil => intro G h; exact h
   | cons b a ih =>
    intro G h
    refine ih _ fun g hg k hk => ?_
    unfold addA at hg
    obtain ⟨j, hj, rfl⟩ := List.mem_iff_getElem.1 hg
    have hj' : j < G.length := by simpa using hj
    rw [List.getElem_modify] at hk
    split at hk
    ·rcases List.mem_append.1 hk with hk | hk
     ·exact h _ (List.getElem_mem hj') k hk
     ·rw [List.mem_singleton.1 hk]; omega
    ·exact h _ (List.getElem_mem hj') k hk
  exact this a G h
theorem graphF_in (A : List (List Int)) : ∀ g ∈ graphF A, ∀ k ∈ g, 0 ≤ k ∧ k.toNat < A.length :=
 graphG_in A 0 A.length _ (by omega) fun g hg => by rw [List.eq_of_mem_replicate hg]; exact fun k hk => by cases hk
def defB (A : List (List Int)) (S : List Int) (c : Int) : Bool := knownB A (c :: S) && (getL (graphF A) c).all (fun k => beatsB A S k)
def admB (A : List (List Int)) (S : List Int) : Bool := knownB A S && S.all (fun c => !beatsB A S c && defB A S c)
theorem known_in {A : List (List Int)} {S : List Int} (h : knownB A S = true) : rightB A = true ∧ ∀ z ∈ S, 0 ≤ z ∧ z.toNat < A.length := by
 unfold knownB at h
 simp only [Bool.and_eq_true, Bool.not_eq_true', List.any_eq_false, Bool.or_eq_true, decide_eq_true_eq] at h
 refine ⟨h.1, fun z hz => ?_⟩
 have := h.2 z hz
 omega
set_option maxRecDepth 20000 in
theorem defends_spec (x : Bool) (l : List Claim) (k : Option Bool) (S : List Int) (c : Int) (hc : CaseOk l) (hl : l.length ≤ maxLen) (hk : IOk k S) (hS : S.length ≤ 1000000) :
  pureCall E.P (L E) 17 [lst x (l.map Claim.val), ilist k S, .int .i64 c] = some (.bool (defB (atts l) S c)) := by
 have ks := known_spec x l (some false) (c :: S) hc hl iok_some (by unfold maxLen; simp; omega)
 have hbd : (S.length + 1) * 8 ≤ 140737488355328 := by omega
 have hbd2 : (1 + S.length) * 8 ≤ 140737488355328 := by omega
 unfold defB
 have hrow : ∀ (h : Heap) (b : Nat) (n : Nat), h[b]? = some (.cells 3 ((c :: S).map (.int .i64)) 1) → n = S.length + 1 → reify E.P 8 h (.slice (some ⟨b, 0, some n⟩) n n) = some (ilist (some false) (c :: S)) := by
  intro h b n hb hn
  subst hn
  rw [reify_slice, if_neg (by omega), hb, reifyS_cells, s3, Option.bind_some, if_pos ⟨by simp [stampOk], Nat.one_pos, by simp⟩]
  have e : (((c :: S).map (Value.int .i64)).drop 0).take ((S.length + 1) * 1) = (c :: S).map (.int .i64) := by rw [List.drop_zero, Nat.mul_one, List.take_of_length_le (by simp)]
  rw [e, reifyC_set (by simp [List.all_eq_true]), Option.bind_some, elems_one a3 s3]; rfl
 have ap : ∃ n, n = S.length + 1 ∧ appS ⟨3, 1, 8, .int .i64 0, ⟨some false, some 1⟩⟩ [.cells 3 [.int .i64 c] 1] 0 false ⟨0, 0, some 1⟩ 1 1 (some (.cells 3 [.int .i64 c] 1)) (some (S.map (.int .i64), S.length)) =
   some (.slice (some ⟨0, 0, some n⟩) n n, [.cells 3 ((c :: S).map (.int .i64)) 1]) := by
  by_cases h0 : S = []
  ·subst h0; exact ⟨1, rfl, rfl⟩
  ·have hS0 : S.length ≠ 0 := fun e => h0 (List.eq_nil_of_length_eq_zero e)
   refine ⟨1 + S.length, by omega, ?_⟩
   have key := appS_grown (el := ⟨3, 1, 8, .int .i64 0, ⟨some false, some 1⟩⟩) (h := [.cells 3 [.int .i64 c] 1]) (lo := 0) (b := 0) (k := 1) (n := 1) (c := 1) (g := 0) (m := S.length) (t := 3) (row := [.int .i64 c]) (new := S.map (.int .i64)) hS0 rfl rfl rfl rfl (Nat.le_refl 0) (by show (1 + S.length) * 8 ≤ 2 ^ 47; omega)
   refine Eq.trans key ?_
   simp
   omega
 obtain ⟨n, hn, ap⟩ := ap
 have hr := hrow [.cells 3 ((c :: S).map (.int .i64)) 1] 0 n rfl hn
 simp only [List.map_cons] at hr
 have app : ∀ u, u = ilist k S → appendT (some ⟨3, 1, 8, .int .i64 0, ⟨some false, some 1⟩⟩) [.cells 3 [.int .i64 c] 1] 0 false (.slice (some ⟨0, 0, some 1⟩) 1 1) u = some (.slice (some ⟨0, 0, some n⟩) n n, [.cells 3 ((c :: S).map (.int .i64)) 1]) := by
  intro u hu
  subst hu
  rw [append_slice, il_cells rfl hk]; exact ap
 have app := app _ rfl
 rw [pureCall_fn F17 rfl]
 cases hkn : knownB (atts l) (c :: S)
 ·rw [hkn] at ks
  simp -implicitDefEqProofs [r17, p17, build_one', Value.cells, app, ret0 m31, -reify_slice, -append_slice, hr, ks]
 ·rw [hkn] at ks
  obtain ⟨hrt, hin⟩ := known_in hkn
  rw [atts_len] at hin
  have gs := graph_spec x l hc hrt
  obtain ⟨hc0, hc1⟩ := hin c (by simp)
  have hinS : ∀ z ∈ S, 0 ≤ z ∧ z.toNat < l.length := fun z hz => hin z (by simp [hz])
  have bs := fun q => beats_spec x l k S q hc hk (by unfold maxLen; omega) hinS
  have hG : (graphF (atts l)).length = l.length := by rw [graphF_len, atts_len]
  have hgb := graphF_bound hrt
  have hcG : c.toNat < (graphF (atts l)).length := by omega
  have hgm := hgb _ (List.getElem_mem hcG)
  have hgl : getL (graphF (atts l)) c = (graphF (atts l))[c.toNat] := by simp [getL, hcG]
  rw [hgl]
  obtain ⟨g, eg⟩ : ∃ g, (graphF (atts l))[c.toNat] = g := ⟨_, rfl⟩
  rw [eg] at hgm ⊢
  simp -implicitDefEqProofs [r17, p17, build_one', Value.cells, app, ret0 m31, -reify_slice, -append_slice, hr, ks, ret1s m27, gs, hc0, hcG, eg, rowT]
  rw [LL_for (γ := Unit) g () (fun i _ => [(22, .int .i64 i)]) (fun _ _ => [.cells 3 ((c :: S).map (.int .i64)) 1]) (fun _ rest _ => if rest.all (fun q => beatsB (atts l) S q) then (.exit 0, [(22, undef)], [.cells 3 ((c :: S).map (.int .i64)) 1]) else (.ret, [(6, .bool false), (22, undef)], [.cells 3 ((c :: S).map (.int .i64)) 1])) (fun _ _ => True) (by omega) trivial]
  ·cases h : g.all (fun q => beatsB (atts l) S q) <;> simp -implicitDefEqProofs [k17_4, -List.all_eq_true]
  ·simp -implicitDefEqProofs [k17_4]
  ·simp -implicitDefEqProofs
  ·intro nx i _ hi _
   simp -implicitDefEqProofs [r17_4, k17_4, hi, trim_le]
  ·intro nx i q rest _ hi hv hd hw _ ih
   have ih := ih () trivial
   have bs := bs q
   rw [List.all_cons]
   simp -implicitDefEqProofs [k17_4, -List.all_eq_true] at ih
   cases hb : beatsB (atts l) S q
   ·rw [hb] at bs
    simp -implicitDefEqProofs [r17_4, k17_4, hi, hv, ret0 m32, bs, trim_le, -List.all_eq_true]
   ·rw [hb] at bs
    simp -implicitDefEqProofs [r17_4, k17_4, hi, hv, ret0 m32, bs, hw, trim_le, -List.all_eq_true]
    exact ih
set_option maxRecDepth 20000 in
theorem admissible_spec (x : Bool) (l : List Claim) (k : Option Bool) (S : List Int) (hc : CaseOk l) (hl : l.length ≤ maxLen) (hk : IOk k S) (hS : S.length ≤ 1000000) :
  pureCall E.P (L E) 19 [lst x (l.map Claim.val), ilist k S] = some (.bool (admB (atts l) S)) := by
 have ks := known_spec x l k S hc hl hk (by unfold maxLen; omega)
 have ds := fun c => defends_spec x l k S c hc hl hk hS
 unfold admB
 rw [pureCall_fn F19 rfl]
 cases hkn : knownB (atts l) S
 ·rw [hkn] at ks
  simp -implicitDefEqProofs [r19, p19, ret0 m31, ks]
 ·rw [hkn] at ks
  obtain ⟨hrt, hin⟩ := known_in hkn
  rw [atts_len] at hin
  have bs := fun q => beats_spec x l k S q hc hk (by unfold maxLen; omega) hin
  simp -implicitDefEqProofs [r19, p19, ret0 m31, ks, il_len hk]
  rw [LL_for (γ := Unit) S () (fun i _ => [(13, .int .i64 i)]) (fun _ _ => []) (fun _ rest _ => if rest.all (fun c => !beatsB (atts l) S c && defB (atts l) S c) then (.exit 0, [(13, undef)], []) else (.ret, [(4, .bool false), (13, undef)], [])) (fun _ _ => True) (by omega) trivial]
  ·cases h : S.all (fun c => !beatsB (atts l) S c && defB (atts l) S c) <;> simp -implicitDefEqProofs [k19_4, -List.all_eq_true]
  ·simp -implicitDefEqProofs [k19_4]
  ·rfl
  ·intro nx i _ hi _
   simp -implicitDefEqProofs [r19_4, k19_4, hi, trim_le]
  ·intro nx i q rest _ hi hv hd hw _ ih
   have ih := ih () trivial
   have bs := bs q
   have ds := ds q
   rw [List.all_cons]
   simp -implicitDefEqProofs [k19_4, -List.all_eq_true] at ih
   cases hb : beatsB (atts l) S q
   ·rw [hb] at bs
    cases hdf : defB (atts l) S q
    ·rw [hdf] at ds
     simp -implicitDefEqProofs [r19_4, k19_4, hi, il_idxN hk hi, hv, ret0 m32, bs, ret0 m17, ds, trim_le, -List.all_eq_true]
    ·rw [hdf] at ds
     simp -implicitDefEqProofs [r19_4, k19_4, hi, il_idxN hk hi, hv, ret0 m32, bs, ret0 m17, ds, hw, trim_le, -List.all_eq_true]
     exact ih
   ·rw [hb] at bs
    simp -implicitDefEqProofs [r19_4, k19_4, hi, il_idxN hk hi, hv, ret0 m32, bs, trim_le, -List.all_eq_true]
end Go.Proofs.Ytbadgapficfbpaa.Bm
namespace Go.Proofs.Ytbadgapficfbpaa.Bm
open Go Go.RowKit
def dom (n : Nat) (j : Int) : Prop := 0 ≤ j ∧ j.toNat < n
def attB (A : List (List Int)) (i j : Int) : Bool := memI (getL A i) j
theorem inS_get {r : Int} {n : Nat} : ∀ (W : List Int) (s : List Int × List Int), s.1.length = n → s.2.length = n → (∀ i ∈ W, dom n i) → ∀ j, dom n j →
  getI (W.foldl (inS r) s).1 j = (if j ∈ W then 1 else getI s.1 j) ∧ getI (W.foldl (inS r) s).2 j = (if j ∈ W then r else getI s.2 j)
 | [], s, _, _, _, j, _ => by simp
 | i :: W, s, h1, h2, hW, j, hj => by
  have hi := hW i (by simp)
  have ih := inS_get (r := r) W (inS r s i) (by simpa [inS] using h1) (by simpa [inS] using h2) (fun k hk => hW k (by simp [hk])) j hj
  rw [List.foldl_cons, ih.1, ih.2]
  have e1 := getI_set (L := s.1) (k := i) (j := j) (v := 1) (by rw [h1]; exact hi.2)
  have e2 := getI_set (L := s.2) (k := i) (j := j) (v := r) (by rw [h2]; exact hi.2)
  have hij : (j.toNat = i.toNat) ↔ j = i := by have := hi.1; have := hj.1; omega
  unfold inS
  simp only [e1, e2, hij, List.mem_cons]
  by_cases h : j = i
  ·simp [h]
  ·simp [h]
structure OutGet (n : Nat) (r : Int) (K : List Int) (s s' : (List Int × List Int) × List Int) : Prop where
 lab : ∀ j, dom n j → getI s'.1.1 j = if getI s.1.1 j = 0 ∧ j ∈ K then 2 else getI s.1.1 j
 rk : ∀ j, dom n j → getI s'.1.2 j = if getI s.1.1 j = 0 ∧ j ∈ K then r + 1 else getI s.1.2 j
 out : ∀ j, dom n j → (j ∈ s'.2 ↔ j ∈ s.2 ∨ (getI s.1.1 j = 0 ∧ j ∈ K))
 nd : s.2.Nodup → (∀ j ∈ s.2, getI s.1.1 j ≠ 0) → s'.2.Nodup ∧ ∀ j ∈ s'.2, getI s'.1.1 j ≠ 0
theorem outS_get {r : Int} {n c : Nat} : ∀ (K : List Int) (s : (List Int × List Int) × List Int), OutInv n c s → (∀ i ∈ K, dom n i) → OutGet n r K s (K.foldl (outS r) s)
 | [], s, _, _ => ⟨fun j _ => by simp, fun j _ => by simp, fun j _ => by simp, fun h1 h2 => ⟨h1, h2⟩⟩
 | k :: K, s, hs, hK => by
  have hk := hK k (by simp)
  have hs' := hs.step (r := r) hk.1 hk.2
  have ih := outS_get (r := r) K (outS r s k) hs' (fun i hi => hK i (by simp [hi]))
  rw [List.foldl_cons]
  have hkl : k.toNat < s.1.1.length := by rw [hs.lab]; exact hk.2
  have hkr : k.toNat < s.1.2.length := by rw [hs.rk]; exact hk.2
  have hjk : ∀ j, dom n j → ((j.toNat = k.toNat) ↔ j = k) := fun j hj => by have := hk.1; have := hj.1; omega
  by_cases hz : getI s.1.1 k = 0
  ·have eo : outS r s k = ((s.1.1.set k.toNat 2, s.1.2.set k.toNat (r + 1)), s.2 ++ [k]) := by unfold outS; rw [if_pos hz]
   rw [eo] at ih ⊢
   have e1 : ∀ j, dom n j → getI (s.1.1.set k.toNat 2) j = if j = k then 2 else getI s.1.1 j := fun j hj => by rw [getI_set hkl]; simp only [hjk j hj]
   have e2 : ∀ j, dom n j → getI (s.1.2.set k.toNat (r + 1)) j = if j = k then r + 1 else getI s.1.2 j := fun j hj => by rw [getI_set hkr]; simp only [hjk j hj]
   refine ⟨fun j hj => ?_, fun j hj => ?_, fun j hj => ?_, fun h1 h2 => ?_⟩
   ·rw [ih.lab j hj]
    simp only [e1 j hj]
    by_cases h : j = k
    ·subst h; simp [hz]
    ·simp [h]
   ·rw [ih.rk j hj]
    simp only [e1 j hj, e2 j hj]
    by_cases h : j = k
    ·subst h; simp [hz]
    ·simp [h]
   ·rw [ih.out j hj]
    simp only [e1 j hj, List.mem_append, List.mem_cons]
    by_cases h : j = k
    ·subst h; simp [hz]
    ·simp [h]
   ·refine ih.nd ?_ ?_
    ·rw [List.nodup_append]
     exact ⟨h1, by simp, fun a ha b hb => by rw [List.mem_singleton.1 hb]; exact fun e => h2 a ha (e ▸ hz)⟩
    ·intro j hj
     rcases List.mem_append.1 hj with hj | hj
     ·have hd := hs.out j hj
      rw [e1 j hd]
      split
      ·decide
      ·exact h2 j hj
     ·rw [List.mem_singleton.1 hj, e1 k hk]; simp
  ·have eo : outS r s k = s := by unfold outS; rw [if_neg hz]
   rw [eo] at ih ⊢
   refine ⟨fun j hj => ?_, fun j hj => ?_, fun j hj => ?_, ih.nd⟩
   ·rw [ih.lab j hj]
    by_cases h : j = k
    ·subst h; simp [hz]
    ·simp [h]
   ·rw [ih.rk j hj]
    by_cases h : j = k
    ·subst h; simp [hz]
    ·simp [h]
   ·rw [ih.out j hj]
    by_cases h : j = k
    ·subst h; simp [hz]
    ·simp [h]
theorem lessS_get {L : List Int} {n : Nat} : ∀ (K : List Int) (s : List Int × List Int), s.1.length = n → (∀ i ∈ K, dom n i) → ∀ j, dom n j →
  getI (K.foldl (lessS L) s).1 j = getI s.1 j - K.count j ∧ (j ∈ (K.foldl (lessS L) s).2 ↔ j ∈ s.2 ∨ (getI L j = 0 ∧ 1 ≤ getI s.1 j ∧ getI s.1 j ≤ K.count j))
 | [], s, _, _, j, _ => by simp; intro _ h; omega
 | k :: K, s, h1, hK, j, hj => by
  have hk := hK k (by simp)
  have ih := lessS_get (L := L) K (lessS L s k) (by simpa [lessS] using h1) (fun i hi => hK i (by simp [hi])) j hj
  rw [List.foldl_cons, ih.1, ih.2]
  have e1 := getI_set (L := s.1) (k := k) (j := j) (v := getI s.1 k - 1) (by rw [h1]; exact hk.2)
  have hjk : (j.toNat = k.toNat) ↔ j = k := by have := hk.1; have := hj.1; omega
  simp only [hjk] at e1
  unfold lessS
  simp only [e1, List.count_cons]
  by_cases h : j = k
  ·subst h
   simp only [if_true, beq_self_eq_true]
   refine ⟨by omega, ?_⟩
   by_cases hz : getI s.1 j - 1 = 0 ∧ getI L j = 0
   ·rw [if_pos hz]
    simp only [List.mem_append, List.mem_singleton, or_true, true_or, true_iff]
    exact .inr ⟨hz.2, by omega, by omega⟩
   ·rw [if_neg hz]
    constructor
    ·rintro (h | ⟨a, b, c⟩)
     ·exact .inl h
     ·exact .inr ⟨a, by omega, by omega⟩
    ·rintro (h | ⟨a, b, c⟩)
     ·exact .inl h
     ·refine .inr ⟨a, ?_, by omega⟩
      have : ¬ (getI s.1 j - 1 = 0) := fun e => hz ⟨e, a⟩
      omega
  ·have hkj : (k == j) = false := by simp; exact fun e => h e.symm
   simp only [h, if_false, hkj, Bool.false_eq_true, Nat.add_zero]
   refine ⟨trivial, ?_⟩
   have : j ∈ (if getI s.1 k - 1 = 0 ∧ getI L k = 0 then s.2 ++ [k] else s.2) ↔ j ∈ s.2 := by
    split
    ·simp [h]
    ·exact Iff.rfl
   rw [this]
theorem asc_nodup {n : Nat} : ∀ {l : List Int} {last : Int}, ascB n last l = true → l.Nodup
 | [], _, _ => .nil
 | a :: l, last, h => by
  simp only [ascB, Bool.and_eq_true] at h
  refine List.nodup_cons.2 ⟨fun ha => ?_, asc_nodup h.2⟩
  have := ascB_all h.2 a ha
  omega
theorem right_nodup {A : List (List Int)} (h : rightB A = true) (i : Int) : (getL A i).Nodup := by
 unfold getL
 rw [List.getD_eq_getElem?_getD]
 cases hq : A[i.toNat]? with
 | none => exact .nil
 | some a =>
  unfold rightB at h
  simp only [Bool.and_eq_true, List.all_eq_true] at h
  exact asc_nodup (h.1 a (List.mem_of_getElem? hq))
def cntA (A : List (List Int)) (lab : List Int) (j : Int) : Nat := (List.range A.length).countP fun (i : Nat) => attB A (i : Int) j && decide (getI lab (i : Int) ≠ 2)
theorem flat_count {A : List (List Int)} (h : rightB A = true) (j : Int) : ∀ (out : List Int), (out.flatMap (getL A)).count j = out.countP fun o => attB A o j
 | [] => rfl
 | o :: out => by
  rw [List.flatMap_cons, List.count_append, flat_count h j out, List.countP_cons]
  have hn := right_nodup h o
  cases hm : attB A o j
  ·have : j ∉ getL A o := fun hj => by rw [attB, memI_mem.2 hj] at hm; cases hm
   rw [List.count_eq_zero.2 this]; simp
  ·have : j ∈ getL A o := memI_mem.1 hm
   rw [List.Nodup.count hn, if_pos this]; simp; omega
theorem out_count {n : Nat} {out : List Int} (hn : out.Nodup) (hd : ∀ o ∈ out, dom n o) (p : Int → Bool) : out.countP p = (List.range n).countP fun (i : Nat) => p (i : Int) && decide ((i : Int) ∈ out) := by
 have hp : out.Perm (((List.range n).filter fun (i : Nat) => decide ((i : Int) ∈ out)).map fun (i : Nat) => (i : Int)) := by
  refine (List.perm_ext_iff_of_nodup hn ?_).2 fun z => ?_
  ·refine List.Pairwise.map _ (fun a b (h : a ≠ b) (e : (a : Int) = b) => h (by omega)) ((List.nodup_range).filter _)
  ·constructor
   ·intro hz
    obtain ⟨h0, h1⟩ := hd z hz
    refine List.mem_map.2 ⟨z.toNat, List.mem_filter.2 ⟨List.mem_range.2 h1, ?_⟩, by omega⟩
    rw [show ((z.toNat : Nat) : Int) = z by omega]
    exact decide_eq_true hz
   ·intro hz
    obtain ⟨i, hi, rfl⟩ := List.mem_map.1 hz
    exact of_decide_eq_true (List.mem_filter.1 hi).2
 rw [hp.countP_eq, List.countP_map, List.countP_filter]
 rfl
theorem countP_split {α : Type} (p q : α → Bool) : ∀ (l : List α), l.countP p = l.countP (fun a => p a && q a) + l.countP (fun a => p a && !q a)
 | [] => rfl
 | a :: l => by
  rw [List.countP_cons, List.countP_cons, List.countP_cons, countP_split p q l]
  cases p a <;> cases q a <;> simp <;> omega
end Go.Proofs.Ytbadgapficfbpaa.Bm
