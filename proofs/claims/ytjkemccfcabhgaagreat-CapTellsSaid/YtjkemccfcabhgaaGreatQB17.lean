/-
 The reference of regions, plain: sorting by insertion, and the combination of two columns. Conditions: none. No program in sight.
-/
import Derived.Test.YtjkemccfcabhgaaGreatQB16
import Derived.Test.YtjkemccfcabhgaaGreatQB14
namespace Go.Proofs.YtjkemccfcabhgaaGreat.Rg
open Bm (compG compI sortI)
def gstep (o : List (Int × Int)) (s : Int × Int) : List (Int × Int) := match o.getLast? with
 | some u => if s.1 ≤ u.2 then o.dropLast ++ [(u.1, max u.2 s.2)] else o ++ [s]
 | none => [s]
theorem gstep_snoc (o : List (Int × Int)) (u s : Int × Int) : gstep (o ++ [u]) s = o ++ (if s.1 ≤ u.2 then [(u.1, max u.2 s.2)] else [u, s]) := by
 unfold gstep
 rw [List.getLast?_concat]
 simp only
 split
 ·rw [List.dropLast_concat]
 ·rw [List.append_assoc]; rfl
theorem gstep_glue : ∀ (l : List (Int × Int)) (o : List (Int × Int)) (u : Int × Int), l.foldl gstep (o ++ [u]) = o ++ glue u l
 | [], o, u => rfl
 | s :: l, o, u => by
  rw [List.foldl_cons, gstep_snoc]
  unfold glue
  split
  ·exact gstep_glue l o _
  ·have e : o ++ [u, s] = (o ++ [u]) ++ [s] := by rw [List.append_assoc]; rfl
   rw [e, gstep_glue l (o ++ [u]) s, List.append_assoc]; rfl
theorem gstep_col (l : List (Int × Int)) : l.foldl gstep [] = colF l := by
 cases l with
 | nil => rfl
 | cons s l => exact gstep_glue l [] s
def own (l : List Rect) (x : Int) : List (Int × Int) := (l.filter fun r => decide (r.x0 ≤ x) && decide (x < r.x1)).map fun r => (r.y0, r.y1)
theorem own_cons (r : Rect) (l : List Rect) (x : Int) : own (r :: l) x = (if r.x0 ≤ x ∧ x < r.x1 then [(r.y0, r.y1)] else []) ++ own l x := by
 unfold own
 by_cases h : r.x0 ≤ x ∧ x < r.x1
 ·rw [if_pos h, List.filter_cons_of_pos (by simpa using h)]; rfl
 ·rw [if_neg h, List.filter_cons_of_neg (by simpa using h)]; rfl
theorem own_has (l : List Rect) (x y : Int) : hasS (own l x) y = cell l x y := by
 induction l with
 | nil => rfl
 | cons r l ih =>
  rw [own_cons, hasS_append, ih]
  show _ = (r.has x y || cell l x y)
  congr 1
  unfold Rect.has
  by_cases h : r.x0 ≤ x ∧ x < r.x1
  ·rw [if_pos h]
   simp [hasS, h]
  ·rw [if_neg h, and_no h]
   simp [hasS]
theorem hasS_perm {a b : List (Int × Int)} (h : a.Perm b) (y : Int) : hasS a y = hasS b y := by
 rw [Bool.eq_iff_iff]
 unfold hasS
 simp only [List.any_eq_true]
 exact ⟨fun ⟨s, hs, k⟩ => ⟨s, h.mem_iff.1 hs, k⟩, fun ⟨s, hs, k⟩ => ⟨s, h.mem_iff.2 hs, k⟩⟩
def colC (l : List Rect) (x : Int) : List (Int × Int) := colF (sortS (own l x))
theorem colC_ok {l : List Rect} (hl : ∀ r ∈ l, r.y0 < r.y1) (x : Int) : Can (colC l x) ∧ ∀ y, hasS (colC l x) y = cell l x y := by
 have hp := sortS_sorted (own l x)
 have hs : ∀ u ∈ sortS (own l x), u.1 < u.2 := fun u hu => by
  have hu := (sortS_perm (own l x)).mem_iff.1 hu
  unfold own at hu
  obtain ⟨r, hr, rfl⟩ := List.mem_map.1 hu
  exact hl r (List.mem_filter.1 hr).1
 refine ⟨colF_can hp hs, fun y => ?_⟩
 unfold colC
 rw [colF_has hp hs, hasS_perm (sortS_perm _), own_has]
theorem colC_len (l : List Rect) (x : Int) : (colC l x).length ≤ l.length := by
 have glue_len : ∀ (l : List (Int × Int)) (s : Int × Int), (glue s l).length ≤ l.length + 1 := by
  intro l
  induction l with
  | nil => intro s; exact Nat.le_refl _
  | cons u l ih =>
   intro s
   unfold glue
   split
   ·exact Nat.le_succ_of_le (ih _)
   ·exact Nat.succ_le_succ (ih u)
 have h1 : (sortS (own l x)).length ≤ l.length := by
  rw [(sortS_perm _).length_eq]
  unfold own
  rw [List.length_map]; exact List.length_filter_le _ _
 unfold colC
 cases h : sortS (own l x) with
 | nil => exact Nat.zero_le _
 | cons s m =>
  rw [h] at h1
  exact Nat.le_trans (glue_len m s) h1
theorem compG_mem : ∀ (l : List Int) (p : Option Int) (z : Int), z ∈ compG p l → z ∈ l
 | [], _, _, h => by cases h
 | a :: l, p, z, h => by
  unfold compG at h
  split at h
  ·exact List.mem_cons_of_mem _ (compG_mem l p z h)
  ·rcases List.mem_cons.1 h with rfl | h
   ·exact List.mem_cons_self
   ·exact List.mem_cons_of_mem _ (compG_mem l _ z h)
theorem compG_all : ∀ (l : List Int) (p : Option Int) (z : Int), z ∈ l → z ∈ compG p l ∨ p = some z
 | [], _, _, h => by cases h
 | a :: l, p, z, h => by
  unfold compG
  split
  ·rename_i e
   rcases List.mem_cons.1 h with rfl | h
   ·exact .inr e
   ·exact compG_all l p z h
  ·rcases List.mem_cons.1 h with rfl | h
   ·exact .inl List.mem_cons_self
   ·rcases compG_all l (some a) z h with k | k
    ·exact .inl (List.mem_cons_of_mem _ k)
    ·cases k; exact .inl List.mem_cons_self
theorem compG_asc : ∀ (l : List Int) (p : Option Int), l.Pairwise (· ≤ ·) → (∀ a ∈ p, ∀ z ∈ l, a ≤ z) → (compG p l).Pairwise (· < ·) ∧ ∀ a ∈ p, ∀ z ∈ compG p l, a < z
 | [], _, _, _ => ⟨.nil, fun a _ z h => by cases h⟩
 | b :: l, p, hp, ha => by
  rw [List.pairwise_cons] at hp
  unfold compG
  split
  ·exact compG_asc l p hp.2 fun a h z hz => ha a h z (List.mem_cons_of_mem _ hz)
  ·rename_i hne
   obtain ⟨i1, i2⟩ := compG_asc l (some b) hp.2 fun a h z hz => by cases h; exact hp.1 z hz
   refine ⟨List.pairwise_cons.2 ⟨fun z hz => i2 b rfl z hz, i1⟩, fun a h z hz => ?_⟩
   have hab := ha a h b List.mem_cons_self
   have hne' : a ≠ b := fun e => hne (by rw [← e]; exact h)
   rcases List.mem_cons.1 hz with rfl | hz
   ·omega
   ·have := i2 b rfl z hz; omega
theorem comp_sort (l : List Int) : compI (sortI l) = sortU l := by
 obtain ⟨h1, _⟩ := compG_asc (sortI l) none (Bm.sortI_sorted l) fun a h => by cases h
 refine asc_ext h1 (sortU_asc l) fun z => ?_
 rw [sortU_mem, ← (Bm.sortI_perm l).mem_iff]
 exact ⟨compG_mem _ _ z, fun h => (compG_all _ none z h).resolve_right fun k => by cases k⟩
theorem runs_step {s u : Slab} {T : List Slab} (h : u.col = s.col) : outT (runs s (u :: T)) = outT (runs ⟨s.x0, u.x1, s.col⟩ T) := by
 rw [runs, if_pos h]
theorem emit_nil {s : Slab} (h : s.col = []) : emit s = [] := by unfold emit; rw [h]; rfl
theorem runs_stop {s u : Slab} {T : List Slab} (h : u.col ≠ s.col) : outT (runs s (u :: T)) = emit s ++ outT (runs u T) := by
 rw [runs, if_neg h]
 split
 ·rename_i e; rw [emit_nil e]; rfl
 ·rfl
theorem runs_end {s : Slab} : outT (runs s []) = emit s := by
 rw [runs]
 split
 ·rename_i e; rw [emit_nil e]; rfl
 ·show emit s ++ [] = _; rw [List.append_nil]
end Go.Proofs.YtjkemccfcabhgaaGreat.Rg
namespace Go.Proofs.YtjkemccfcabhgaaGreat.Bm
open Go Go.RowKit
open Rg (Rect Slab own own_cons gstep colC)
theorem set_same {h : Heap} {b : Nat} {o : AObj} (hob : h[b]? = some o) : h.set b o = h := by
 refine List.ext_getElem? fun i => ?_
 rw [List.getElem?_set]
 split
 ·rename_i e; subst e
  split
  ·exact hob.symm
  ·rename_i hlt; rw [List.getElem?_eq_none (by omega)]
 ·rfl
theorem own_len (l : List Rect) (x : Int) : (own l x).length ≤ l.length := by
 unfold own
 rw [List.length_map]; exact List.length_filter_le _ _
theorem gstep_len (o : List (Int × Int)) (t : Int × Int) : (gstep o t).length ≤ o.length + 1 := by
 unfold gstep
 split
 ·split
  ·simp
  ·simp
 ·simp
theorem max_int (a b : Int) : aMinMax true [.int .i64 a, .int .i64 b] = some (.int .i64 (max a b)) := by
 show some (Value.int .i64 (if b > a then b else a)) = _
 congr 2
 omega
end Go.Proofs.YtjkemccfcabhgaaGreat.Bm
namespace Go.Proofs.YtjkemccfcabhgaaGreat.Bm
open Go Go.RowKit
def intR : Rec Int where
 enc a := [.int .i64 a]
 m := 0
 len _ := rfl
 set _ := rfl
 bel _ _ := rfl
theorem int_flat (l : List Int) : intR.flat l = l.map (.int .i64) := by
 induction l with
 | nil => rfl
 | cons a l ih => show Value.int .i64 a :: intR.flat l = _; rw [ih]; rfl
theorem lit_two (h : Heap) (a b : Int) : buildSliceT (some ⟨3, 1, 8, .int .i64 0, ⟨some false, some 1⟩⟩) false h 2 #[(0, .int .i64 a), (1, .int .i64 b)] = some (lst true [.int .i64 a, .int .i64 b], h) :=
 (build_lit' (n := 2) (l := [(0, .int .i64 a), (1, .int .i64 b)]) rfl rfl (by decide) (by decide) (by decide)).trans rfl
theorem sortInts {h : Heap} {b lo : Nat} {d : List Int} (hob : h[b]? = some (intR.row 3 d)) (hlo : lo ≤ b) (hd : d.length ≤ 1000000) :
  L E 54 [intR.sl b d] h lo = some (.tuple #[], h.set b (intR.row 3 (sortI d))) := by
 rw [L_orc (g := inG sortI none) rfl]
 by_cases h0 : d.length = 0
 ·have : d = [] := List.eq_nil_of_length_eq_zero h0
  subst this
  have e : h.set b (intR.row 3 (sortI [])) = h := set_same hob
  rw [e]
  rfl
 ·have hob' : h[b]? = some (.cells 3 ((d ++ []).map (.int .i64)) (0 + 1)) := by
   rw [List.append_nil, ← int_flat]; exact hob
  have key := inG_ints (F := sortI) (N := none) (lo := lo) (k := d.length) (n := d.length) (c := d.length) (zs := d) (ys := []) hob' hlo (by simp) rfl h0 (by omega)
  have e1 : intR.sl b d = .slice (some ⟨b, 0, some d.length⟩) d.length d.length := by unfold Rec.sl; simp [intR]
  rw [e1, key]
  congr 2
  unfold Rec.row
  rw [List.append_nil, int_flat]; rfl
def preS (b n : Nat) (e : List Int) : Value := .slice (some ⟨b, 0, some n⟩) e.length n
theorem compInts {h : Heap} {b lo : Nat} {d : List Int} (hob : h[b]? = some (intR.row 3 d)) (hlo : lo ≤ b) (hd : d.length ≤ 1000000) :
  ∃ r, L E 55 [intR.sl b d] h lo = some (preS b d.length (compI d), h.set b (intR.row 3 (compI d ++ r))) ∧ (compI d ++ r).length = d.length := by
 rw [L_orc (g := inG compF (some compN)) rfl]
 by_cases h0 : d.length = 0
 ·have : d = [] := List.eq_nil_of_length_eq_zero h0
  subst this
  refine ⟨[], ?_, rfl⟩
  have e : h.set b (intR.row 3 (compI [] ++ [])) = h := set_same hob
  rw [e]
  rfl
 ·have hob' : h[b]? = some (.cells 3 ((d ++ []).map (.int .i64)) (0 + 1)) := by
   rw [List.append_nil, ← int_flat]; exact hob
  have key := inG_ints (F := compF) (N := some compN) (lo := lo) (k := d.length) (n := d.length) (c := d.length) (zs := d) (ys := []) hob' hlo (by simp) rfl h0 (by omega)
  have e1 : intR.sl b d = .slice (some ⟨b, 0, some d.length⟩) d.length d.length := by unfold Rec.sl; simp [intR]
  refine ⟨List.replicate (d.length - (compI d).length) 0, ?_, compF_len d⟩
  rw [e1, key]
  congr 2
  unfold Rec.row
  rw [List.append_nil, int_flat]; rfl
theorem pre_len {h : Heap} {b n : Nat} {e : List Int} : lenT .sl h (preS b n e) = some (.int .i64 e.length) := rfl
theorem pre_bel {m d b n : Nat} {e : List Int} (h : b < m) : below (d + 1) m (preS b n e) = true := decide_eq_true h
theorem pre_index {t : TypeId} {g : Option Bool} {b n i : Nat} {e : List Int} {k : IntKind} (h1 : i < e.length) : indexAddrT (.sl t ⟨g, some 1⟩) (preS b n e) (.int k (i : Int)) = some (.pointer (some ⟨b, i, some n⟩)) := by
 unfold preS
 rw [index_slice, if_pos ⟨by omega, by omega⟩]
 simp [shift]
theorem pre_load {h : Heap} {b n i : Nat} {e r : List Int} {sz : Option Nat} (hob : h[b]? = some (intR.row 3 (e ++ r))) (hn : (e ++ r).length = n) (h1 : i < e.length) : loadT ⟨some false, sz⟩ h (.pointer (some ⟨b, i, some n⟩)) = some (.int .i64 e[i]) := by
 subst hn
 have key := Rec.load_cell (R := intR) (h := h) (b := b) (j := 0) (t := 3) (l := e ++ r) (i := i) (sz := sz) hob (by rw [List.length_append]; omega) (by decide)
 unfold Rec.at_ at key
 have e1 : (e ++ r)[i]'(by rw [List.length_append]; omega) = e[i] := List.getElem_append_left h1
 simp only [e1, show intR.m + 1 = 1 from rfl, Nat.mul_one, Nat.add_zero] at key
 exact key
end Go.Proofs.YtjkemccfcabhgaaGreat.Bm
namespace Go.Proofs.YtjkemccfcabhgaaGreat.Bm
open Go Go.RowKit
open Rg (ends keepS addS sortU)
end Go.Proofs.YtjkemccfcabhgaaGreat.Bm
namespace Go.Proofs.YtjkemccfcabhgaaGreat.Rg
open Bm (inB inB_has atO colL pslab bs bs_ok)
def edgesX (l : List Rect) : List Int := sortU (l.flatMap fun r => [r.x0, r.x1])
theorem edgesX_all (l : List Rect) : EdgesX l (edgesX l) := fun r hr => by
 unfold edgesX
 rw [sortU_mem, sortU_mem]
 exact ⟨List.mem_flatMap.2 ⟨r, hr, by simp⟩, List.mem_flatMap.2 ⟨r, hr, by simp⟩⟩
theorem EdgesX.mono {l m : List Rect} {xs : List Int} (h : EdgesX m xs) (hlm : ∀ r ∈ l, r ∈ m) : EdgesX l xs := fun r hr => h r (hlm r hr)
def stripsL (l : List Rect) : List Slab := stripL (colC l) (edgesX l)
def ofL (l : List Rect) : List Rect := outT (runsF (stripsL l))
theorem edgesX_len (l : List Rect) : (edgesX l).length ≤ 2 * l.length := by
 have h : ∀ (z : Int) (m : List Int), (insU z m).length ≤ m.length + 1 := by
  intro z m
  induction m with
  | nil => exact Nat.le_refl _
  | cons a m ih =>
   unfold insU
   split
   ·exact Nat.le_refl _
   ·split
    ·exact Nat.le_succ _
    ·exact Nat.succ_le_succ ih
 have k : ∀ (m : List Int), (sortU m).length ≤ m.length := by
  intro m
  induction m with
  | nil => exact Nat.le_refl _
  | cons a m ih => exact Nat.le_trans (h a _) (Nat.succ_le_succ ih)
 refine Nat.le_trans (k _) ?_
 induction l with
 | nil => exact Nat.le_refl _
 | cons r l ih =>
  have e : ((r :: l).flatMap fun r => [r.x0, r.x1]).length = 2 + (l.flatMap fun r => [r.x0, r.x1]).length := by
   rw [List.flatMap_cons, List.length_append]; rfl
  have e2 : (r :: l).length = l.length + 1 := rfl
  rw [e, e2]; omega
theorem stripL_len (c : Int → List (Int × Int)) : ∀ (xs : List Int), (stripL c xs).length = xs.length - 1
 | [] => rfl
 | [_] => rfl
 | a :: b :: xs => by
  show (stripL c (b :: xs)).length + 1 = _
  rw [stripL_len c (b :: xs)]; simp
theorem ofL_ok {l : List Rect} (hl : ∀ r ∈ l, r.y0 < r.y1) : Form (ofL l) ∧ ∀ x y, cell (ofL l) x y = cell l x y :=
 strips_form (cell_steps l) (sortU_asc _) (edgesX_all l) (colC l) (fun x => (colC_ok hl x).1) fun x _ y => (colC_ok hl x).2 y
theorem hasS_const {c : List (Int × Int)} {y y' : Int} (h : ∀ s ∈ c, (s.1 ≤ y ↔ s.1 ≤ y') ∧ (y < s.2 ↔ y' < s.2)) : hasS c y = hasS c y' := any_ext fun s hs => by
 obtain ⟨h1, h2⟩ := h s hs
 simp only [h1, h2]
theorem hasS_out {c : List (Int × Int)} {y : Int} (h : ∀ s ∈ c, ¬ (s.1 ≤ y ∧ y < s.2)) : hasS c y = false := List.any_eq_false.2 fun s hs => by
 have := h s hs
 simp only [Bool.and_eq_true, decide_eq_true_eq]
 exact this
theorem ends_mem {c : List (Int × Int)} {s : Int × Int} (h : s ∈ c) : s.1 ∈ ends c ∧ s.2 ∈ ends c := ⟨List.mem_flatMap.2 ⟨s, h, by simp⟩, List.mem_flatMap.2 ⟨s, h, by simp⟩⟩
def mergeC (f : Bool → Bool → Bool) (a b : List (Int × Int)) : List (Int × Int) := keepS (fun y => f (inB a y) (inB b y)) [] (sortU (ends (a ++ b)))
theorem mergeC_ok (f : Bool → Bool → Bool) (hf : f false false = false) {a b : List (Int × Int)} (ha : Can a) (hb : Can b) : Can (mergeC f a b) ∧ ∀ y, hasS (mergeC f a b) y = f (hasS a y) (hasS b y) := by
 unfold mergeC
 have hp := sortU_asc (ends (a ++ b))
 have hm : ∀ s, (s ∈ a ∨ s ∈ b) → s.1 ∈ sortU (ends (a ++ b)) ∧ s.2 ∈ sortU (ends (a ++ b)) := fun s hs => by
  rw [sortU_mem, sortU_mem]
  exact ends_mem (List.mem_append.2 hs)
 generalize sortU (ends (a ++ b)) = ys at hp hm
 have ek : (fun y => f (inB a y) (inB b y)) = fun y => f (hasS a y) (hasS b y) := funext fun y => by rw [inB_has ha, inB_has hb]
 rw [ek]
 refine ⟨?_, fun y => keepS_has _ (fun y => f (hasS a y) (hasS b y)) ys hp (fun u v ⟨p, q, e⟩ y hy hyv => ?_) (fun y hy => ?_) (fun y hy => ?_) y⟩
 ·cases ys with
  | nil => trivial
  | cons z ys => exact (keepS_ok _ (z :: ys) [] z hp ⟨trivial, fun s hs => by cases hs⟩ fun b hb => by
    rcases List.mem_cons.1 hb with rfl | hb
    ·exact Int.le_refl _
    ·exact Int.le_of_lt ((List.pairwise_cons.1 hp).1 b hb)).1
 ·have key : ∀ s, (s ∈ a ∨ s ∈ b) → (s.1 ≤ y ↔ s.1 ≤ u) ∧ (y < s.2 ↔ u < s.2) := fun s hs => by
   have q0 := between hp e (hm s hs).1
   have q1 := between hp e (hm s hs).2
   omega
  show f (hasS a y) (hasS b y) = f (hasS a u) (hasS b u)
  rw [hasS_const (fun s hs => key s (.inl hs)), hasS_const (fun s hs => key s (.inr hs))]
 ·show f (hasS a y) (hasS b y) = false
  rw [hasS_out (c := a) fun s hs h => by have := hy _ (hm s (.inl hs)).1; omega, hasS_out (c := b) fun s hs h => by have := hy _ (hm s (.inr hs)).1; omega, hf]
 ·show f (hasS a y) (hasS b y) = false
  rw [hasS_out (c := a) fun s hs h => by have := hy _ (hm s (.inl hs)).2; omega, hasS_out (c := b) fun s hs h => by have := hy _ (hm s (.inr hs)).2; omega, hf]
def opC (f : Bool → Bool → Bool) (a b : List Rect) (x : Int) : List (Int × Int) := mergeC f (colL (atO (stripsL a) x)) (colL (atO (stripsL b) x))
def opL (f : Bool → Bool → Bool) (a b : List Rect) : List Rect := outT (runsF (stripL (opC f a b) (edgesX (a ++ b))))
end Go.Proofs.YtjkemccfcabhgaaGreat.Rg
namespace Go.Proofs.YtjkemccfcabhgaaGreat.Bm
open Go Go.RowKit
open Rg (Rect Slab stripsL edgesX colC stripL sortU)
theorem end0 {h : Heap} {a : AObj} : (h ++ [a])[h.length]? = some a := by simp
theorem s3 : szOf E.P 3 = some 1 := by kernel_rfl
theorem app_two' {h : Heap} {b lo : Nat} {c : List Int} (u v : Int) (hob : h[b]? = some (intR.row 3 c)) (hlo : lo ≤ b) (hc : c.length ≤ 1000000) :
  appendT (some ⟨3, 1, 8, .int .i64 0, ⟨some false, some 1⟩⟩) h lo false (intR.sl b c) (lst true [.int .i64 u, .int .i64 v]) = some (intR.sl b (c ++ [u, v]), h.set b (intR.row 3 (c ++ [u, v]))) :=
 Rec.app (R := intR) (m := [u, v]) rfl hob (cells_lst (by rfl)) hlo (by show (c.length + 2) * 8 ≤ 2 ^ 47; omega)
def xsL (l : List Rect) : List Int := l.flatMap fun r => [r.x0, r.x1]
theorem xsL_cons (r : Rect) (l : List Rect) : xsL (r :: l) = [r.x0, r.x1] ++ xsL l := rfl
theorem xsL_len (l : List Rect) : (xsL l).length = 2 * l.length := by
 induction l with
 | nil => rfl
 | cons r l ih =>
  have e2 : (r :: l).length = l.length + 1 := rfl
  have e3 : [r.x0, r.x1].length = 2 := rfl
  rw [xsL_cons, List.length_append, ih, e2, e3]; omega
end Go.Proofs.YtjkemccfcabhgaaGreat.Bm
namespace Go.Proofs.YtjkemccfcabhgaaGreat.Bm
open Go Go.RowKit
open Rg (Rect Slab runs runsF outT emit)
theorem emit_cons (x0 x1 : Int) (s : Int × Int) (c : List (Int × Int)) : emit ⟨x0, x1, s :: c⟩ = [⟨x0, s.1, x1, s.2⟩] ++ emit ⟨x0, x1, c⟩ := rfl
theorem s32 : szOf E.P 71 = some 4 := by kernel_rfl
theorem a32 : aggT E.P 71 = some true := by kernel_rfl
theorem lit_rect (h : Heap) (a b c d : Int) : buildSliceT (some ⟨71, 4, 32, .agg ⟨[.int .i64 0, .int .i64 0, .int .i64 0, .int .i64 0]⟩, ⟨some true, some 4⟩⟩) false h 1 #[(0, .agg ⟨[.int .i64 a, .int .i64 b, .int .i64 c, .int .i64 d]⟩)] = some (lst true [.agg ⟨[.int .i64 a, .int .i64 b, .int .i64 c, .int .i64 d]⟩], h) :=
 (build_lit' (n := 1) (l := [(0, .agg ⟨[.int .i64 a, .int .i64 b, .int .i64 c, .int .i64 d]⟩)]) rfl rfl (by decide) (by decide) (by decide)).trans rfl
theorem app_rect {h : Heap} {b lo : Nat} {c : List Rect} (r : Rect) (hob : h[b]? = some (rectR.row 71 c)) (hlo : lo ≤ b) (hc : c.length ≤ 1000000000) :
  appendT (some ⟨71, 4, 32, .agg ⟨[.int .i64 0, .int .i64 0, .int .i64 0, .int .i64 0]⟩, ⟨some true, some 4⟩⟩) h lo false (rectR.sl b c) (lst true [.agg ⟨[.int .i64 r.x0, .int .i64 r.y0, .int .i64 r.x1, .int .i64 r.y1]⟩]) = some (rectR.sl b (c ++ [r]), h.set b (rectR.row 71 (c ++ [r]))) :=
 Rec.app (R := rectR) (m := [r]) rfl hob (Rec.cells_tree (R := rectR) rfl [r]) hlo (by show (c.length + 1) * 32 ≤ 2 ^ 47; omega)
end Go.Proofs.YtjkemccfcabhgaaGreat.Bm
namespace Go.Proofs.YtjkemccfcabhgaaGreat.Bm
open Go Go.RowKit
open Rg (Rect Slab runs runsF outT emit ofL stripsL edgesX colC)
theorem ret3 {E : Env} {C : Callee} {lo : Nat} {h : Heap} {f : FuncId} (hm : E.mode f = 3) {args : List Value} : retCall E C lo false f args h = (C f args h lo).map fun r => (r.1, trim h.length [r.1] r.2) := by
 unfold retCall; rw [hm]; rfl
theorem trim_no {n : Nat} {v : Value} {h : Heap} (hv : below depth n v = false) : trim n [v] h = h := by
 unfold trim
 split
 ·rfl
 ·rw [if_neg]; simp [hv]
def ofR (l : List Rect) : Except Int (List Rect) := if l.all okR then if 400 < l.length then .error 6 else if (ofL l).length ≤ 200 then .ok (ofL l) else .error 6 else .error 1
def resL : Except Int (List Rect) → Value
 | .error e => .tuple ⟨[.slice none 0 0, .int .i64 e]⟩
 | .ok l => .tuple ⟨[lst false (rectR.vals l), .int .i64 0]⟩
end Go.Proofs.YtjkemccfcabhgaaGreat.Bm
namespace Go.Proofs.YtjkemccfcabhgaaGreat.Bm
open Go Go.RowKit
open Rg (Rect Slab runs runsF outT emit ofL stripsL edgesX colC opL opC mergeC keepS addS sortU ends stripL)
def regB (l : List Rect) : Bool := match ofR l with
 | .ok m => decide (m = l)
 | .error _ => false
theorem ofL_ok' {l : List Rect} (h : l.all okR = true) : ∀ r ∈ l, r.y0 < r.y1 := fun r hr => by
 have := okR_iff.1 (List.all_eq_true.1 h r hr)
 unfold Rect.inBox at this
 omega
theorem regB_iff {l : List Rect} : regB l = true ↔ l.all okR = true ∧ l.length ≤ 200 ∧ Rg.Form l := by
 unfold regB ofR
 by_cases ha : l.all okR = true
 ·have hy := ofL_ok' ha
  rw [if_pos ha]
  by_cases h4 : 400 < l.length
  ·rw [if_pos h4]; simp; omega
  ·rw [if_neg h4]
   by_cases h2 : (ofL l).length ≤ 200
   ·rw [if_pos h2]
    simp only [decide_eq_true_eq]
    constructor
    ·intro e
     exact ⟨ha, e ▸ h2, e ▸ (Rg.ofL_ok hy).1⟩
    ·intro ⟨_, _, hf⟩
     exact (Rg.ofL_ok hy).1.ext hf (Rg.ofL_ok hy).2
   ·rw [if_neg h2]
    simp only [Bool.false_eq_true, false_iff]
    rintro ⟨_, hl, hf⟩
    rw [(Rg.ofL_ok hy).1.ext hf (Rg.ofL_ok hy).2] at h2
    omega
 ·rw [if_neg ha]; simp [ha]
end Go.Proofs.YtjkemccfcabhgaaGreat.Bm
namespace Go.Proofs.YtjkemccfcabhgaaGreat.Bm
open Go Go.RowKit
open Rg (Rect areaL cell)
def orF (a b : Bool) : Bool := a || b
def andF (a b : Bool) : Bool := a && b
def subF (a b : Bool) : Bool := a && !b
theorem area_s (r : Rect) (h : okR r = true) : pureCall E.P (L E) 42 [.agg ⟨[.int .i64 r.x0, .int .i64 r.y0, .int .i64 r.x1, .int .i64 r.y1]⟩] = some (.int .i64 r.area) := area_spec r h
end Go.Proofs.YtjkemccfcabhgaaGreat.Bm
namespace Go.Proofs.YtjkemccfcabhgaaGreat.Bm
open Go Go.RowKit
theorem flat_take {α : Type} {R : Rec α} {l : List α} {i : Nat} (h : i ≤ l.length) : (R.flat l).take (i * (R.m + 1)) = R.flat (l.take i) := by
 have e : R.flat l = R.flat (l.take i) ++ R.flat (l.drop i) := by rw [← Rec.flat_app, List.take_append_drop]
 have hl : (R.flat (l.take i)).length = i * (R.m + 1) := by rw [Rec.flat_len, List.length_take, Nat.min_eq_left h]
 rw [e, ← hl, List.take_left]
theorem flat_splice {α : Type} {R : Rec α} {l : List α} {i : Nat} {a : α} (h : i < l.length) : splice (R.flat l) (i * (R.m + 1)) (R.enc a) = R.flat (l.set i a) := by
 unfold splice
 have e : i * (R.m + 1) + (R.enc a).length = (i + 1) * (R.m + 1) := by rw [R.len, Nat.add_mul, Nat.one_mul]
 rw [e, flat_take (by omega), Rec.flat_drop, List.set_eq_take_append_cons_drop, if_pos h, Rec.flat_app]
 show _ = R.flat (l.take i) ++ (R.enc a ++ R.flat (l.drop (i + 1)))
 rw [List.append_assoc]
namespace Rec
variable {α : Type}
def mrow (R : Rec α) (t : TypeId) (l : List α) : AObj := .cells t (R.flat l) 0
def msl (R : Rec α) (b : Nat) (l : List α) : Value := .slice (some ⟨b, 0, none⟩) l.length l.length
def mat (R : Rec α) (b i j : Nat) : Value := .pointer (some ⟨b, i * (R.m + 1) + j, none⟩)
variable {R : Rec α}
theorem make_rec {el : El} {h : Heap} {n : Nat} {k k' : IntKind} {a : α} (hel : el.size = R.m + 1) (hz : el.z.cells = ⟨R.enc a⟩) (hn : n ≤ 1000000) (hb : el.bytes ≤ 1000) :
  makeSliceT (some el) h (.int k (n : Int)) (.int k' (n : Int)) = some (R.msl h.length (List.replicate n a), h ++ [R.mrow el.e (List.replicate n a)]) := by
 have hm : el.bytes * n ≤ 140737488355328 := Nat.le_trans (Nat.mul_le_mul hb hn) (by omega)
 have hs : el.z.cells.size ≠ 0 := by
  rw [hz]
  show (R.enc a).length ≠ 0
  rw [R.len]; omega
 unfold makeSliceT
 simp only [Option.bind_some]
 rw [if_pos ⟨by omega, by omega, by omega, by omega, hs⟩]
 simp only [Int.toNat_natCast, hel]
 rw [zeros_row hz]
 unfold msl mrow
 rw [List.length_replicate]
theorem msl_eq {b : Nat} {c d : List α} (h : c.length = d.length) : R.msl b c = R.msl b d := by unfold msl; rw [h]
theorem mindex {h0 : Nat} {t : TypeId} {g : Option Bool} {b : Nat} {l : List α} {i : Nat} {k : IntKind} (hk : h0 = R.m + 1) (h1 : i < l.length) : indexAddrT (.sl t ⟨g, some h0⟩) (R.msl b l) (.int k (i : Int)) = some (R.mat b i 0) := by
 subst hk
 unfold msl
 rw [index_slice, if_pos ⟨by omega, by omega⟩]
 simp [shift, mat]
theorem mstore {h : Heap} {b lo n : Nat} {t : TypeId} {l : List α} {i : Nat} {a : α} (hn : n = R.m + 1) (hob : h[b]? = some (R.mrow t l)) (hlo : lo ≤ b) (h1 : i < l.length) :
  storeT (some n) h lo (R.val a) (R.mat b i 0) = some (h.set b (R.mrow t (l.set i a))) := by
 subst hn
 unfold Rec.mat
 have hv : cellsOf (R.val a) = some (R.enc a) := rfl
 rw [store_ptr, hv, Option.bind_some, if_pos (by rw [R.len])]
 have hin := Rec.in_row (R := R) h1
 have hob' : h[b]? = some (.cells t (R.flat l) 0) := hob
 unfold wrN
 show (match h[b]? with | some (.cells t c g) => _ | _ => none) = _
 rw [hob']
 show (if _ then _ else none) = _
 rw [if_pos ⟨hlo, rfl, by rw [R.len]; omega, by rw [R.len, Rec.flat_len]; simpa using hin⟩]
 show some (h.set b (.cells t (splice (R.flat l) (i * (R.m + 1) + 0) (R.enc a)) 0)) = _
 rw [Nat.add_zero, flat_splice h1]; rfl
theorem mreify {P : Program} {h : Heap} {b n : Nat} {t : TypeId} {l : List α} (hob : h[b]? = some (R.mrow t l)) (hs : szOf P t = some (R.m + 1)) (ha : aggT P t = some true) : reify P (n + 1) h (R.msl b l) = some (lst false (R.vals l)) := by
 unfold msl
 rw [reify_slice]
 by_cases h0 : l.length = 0
 ·have : l = [] := List.eq_nil_of_length_eq_zero h0
  subst this; rfl
 ·rw [if_neg h0]
  show reifyS P n h h[b]? _ _ = _
  rw [hob]
  show reifyS P n h (some (.cells t (R.flat l) 0)) _ _ = _
  rw [reifyS_cells, hs, Option.bind_some, if_pos ⟨rfl, by omega, by rw [flat_len]; simp⟩]
  have e : ((R.flat l).drop 0).take (l.length * (R.m + 1)) = R.flat l := by rw [List.drop_zero, List.take_of_length_le (by rw [flat_len]; exact Nat.le_refl _)]
  rw [e, reifyC_set (flat_set l), Option.bind_some, elems hs ha]; rfl
end Rec
end Go.Proofs.YtjkemccfcabhgaaGreat.Bm
namespace Go.Proofs.YtjkemccfcabhgaaGreat.Bm
open Go Go.RowKit
section
variable {P : Program} {t : TypeId}
theorem rem_nat {m n : Nat} (hn : 0 < n) : aBin P .rem t (.int .i64 (m : Int)) (.int .i64 (n : Int)) = some (.int .i64 ((m % n : Nat) : Int)) := by
 show (if (n : Int) = 0 then none else some (Value.int .i64 ((m : Int).tmod n))) = _
 rw [if_neg (by omega), Int.tmod_eq_emod_of_nonneg (by omega)]
 rfl
end
end Go.Proofs.YtjkemccfcabhgaaGreat.Bm
namespace Go.Proofs.YtjkemccfcabhgaaGreat.Rg
theorem canS_all : ∀ {c : List (Int × Int)} {b : Int}, canS b c → ∀ s ∈ c, s.1 < s.2
 | [], _, _, s, hs => by cases hs
 | (f, t) :: c, b, h, s, hs => by
  rcases List.mem_cons.1 hs with rfl | hs
  ·exact h.2.1
  ·exact canS_all h.2.2 s hs
theorem Can.all {c : List (Int × Int)} (h : Can c) : ∀ s ∈ c, s.1 < s.2 := by
 obtain ⟨b, hb, _⟩ := low_ex c []
 exact canS_all (canS_ex h b hb)
theorem Form.pos {l : List Rect} (h : Form l) : ∀ r ∈ l, r.x0 < r.x1 ∧ r.y0 < r.y1 := by
 obtain ⟨b, T, hT, rfl⟩ := h
 intro r hr
 obtain ⟨s, hs, hr⟩ := List.mem_flatMap.1 hr
 obtain ⟨c, hc, rfl⟩ := List.mem_map.1 hr
 have h1 := (canT_facts hT).2 s hs
 exact ⟨h1.2.1, h1.2.2.all c hc⟩
theorem cell_true {l : List Rect} {x y : Int} : cell l x y = true ↔ ∃ r ∈ l, r.x0 ≤ x ∧ x < r.x1 ∧ r.y0 ≤ y ∧ y < r.y1 := by
 unfold cell Rect.has
 rw [List.any_eq_true]
 simp only [Bool.and_eq_true, decide_eq_true_eq]
 exact ⟨fun ⟨r, hr, h⟩ => ⟨r, hr, h.1.1, h.1.2, h.2.1, h.2.2⟩, fun ⟨r, hr, h1, h2, h3, h4⟩ => ⟨r, hr, ⟨h1, h2⟩, h3, h4⟩⟩
theorem Form.box {l : List Rect} (h : Form l) {n : Int} (hb : ∀ x y, cell l x y = true → 0 ≤ x ∧ x < n ∧ 0 ≤ y ∧ y < n) : ∀ r ∈ l, r.inBox n := by
 intro r hr
 have hp := h.pos r hr
 have h1 := hb r.x0 r.y0 (cell_true.2 ⟨r, hr, by omega, by omega, by omega, by omega⟩)
 have h2 := hb (r.x1 - 1) (r.y1 - 1) (cell_true.2 ⟨r, hr, by omega, by omega, by omega, by omega⟩)
 unfold Rect.inBox
 omega
end Go.Proofs.YtjkemccfcabhgaaGreat.Rg
namespace Go.Proofs.YtjkemccfcabhgaaGreat.Rg
def scan (gt : Nat → Bool) : Nat → Nat
 | 0 => 0
 | k + 1 => if gt k then scan gt k else k + 1
theorem scan_le (gt : Nat → Bool) : ∀ n, scan gt n ≤ n
 | 0 => Nat.le_refl _
 | n + 1 => by
  unfold scan
  split
  ·exact Nat.le_succ_of_le (scan_le gt n)
  ·exact Nat.le_refl _
theorem scan_gt (gt : Nat → Bool) : ∀ n k, scan gt n ≤ k → k < n → gt k = true
 | 0, k, _, h => by omega
 | n + 1, k, h1, h2 => by
  unfold scan at h1
  split at h1
  ·rename_i h
   by_cases e : k = n
   ·subst e; exact h
   ·exact scan_gt gt n k h1 (by omega)
  ·omega
theorem scan_stop (gt : Nat → Bool) : ∀ n, 0 < scan gt n → gt (scan gt n - 1) = false
 | 0, h => by simp [scan] at h
 | n + 1, h => by
  unfold scan at h ⊢
  split at h
  ·rename_i hg
   rw [if_pos hg]
   exact scan_stop gt n h
  ·rename_i hg
   rw [if_neg hg]
   simpa using hg
def putAt {α : Type} (o : List α) (k : Nat) (z : α) : List α := o.take k ++ z :: o.drop k
theorem putAt_perm {α : Type} (o : List α) (k : Nat) (z : α) : (putAt o k z).Perm (z :: o) := by
 unfold putAt
 refine List.perm_middle.trans ?_
 rw [List.take_append_drop]
theorem putAt_len {α : Type} (o : List α) (k : Nat) (z : α) : (putAt o k z).length = o.length + 1 := by
 rw [(putAt_perm o k z).length_eq]; rfl
theorem putAt_sorted {α : Type} {key : α → Int} {o : List α} {z : α} (h : o.Pairwise fun a b => key a ≤ key b) :
  (putAt o (scan (fun j => decide (key z < (o.map key).getD j 0)) o.length) z).Pairwise fun a b => key a ≤ key b := by
 have hle := scan_le (fun j => decide (key z < (o.map key).getD j 0)) o.length
 have hgt := scan_gt (fun j => decide (key z < (o.map key).getD j 0)) o.length
 have hst := scan_stop (fun j => decide (key z < (o.map key).getD j 0)) o.length
 generalize scan (fun j => decide (key z < (o.map key).getD j 0)) o.length = k at *
 have kj : ∀ j (hj : j < o.length), (o.map key).getD j 0 = key o[j] := fun j hj => by
  rw [List.getD_eq_getElem?_getD, List.getElem?_map, List.getElem?_eq_getElem hj]; rfl
 unfold putAt
 rw [List.pairwise_append]
 refine ⟨h.sublist (List.take_sublist _ _), List.pairwise_cons.2 ⟨fun b hb => ?_, h.sublist (List.drop_sublist _ _)⟩, fun a ha b hb => ?_⟩
 ·obtain ⟨j, hj, rfl⟩ := List.mem_iff_getElem.1 hb
  rw [List.getElem_drop]
  rw [List.length_drop] at hj
  have := hgt (k + j) (by omega) (by omega)
  rw [decide_eq_true_eq, kj _ (by omega)] at this
  omega
 ·have ha' : key a ≤ key z := by
   obtain ⟨j, hj, rfl⟩ := List.mem_iff_getElem.1 ha
   rw [List.getElem_take]
   rw [List.length_take] at hj
   have h0 := hst (by omega)
   rw [decide_eq_false_iff_not, kj _ (by omega)] at h0
   by_cases e : j = k - 1
   ·subst e; omega
   ·have := List.pairwise_iff_getElem.1 h j (k - 1) (by omega) (by omega) (by omega)
    omega
  rcases List.mem_cons.1 hb with rfl | hb
  ·exact ha'
  ·obtain ⟨j, hj, rfl⟩ := List.mem_iff_getElem.1 hb
   rw [List.getElem_drop]
   rw [List.length_drop] at hj
   have := hgt (k + j) (by omega) (by omega)
   rw [decide_eq_true_eq, kj _ (by omega)] at this
   omega
def insN (o : List Int) (z : Int) : List Int :=
 let k := scan (fun j => decide (z < o.getD j 0)) o.length
 if 0 < k ∧ o.getD (k - 1) 0 = z then o else putAt o k z
theorem insN_eq {o : List Int} (h : o.Pairwise (· < ·)) (z : Int) : insN o z = insU z o := by
 refine asc_ext ?_ (insU_asc h) fun w => ?_
 ·unfold insN
  have hle := scan_le (fun j => decide (z < o.getD j 0)) o.length
  have hgt := scan_gt (fun j => decide (z < o.getD j 0)) o.length
  have hst := scan_stop (fun j => decide (z < o.getD j 0)) o.length
  simp only
  generalize scan (fun j => decide (z < o.getD j 0)) o.length = k at *
  have kj : ∀ j (hj : j < o.length), o.getD j 0 = o[j] := fun j hj => by
   rw [List.getD_eq_getElem?_getD, List.getElem?_eq_getElem hj]; rfl
  split
  ·exact h
  ·rename_i hne
   unfold putAt
   rw [List.pairwise_append]
   have ha : ∀ a ∈ o.take k, a < z := fun a ha => by
    obtain ⟨j, hj, rfl⟩ := List.mem_iff_getElem.1 ha
    rw [List.getElem_take]
    rw [List.length_take] at hj
    have h0 := hst (by omega)
    rw [decide_eq_false_iff_not] at h0
    have h1 : ¬ o.getD (k - 1) 0 = z := fun e => hne ⟨by omega, e⟩
    rw [kj _ (by omega)] at h0 h1
    by_cases e : j = k - 1
    ·subst e; omega
    ·have := List.pairwise_iff_getElem.1 h j (k - 1) (by omega) (by omega) (by omega)
     omega
   have hb : ∀ b ∈ o.drop k, z < b := fun b hb => by
    obtain ⟨j, hj, rfl⟩ := List.mem_iff_getElem.1 hb
    rw [List.getElem_drop]
    rw [List.length_drop] at hj
    have := hgt (k + j) (by omega) (by omega)
    rw [decide_eq_true_eq, kj _ (by omega)] at this
    exact this
   refine ⟨h.sublist (List.take_sublist _ _), List.pairwise_cons.2 ⟨hb, h.sublist (List.drop_sublist _ _)⟩, fun a haa b hbb => ?_⟩
   rcases List.mem_cons.1 hbb with rfl | hbb
   ·exact ha a haa
   ·have := ha a haa; have := hb b hbb; omega
 ·rw [insU_mem]
  unfold insN
  simp only
  split
  ·rename_i h1
   have hle := scan_le (fun j => decide (z < o.getD j 0)) o.length
   constructor
   ·exact .inr
   ·rintro (rfl | hw)
    ·obtain ⟨h0, h1⟩ := h1
     rw [List.getD_eq_getElem?_getD, List.getElem?_eq_getElem (by omega)] at h1
     have h1 : o[scan (fun j => decide (w < o.getD j 0)) o.length - 1]'(by omega) = w := h1
     rw [← h1]; exact List.getElem_mem _
    ·exact hw
  ·rw [(putAt_perm o _ z).mem_iff, List.mem_cons]
theorem insN_fold : ∀ (l o : List Int), o.Pairwise (· < ·) → (l.foldl insN o).Pairwise (· < ·) ∧ ∀ w, w ∈ l.foldl insN o ↔ w ∈ l ∨ w ∈ o
 | [], o, h => ⟨h, fun w => by simp⟩
 | z :: l, o, h => by
  have e := insN_eq h z
  have h1 : (insN o z).Pairwise (· < ·) := by rw [e]; exact insU_asc h
  obtain ⟨h2, h3⟩ := insN_fold l (insN o z) h1
  refine ⟨h2, fun w => ?_⟩
  rw [List.foldl_cons, h3, e, insU_mem, List.mem_cons]
  exact ⟨fun h => h.elim (fun h => .inl (.inr h)) fun h => h.elim (fun h => .inl (.inl h)) .inr, fun h => h.elim (fun h => h.elim (fun h => .inr (.inl h)) .inl) fun h => .inr (.inr h)⟩
theorem insN_sortU (l : List Int) : l.foldl insN [] = sortU l := by
 obtain ⟨h1, h2⟩ := insN_fold l [] .nil
 refine asc_ext h1 (sortU_asc l) fun w => ?_
 rw [h2, sortU_mem]; simp
def inE : List Int → Int → Bool
 | [], _ => false
 | e :: l, y => xor (decide (e ≤ y)) (inE l y)
theorem inE_low {l : List Int} {y : Int} (h : ∀ e ∈ l, y < e) : inE l y = false := by
 induction l with
 | nil => rfl
 | cons e l ih =>
  have he := h e (by simp)
  have h1 : ¬ e ≤ y := by omega
  unfold inE
  rw [ih fun e he => h e (by simp [he])]
  simp [h1]
theorem inE_ends : ∀ {c : List (Int × Int)} {b : Int}, canS b c → ∀ y, inE (ends c) y = hasS c y
 | [], _, _, _ => rfl
 | (f, t) :: c, b, h, y => by
  have ih := inE_ends h.2.2 y
  have h2 := h.2.1
  show xor (decide (f ≤ y)) (xor (decide (t ≤ y)) (inE (ends c) y)) = ((decide (f ≤ y) && decide (y < t)) || hasS c y)
  rw [ih]
  by_cases h1 : f ≤ y
  ·by_cases h3 : t ≤ y
   ·have h4 : ¬ y < t := by omega
    simp [h1, h3, h4]
   ·have h4 : y < t := by omega
    rw [canS_low h.2.2 (by omega)]
    simp [h1, h3, h4]
  ·have h3 : ¬ t ≤ y := by omega
   simp [h1, h3]
def pairs : List Int → List (Int × Int)
 | f :: t :: l => (f, t) :: pairs l
 | _ => []
theorem pairs_ends (c : List (Int × Int)) : pairs (ends c) = c := by
 induction c with
 | nil => rfl
 | cons s c ih => show (s.1, s.2) :: pairs (ends c) = _; rw [ih]
theorem ends_pairs : ∀ {l : List Int}, l.length % 2 = 0 → ends (pairs l) = l
 | [], _ => rfl
 | [_], h => by simp at h
 | f :: t :: l, h => by
  show f :: t :: ends (pairs l) = _
  rw [ends_pairs (by simp at h; omega)]
theorem pairs_can : ∀ {l : List Int} {b : Int}, l.Pairwise (· < ·) → (∀ e ∈ l, b < e) → canS b (pairs l)
 | [], _, _, _ => trivial
 | [_], _, _, _ => trivial
 | f :: t :: l, b, h, hb => by
  rw [List.pairwise_cons, List.pairwise_cons] at h
  exact ⟨hb f (by simp), h.1 t (by simp), pairs_can h.2.2 h.2.1⟩
def swp (f : Bool → Bool → Bool) : List Int → List Int → Bool → Bool → Bool → List Int
 | [], [], _, _, _ => []
 | a :: A, [], p, q, w => (if f (!p) q = w then [] else [a]) ++ swp f A [] (!p) q (f (!p) q)
 | [], b :: B, p, q, w => (if f p (!q) = w then [] else [b]) ++ swp f [] B p (!q) (f p (!q))
 | a :: A, b :: B, p, q, w =>
  if a < b then (if f (!p) q = w then [] else [a]) ++ swp f A (b :: B) (!p) q (f (!p) q)
  else if b < a then (if f p (!q) = w then [] else [b]) ++ swp f (a :: A) B p (!q) (f p (!q))
  else (if f (!p) (!q) = w then [] else [a]) ++ swp f A B (!p) (!q) (f (!p) (!q))
theorem swp_low (f : Bool → Bool → Bool) : ∀ (A B : List Int) (p q w : Bool) (m : Int), (∀ e ∈ A, m < e) → (∀ e ∈ B, m < e) → ∀ e ∈ swp f A B p q w, m < e
 | [], [], _, _, _, _, _, _, e, h => by simp [swp] at h
 | a :: A, [], p, q, w, m, h1, h2, e, h => by
  rw [swp, List.mem_append] at h
  rcases h with h | h
  ·split at h
   ·cases h
   ·rw [List.mem_singleton.1 h]; exact h1 a (by simp)
  ·exact swp_low f A [] _ _ _ m (fun e he => h1 e (by simp [he])) h2 e h
 | [], b :: B, p, q, w, m, h1, h2, e, h => by
  rw [swp, List.mem_append] at h
  rcases h with h | h
  ·split at h
   ·cases h
   ·rw [List.mem_singleton.1 h]; exact h2 b (by simp)
  ·exact swp_low f [] B _ _ _ m h1 (fun e he => h2 e (by simp [he])) e h
 | a :: A, b :: B, p, q, w, m, h1, h2, e, h => by
  have g1 : ∀ e ∈ A, m < e := fun e he => h1 e (by simp [he])
  have g2 : ∀ e ∈ B, m < e := fun e he => h2 e (by simp [he])
  rw [swp] at h
  split at h
  ·rcases List.mem_append.1 h with h | h
   ·split at h
    ·cases h
    ·rw [List.mem_singleton.1 h]; exact h1 a (by simp)
   ·exact swp_low f A (b :: B) _ _ _ m g1 h2 e h
  ·split at h
   ·rcases List.mem_append.1 h with h | h
    ·split at h
     ·cases h
     ·rw [List.mem_singleton.1 h]; exact h2 b (by simp)
    ·exact swp_low f (a :: A) B _ _ _ m h1 g2 e h
   ·rcases List.mem_append.1 h with h | h
    ·split at h
     ·cases h
     ·rw [List.mem_singleton.1 h]; exact h1 a (by simp)
    ·exact swp_low f A B _ _ _ m g1 g2 e h
termination_by A B => A.length + B.length
theorem step_asc {x : Int} {c : Prop} [Decidable c] {L : List Int} (h : L.Pairwise (· < ·)) (hx : ∀ e ∈ L, x < e) : ((if c then [] else [x]) ++ L).Pairwise (· < ·) := by
 split
 ·exact h
 ·exact List.pairwise_cons.2 ⟨hx, h⟩
theorem step_in {x y : Int} {s w : Bool} {L : List Int} (hx : ∀ e ∈ L, x < e) {r : Bool} (h : x ≤ y → inE L y = xor s r) (hr : y < x → r = w) : inE ((if s = w then [] else [x]) ++ L) y = xor w r := by
 by_cases hy : y < x
 ·have h1 : inE ((if s = w then [] else [x]) ++ L) y = false := inE_low fun e he => by
   rcases List.mem_append.1 he with he | he
   ·split at he
    ·cases he
    ·rw [List.mem_singleton.1 he]; exact hy
   ·have := hx e he; omega
  rw [h1, hr hy]; cases w <;> rfl
 ·have h1 : x ≤ y := by omega
  have h := h h1
  split
  ·rename_i e; subst e; exact h
  ·rename_i e
   show xor (decide (x ≤ y)) (inE L y) = _
   rw [h, decide_eq_true h1]
   cases s <;> cases w <;> simp_all
theorem inE_at {a y : Int} {A : List Int} (h : a ≤ y) (p : Bool) : xor p (inE (a :: A) y) = xor (!p) (inE A y) := by
 show xor p (xor (decide (a ≤ y)) (inE A y)) = _
 rw [decide_eq_true h]
 cases p <;> cases inE A y <;> rfl
theorem xor_low {A : List Int} {y : Int} (h : ∀ e ∈ A, y < e) (p : Bool) : xor p (inE A y) = p := by rw [inE_low h, Bool.xor_false]
theorem swp_ok (f : Bool → Bool → Bool) : ∀ (A B : List Int) (p q : Bool), A.Pairwise (· < ·) → B.Pairwise (· < ·) →
  (swp f A B p q (f p q)).Pairwise (· < ·) ∧ ∀ y, inE (swp f A B p q (f p q)) y = xor (f p q) (f (xor p (inE A y)) (xor q (inE B y)))
 | [], [], p, q, _, _ => ⟨by simp [swp], fun y => by simp [swp, inE]⟩
 | a :: A, [], p, q, hA, hB => by
  have hA' := List.pairwise_cons.1 hA
  obtain ⟨i1, i2⟩ := swp_ok f A [] (!p) q hA'.2 hB
  have hlow := swp_low f A [] (!p) q (f (!p) q) a hA'.1 (fun e he => by cases he)
  refine ⟨by rw [swp]; exact step_asc i1 hlow, fun y => ?_⟩
  rw [swp]
  refine step_in hlow (fun hy => ?_) fun hy => ?_
  ·rw [i2, inE_at hy]
  ·have la : ∀ e ∈ a :: A, y < e := fun e he => by
    rcases List.mem_cons.1 he with rfl | he
    ·exact hy
    ·have := hA'.1 e he; omega
   rw [xor_low la, xor_low (A := []) (fun e he => by cases he)]
 | [], b :: B, p, q, hA, hB => by
  have hB' := List.pairwise_cons.1 hB
  obtain ⟨i1, i2⟩ := swp_ok f [] B p (!q) hA hB'.2
  have hlow := swp_low f [] B p (!q) (f p (!q)) b (fun e he => by cases he) hB'.1
  refine ⟨by rw [swp]; exact step_asc i1 hlow, fun y => ?_⟩
  rw [swp]
  refine step_in hlow (fun hy => ?_) fun hy => ?_
  ·rw [i2, inE_at hy]
  ·have lb : ∀ e ∈ b :: B, y < e := fun e he => by
    rcases List.mem_cons.1 he with rfl | he
    ·exact hy
    ·have := hB'.1 e he; omega
   rw [xor_low lb, xor_low (A := []) (fun e he => by cases he)]
 | a :: A, b :: B, p, q, hA, hB => by
  have hA' := List.pairwise_cons.1 hA
  have hB' := List.pairwise_cons.1 hB
  have la : ∀ y, y < a → ∀ e ∈ a :: A, y < e := fun y hy e he => by
   rcases List.mem_cons.1 he with rfl | he
   ·exact hy
   ·have := hA'.1 e he; omega
  have lb : ∀ y, y < b → ∀ e ∈ b :: B, y < e := fun y hy e he => by
   rcases List.mem_cons.1 he with rfl | he
   ·exact hy
   ·have := hB'.1 e he; omega
  by_cases h1 : a < b
  ·obtain ⟨i1, i2⟩ := swp_ok f A (b :: B) (!p) q hA'.2 hB
   have hlow := swp_low f A (b :: B) (!p) q (f (!p) q) a hA'.1 (lb a h1)
   refine ⟨by rw [swp, if_pos h1]; exact step_asc i1 hlow, fun y => ?_⟩
   rw [swp, if_pos h1]
   refine step_in hlow (fun hy => ?_) fun hy => ?_
   ·rw [i2, inE_at hy]
   ·rw [xor_low (la y hy), xor_low (lb y (by omega))]
  ·by_cases h2 : b < a
   ·obtain ⟨i1, i2⟩ := swp_ok f (a :: A) B p (!q) hA hB'.2
    have hlow := swp_low f (a :: A) B p (!q) (f p (!q)) b (la b h2) hB'.1
    refine ⟨by rw [swp, if_neg h1, if_pos h2]; exact step_asc i1 hlow, fun y => ?_⟩
    rw [swp, if_neg h1, if_pos h2]
    refine step_in hlow (fun hy => ?_) fun hy => ?_
    ·rw [i2, inE_at (A := B) hy]
    ·rw [xor_low (la y (by omega)), xor_low (lb y hy)]
   ·have hab : a = b := by omega
    subst hab
    obtain ⟨i1, i2⟩ := swp_ok f A B (!p) (!q) hA'.2 hB'.2
    have hlow := swp_low f A B (!p) (!q) (f (!p) (!q)) a hA'.1 hB'.1
    refine ⟨by rw [swp, if_neg h1, if_neg h2]; exact step_asc i1 hlow, fun y => ?_⟩
    rw [swp, if_neg h1, if_neg h2]
    refine step_in hlow (fun hy => ?_) fun hy => ?_
    ·rw [i2, inE_at (A := A) hy, inE_at (A := B) hy]
    ·rw [xor_low (la y hy), xor_low (lb y hy)]
termination_by A B => A.length + B.length
theorem inE_len : ∀ {l : List Int} {y : Int}, (∀ e ∈ l, e ≤ y) → inE l y = decide (l.length % 2 = 1)
 | [], _, _ => rfl
 | e :: l, y, h => by
  unfold inE
  rw [inE_len fun e he => h e (by simp [he]), decide_eq_true (h e (by simp))]
  rw [List.length_cons]
  by_cases q : l.length % 2 = 1
  ·have : ¬ (l.length + 1) % 2 = 1 := by omega
   simp [q, this]
  ·have : (l.length + 1) % 2 = 1 := by omega
   simp [q, this]
theorem upper (l : List Int) : ∃ m, ∀ e ∈ l, e ≤ m := by
 induction l with
 | nil => exact ⟨0, fun e he => by cases he⟩
 | cons a l ih =>
  obtain ⟨m, h⟩ := ih
  refine ⟨max a m, fun e he => ?_⟩
  rcases List.mem_cons.1 he with rfl | he
  ·omega
  ·have := h e he; omega
theorem lower (l : List Int) : ∃ m, ∀ e ∈ l, m < e := by
 induction l with
 | nil => exact ⟨0, fun e he => by cases he⟩
 | cons a l ih =>
  obtain ⟨m, h⟩ := ih
  refine ⟨min (a - 1) m, fun e he => ?_⟩
  rcases List.mem_cons.1 he with rfl | he
  ·omega
  ·have := h e he; omega
theorem Can.canS {c : List (Int × Int)} (h : Can c) : ∃ b, canS b c := by
 obtain ⟨b, hb, _⟩ := low_ex c []
 exact ⟨b, canS_ex h b hb⟩
theorem swp_col (f : Bool → Bool → Bool) (hf : f false false = false) {a b c : List (Int × Int)} (ha : Can a) (hb : Can b) (hc : Can c) (h : ∀ y, hasS c y = f (hasS a y) (hasS b y)) :
  swp f (ends a) (ends b) false false false = ends c := by
 obtain ⟨ba, ha'⟩ := ha.canS
 obtain ⟨bb, hb'⟩ := hb.canS
 have key := swp_ok f (ends a) (ends b) false false (ends_asc ha').1 (ends_asc hb').1
 rw [hf] at key
 obtain ⟨h1, h2⟩ := key
 generalize swp f (ends a) (ends b) false false false = L at *
 have h3 : ∀ y, inE L y = f (hasS a y) (hasS b y) := fun y => by rw [h2, inE_ends ha', inE_ends hb']; simp
 have he : L.length % 2 = 0 := by
  obtain ⟨m, hm⟩ := upper (L ++ (ends a ++ ends b))
  have h4 := h2 m
  rw [inE_len (l := L) fun e he => hm e (by simp [he]), inE_len (l := ends a) fun e he => hm e (by simp [he]), inE_len (l := ends b) fun e he => hm e (by simp [he]), ends_len, ends_len] at h4
  have e1 : ¬ (2 * a.length % 2 = 1) := by omega
  have e2 : ¬ (2 * b.length % 2 = 1) := by omega
  simp [e1, e2, hf] at h4
  omega
 obtain ⟨m, hm⟩ := lower L
 have h5 := pairs_can h1 hm
 have h6 : pairs L = c := (Can.of h5).unique hc fun y => by
  rw [h, ← h3, ← inE_ends h5, ends_pairs he]
 rw [← h6, ends_pairs he]
theorem runs_none {s : Slab} (h : s.col = []) : ∀ (T : List Slab), outT (runs s T) = outT (runsF T)
 | [] => by rw [runs_end, emit_nil h]; rfl
 | u :: T => by
  by_cases e : u.col = s.col
  ·have h1 : (⟨s.x0, u.x1, s.col⟩ : Slab).col = [] := h
   have h2 : u.col = [] := by rw [e, h]
   rw [runs_step e, runs_none h1 T]
   show _ = outT (runs u T)
   rw [runs_none h2 T]
  ·rw [runs_stop e, emit_nil h]; rfl
end Go.Proofs.YtjkemccfcabhgaaGreat.Rg
