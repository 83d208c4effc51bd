/-
  Polygons, plain: what is right as it is looked at, and what is moved. Conditions: none. No program in sight.
-/
import Derived.Test.YtjkemccfcabhgaaQA17
import Derived.Test.YtjkemccfcabhgaaQA14
namespace Go.Proofs.Ytjkemccfcabhgaa.Bm
open Go Go.RowKit
open Rg (Rect Slab own own_cons gstep colC)
theorem set_same {h : Heap} {b : Nat} {o : AObj} (hob : h[b]? = some o) : h.set b o = h := by
  refine List.ext_getElem? fun i => ?_
  rw [List.getElem?_set]
  split
  · rename_i e; subst e
    split
    · exact hob.symm
    · rename_i hlt; rw [List.getElem?_eq_none (by omega)]
  · rfl
theorem max_int (a b : Int) : aMinMax true [.int .i64 a, .int .i64 b] = some (.int .i64 (max a b)) := by
  show some (Value.int .i64 (if b > a then b else a)) = _
  congr 2
  omega
end Go.Proofs.Ytjkemccfcabhgaa.Bm
namespace Go.Proofs.Ytjkemccfcabhgaa.Bm
open Go Go.RowKit
def intR : Rec Int where
  enc a := [.int .i64 a]
  m := 0
  len _ := rfl
  set _ := rfl
  bel _ _ := rfl
theorem int_flat (l : List Int) : intR.flat l = l.map (.int .i64) := by
  induction l with
  | nil => rfl
  | cons a l ih => show Value.int .i64 a :: intR.flat l = _; rw [ih]; rfl
theorem sortInts {h : Heap} {b lo : Nat} {d : List Int} (hob : h[b]? = some (intR.row 3 d)) (hlo : lo ≤ b) (hd : d.length ≤ 1000000) :
    L E 44 [intR.sl b d] h lo = some (.tuple #[], h.set b (intR.row 3 (sortI d))) := by
  rw [L_orc (g := inG sortI none) rfl]
  by_cases h0 : d.length = 0
  · have : d = [] := List.eq_nil_of_length_eq_zero h0
    subst this
    have e : h.set b (intR.row 3 (sortI [])) = h := set_same hob
    rw [e]
    rfl
  · have hob' : h[b]? = some (.cells 3 ((d ++ []).map (.int .i64)) (0 + 1)) := by
      rw [List.append_nil, ← int_flat]; exact hob
    have key := inG_ints (F := sortI) (N := none) (lo := lo) (k := d.length) (n := d.length) (c := d.length) (zs := d) (ys := []) hob' hlo (by simp) rfl h0 (by omega)
    have e1 : intR.sl b d = .slice (some ⟨b, 0, some d.length⟩) d.length d.length := by unfold Rec.sl; simp [intR]
    rw [e1, key]
    congr 2
    unfold Rec.row
    rw [List.append_nil, int_flat]; rfl
def preS (b n : Nat) (e : List Int) : Value := .slice (some ⟨b, 0, some n⟩) e.length n
theorem compInts {h : Heap} {b lo : Nat} {d : List Int} (hob : h[b]? = some (intR.row 3 d)) (hlo : lo ≤ b) (hd : d.length ≤ 1000000) :
    ∃ r, L E 45 [intR.sl b d] h lo = some (preS b d.length (compI d), h.set b (intR.row 3 (compI d ++ r))) ∧ (compI d ++ r).length = d.length := by
  rw [L_orc (g := inG compF (some compN)) rfl]
  by_cases h0 : d.length = 0
  · have : d = [] := List.eq_nil_of_length_eq_zero h0
    subst this
    refine ⟨[], ?_, rfl⟩
    have e : h.set b (intR.row 3 (compI [] ++ [])) = h := set_same hob
    rw [e]
    rfl
  · have hob' : h[b]? = some (.cells 3 ((d ++ []).map (.int .i64)) (0 + 1)) := by
      rw [List.append_nil, ← int_flat]; exact hob
    have key := inG_ints (F := compF) (N := some compN) (lo := lo) (k := d.length) (n := d.length) (c := d.length) (zs := d) (ys := []) hob' hlo (by simp) rfl h0 (by omega)
    have e1 : intR.sl b d = .slice (some ⟨b, 0, some d.length⟩) d.length d.length := by unfold Rec.sl; simp [intR]
    refine ⟨List.replicate (d.length - (compI d).length) 0, ?_, compF_len d⟩
    rw [e1, key]
    congr 2
    unfold Rec.row
    rw [List.append_nil, int_flat]; rfl
theorem pre_len {h : Heap} {b n : Nat} {e : List Int} : lenT .sl h (preS b n e) = some (.int .i64 e.length) := rfl
theorem pre_bel {m d b n : Nat} {e : List Int} (h : b < m) : below (d + 1) m (preS b n e) = true := decide_eq_true h
theorem pre_index {t : TypeId} {g : Option Bool} {b n i : Nat} {e : List Int} {k : IntKind} (h1 : i < e.length) : indexAddrT (.sl t ⟨g, some 1⟩) (preS b n e) (.int k (i : Int)) = some (.pointer (some ⟨b, i, some n⟩)) := by
  unfold preS
  rw [index_slice, if_pos ⟨by omega, by omega⟩]
  simp [shift]
theorem pre_load {h : Heap} {b n i : Nat} {e r : List Int} {sz : Option Nat} (hob : h[b]? = some (intR.row 3 (e ++ r))) (hn : (e ++ r).length = n) (h1 : i < e.length) : loadT ⟨some false, sz⟩ h (.pointer (some ⟨b, i, some n⟩)) = some (.int .i64 e[i]) := by
  subst hn
  have key := Rec.load_cell (R := intR) (h := h) (b := b) (j := 0) (t := 3) (l := e ++ r) (i := i) (sz := sz) hob (by rw [List.length_append]; omega) (by decide)
  unfold Rec.at_ at key
  have e1 : (e ++ r)[i]'(by rw [List.length_append]; omega) = e[i] := List.getElem_append_left h1
  simp only [e1, show intR.m + 1 = 1 from rfl, Nat.mul_one, Nat.add_zero] at key
  exact key
end Go.Proofs.Ytjkemccfcabhgaa.Bm
namespace Go.Proofs.Ytjkemccfcabhgaa.Bm
open Go Go.RowKit
open Rg (ends keepS addS sortU)
end Go.Proofs.Ytjkemccfcabhgaa.Bm
namespace Go.Proofs.Ytjkemccfcabhgaa.Rg
open Bm (inB inB_has atO colL pslab bs bs_ok)
def edgesX (l : List Rect) : List Int := sortU (l.flatMap fun r => [r.x0, r.x1])
theorem edgesX_all (l : List Rect) : EdgesX l (edgesX l) := fun r hr => by
  unfold edgesX
  rw [sortU_mem, sortU_mem]
  exact ⟨List.mem_flatMap.2 ⟨r, hr, by simp⟩, List.mem_flatMap.2 ⟨r, hr, by simp⟩⟩
theorem EdgesX.mono {l m : List Rect} {xs : List Int} (h : EdgesX m xs) (hlm : ∀ r ∈ l, r ∈ m) : EdgesX l xs := fun r hr => h r (hlm r hr)
def stripsL (l : List Rect) : List Slab := stripL (colC l) (edgesX l)
def ofL (l : List Rect) : List Rect := outT (runsF (stripsL l))
theorem ofL_ok {l : List Rect} (hl : ∀ r ∈ l, r.y0 < r.y1) : Form (ofL l) ∧ ∀ x y, cell (ofL l) x y = cell l x y :=
  strips_form (cell_steps l) (sortU_asc _) (edgesX_all l) (colC l) (fun x => (colC_ok hl x).1) fun x _ y => (colC_ok hl x).2 y
def mergeC (f : Bool → Bool → Bool) (a b : List (Int × Int)) : List (Int × Int) := keepS (fun y => f (inB a y) (inB b y)) [] (sortU (ends (a ++ b)))
def opC (f : Bool → Bool → Bool) (a b : List Rect) (x : Int) : List (Int × Int) := mergeC f (colL (atO (stripsL a) x)) (colL (atO (stripsL b) x))
def opL (f : Bool → Bool → Bool) (a b : List Rect) : List Rect := outT (runsF (stripL (opC f a b) (edgesX (a ++ b))))
end Go.Proofs.Ytjkemccfcabhgaa.Rg
namespace Go.Proofs.Ytjkemccfcabhgaa.Bm
open Go Go.RowKit
open Rg (Rect Slab stripsL edgesX colC stripL sortU)
theorem s3 : szOf E.P 3 = some 1 := by kernel_rfl
end Go.Proofs.Ytjkemccfcabhgaa.Bm
namespace Go.Proofs.Ytjkemccfcabhgaa.Bm
open Go Go.RowKit
open Rg (Rect Slab runs runsF outT emit)
theorem s32 : szOf E.P 60 = some 4 := by kernel_rfl
theorem a32 : aggT E.P 60 = some true := by kernel_rfl
theorem lit_rect (h : Heap) (a b c d : Int) : buildSliceT (some ⟨60, 4, 32, .agg ⟨[.int .i64 0, .int .i64 0, .int .i64 0, .int .i64 0]⟩, ⟨some true, some 4⟩⟩) false h 1 #[(0, .agg ⟨[.int .i64 a, .int .i64 b, .int .i64 c, .int .i64 d]⟩)] = some (lst true [.agg ⟨[.int .i64 a, .int .i64 b, .int .i64 c, .int .i64 d]⟩], h) :=
  (build_lit' (n := 1) (l := [(0, .agg ⟨[.int .i64 a, .int .i64 b, .int .i64 c, .int .i64 d]⟩)]) rfl rfl (by decide) (by decide) (by decide)).trans rfl
theorem app_rect {h : Heap} {b lo : Nat} {c : List Rect} (r : Rect) (hob : h[b]? = some (rectR.row 60 c)) (hlo : lo ≤ b) (hc : c.length ≤ 1000000000) :
    appendT (some ⟨60, 4, 32, .agg ⟨[.int .i64 0, .int .i64 0, .int .i64 0, .int .i64 0]⟩, ⟨some true, some 4⟩⟩) h lo false (rectR.sl b c) (lst true [.agg ⟨[.int .i64 r.x0, .int .i64 r.y0, .int .i64 r.x1, .int .i64 r.y1]⟩]) = some (rectR.sl b (c ++ [r]), h.set b (rectR.row 60 (c ++ [r]))) :=
  Rec.app (R := rectR) (m := [r]) rfl hob (Rec.cells_tree (R := rectR) rfl [r]) hlo (by show (c.length + 1) * 32 ≤ 2 ^ 47; omega)
end Go.Proofs.Ytjkemccfcabhgaa.Bm
namespace Go.Proofs.Ytjkemccfcabhgaa.Bm
open Go Go.RowKit
open Rg (Rect Slab runs runsF outT emit ofL stripsL edgesX colC)
def ofR (l : List Rect) : Except Int (List Rect) := if l.all okR then if 400 < l.length then .error 6 else if (ofL l).length ≤ 200 then .ok (ofL l) else .error 6 else .error 1
def resL : Except Int (List Rect) → Value
  | .error e => .tuple ⟨[.slice none 0 0, .int .i64 e]⟩
  | .ok l => .tuple ⟨[lst false (rectR.vals l), .int .i64 0]⟩
end Go.Proofs.Ytjkemccfcabhgaa.Bm
namespace Go.Proofs.Ytjkemccfcabhgaa.Bm
open Go Go.RowKit
open Rg (Rect Slab runs runsF outT emit ofL stripsL edgesX colC opL opC mergeC keepS addS sortU ends stripL)
def regB (l : List Rect) : Bool := match ofR l with
  | .ok m => decide (m = l)
  | .error _ => false
theorem ofL_ok' {l : List Rect} (h : l.all okR = true) : ∀ r ∈ l, r.y0 < r.y1 := fun r hr => by
  have := okR_iff.1 (List.all_eq_true.1 h r hr)
  unfold Rect.inBox at this
  omega
theorem regB_iff {l : List Rect} : regB l = true ↔ l.all okR = true ∧ l.length ≤ 200 ∧ Rg.Form l := by
  unfold regB ofR
  by_cases ha : l.all okR = true
  · have hy := ofL_ok' ha
    rw [if_pos ha]
    by_cases h4 : 400 < l.length
    · rw [if_pos h4]; simp; omega
    · rw [if_neg h4]
      by_cases h2 : (ofL l).length ≤ 200
      · rw [if_pos h2]
        simp only [decide_eq_true_eq]
        constructor
        · intro e
          exact ⟨ha, e ▸ h2, e ▸ (Rg.ofL_ok hy).1⟩
        · intro ⟨_, _, hf⟩
          exact (Rg.ofL_ok hy).1.ext hf (Rg.ofL_ok hy).2
      · rw [if_neg h2]
        simp only [Bool.false_eq_true, false_iff]
        rintro ⟨_, hl, hf⟩
        rw [(Rg.ofL_ok hy).1.ext hf (Rg.ofL_ok hy).2] at h2
        omega
  · rw [if_neg ha]; simp [ha]
end Go.Proofs.Ytjkemccfcabhgaa.Bm
namespace Go.Proofs.Ytjkemccfcabhgaa.Bm
open Go Go.RowKit
open Rg (Rect areaL cell)
theorem area_s (r : Rect) (h : okR r = true) : pureCall E.P (L E) 39 [.agg ⟨[.int .i64 r.x0, .int .i64 r.y0, .int .i64 r.x1, .int .i64 r.y1]⟩] = some (.int .i64 r.area) := area_spec r h
end Go.Proofs.Ytjkemccfcabhgaa.Bm
namespace Go.Proofs.Ytjkemccfcabhgaa.Bm
open Go Go.RowKit
theorem flat_take {α : Type} {R : Rec α} {l : List α} {i : Nat} (h : i ≤ l.length) : (R.flat l).take (i * (R.m + 1)) = R.flat (l.take i) := by
  have e : R.flat l = R.flat (l.take i) ++ R.flat (l.drop i) := by rw [← Rec.flat_app, List.take_append_drop]
  have hl : (R.flat (l.take i)).length = i * (R.m + 1) := by rw [Rec.flat_len, List.length_take, Nat.min_eq_left h]
  rw [e, ← hl, List.take_left]
theorem flat_splice {α : Type} {R : Rec α} {l : List α} {i : Nat} {a : α} (h : i < l.length) : splice (R.flat l) (i * (R.m + 1)) (R.enc a) = R.flat (l.set i a) := by
  unfold splice
  have e : i * (R.m + 1) + (R.enc a).length = (i + 1) * (R.m + 1) := by rw [R.len, Nat.add_mul, Nat.one_mul]
  rw [e, flat_take (by omega), Rec.flat_drop, List.set_eq_take_append_cons_drop, if_pos h, Rec.flat_app]
  show _ = R.flat (l.take i) ++ (R.enc a ++ R.flat (l.drop (i + 1)))
  rw [List.append_assoc]
theorem store_row {α : Type} {R : Rec α} {h : Heap} {b lo n : Nat} {t : TypeId} {l : List α} {i : Nat} {a : α} (hn : n = R.m + 1) (hob : h[b]? = some (R.row t l)) (hlo : lo ≤ b) (h1 : i < l.length) :
    storeT (some n) h lo (R.val a) (R.at_ b l i 0) = some (h.set b (R.row t (l.set i a))) := by
  subst hn
  unfold Rec.at_
  have hv : cellsOf (R.val a) = some (R.enc a) := rfl
  rw [store_ptr, hv, Option.bind_some, if_pos (by rw [R.len])]
  have hin := Rec.in_row (R := R) h1
  have hob' : h[b]? = some (.cells t (R.flat l) (R.m + 1)) := hob
  unfold wrN
  show (match h[b]? with | some (.cells t c g) => _ | _ => none) = _
  rw [hob']
  show (if _ then _ else none) = _
  rw [if_pos ⟨hlo, by unfold stampOk; rw [Rec.flat_len]; simp, by rw [R.len]; omega, by rw [R.len, Rec.flat_len]; simpa using hin⟩]
  show some (h.set b (.cells t (splice (R.flat l) (i * (R.m + 1) + 0) (R.enc a)) (R.m + 1))) = _
  rw [Nat.add_zero, flat_splice h1]; rfl
namespace Rec
variable {α : Type}
def mrow (R : Rec α) (t : TypeId) (l : List α) : AObj := .cells t (R.flat l) 0
def msl (R : Rec α) (b : Nat) (l : List α) : Value := .slice (some ⟨b, 0, none⟩) l.length l.length
def mat (R : Rec α) (b i j : Nat) : Value := .pointer (some ⟨b, i * (R.m + 1) + j, none⟩)
variable {R : Rec α}
theorem make_rec {el : El} {h : Heap} {n : Nat} {k k' : IntKind} {a : α} (hel : el.size = R.m + 1) (hz : el.z.cells = ⟨R.enc a⟩) (hn : n ≤ 1000000) (hb : el.bytes ≤ 1000) :
    makeSliceT (some el) h (.int k (n : Int)) (.int k' (n : Int)) = some (R.msl h.length (List.replicate n a), h ++ [R.mrow el.e (List.replicate n a)]) := by
  have hm : el.bytes * n ≤ 140737488355328 := Nat.le_trans (Nat.mul_le_mul hb hn) (by omega)
  have hs : el.z.cells.size ≠ 0 := by
    rw [hz]
    show (R.enc a).length ≠ 0
    rw [R.len]; omega
  unfold makeSliceT
  simp only [Option.bind_some]
  rw [if_pos ⟨by omega, by omega, by omega, by omega, hs⟩]
  simp only [Int.toNat_natCast, hel]
  rw [zeros_row hz]
  unfold msl mrow
  rw [List.length_replicate]
theorem msl_eq {b : Nat} {c d : List α} (h : c.length = d.length) : R.msl b c = R.msl b d := by unfold msl; rw [h]
theorem mindex {h0 : Nat} {t : TypeId} {g : Option Bool} {b : Nat} {l : List α} {i : Nat} {k : IntKind} (hk : h0 = R.m + 1) (h1 : i < l.length) : indexAddrT (.sl t ⟨g, some h0⟩) (R.msl b l) (.int k (i : Int)) = some (R.mat b i 0) := by
  subst hk
  unfold msl
  rw [index_slice, if_pos ⟨by omega, by omega⟩]
  simp [shift, mat]
theorem mstore {h : Heap} {b lo n : Nat} {t : TypeId} {l : List α} {i : Nat} {a : α} (hn : n = R.m + 1) (hob : h[b]? = some (R.mrow t l)) (hlo : lo ≤ b) (h1 : i < l.length) :
    storeT (some n) h lo (R.val a) (R.mat b i 0) = some (h.set b (R.mrow t (l.set i a))) := by
  subst hn
  unfold Rec.mat
  have hv : cellsOf (R.val a) = some (R.enc a) := rfl
  rw [store_ptr, hv, Option.bind_some, if_pos (by rw [R.len])]
  have hin := Rec.in_row (R := R) h1
  have hob' : h[b]? = some (.cells t (R.flat l) 0) := hob
  unfold wrN
  show (match h[b]? with | some (.cells t c g) => _ | _ => none) = _
  rw [hob']
  show (if _ then _ else none) = _
  rw [if_pos ⟨hlo, rfl, by rw [R.len]; omega, by rw [R.len, Rec.flat_len]; simpa using hin⟩]
  show some (h.set b (.cells t (splice (R.flat l) (i * (R.m + 1) + 0) (R.enc a)) 0)) = _
  rw [Nat.add_zero, flat_splice h1]; rfl
theorem mreify {P : Program} {h : Heap} {b n : Nat} {t : TypeId} {l : List α} (hob : h[b]? = some (R.mrow t l)) (hs : szOf P t = some (R.m + 1)) (ha : aggT P t = some true) : reify P (n + 1) h (R.msl b l) = some (lst false (R.vals l)) := by
  unfold msl
  rw [reify_slice]
  by_cases h0 : l.length = 0
  · have : l = [] := List.eq_nil_of_length_eq_zero h0
    subst this; rfl
  · rw [if_neg h0]
    show reifyS P n h h[b]? _ _ = _
    rw [hob]
    show reifyS P n h (some (.cells t (R.flat l) 0)) _ _ = _
    rw [reifyS_cells, hs, Option.bind_some, if_pos ⟨rfl, by omega, by rw [flat_len]; simp⟩]
    have e : ((R.flat l).drop 0).take (l.length * (R.m + 1)) = R.flat l := by rw [List.drop_zero, List.take_of_length_le (by rw [flat_len]; exact Nat.le_refl _)]
    rw [e, reifyC_set (flat_set l), Option.bind_some, elems hs ha]; rfl
end Rec
end Go.Proofs.Ytjkemccfcabhgaa.Bm
namespace Go.Proofs.Ytjkemccfcabhgaa.Bm
open Go Go.RowKit
section
variable {P : Program} {t : TypeId}
theorem and_mask (z : Int) : ∃ m : Nat, m < 4611686018427387904 ∧ aBin P .and t (.int .i64 z) (.int .i64 4611686018427387903) = some (.int .i64 (m : Int)) := by
  have hle : ((BitVec.ofInt 64 z &&& BitVec.ofInt 64 4611686018427387903).toNat) ≤ 4611686018427387903 := by
    rw [BitVec.toNat_and]
    refine Nat.le_trans Nat.and_le_right ?_
    decide
  refine ⟨(BitVec.ofInt 64 z &&& BitVec.ofInt 64 4611686018427387903).toNat, by omega, ?_⟩
  show some (Value.int .i64 (IntKind.i64.wrap ((BitVec.ofInt 64 z &&& BitVec.ofInt 64 4611686018427387903).toNat : Int))) = _
  rw [wrap64 (by omega) (by omega)]
theorem rem_nat {m n : Nat} (hn : 0 < n) : aBin P .rem t (.int .i64 (m : Int)) (.int .i64 (n : Int)) = some (.int .i64 ((m % n : Nat) : Int)) := by
  show (if (n : Int) = 0 then none else some (Value.int .i64 ((m : Int).tmod n))) = _
  rw [if_neg (by omega), Int.tmod_eq_emod_of_nonneg (by omega)]
  rfl
end
end Go.Proofs.Ytjkemccfcabhgaa.Bm
namespace Go.Proofs.Ytjkemccfcabhgaa.Rg
theorem canS_all : ∀ {c : List (Int × Int)} {b : Int}, canS b c → ∀ s ∈ c, s.1 < s.2
  | [], _, _, s, hs => by cases hs
  | (f, t) :: c, b, h, s, hs => by
    rcases List.mem_cons.1 hs with rfl | hs
    · exact h.2.1
    · exact canS_all h.2.2 s hs
theorem Can.all {c : List (Int × Int)} (h : Can c) : ∀ s ∈ c, s.1 < s.2 := by
  obtain ⟨b, hb, _⟩ := low_ex c []
  exact canS_all (canS_ex h b hb)
theorem Form.pos {l : List Rect} (h : Form l) : ∀ r ∈ l, r.x0 < r.x1 ∧ r.y0 < r.y1 := by
  obtain ⟨b, T, hT, rfl⟩ := h
  intro r hr
  obtain ⟨s, hs, hr⟩ := List.mem_flatMap.1 hr
  obtain ⟨c, hc, rfl⟩ := List.mem_map.1 hr
  have h1 := (canT_facts hT).2 s hs
  exact ⟨h1.2.1, h1.2.2.all c hc⟩
theorem cell_true {l : List Rect} {x y : Int} : cell l x y = true ↔ ∃ r ∈ l, r.x0 ≤ x ∧ x < r.x1 ∧ r.y0 ≤ y ∧ y < r.y1 := by
  unfold cell Rect.has
  rw [List.any_eq_true]
  simp only [Bool.and_eq_true, decide_eq_true_eq]
  exact ⟨fun ⟨r, hr, h⟩ => ⟨r, hr, h.1.1, h.1.2, h.2.1, h.2.2⟩, fun ⟨r, hr, h1, h2, h3, h4⟩ => ⟨r, hr, ⟨h1, h2⟩, h3, h4⟩⟩
theorem Form.box {l : List Rect} (h : Form l) {n : Int} (hb : ∀ x y, cell l x y = true → 0 ≤ x ∧ x < n ∧ 0 ≤ y ∧ y < n) : ∀ r ∈ l, r.inBox n := by
  intro r hr
  have hp := h.pos r hr
  have h1 := hb r.x0 r.y0 (cell_true.2 ⟨r, hr, by omega, by omega, by omega, by omega⟩)
  have h2 := hb (r.x1 - 1) (r.y1 - 1) (cell_true.2 ⟨r, hr, by omega, by omega, by omega, by omega⟩)
  unfold Rect.inBox
  omega
end Go.Proofs.Ytjkemccfcabhgaa.Rg
namespace Go.Proofs.Ytjkemccfcabhgaa.Rg
def scan (gt : Nat → Bool) : Nat → Nat
  | 0 => 0
  | k + 1 => if gt k then scan gt k else k + 1
theorem scan_le (gt : Nat → Bool) : ∀ n, scan gt n ≤ n
  | 0 => Nat.le_refl _
  | n + 1 => by
    unfold scan
    split
    · exact Nat.le_succ_of_le (scan_le gt n)
    · exact Nat.le_refl _
def putAt {α : Type} (o : List α) (k : Nat) (z : α) : List α := o.take k ++ z :: o.drop k
def insN (o : List Int) (z : Int) : List Int :=
  let k := scan (fun j => decide (z < o.getD j 0)) o.length
  if 0 < k ∧ o.getD (k - 1) 0 = z then o else putAt o k z
def pairs : List Int → List (Int × Int)
  | f :: t :: l => (f, t) :: pairs l
  | _ => []
theorem ends_pairs : ∀ {l : List Int}, l.length % 2 = 0 → ends (pairs l) = l
  | [], _ => rfl
  | [_], h => by simp at h
  | f :: t :: l, h => by
    show f :: t :: ends (pairs l) = _
    rw [ends_pairs (by simp at h; omega)]
theorem pairs_can : ∀ {l : List Int} {b : Int}, l.Pairwise (· < ·) → (∀ e ∈ l, b < e) → canS b (pairs l)
  | [], _, _, _ => trivial
  | [_], _, _, _ => trivial
  | f :: t :: l, b, h, hb => by
    rw [List.pairwise_cons, List.pairwise_cons] at h
    exact ⟨hb f (by simp), h.1 t (by simp), pairs_can h.2.2 h.2.1⟩
theorem Can.canS {c : List (Int × Int)} (h : Can c) : ∃ b, canS b c := by
  obtain ⟨b, hb, _⟩ := low_ex c []
  exact ⟨b, canS_ex h b hb⟩
end Go.Proofs.Ytjkemccfcabhgaa.Rg
namespace Go.Proofs.Ytjkemccfcabhgaa.Rg
open Bm (sortI sortI_perm sortI_sorted sortI_len)
def par : List Bool → Bool
  | [] => false
  | b :: l => (b != par l)
theorem par_perm {l m : List Bool} (h : l.Perm m) : par l = par m := by
  induction h with
  | nil => rfl
  | cons a _ ih => show (a != par _) = (a != par _); rw [ih]
  | swap a b l => show (b != (a != par l)) = (a != (b != par l)); cases a <;> cases b <;> cases par l <;> rfl
  | trans _ _ h1 h2 => exact h1.trans h2
theorem par_filter {α : Type} (f g : α → Bool) : ∀ l : List α, par ((l.filter f).map g) = par (l.map fun a => f a && g a)
  | [] => rfl
  | a :: l => by
    show _ = ((f a && g a) != par _)
    cases h : f a
    · rw [List.filter_cons_of_neg (by simp [h]), par_filter f g l, Bool.false_and, Bool.false_bne]
    · rw [List.filter_cons_of_pos h, List.map_cons, Bool.true_and]
      show (g a != par _) = _
      rw [par_filter f g l]
theorem par_len {α : Type} (f : α → Bool) : ∀ l : List α, par (l.map f) = decide ((l.filter f).length % 2 = 1)
  | [] => rfl
  | a :: l => by
    have ih := par_len f l
    show (f a != par (l.map f)) = _
    rw [ih]
    cases h : f a
    · rw [List.filter_cons_of_neg (by simp [h]), Bool.false_bne]
    · rw [List.filter_cons_of_pos h, List.length_cons, Bool.true_bne]
      by_cases q : (l.filter f).length % 2 = 1
      · rw [decide_eq_true q]
        exact (decide_eq_false (by omega)).symm
      · rw [decide_eq_false q]
        exact (decide_eq_true (by omega)).symm
theorem par_false {α : Type} {f : α → Bool} : ∀ {l : List α}, (∀ a ∈ l, f a = false) → par (l.map f) = false
  | [], _ => rfl
  | a :: l, h => by
    show (f a != par _) = false
    rw [h a (List.mem_cons_self ..), par_false fun b hb => h b (List.mem_cons_of_mem _ hb)]; rfl
theorem map_ext {α β : Type} {f g : α → β} {l : List α} (h : ∀ a ∈ l, f a = g a) : l.map f = l.map g := List.map_congr_left h
abbrev Pt := Int × Int
def sidesP (p : List Pt) : List (Pt × Pt) := p.zip (p.drop 1 ++ p.take 1)
theorem path_par (f : Pt → Bool) : ∀ (l : List Pt) (a z : Pt), par (((a :: l).zip (l ++ [z])).map fun s => (f s.1 != f s.2)) = (f a != f z)
  | [], a, z => by show ((f a != f z) != false) = _; cases f a <;> cases f z <;> rfl
  | b :: l, a, z => by
    have ih := path_par f l b z
    show ((f a != f b) != par (((b :: l).zip (l ++ [z])).map fun s => (f s.1 != f s.2))) = _
    rw [ih]
    cases f a <;> cases f b <;> cases f z <;> rfl
theorem sides_par (f : Pt → Bool) (p : List Pt) : par ((sidesP p).map fun s => (f s.1 != f s.2)) = false := by
  cases p with
  | nil => rfl
  | cons a l =>
    have := path_par f l a a
    show par (((a :: l).zip (l ++ [a])).map fun s => (f s.1 != f s.2)) = false
    rw [this]; cases f a <;> rfl
theorem sides_len (p : List Pt) : (sidesP p).length = p.length := by
  unfold sidesP
  cases p with
  | nil => rfl
  | cons a l => simp
theorem sides_get {p : List Pt} {i : Nat} (h : i < p.length) : (sidesP p)[i]'(by rw [sides_len]; exact h) = (p[i], p[(i + 1) % p.length]'(Nat.mod_lt _ (by omega))) := by
  unfold sidesP
  rw [List.getElem_zip]
  congr 1
  by_cases hl : i + 1 < p.length
  · rw [List.getElem_append_left (by rw [List.length_drop]; omega), List.getElem_drop]
    congr 1
    rw [Nat.mod_eq_of_lt hl]; omega
  · have e : i + 1 = p.length := by omega
    rw [List.getElem_append_right (by rw [List.length_drop]; omega), List.getElem_take]
    congr 1
    rw [e, Nat.mod_self, List.length_drop]; omega
theorem sides_mem {p : List Pt} {s : Pt × Pt} (h : s ∈ sidesP p) : s.1 ∈ p ∧ s.2 ∈ p := by
  obtain ⟨i, hi, rfl⟩ := List.getElem_of_mem h
  rw [sides_len] at hi
  rw [sides_get hi]
  exact ⟨List.getElem_mem _, List.getElem_mem _⟩
def hB (x : Int) (s : Pt × Pt) : Bool := decide (min s.1.1 s.2.1 ≤ x) && decide (x < max s.1.1 s.2.1)
theorem hB_iff {x : Int} {s : Pt × Pt} : hB x s = true ↔ min s.1.1 s.2.1 ≤ x ∧ x < max s.1.1 s.2.1 := by
  unfold hB; rw [Bool.and_eq_true, decide_eq_true_eq, decide_eq_true_eq]
theorem hB_xor (x : Int) (s : Pt × Pt) : hB x s = (decide (s.1.1 ≤ x) != decide (s.2.1 ≤ x)) := by
  unfold hB
  by_cases h1 : s.1.1 ≤ x <;> by_cases h2 : s.2.1 ≤ x
  · rw [decide_eq_true h1, decide_eq_true h2, decide_eq_false (show ¬ (x < max s.1.1 s.2.1) by omega), Bool.and_false]; rfl
  · rw [decide_eq_true h1, decide_eq_false h2, decide_eq_true (show min s.1.1 s.2.1 ≤ x by omega), decide_eq_true (show x < max s.1.1 s.2.1 by omega)]; rfl
  · rw [decide_eq_false h1, decide_eq_true h2, decide_eq_true (show min s.1.1 s.2.1 ≤ x by omega), decide_eq_true (show x < max s.1.1 s.2.1 by omega)]; rfl
  · rw [decide_eq_false h1, decide_eq_false h2, decide_eq_false (show ¬ (min s.1.1 s.2.1 ≤ x) by omega), Bool.false_and]; rfl
def ysP (p : List Pt) (x : Int) : List Int := ((sidesP p).filter (hB x)).map fun s => s.1.2
theorem ys_even (p : List Pt) (x : Int) : (ysP p x).length % 2 = 0 := by
  have h := sides_par (fun v => decide (v.1 ≤ x)) p
  have e : (sidesP p).map (fun s => (decide (s.1.1 ≤ x) != decide (s.2.1 ≤ x))) = (sidesP p).map (hB x) := map_ext fun s _ => (hB_xor x s).symm
  rw [e, par_len] at h
  have h := of_decide_eq_false h
  unfold ysP
  rw [List.length_map]; omega
def colY (p : List Pt) (x : Int) : List (Int × Int) := pairs (sortI (ysP p x))
def polyL (p : List Pt) : List Rect := outT (stripL (colY p) (sortU (p.map (·.1))))
def polyS (p : List Pt) (x y : Int) : Bool := par ((sidesP p).map fun s => hB x s && decide (s.1.2 ≤ y))
theorem hasS_pairs : ∀ {l : List Int} (y : Int), l.Pairwise (· < ·) → l.length % 2 = 0 → hasS (pairs l) y = par (l.map fun z => decide (z ≤ y))
  | [], y, _, _ => rfl
  | [_], y, _, h => by simp at h
  | f :: t :: l, y, hp, h => by
    rw [List.pairwise_cons, List.pairwise_cons] at hp
    have ih := hasS_pairs (l := l) y hp.2.2 (by simp at h; omega)
    show (decide (f ≤ y) && decide (y < t) || hasS (pairs l) y) = (decide (f ≤ y) != (decide (t ≤ y) != par (l.map fun z => decide (z ≤ y))))
    have hft := hp.1 t (List.mem_cons_self ..)
    by_cases h1 : t ≤ y
    · rw [decide_eq_true h1, decide_eq_true (show f ≤ y by omega), decide_eq_false (show ¬ (y < t) by omega), Bool.and_false, Bool.false_or, ih]
      cases par (l.map fun z => decide (z ≤ y)) <;> rfl
    · have h0 : par (l.map fun z => decide (z ≤ y)) = false := par_false fun z hz => decide_eq_false (by have := hp.2.1 z hz; omega)
      rw [ih, h0, decide_eq_false h1, decide_eq_true (show y < t by omega), Bool.and_true, Bool.or_false]
      cases decide (f ≤ y) <;> rfl
def crossB (s t : Pt × Pt) : Bool :=
  decide (max (min s.1.1 s.2.1) (min t.1.1 t.2.1) ≤ min (max s.1.1 s.2.1) (max t.1.1 t.2.1)) && decide (max (min s.1.2 s.2.2) (min t.1.2 t.2.2) ≤ min (max s.1.2 s.2.2) (max t.1.2 t.2.2))
def onG (a : Pt) : Prop := 0 ≤ a.1 ∧ a.1 ≤ 1048576 ∧ 0 ≤ a.2 ∧ a.2 ≤ 1048576
def upS (s : Pt × Pt) : Bool := decide (s.1.1 = s.2.1)
structure Poly (p : List Pt) : Prop where
  len : 4 ≤ p.length
  grid : ∀ v ∈ p, onG v
  straight : ∀ s ∈ sidesP p, decide (s.1.1 = s.2.1) ≠ decide (s.1.2 = s.2.2)
  turns : ∀ i (h : i < (sidesP p).length), upS (sidesP p)[i] ≠ upS ((sidesP p)[(i + 1) % (sidesP p).length]'(Nat.mod_lt _ (by omega)))
  apart : ∀ i k (hi : i < (sidesP p).length) (hk : k < (sidesP p).length), i + 2 ≤ k → 1 < i + (sidesP p).length - k → crossB (sidesP p)[i] (sidesP p)[k] = false
theorem Poly.flat {p : List Pt} (h : Poly p) {s : Pt × Pt} (hs : s ∈ sidesP p) (hx : s.1.1 ≠ s.2.1) : s.1.2 = s.2.2 := by
  have := h.straight s hs
  rw [decide_eq_false hx] at this
  by_cases q : s.1.2 = s.2.2
  · exact q
  · rw [decide_eq_false q] at this; exact absurd rfl this
theorem Poly.lone {p : List Pt} (h : Poly p) {i k : Nat} (hi : i < (sidesP p).length) (hk : k < (sidesP p).length) (hik : i < k) (ui : upS (sidesP p)[i] = false) (uk : upS (sidesP p)[k] = false) : crossB (sidesP p)[i] (sidesP p)[k] = false := by
  by_cases h1 : k = i + 1
  · subst h1
    have := h.turns i hi
    rw [ui] at this
    simp only [Nat.mod_eq_of_lt hk] at this
    rw [uk] at this
    exact absurd rfl this
  by_cases h2 : 1 < i + (sidesP p).length - k
  · exact h.apart i k hi hk (by omega) h2
  · have e0 : i = 0 := by omega
    have e1 : k + 1 = (sidesP p).length := by omega
    subst e0
    have := h.turns k hk
    rw [uk] at this
    simp only [e1, Nat.mod_self] at this
    rw [ui] at this
    exact absurd rfl this
theorem cross_true {s t : Pt × Pt} {x y : Int} (h1 : min s.1.1 s.2.1 ≤ x) (h2 : x ≤ max s.1.1 s.2.1) (h3 : min t.1.1 t.2.1 ≤ x) (h4 : x ≤ max t.1.1 t.2.1)
    (h5 : min s.1.2 s.2.2 ≤ y) (h6 : y ≤ max s.1.2 s.2.2) (h7 : min t.1.2 t.2.2 ≤ y) (h8 : y ≤ max t.1.2 t.2.2) : crossB s t = true := by
  unfold crossB
  rw [Bool.and_eq_true, decide_eq_true_eq, decide_eq_true_eq]
  omega
theorem cross_comm (s t : Pt × Pt) : crossB s t = crossB t s := by
  unfold crossB
  rw [Int.max_comm (min s.1.1 s.2.1), Int.min_comm (max s.1.1 s.2.1), Int.max_comm (min s.1.2 s.2.2), Int.min_comm (max s.1.2 s.2.2)]
theorem Poly.same {p : List Pt} (h : Poly p) {i k : Nat} (hi : i < (sidesP p).length) (hk : k < (sidesP p).length) (ui : (sidesP p)[i].1.1 ≠ (sidesP p)[i].2.1) (uk : (sidesP p)[k].1.1 ≠ (sidesP p)[k].2.1) {x : Int}
    (h1 : min (sidesP p)[i].1.1 (sidesP p)[i].2.1 ≤ x) (h2 : x ≤ max (sidesP p)[i].1.1 (sidesP p)[i].2.1) (h3 : min (sidesP p)[k].1.1 (sidesP p)[k].2.1 ≤ x) (h4 : x ≤ max (sidesP p)[k].1.1 (sidesP p)[k].2.1) (hy : (sidesP p)[i].1.2 = (sidesP p)[k].1.2) : i = k := by
  have fi := h.flat (List.getElem_mem hi) ui
  have fk := h.flat (List.getElem_mem hk) uk
  have c := cross_true (s := (sidesP p)[i]) (t := (sidesP p)[k]) (x := x) (y := (sidesP p)[i].1.2) h1 h2 h3 h4 (by omega) (by omega) (by omega) (by omega)
  have vi : upS (sidesP p)[i] = false := decide_eq_false ui
  have vk : upS (sidesP p)[k] = false := decide_eq_false uk
  rcases Nat.lt_trichotomy i k with q | q | q
  · rw [h.lone hi hk q vi vk] at c; cases c
  · exact q
  · rw [cross_comm, h.lone hk hi q vk vi] at c; cases c
theorem filter_nodup {α β : Type} {l : List α} {q : α → Bool} {g : α → β} (h : ∀ i k (hi : i < l.length) (hk : k < l.length), q l[i] = true → q l[k] = true → g l[i] = g l[k] → i = k) : ((l.filter q).map g).Pairwise (· ≠ ·) := by
  induction l with
  | nil => exact .nil
  | cons a l ih =>
    have ih := ih fun i k hi hk h1 h2 h3 => by
      have := h (i + 1) (k + 1) (by simp; omega) (by simp; omega) (by simpa using h1) (by simpa using h2) (by simpa using h3)
      omega
    cases hq : q a
    · rw [List.filter_cons_of_neg (by simp [hq])]; exact ih
    · rw [List.filter_cons_of_pos hq, List.map_cons, List.pairwise_cons]
      refine ⟨fun b hb e => ?_, ih⟩
      obtain ⟨c, hc, rfl⟩ := List.mem_map.1 hb
      obtain ⟨hc, hqc⟩ := List.mem_filter.1 hc
      obtain ⟨i, hi, rfl⟩ := List.getElem_of_mem hc
      have := h 0 (i + 1) (by simp) (by simp; omega) (by simpa using hq) (by simpa using hqc) (by simpa using e)
      omega
theorem Poly.ys_nodup {p : List Pt} (h : Poly p) (x : Int) : (ysP p x).Pairwise (· ≠ ·) :=
  filter_nodup fun i k hi hk h1 h2 h3 => by
    rw [hB_iff] at h1 h2
    exact h.same hi hk (by omega) (by omega) (x := x) (by omega) (by omega) (by omega) (by omega) h3
theorem strict {l : List Int} (h1 : l.Pairwise (· ≤ ·)) (h2 : l.Pairwise (· ≠ ·)) : l.Pairwise (· < ·) := by
  induction l with
  | nil => exact .nil
  | cons a l ih =>
    rw [List.pairwise_cons] at *
    exact ⟨fun b hb => by have := h1.1 b hb; have := h2.1 b hb; omega, ih h1.2 h2.2⟩
theorem Poly.sorted {p : List Pt} (h : Poly p) (x : Int) : (sortI (ysP p x)).Pairwise (· < ·) :=
  strict (sortI_sorted _) ((sortI_perm _).symm.pairwise (h.ys_nodup x) fun h => fun e => h e.symm)
theorem Poly.can {p : List Pt} (h : Poly p) (x : Int) : Can (colY p x) := by
  have hp := h.sorted x
  unfold colY
  cases hs : sortI (ysP p x) with
  | nil => trivial
  | cons f l =>
    rw [hs] at hp
    cases l with
    | nil => trivial
    | cons t l =>
      rw [List.pairwise_cons, List.pairwise_cons] at hp
      exact ⟨hp.1 t (List.mem_cons_self ..), pairs_can hp.2.2 hp.2.1⟩
theorem Poly.has {p : List Pt} (h : Poly p) (x y : Int) : hasS (colY p x) y = polyS p x y := by
  unfold colY
  rw [hasS_pairs y (h.sorted x) (by rw [sortI_len]; exact ys_even p x), par_perm ((sortI_perm (ysP p x)).map _)]
  unfold ysP polyS
  rw [List.map_map]
  exact par_filter (hB x) (fun s => decide (s.1.2 ≤ y)) (sidesP p)
def dumR (s : Pt × Pt) : Rect := ⟨min s.1.1 s.2.1, 0, max s.1.1 s.2.1, 1⟩
theorem poly_steps (p : List Pt) : Steps ((sidesP p).map dumR) (polyS p) where
  same x x' h y := by
    unfold polyS
    congr 1
    refine map_ext fun s hs => ?_
    have := h (dumR s) (List.mem_map_of_mem hs)
    unfold dumR at this
    simp only at this
    have e : hB x s = hB x' s := Bool.eq_iff_iff.2 (by rw [hB_iff, hB_iff]; omega)
    rw [e]
  none x h y := by
    unfold polyS
    refine par_false fun s hs => ?_
    have := h (dumR s) (List.mem_map_of_mem hs)
    unfold dumR at this
    simp only at this
    have e : hB x s = false := by
      cases q : hB x s
      · rfl
      · exact absurd (hB_iff.1 q) this
    rw [e, Bool.false_and]
theorem poly_edges (p : List Pt) : EdgesX ((sidesP p).map dumR) (sortU (p.map (·.1))) := fun r hr => by
  obtain ⟨s, hs, rfl⟩ := List.mem_map.1 hr
  obtain ⟨h1, h2⟩ := sides_mem hs
  rw [sortU_mem, sortU_mem]
  have m1 : s.1.1 ∈ p.map (·.1) := List.mem_map_of_mem h1
  have m2 : s.2.1 ∈ p.map (·.1) := List.mem_map_of_mem h2
  unfold dumR
  simp only
  constructor
  · rcases Int.le_total s.1.1 s.2.1 with q | q
    · rw [Int.min_eq_left q]; exact m1
    · rw [Int.min_eq_right q]; exact m2
  · rcases Int.le_total s.1.1 s.2.1 with q | q
    · rw [Int.max_eq_right q]; exact m2
    · rw [Int.max_eq_left q]; exact m1
def Differ : Slab → List Slab → Prop
  | _, [] => True
  | s, u :: T => (s.col = u.col → s.col = []) ∧ Differ u T
theorem emit_none {s : Slab} (h : s.col = []) : emit s = [] := by unfold emit; rw [h]; rfl
theorem runs_out : ∀ (T : List Slab) (s : Slab), Differ s T → outT (runs s T) = emit s ++ outT T
  | [], s, _ => by
    unfold runs
    by_cases h : s.col = []
    · rw [if_pos h, emit_none h]; rfl
    · rw [if_neg h]; rfl
  | u :: T, s, ⟨h1, h2⟩ => by
    have eo : outT (u :: T) = emit u ++ outT T := rfl
    unfold runs
    by_cases hc : u.col = s.col
    · have h0 := h1 hc.symm
      have h0u : u.col = [] := hc.trans h0
      rw [if_pos hc]
      have hd : Differ ⟨s.x0, u.x1, s.col⟩ T := by
        cases T with
        | nil => trivial
        | cons w T => exact ⟨fun _ => h0, h2.2⟩
      rw [runs_out T _ hd, eo, emit_none h0, emit_none h0u, emit_none (s := ⟨s.x0, u.x1, s.col⟩) h0]; rfl
    · rw [if_neg hc]
      by_cases h0 : s.col = []
      · rw [if_pos h0, runs_out T u h2, emit_none h0, eo]; rfl
      · rw [if_neg h0]
        show emit s ++ outT (runs u T) = _
        rw [runs_out T u h2, eo]
theorem stripL_differ (c : Int → List (Int × Int)) : ∀ (xs : List Int) (a b : Int), (∀ u v w z, (a :: b :: xs) = u ++ v :: w :: z → (u ≠ [] ∨ True) → ∀ t zz, z = t :: zz → c v = c w → c v = []) → Differ ⟨a, b, c a⟩ (stripL c (b :: xs))
  | [], a, b, _ => trivial
  | d :: xs, a, b, h => by
    refine ⟨fun e => h [] a b (d :: xs) rfl (.inr trivial) d xs rfl e, stripL_differ c xs b d fun u v w z e _ t zz ez => ?_⟩
    exact h (a :: u) v w z (by rw [e]; rfl) (.inr trivial) t zz ez
theorem Poly.neighbor {p : List Pt} (h : Poly p) {a b : Int} (hb : b ∈ p.map (·.1)) (hab : a < b) (hnone : ∀ v ∈ p, v.1 ≤ a ∨ b ≤ v.1) : colY p a ≠ colY p b := by
  intro e
  have ea : sortI (ysP p a) = sortI (ysP p b) := by
    have := congrArg ends e
    unfold colY at this
    rw [ends_pairs (by rw [sortI_len]; exact ys_even p a), ends_pairs (by rw [sortI_len]; exact ys_even p b)] at this
    exact this
  have mem : ∀ y, y ∈ ysP p a ↔ y ∈ ysP p b := fun y => by
    rw [← (sortI_perm (ysP p a)).mem_iff, ea, (sortI_perm (ysP p b)).mem_iff]
  obtain ⟨v, hv, rfl⟩ := List.mem_map.1 hb
  -- the horizontal side at 'v'
  have hside : ∃ q, ∃ hq : q < (sidesP p).length, (sidesP p)[q].1.1 ≠ (sidesP p)[q].2.1 ∧ ((sidesP p)[q].1 = v ∨ (sidesP p)[q].2 = v) := by
    obtain ⟨j, hj, rfl⟩ := List.getElem_of_mem hv
    have hjs : j < (sidesP p).length := by rw [sides_len]; exact hj
    have hl := h.len
    by_cases u : (sidesP p)[j].1.1 = (sidesP p)[j].2.1
    · -- the side before it
      have hpos : 0 < p.length := by omega
      let k := if j = 0 then p.length - 1 else j - 1
      have hk : k < p.length := by show (if j = 0 then p.length - 1 else j - 1) < p.length; split <;> omega
      have hk1 : (k + 1) % p.length = j := by
        show ((if j = 0 then p.length - 1 else j - 1) + 1) % p.length = j
        split
        · rename_i h0; rw [Nat.sub_add_cancel (by omega), Nat.mod_self, h0]
        · rw [Nat.sub_add_cancel (by omega), Nat.mod_eq_of_lt hj]
      have hks : k < (sidesP p).length := by rw [sides_len]; exact hk
      have tn := h.turns k hks
      have hk2 : (k + 1) % (sidesP p).length = j := by rw [sides_len]; exact hk1
      simp only [hk2] at tn
      refine ⟨k, hks, fun q => tn ?_, .inr ?_⟩
      · unfold upS; rw [decide_eq_true q, decide_eq_true u]
      · rw [sides_get hk]; simp only [hk1]
    · exact ⟨j, hjs, u, .inl (by rw [sides_get hj])⟩
  obtain ⟨q, hq, hqx, hqv⟩ := hside
  have hmem := sides_mem (List.getElem_mem hq)
  have n1 := hnone _ hmem.1
  have n2 := hnone _ hmem.2
  have fl := h.flat (List.getElem_mem hq) hqx
  -- what stands at its height on the other column would touch it
  have other : ∀ (x : Int), hB x (sidesP p)[q] = false → (x = a ∨ x = v.1) → (sidesP p)[q].1.2 ∉ ysP p x := fun x hx hxa hm => by
    unfold ysP at hm
    obtain ⟨t, ht, ety⟩ := List.mem_map.1 hm
    obtain ⟨ht, htb⟩ := List.mem_filter.1 ht
    obtain ⟨k, hk, rfl⟩ := List.getElem_of_mem ht
    rw [hB_iff] at htb
    have hm2 := sides_mem (List.getElem_mem hk)
    have m1 := hnone _ hm2.1
    have m2 := hnone _ hm2.2
    have key := h.same hk hq (by omega) hqx (x := v.1) (by rcases hxa with rfl | rfl <;> omega) (by rcases hxa with rfl | rfl <;> omega) (by rcases hqv with e | e <;> rw [e] <;> omega) (by rcases hqv with e | e <;> rw [e] <;> omega) ety
    subst key
    rw [hB_iff.2 htb] at hx; cases hx
  have inn : ∀ (x : Int), hB x (sidesP p)[q] = true → (sidesP p)[q].1.2 ∈ ysP p x := fun x hx =>
    List.mem_map.2 ⟨(sidesP p)[q], List.mem_filter.2 ⟨List.getElem_mem hq, hx⟩, rfl⟩
  -- it leads to the left or to the right
  have hv1 : v.1 = (sidesP p)[q].1.1 ∨ v.1 = (sidesP p)[q].2.1 := by rcases hqv with e | e <;> rw [← e] <;> simp
  by_cases left : min (sidesP p)[q].1.1 (sidesP p)[q].2.1 < v.1
  · have h1 : hB a (sidesP p)[q] = true := hB_iff.2 (by omega)
    have h2 : hB v.1 (sidesP p)[q] = false := by
      cases z : hB v.1 (sidesP p)[q]
      · rfl
      · rw [hB_iff] at z; omega
    exact other v.1 h2 (.inr rfl) ((mem _).1 (inn a h1))
  · have h1 : hB v.1 (sidesP p)[q] = true := hB_iff.2 (by omega)
    have h2 : hB a (sidesP p)[q] = false := by
      cases z : hB a (sidesP p)[q]
      · rfl
      · rw [hB_iff] at z; omega
    exact other a h2 (.inl rfl) ((mem _).2 (inn v.1 h1))
theorem Poly.form {p : List Pt} (h : Poly p) : Form (polyL p) ∧ ∀ x y, cell (polyL p) x y = polyS p x y := by
  have key := strips_form (poly_steps p) (sortU_asc (p.map (·.1))) (poly_edges p) (colY p) h.can fun x _ y => h.has x y
  have e : outT (runsF (stripL (colY p) (sortU (p.map (·.1))))) = polyL p := by
    unfold polyL
    have hasc := sortU_asc (p.map (·.1))
    have hmm : ∀ z, z ∈ sortU (p.map (·.1)) ↔ z ∈ p.map (·.1) := fun z => sortU_mem
    generalize sortU (p.map (·.1)) = xs at hasc hmm
    match xs, hasc, hmm with
    | [], _, _ => rfl
    | [_], _, _ => rfl
    | a :: b :: xs, hasc, hmm =>
      show outT (runs ⟨a, b, colY p a⟩ (stripL (colY p) (b :: xs))) = outT (⟨a, b, colY p a⟩ :: stripL (colY p) (b :: xs))
      rw [runs_out _ _ (stripL_differ (colY p) xs a b fun u v w z e _ t zz ez ev => ?_)]
      · rfl
      · exfalso
        have hs : (a :: b :: xs).Pairwise (· < ·) := hasc
        rw [e, List.pairwise_append] at hs
        obtain ⟨_, hs2, hs3⟩ := hs
        rw [List.pairwise_cons, List.pairwise_cons] at hs2
        refine h.neighbor ((hmm w).1 (by rw [e]; simp)) (hs2.1 w (List.mem_cons_self ..)) (fun c hc => ?_) ev
        have hcm := (hmm c.1).2 (List.mem_map_of_mem hc)
        rw [e] at hcm
        rcases List.mem_append.1 hcm with hcm | hcm
        · have := hs3 c.1 hcm v (List.mem_cons_self ..); exact .inl (by omega)
        · rcases List.mem_cons.1 hcm with q | hcm
          · exact .inl (by omega)
          · rcases List.mem_cons.1 hcm with q | hcm
            · exact .inr (by omega)
            · have := hs2.2.1 c.1 hcm; exact .inr (by omega)
  rw [e] at key
  exact key
theorem Poly.inGrid {p : List Pt} (h : Poly p) {x y : Int} (hc : polyS p x y = true) : 0 ≤ x ∧ x < 1048576 ∧ 0 ≤ y ∧ y < 1048576 := by
  have hx : 0 ≤ x ∧ x < 1048576 := by
    by_cases q : ∃ s ∈ sidesP p, hB x s = true
    · obtain ⟨s, hs, hq⟩ := q
      rw [hB_iff] at hq
      obtain ⟨h1, h2⟩ := sides_mem hs
      have g1 := h.grid _ h1
      have g2 := h.grid _ h2
      unfold onG at g1 g2
      omega
    · have : polyS p x y = false := par_false fun s hs => by
        cases z : hB x s
        · rfl
        · exact absurd ⟨s, hs, z⟩ q
      rw [this] at hc; cases hc
  refine ⟨hx.1, hx.2, ?_⟩
  by_cases h0 : y < 0
  · have : polyS p x y = false := par_false fun s hs => by
      have g := h.grid _ (sides_mem hs).1
      unfold onG at g
      rw [decide_eq_false (show ¬ (s.1.2 ≤ y) by omega), Bool.and_false]
    rw [this] at hc; cases hc
  by_cases h1 : 1048576 ≤ y
  · have : polyS p x y = false := by
      unfold polyS
      have e : (sidesP p).map (fun s => hB x s && decide (s.1.2 ≤ y)) = (sidesP p).map (fun s => (decide (s.1.1 ≤ x) != decide (s.2.1 ≤ x))) := map_ext fun s hs => by
        have g := h.grid _ (sides_mem hs).1
        unfold onG at g
        rw [decide_eq_true (show s.1.2 ≤ y by omega), Bool.and_true, hB_xor]
      rw [e]
      exact sides_par (fun v => decide (v.1 ≤ x)) p
    rw [this] at hc; cases hc
  exact ⟨by omega, by omega⟩
theorem pairs_len : ∀ l : List Int, 2 * (pairs l).length ≤ l.length
  | [] => Nat.le_refl _
  | [_] => Nat.zero_le _
  | f :: t :: l => by
    have := pairs_len l
    show 2 * ((pairs l).length + 1) ≤ l.length + 1 + 1
    omega
theorem ys_len (p : List Pt) (x : Int) : (ysP p x).length ≤ p.length := by
  unfold ysP
  rw [List.length_map]
  exact Nat.le_trans (List.length_filter_le _ _) (Nat.le_of_eq (sides_len p))
theorem colY_len (p : List Pt) (x : Int) : 2 * (colY p x).length ≤ p.length := by
  have h1 := pairs_len (sortI (ysP p x))
  have h2 := ys_len p x
  rw [sortI_len] at h1
  exact Nat.le_trans h1 h2
theorem insU_len (z : Int) : ∀ l : List Int, (insU z l).length ≤ l.length + 1
  | [] => Nat.le_refl _
  | a :: l => by
    unfold insU
    have ih := insU_len z l
    split
    · exact Nat.le_refl _
    · split
      · exact Nat.le_succ _
      · show (insU z l).length + 1 ≤ _; exact Nat.succ_le_succ ih
theorem sortU_le : ∀ l : List Int, (sortU l).length ≤ l.length
  | [] => Nat.le_refl _
  | z :: l => Nat.le_trans (insU_len z _) (Nat.succ_le_succ (sortU_le l))
end Go.Proofs.Ytjkemccfcabhgaa.Rg
namespace Go.Proofs.Ytjkemccfcabhgaa.Rg
open Bm (sortI insI)
def allFr (f : Nat → Bool) : Nat → Nat → Bool
  | _, 0 => true
  | i, k + 1 => f i && allFr f (i + 1) k
theorem allFr_true {f : Nat → Bool} : ∀ {k i : Nat}, allFr f i k = true ↔ ∀ j, i ≤ j → j < i + k → f j = true
  | 0, i => ⟨fun _ j h1 h2 => by omega, fun _ => rfl⟩
  | k + 1, i => by
    show (f i && allFr f (i + 1) k) = true ↔ _
    rw [Bool.and_eq_true, allFr_true]
    constructor
    · rintro ⟨h0, h⟩ j h1 h2
      by_cases e : j = i
      · rw [e]; exact h0
      · exact h j (by omega) (by omega)
    · intro h
      exact ⟨h i (Nat.le_refl _) (by omega), fun j h1 h2 => h j (by omega) (by omega)⟩
theorem allFr_step {f : Nat → Bool} {i n : Nat} (h : i < n) : allFr f i (n - i) = (f i && allFr f (i + 1) (n - (i + 1))) := by
  rw [show n - i = (n - (i + 1)) + 1 by omega]; rfl
theorem allFr_end {f : Nat → Bool} {i n : Nat} (h : n ≤ i) : allFr f i (n - i) = true := by rw [show n - i = 0 by omega]; rfl
def sd (p : List Pt) (i : Nat) : Pt × Pt := (sidesP p).getD i ((0, 0), (0, 0))
def onB (a : Pt) : Bool := decide (0 ≤ a.1) && decide (a.1 ≤ 1048576) && decide (0 ≤ a.2) && decide (a.2 ≤ 1048576)
def ltP (a b : Pt) : Bool := decide (a.1 < b.1) || (decide (a.1 = b.1) && decide (a.2 < b.2))
def okJ (p : List Pt) (i : Nat) : Bool := (decide ((sd p i).1.1 = (sd p i).2.1) != decide ((sd p i).1.2 = (sd p i).2.2)) && (upS (sd p i) != upS (sd p ((i + 1) % p.length))) && (decide (i = 0) || ltP (p.getD 0 (0, 0)) (p.getD i (0, 0)))
def okI (p : List Pt) (i : Nat) : Bool := onB (sd p i).1 && okJ p i
def crJ (p : List Pt) (i k : Nat) : Bool := !(decide (1 < i + p.length - k) && crossB (sd p i) (sd p k))
def crI (p : List Pt) (i : Nat) : Bool := allFr (crJ p i) (i + 2) (p.length - (i + 2))
def rightP (p : List Pt) : Bool := decide (4 ≤ p.length) && decide (p.length ≤ 60) && allFr (okI p) 0 p.length && allFr (crI p) 0 p.length && !upS (sd p 0)
theorem sd_get {p : List Pt} {i : Nat} (h : i < (sidesP p).length) : sd p i = (sidesP p)[i] := by
  unfold sd; rw [List.getD_eq_getElem?_getD, List.getElem?_eq_getElem h]; rfl
theorem onB_iff {a : Pt} : onB a = true ↔ onG a := by
  unfold onB onG
  simp only [Bool.and_eq_true, decide_eq_true_eq]
  omega
theorem rightP_poly {p : List Pt} (h : rightP p = true) : Poly p := by
  unfold rightP at h
  simp only [Bool.and_eq_true, decide_eq_true_eq] at h
  obtain ⟨⟨⟨⟨h1, h2⟩, h3⟩, h4⟩, h5⟩ := h
  rw [allFr_true] at h3 h4
  have hl := sides_len p
  have h3 : ∀ j (hj : j < (sidesP p).length), onB (sidesP p)[j].1 = true ∧ (decide ((sidesP p)[j].1.1 = (sidesP p)[j].2.1) != decide ((sidesP p)[j].1.2 = (sidesP p)[j].2.2)) = true ∧ (upS (sidesP p)[j] != upS ((sidesP p)[(j + 1) % (sidesP p).length]'(Nat.mod_lt _ (by omega)))) = true := fun j hj => by
    have := h3 j (Nat.zero_le _) (by omega)
    unfold okI okJ at this
    simp only [Bool.and_eq_true] at this
    have hj2 : (j + 1) % p.length < (sidesP p).length := by rw [hl]; exact Nat.mod_lt _ (by omega)
    rw [sd_get hj, sd_get hj2] at this
    obtain ⟨q1, ⟨q2, q3⟩, _⟩ := this
    refine ⟨q1, q2, ?_⟩
    simp only [hl]
    exact q3
  refine ⟨h1, fun v hv => ?_, fun s hs => ?_, fun i hi => ?_, fun i k hi hk hik hn => ?_⟩
  · obtain ⟨i, hi, rfl⟩ := List.getElem_of_mem hv
    have := (h3 i (by omega)).1
    rw [sides_get hi] at this
    exact onB_iff.1 this
  · obtain ⟨i, hi, rfl⟩ := List.getElem_of_mem hs
    have := (h3 i hi).2.1
    simpa using this
  · have := (h3 i hi).2.2
    simpa using this
  · have := h4 i (Nat.zero_le _) (by omega)
    unfold crI at this
    rw [allFr_true] at this
    have := this k hik (by omega)
    unfold crJ at this
    rw [sd_get hi, sd_get hk, decide_eq_true (by omega), Bool.true_and] at this
    simpa using this
theorem rightP_len {p : List Pt} (h : rightP p = true) : 4 ≤ p.length ∧ p.length ≤ 60 := by
  unfold rightP at h
  simp only [Bool.and_eq_true, decide_eq_true_eq] at h
  exact ⟨h.1.1.1.1, h.1.1.1.2⟩
end Go.Proofs.Ytjkemccfcabhgaa.Rg
