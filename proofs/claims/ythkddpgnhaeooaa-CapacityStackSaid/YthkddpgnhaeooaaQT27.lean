/-
 Solids: slabs put on one another. Conditions: lists that are not too long.
-/
import Derived.Test.YthkddpgnhaeooaaQT26
import Derived.Test.YthkddpgnhaeooaaQT16
import Derived.Test.YthkddpgnhaeooaaRows
import Derived.Test.YthkddpgnhaeooaaQT24
import Derived.Test.YthkddpgnhaeooaaQT19
import Derived.Test.YthkddpgnhaeooaaQT21
namespace Go.Proofs.Ythkddpgnhaeooaa.Bm
open Go Go.RowKit
open Rg (Rect)
open Cp (Br)
theorem okE : OkProg E.P := okProg_of (by kernel_rfl) (by kernel_rfl)
theorem laidE : laidOutB E.P = true := by kernel_rfl
theorem mapsE : mapsRowed E.P = true := by kernel_rfl
noncomputable def tlE : List TypeId := closeT E.P 8 [22, 26]
theorem closedE : closedT E.P tlE = true := by kernel_rfl
theorem in22 : 22 ∈ tlE := List.contains_iff_mem.1 (by kernel_rfl)
theorem in26 : 26 ∈ tlE := List.contains_iff_mem.1 (by kernel_rfl)
theorem ui : E.P.underlying 3 = some (.int .i64) := by kernel_rfl
theorem u4 : E.P.underlying 4 = some .bool := by kernel_rfl
theorem uSt : E.P.underlying 9 = some .string := by kernel_rfl
theorem uRs : E.P.underlying 22 = some (.slice 41) := by kernel_rfl
theorem uEs : E.P.underlying 23 = some (.slice 53) := by kernel_rfl
theorem uPs : E.P.underlying 24 = some (.slice 54) := by kernel_rfl
theorem uPa : E.P.underlying 54 = some (.array 2 3) := by kernel_rfl
theorem fR : fsOf E.P 41 = some [(0, 3), (1, 3), (2, 3), (3, 3)] := by kernel_rfl
theorem fEn : fsOf E.P 53 = some [(0, 9), (1, 3)] := by kernel_rfl
theorem fPb : fsOf E.P 26 = some [(0, 3), (1, 23), (2, 3), (3, 24)] := by kernel_rfl
theorem nR : E.P.cellsOf 41 = 4 := by kernel_rfl
theorem nEn : E.P.cellsOf 53 = 2 := by kernel_rfl
theorem nPa : E.P.cellsOf 54 = 2 := by kernel_rfl
theorem nPb : E.P.cellsOf 26 = 4 := by kernel_rfl
theorem nEs : E.P.cellsOf 23 = 1 := by kernel_rfl
theorem nPs : E.P.cellsOf 24 = 1 := by kernel_rfl
theorem ni : E.P.cellsOf 3 = 1 := by kernel_rfl
theorem nS : E.P.cellsOf 9 = 1 := by kernel_rfl
theorem gR : aggT E.P 41 = some true := by kernel_rfl
theorem gRs : aggT E.P 22 = some false := by kernel_rfl
theorem gEn : aggT E.P 53 = some true := by kernel_rfl
theorem gPa : aggT E.P 54 = some true := by kernel_rfl
theorem gPb : aggT E.P 26 = some true := by kernel_rfl
def i64ok (z : Int) : Prop := -9223372036854775808 ≤ z ∧ z ≤ 9223372036854775807
theorem wt_array {n m : Nat} {t e : TypeId} {c : List Value} (hu : E.P.underlying t = some (.array m e)) (h : Wt E.P n t c) : c.length = E.P.cellsOf t ∧ ∀ i, i < m → ∃ k, Wt E.P k e ((c.drop (i * E.P.cellsOf e)).take (E.P.cellsOf e)) := by
 cases n with
 | zero => exact h.elim
 | succ n =>
  unfold Wt at h; rw [hu] at h
  exact ⟨h.1, fun i hi => ⟨n, h.2 i hi⟩⟩
theorem rect_of {n : Nat} {c : List Value} (h : Wt E.P n 41 c) : ∃ r : Rect, c = rectR.enc r := by
 obtain ⟨hl, hf⟩ := wt_struct fR h
 rw [nR] at hl
 obtain ⟨a0, c, rfl⟩ := List.exists_cons_of_length_eq_add_one hl; have hl := Nat.succ.inj hl
 obtain ⟨a1, c, rfl⟩ := List.exists_cons_of_length_eq_add_one hl; have hl := Nat.succ.inj hl
 obtain ⟨a2, c, rfl⟩ := List.exists_cons_of_length_eq_add_one hl; have hl := Nat.succ.inj hl
 obtain ⟨a3, c, rfl⟩ := List.exists_cons_of_length_eq_add_one hl; have hl := Nat.succ.inj hl
 obtain rfl := List.eq_nil_of_length_eq_zero hl
 obtain ⟨m0, q0⟩ := hf (0, 3) (by simp)
 replace q0 : Wt E.P m0 3 [a0] := by simpa [ni] using q0
 obtain ⟨m1, q1⟩ := hf (1, 3) (by simp)
 replace q1 : Wt E.P m1 3 [a1] := by simpa [ni] using q1
 obtain ⟨m2, q2⟩ := hf (2, 3) (by simp)
 replace q2 : Wt E.P m2 3 [a2] := by simpa [ni] using q2
 obtain ⟨m3, q3⟩ := hf (3, 3) (by simp)
 replace q3 : Wt E.P m3 3 [a3] := by simpa [ni] using q3
 obtain ⟨z0, e, _⟩ := wt_int ui q0; obtain rfl := List.singleton_inj.1 e
 obtain ⟨z1, e, _⟩ := wt_int ui q1; obtain rfl := List.singleton_inj.1 e
 obtain ⟨z2, e, _⟩ := wt_int ui q2; obtain rfl := List.singleton_inj.1 e
 obtain ⟨z3, e, _⟩ := wt_int ui q3; obtain rfl := List.singleton_inj.1 e
 exact ⟨⟨z0, z1, z2, z3⟩, rfl⟩
theorem en_of {n : Nat} {c : List Value} (h : Wt E.P n 53 c) : ∃ b : ByteArray × Int, c = entR.enc b := by
 obtain ⟨hl, hf⟩ := wt_struct fEn h
 rw [nEn] at hl
 obtain ⟨a0, c, rfl⟩ := List.exists_cons_of_length_eq_add_one hl; have hl := Nat.succ.inj hl
 obtain ⟨a1, c, rfl⟩ := List.exists_cons_of_length_eq_add_one hl; have hl := Nat.succ.inj hl
 obtain rfl := List.eq_nil_of_length_eq_zero hl
 obtain ⟨m0, q0⟩ := hf (0, 9) (by simp)
 replace q0 : Wt E.P m0 9 [a0] := by simpa [nS] using q0
 obtain ⟨m1, q1⟩ := hf (1, 3) (by simp)
 replace q1 : Wt E.P m1 3 [a1] := by simpa [ni] using q1
 obtain ⟨z0, e, _⟩ := wt_str uSt q0; obtain rfl := List.singleton_inj.1 e
 obtain ⟨z1, e, _⟩ := wt_int ui q1; obtain rfl := List.singleton_inj.1 e
 exact ⟨(z0, z1), rfl⟩
theorem pa_of {n : Nat} {c : List Value} (h : Wt E.P n 54 c) : ∃ b : Int × Int, c = pairR.enc b := by
 obtain ⟨hl, hf⟩ := wt_array uPa h
 rw [nPa] at hl
 obtain ⟨a0, c, rfl⟩ := List.exists_cons_of_length_eq_add_one hl; have hl := Nat.succ.inj hl
 obtain ⟨a1, c, rfl⟩ := List.exists_cons_of_length_eq_add_one hl; have hl := Nat.succ.inj hl
 obtain rfl := List.eq_nil_of_length_eq_zero hl
 obtain ⟨m0, q0⟩ := hf 0 (by decide)
 replace q0 : Wt E.P m0 3 [a0] := by simpa [ni] using q0
 obtain ⟨m1, q1⟩ := hf 1 (by decide)
 replace q1 : Wt E.P m1 3 [a1] := by simpa [ni] using q1
 obtain ⟨z0, e, _⟩ := wt_int ui q0; obtain rfl := List.singleton_inj.1 e
 obtain ⟨z1, e, _⟩ := wt_int ui q1; obtain rfl := List.singleton_inj.1 e
 exact ⟨(z0, z1), rfl⟩
theorem recs_of {α : Type} (R : Rec α) {Q : α → Prop} {n : Nat} {t e : TypeId} {c : List Value} (hu : E.P.underlying t = some (.slice e)) (ge : aggT E.P e = some true) (hb : ∀ (m : Nat) (x : List Value), Wt E.P m e x → ∃ a, x = R.enc a ∧ Q a) (h : Wt E.P n t c) : ∃ l : List α, c = [lst false (R.vals l)] ∧ l.length ≤ maxLen ∧ ∀ a ∈ l, Q a := by
 obtain ⟨ls, rfl, h2, h3⟩ := wt_slice hu h
 obtain ⟨rs, rfl, k2⟩ := choose_list (cells := R.enc) (Q := Q) ls fun x hx => by
  obtain ⟨m, hm⟩ := h3 x hx
  exact hb m x hm
 refine ⟨rs, ?_, by simpa using h2, k2⟩
 have e : ∀ l : List α, (l.map R.enc).map (elemV E.P e) = R.vals l := by
  intro l
  induction l with
  | nil => rfl
  | cons r l ih =>
   rw [List.map_cons, List.map_cons, ih]
   unfold elemV
   rw [if_pos ge]
   rfl
 rw [e]
theorem pbV {n : Nat} {c : List Value} (h : Wt E.P n 26 c) : ∃ p : Pb, elemV E.P 26 c = p.val ∧ Rec.Ok p.kl p.left ∧ Rec.Ok p.kn p.never ∧ i64ok p.uses ∧ i64ok p.most ∧ p.left.length ≤ maxLen ∧ p.never.length ≤ maxLen ∧ p.kl = some false ∧ p.kn = some false := by
 obtain ⟨hl, hf⟩ := wt_struct fPb h
 rw [nPb] at hl
 obtain ⟨a0, c, rfl⟩ := List.exists_cons_of_length_eq_add_one hl; have hl := Nat.succ.inj hl
 obtain ⟨a1, c, rfl⟩ := List.exists_cons_of_length_eq_add_one hl; have hl := Nat.succ.inj hl
 obtain ⟨a2, c, rfl⟩ := List.exists_cons_of_length_eq_add_one hl; have hl := Nat.succ.inj hl
 obtain ⟨a3, c, rfl⟩ := List.exists_cons_of_length_eq_add_one hl; have hl := Nat.succ.inj hl
 obtain rfl := List.eq_nil_of_length_eq_zero hl
 obtain ⟨m0, q0⟩ := hf (0, 3) (by simp)
 replace q0 : Wt E.P m0 3 [a0] := by simpa [ni] using q0
 obtain ⟨m1, q1⟩ := hf (1, 23) (by simp)
 replace q1 : Wt E.P m1 23 [a1] := by simpa [nEs] using q1
 obtain ⟨m2, q2⟩ := hf (2, 3) (by simp)
 replace q2 : Wt E.P m2 3 [a2] := by simpa [ni] using q2
 obtain ⟨m3, q3⟩ := hf (3, 24) (by simp)
 replace q3 : Wt E.P m3 24 [a3] := by simpa [nPs] using q3
 obtain ⟨z0, e, h0⟩ := wt_int ui q0; obtain rfl := List.singleton_inj.1 e
 obtain ⟨l1, e, h1, _⟩ := recs_of entR (Q := fun _ => True) uEs gEn (fun m x hx => (en_of hx).imp fun a h => ⟨h, trivial⟩) q1; obtain rfl := List.singleton_inj.1 e
 obtain ⟨z2, e, h2⟩ := wt_int ui q2; obtain rfl := List.singleton_inj.1 e
 obtain ⟨l3, e, h3, _⟩ := recs_of pairR (Q := fun _ => True) uPs gPa (fun m x hx => (pa_of hx).imp fun a h => ⟨h, trivial⟩) q3; obtain rfl := List.singleton_inj.1 e
 exact ⟨⟨z0, some false, l1, z2, some false, l3⟩, by simp [elemV, gPb]; rfl, Rec.ok_some, Rec.ok_some, i64_wf h0, i64_wf h2, h1, h3, rfl, rfl⟩
theorem rectsV {n : Nat} {c : List Value} (h : Wt E.P n 22 c) : ∃ l : List Rect, elemV E.P 22 c = lst false (rectR.vals l) ∧ l.length ≤ maxLen := by
 obtain ⟨l, rfl, h1, _⟩ := recs_of rectR (Q := fun _ => True) uRs gR (fun m x hx => (rect_of hx).imp fun a h => ⟨h, trivial⟩) h
 exact ⟨l, by simp [elemV, gRs], h1⟩
theorem orcE : OrcSound E := by
 have key : ∀ g k, E.orc g = some k → (∃ F N, k = inG F N ∧ SortCon E.P g F N) ∨ ∃ q m F, k = inC q m F ∧ CellCon E.P g q m F := fun g k h => by
  rw [E_orc] at h
  by_cases h1 : g = 21
  ·subst h1; simp only [if_true, Option.some.injEq] at h; exact .inl ⟨_, _, h.symm, conSort⟩
  ·by_cases h2 : g = 22
   ·subst h2; simp only [h1, if_false, if_true, Option.some.injEq] at h; exact .inl ⟨_, _, h.symm, conComp⟩
   ·by_cases h3 : g = 86
    ·subst h3; simp only [h1, h2, if_false, if_true, Option.some.injEq] at h; exact .inr ⟨_, _, _, h.symm, conSpan⟩
    ·simp only [h1, h2, h3, if_false] at h; cases h
 refine ⟨fun g k hg args h lo r _ => ?_, fun g k hg args h lo v h' hr hlo B M w args' hs hv => ?_, fun g k hg args h lo v h' hr _ => ?_⟩
 ·rcases key g k hg with ⟨F, N, _, hC⟩ | ⟨q, m, F, _, hC⟩
  ·exact hC.dfd
  ·exact hC.dfd
 ·rcases key g k hg with ⟨F, N, rfl, hC⟩ | ⟨q, m, F, rfl, hC⟩
  ·exact in_sound hC hr hlo args' hs hv
  ·exact inC_sound hC hr hlo args' hs hv
 ·rcases key g k hg with ⟨F, N, rfl, _⟩ | ⟨q, m, F, rfl, _⟩
  ·exact inG_keep hr
  ·exact inC_keep hr
end Go.Proofs.Ythkddpgnhaeooaa.Bm
namespace Go.Proofs.Ythkddpgnhaeooaa.Rg
structure Lv where
 lo : Int
 hi : Int
 ar : List Rect
structure Bx where
 b : Rect
 lo : Int
 hi : Int
def putL (o : List Lv) (x : Lv) : List Lv :=
 if x.ar = [] then o else match o.getLast? with
  | none => [x]
  | some y => if y.hi = x.lo ∧ y.ar = x.ar then o.dropLast ++ [⟨y.lo, x.hi, y.ar⟩] else o ++ [x]
def volL (o : List Lv) : Int := (o.map fun x => (x.hi - x.lo) * areaL x.ar).sum
def atL : List Lv → Int → List Rect
 | [], _ => []
 | x :: o, z => if x.lo ≤ z ∧ z < x.hi then x.ar else atL o z
def okL (R : List Rect → Prop) : List Lv → Prop
 | [] => True
 | [x] => 0 ≤ x.lo ∧ x.lo < x.hi ∧ x.ar ≠ [] ∧ R x.ar
 | x :: y :: o => (0 ≤ x.lo ∧ x.lo < x.hi ∧ x.ar ≠ [] ∧ R x.ar) ∧ (x.hi ≤ y.lo ∧ ¬ (x.hi = y.lo ∧ x.ar = y.ar)) ∧ okL R (y :: o)
def floorsL (o : List Lv) : Nat → List (List Rect) → List Lv
 | _, [] => o
 | i, R :: Rs => floorsL (putL o ⟨3 * i, 3 * i + 3, R⟩) (i + 1) Rs
theorem volL_append (o p : List Lv) : volL (o ++ p) = volL o + volL p := by
 unfold volL
 rw [List.map_append, List.sum_append]
theorem volL_one (x : Lv) : volL [x] = (x.hi - x.lo) * areaL x.ar := by
 unfold volL
 simp
theorem put_vol (o : List Lv) (x : Lv) (hx : x.ar ≠ []) : volL (putL o x) = volL o + (x.hi - x.lo) * areaL x.ar := by
 unfold putL
 rw [if_neg hx]
 cases h : o.getLast? with
 | none =>
  have : o = [] := List.getLast?_eq_none_iff.1 h
  subst this
  rw [volL_one]; simp [volL]
 | some y =>
  simp only
  have e : o = o.dropLast ++ [y] := by
   have hn : o ≠ [] := fun q => by rw [q] at h; cases h
   have := List.dropLast_concat_getLast hn
   rw [List.getLast?_eq_some_getLast hn, Option.some.injEq] at h
   rw [← h]; exact this.symm
  by_cases q : y.hi = x.lo ∧ y.ar = x.ar
  ·rw [if_pos q, volL_append, volL_one]
   have e2 : volL o = volL o.dropLast + (y.hi - y.lo) * areaL y.ar := by
    rw [← volL_one, ← volL_append, ← e]
   rw [e2]
   show _ + (x.hi - y.lo) * areaL y.ar = _
   rw [q.2, q.1, Int.add_assoc, ← Int.add_mul]
   congr 2
   omega
  ·rw [if_neg q, volL_append, volL_one]
theorem floors_vol : ∀ (Rs : List (List Rect)) (i : Nat) (o : List Lv), (∀ R ∈ Rs, R ≠ []) → volL (floorsL o i Rs) = volL o + 3 * (Rs.map areaL).sum
 | [], i, o, _ => by simp [floorsL]
 | R :: Rs, i, o, h => by
  show volL (floorsL (putL o ⟨3 * i, 3 * i + 3, R⟩) (i + 1) Rs) = _
  rw [floors_vol Rs (i + 1) _ (fun S hS => h S (List.mem_cons_of_mem _ hS)), put_vol o ⟨3 * i, 3 * i + 3, R⟩ (h R (List.mem_cons_self ..)), List.map_cons, List.sum_cons, Int.mul_add]
  have e : (⟨3 * i, 3 * i + 3, R⟩ : Lv).hi - (⟨3 * i, 3 * i + 3, R⟩ : Lv).lo = 3 := by show (3 * (i : Int) + 3) - 3 * i = 3; omega
  rw [e]
  show volL o + 3 * areaL R + _ = _
  omega
def hitB (z : Int) (x : Lv) : Bool := decide (x.lo ≤ z) && decide (z < x.hi)
theorem hitB_iff {z : Int} {x : Lv} : hitB z x = true ↔ x.lo ≤ z ∧ z < x.hi := by
 unfold hitB
 rw [Bool.and_eq_true, decide_eq_true_eq, decide_eq_true_eq]
theorem at_app : ∀ (o p : List Lv) (z : Int), atL (o ++ p) z = if o.any (hitB z) = true then atL o z else atL p z
 | [], p, z => by simp
 | x :: o, p, z => by
  have ih := at_app o p z
  show (if x.lo ≤ z ∧ z < x.hi then x.ar else atL (o ++ p) z) = if (hitB z x || o.any (hitB z)) = true then (if x.lo ≤ z ∧ z < x.hi then x.ar else atL o z) else atL p z
  by_cases h : x.lo ≤ z ∧ z < x.hi
  ·have : hitB z x = true := hitB_iff.2 h
   rw [if_pos h, if_pos h, this, Bool.true_or, if_pos rfl]
  ·have : hitB z x = false := Bool.eq_false_iff.2 fun q => h (hitB_iff.1 q)
   rw [if_neg h, if_neg h, this, Bool.false_or, ih]
theorem at_one (x : Lv) (z : Int) (h : x.lo ≤ z ∧ z < x.hi) : atL [x] z = x.ar := if_pos h
theorem no_hit {o : List Lv} {z : Int} (h : ∀ x ∈ o, x.hi ≤ z) : o.any (hitB z) = false := by
 rw [List.any_eq_false]
 intro x hx q
 have := (hitB_iff.1 q).2
 have := h x hx
 omega
theorem ok_app {R : List Rect → Prop} : ∀ (o : List Lv) (x : Lv), okL R o → (0 ≤ x.lo ∧ x.lo < x.hi ∧ x.ar ≠ [] ∧ R x.ar) → (∀ y, o.getLast? = some y → y.hi ≤ x.lo ∧ ¬ (y.hi = x.lo ∧ y.ar = x.ar)) → okL R (o ++ [x])
 | [], x, _, hx, _ => hx
 | [y], x, hy, hx, h => ⟨hy, h y rfl, hx⟩
 | y :: w :: o, x, ho, hx, h => by
  obtain ⟨h1, h2, h3⟩ := ho
  refine ⟨h1, h2, ok_app (w :: o) x h3 hx fun v hv => h v ?_⟩
  rw [List.getLast?_cons_cons]; exact hv
theorem ok_last {R : List Rect → Prop} {n : Int} : ∀ (o : List Lv) (y : Lv), okL R (o ++ [y]) → y.hi ≤ n → okL R (o ++ [⟨y.lo, n, y.ar⟩])
 | [], y, h, hn => ⟨h.1, by show y.lo < n; have := h.2.1; omega, h.2.2⟩
 | [x], y, h, hn => ⟨h.1, h.2.1, h.2.2.1, by show y.lo < n; have := h.2.2.2.1; omega, h.2.2.2.2⟩
 | x :: w :: o, y, h, hn => ⟨h.1, h.2.1, ok_last (w :: o) y h.2.2 hn⟩
structure FI (R : List Rect → Prop) (o : List Lv) (D : List (List Rect)) : Prop where
 ok : okL R o
 le : ∀ x ∈ o, x.hi ≤ 3 * (D.length : Int)
 nil : D = [] → o = []
 last : D ≠ [] → ∃ y, o.getLast? = some y ∧ y.hi = 3 * (D.length : Int)
 hit : ∀ (j : Nat) (h : j < D.length), o.any (hitB (3 * j + 1)) = true ∧ atL o (3 * j + 1) = D[j]
 len : o.length ≤ D.length
theorem FI.put {R : List Rect → Prop} {o : List Lv} {D : List (List Rect)} {S : List Rect} (h : FI R o D) (hS : S ≠ []) (hR : R S) : FI R (putL o ⟨3 * D.length, 3 * D.length + 3, S⟩) (D ++ [S]) := by
 have hl : (D ++ [S]).length = D.length + 1 := by rw [List.length_append]; rfl
 have hne : D ++ [S] ≠ [] := by simp
 have hx : 0 ≤ (3 * (D.length : Int)) ∧ 3 * (D.length : Int) < 3 * (D.length : Int) + 3 ∧ S ≠ [] ∧ R S := ⟨by omega, by omega, hS, hR⟩
 have fin : (∀ y, o.getLast? = some y → y.hi ≤ 3 * (D.length : Int) ∧ ¬ (y.hi = 3 * (D.length : Int) ∧ y.ar = S)) → FI R (o ++ [⟨3 * D.length, 3 * D.length + 3, S⟩]) (D ++ [S]) := fun hy => by
  refine ⟨ok_app o _ h.ok hx hy, fun x hx => ?_, fun q => absurd q hne, fun _ => ⟨⟨3 * D.length, 3 * D.length + 3, S⟩, by simp, by rw [hl]; push_cast; omega⟩, fun j hj => ?_, by rw [List.length_append, hl]; have := h.len; simp; omega⟩
  ·rw [hl]
   rcases List.mem_append.1 hx with q | q
   ·have := h.le x q; push_cast; omega
   ·rw [List.mem_singleton.1 q]; push_cast; omega
  ·rw [List.any_append, at_app]
   rw [hl] at hj
   by_cases q : j < D.length
   ·obtain ⟨h1, h2⟩ := h.hit j q
    rw [h1, if_pos rfl, h2, List.getElem_append_left q]
    exact ⟨rfl, rfl⟩
   ·have e : j = D.length := by omega
    subst e
    have hn := no_hit (o := o) (z := 3 * (D.length : Int) + 1) fun x hx => by have := h.le x hx; omega
    rw [hn, if_neg (by decide), at_one _ _ ⟨by show 3 * (D.length : Int) ≤ _; omega, by show _ < 3 * (D.length : Int) + 3; omega⟩]
    refine ⟨?_, by simp⟩
    rw [Bool.false_or, List.any_cons, hitB_iff.2 ⟨by show 3 * (D.length : Int) ≤ _; omega, by show _ < 3 * (D.length : Int) + 3; omega⟩]; rfl
 unfold putL
 rw [if_neg hS]
 cases hg : o.getLast? with
 | none => 
  have e : o = [] := List.getLast?_eq_none_iff.1 hg
  have := fin fun y hy => by rw [hg] at hy; cases hy
  rw [e, List.nil_append] at this
  exact this
 | some y =>
  simp only
  have hon : o ≠ [] := fun q => by rw [q] at hg; cases hg
  have e : o = o.dropLast ++ [y] := by
   have := List.dropLast_concat_getLast hon
   rw [List.getLast?_eq_some_getLast hon, Option.some.injEq] at hg
   rw [← hg]; exact this.symm
  by_cases q : y.hi = 3 * (D.length : Int) ∧ y.ar = S
  ·rw [if_pos q]
   generalize o.dropLast = u at e
   have hok := h.ok
   rw [e] at hok
   have hyl : y.lo < y.hi := by
    have : ∀ (v : List Lv), okL R (v ++ [y]) → y.lo < y.hi := fun v => by
     induction v with
     | nil => exact fun q => q.2.1
     | cons a v ih =>
      cases v with
      | nil => exact fun q => q.2.2.2.1
      | cons b v => exact fun q => ih q.2.2
    exact this u hok
   have hy0 : y.lo ≤ 3 * (D.length : Int) := by omega
   refine ⟨ok_last u y hok (by rw [q.1]; show 3 * (D.length : Int) ≤ 3 * (D.length : Int) + 3; omega), fun x hx => ?_, fun q => absurd q hne, fun _ => ⟨⟨y.lo, 3 * (D.length : Int) + 3, y.ar⟩, by simp, by show 3 * (D.length : Int) + 3 = _; rw [hl]; push_cast; omega⟩, fun j hj => ?_, by have := h.len; rw [e] at this; rw [List.length_append] at this ⊢; rw [hl]; simp at this ⊢; omega⟩
   ·rw [hl]
    rcases List.mem_append.1 hx with p | p
    ·have := h.le x (by rw [e]; exact List.mem_append_left _ p); push_cast; omega
    ·rw [List.mem_singleton.1 p]; show 3 * (D.length : Int) + 3 ≤ _; push_cast; omega
   ·rw [List.any_append, at_app]
    rw [hl] at hj
    by_cases p : j < D.length
    ·obtain ⟨h1, h2⟩ := h.hit j p
     rw [e, List.any_append] at h1
     rw [e, at_app] at h2
     rw [List.getElem_append_left p]
     cases hu : u.any (hitB (3 * (j : Int) + 1))
     ·rw [hu, Bool.false_or, List.any_cons, List.any_nil, Bool.or_false] at h1
      rw [hu, if_neg (by decide)] at h2
      have hb := hitB_iff.1 h1
      rw [at_one y _ hb] at h2
      have hb2 : y.lo ≤ 3 * (j : Int) + 1 ∧ 3 * (j : Int) + 1 < 3 * (D.length : Int) + 3 := ⟨hb.1, by omega⟩
      rw [if_neg (by decide), at_one _ _ hb2, Bool.false_or, List.any_cons, hitB_iff.2 hb2]
      exact ⟨rfl, h2⟩
     ·rw [hu, if_pos rfl] at h2
      rw [if_pos rfl]
      exact ⟨rfl, h2⟩
    ·have ej : j = D.length := by omega
     subst ej
     have hn := no_hit (o := u) (z := 3 * (D.length : Int) + 1) fun x hx => by have := h.le x (by rw [e]; exact List.mem_append_left _ hx); omega
     have hb2 : y.lo ≤ 3 * (D.length : Int) + 1 ∧ 3 * (D.length : Int) + 1 < 3 * (D.length : Int) + 3 := ⟨by omega, by omega⟩
     rw [hn, if_neg (by decide), at_one _ _ hb2, Bool.false_or, List.any_cons, hitB_iff.2 hb2]
     exact ⟨rfl, by simp [q.2]⟩
  ·rw [if_neg q]
   refine fin fun w hw => ?_
   rw [hg, Option.some.injEq] at hw
   subst hw
   exact ⟨h.le _ (List.mem_of_getLast? hg), q⟩
theorem FI.floors {R : List Rect → Prop} : ∀ (Rs : List (List Rect)) (o : List Lv) (D : List (List Rect)), FI R o D → (∀ S ∈ Rs, S ≠ [] ∧ R S) → FI R (floorsL o D.length Rs) (D ++ Rs)
 | [], o, D, h, _ => by rw [List.append_nil]; exact h
 | S :: Rs, o, D, h, hs => by
  have h1 := h.put (hs S (List.mem_cons_self ..)).1 (hs S (List.mem_cons_self ..)).2
  have ih := FI.floors Rs _ (D ++ [S]) h1 fun T hT => hs T (List.mem_cons_of_mem _ hT)
  rw [List.length_append, List.append_assoc] at ih
  exact ih
theorem FI.start (R : List Rect → Prop) : FI R [] [] := ⟨trivial, fun x hx => absurd hx List.not_mem_nil, fun _ => rfl, fun h => absurd rfl h, fun j h => absurd h (Nat.not_lt_zero j), Nat.le_refl _⟩
end Go.Proofs.Ythkddpgnhaeooaa.Rg
namespace Go.Proofs.Ythkddpgnhaeooaa.Rg
def stackB : Nat → List (List Rect) → List Bx
 | _, [] => []
 | i, R :: Rs => R.map (fun r => ⟨r, 3 * (i : Int), 3 * (i : Int) + 3⟩) ++ stackB (i + 1) Rs
def heightsB (l : List Bx) : List Int := sortU (l.flatMap fun b => [b.lo, b.hi])
def basesB (l : List Bx) (u v : Int) : List Rect := (l.filter fun b => decide (b.lo < v) && decide (u < b.hi)).map Bx.b
theorem mem_stack : ∀ (Rs : List (List Rect)) (i : Nat) (b : Bx), b ∈ stackB i Rs ↔ ∃ j, ∃ h : j < Rs.length, b.b ∈ Rs[j] ∧ b.lo = 3 * ((i + j : Nat) : Int) ∧ b.hi = 3 * ((i + j : Nat) : Int) + 3
 | [], i, b => by
  constructor
  ·intro h; cases h
  ·rintro ⟨j, h, _⟩; exact absurd h (Nat.not_lt_zero j)
 | R :: Rs, i, b => by
  have ih := mem_stack Rs (i + 1) b
  unfold stackB
  rw [List.mem_append, ih, List.mem_map]
  constructor
  ·rintro (⟨r, hr, rfl⟩ | ⟨j, h, h1, h2, h3⟩)
   ·exact ⟨0, Nat.succ_pos _, hr, rfl, rfl⟩
   ·refine ⟨j + 1, Nat.succ_lt_succ h, h1, ?_, ?_⟩
    ·rw [h2]; congr 2; omega
    ·rw [h3]; congr 3; omega
  ·rintro ⟨j, h, h1, h2, h3⟩
   cases j with
   | zero =>
    refine .inl ⟨b.b, h1, ?_⟩
    obtain ⟨bb, bl, bh⟩ := b
    simp only at h2 h3
    rw [h2, h3]; rfl
   | succ j =>
    refine .inr ⟨j, Nat.lt_of_succ_lt_succ h, h1, ?_, ?_⟩
    ·rw [h2]; congr 2; omega
    ·rw [h3]; congr 3; omega
theorem stack_heights {Rs : List (List Rect)} (h : ∀ R ∈ Rs, R ≠ []) (h0 : Rs ≠ []) : heightsB (stackB 0 Rs) = (List.range (Rs.length + 1)).map (fun j : Nat => 3 * (j : Int)) := by
 unfold heightsB
 refine asc_ext (sortU_asc _) ?_ fun z => ?_
 ·rw [List.pairwise_map]
  exact List.pairwise_lt_range.imp fun h => by omega
 ·rw [sortU_mem, List.mem_flatMap, List.mem_map]
  have hn : 0 < Rs.length := List.length_pos_iff.2 h0
  constructor
  ·rintro ⟨b, hb, hz⟩
   obtain ⟨j, hj, _, h2, h3⟩ := (mem_stack Rs 0 b).1 hb
   simp only [List.mem_cons, List.not_mem_nil, or_false] at hz
   rcases hz with rfl | rfl
   ·exact ⟨j, List.mem_range.2 (by omega), by rw [h2]; congr 2; omega⟩
   ·exact ⟨j + 1, List.mem_range.2 (by omega), by rw [h3]; push_cast; omega⟩
  ·rintro ⟨j, hj, rfl⟩
   rw [List.mem_range] at hj
   by_cases q : j < Rs.length
   ·obtain ⟨r, l, e⟩ := List.exists_cons_of_ne_nil (h _ (List.getElem_mem q))
    exact ⟨⟨r, 3 * (j : Int), 3 * (j : Int) + 3⟩, (mem_stack Rs 0 _).2 ⟨j, q, by rw [e]; exact List.mem_cons_self .., by show 3 * (j : Int) = _; congr 2; omega, by show 3 * (j : Int) + 3 = _; congr 3; omega⟩, List.mem_cons_self ..⟩
   ·obtain ⟨k, rfl⟩ : ∃ k, j = k + 1 := ⟨j - 1, by omega⟩
    have q : k < Rs.length := by omega
    obtain ⟨r, l, e⟩ := List.exists_cons_of_ne_nil (h _ (List.getElem_mem q))
    refine ⟨⟨r, 3 * (k : Int), 3 * (k : Int) + 3⟩, (mem_stack Rs 0 _).2 ⟨k, q, by rw [e]; exact List.mem_cons_self .., by show 3 * (k : Int) = _; congr 2; omega, by show 3 * (k : Int) + 3 = _; congr 3; omega⟩, ?_⟩
    rw [List.mem_cons, List.mem_singleton]
    right
    show 3 * ((k + 1 : Nat) : Int) = 3 * (k : Int) + 3
    push_cast; omega
theorem bases_none {l : List Bx} {u v : Int} (h : ∀ b ∈ l, v ≤ b.lo ∨ b.hi ≤ u) : basesB l u v = [] := by
 unfold basesB
 rw [List.map_eq_nil_iff, List.filter_eq_nil_iff]
 intro b hb q
 rw [Bool.and_eq_true, decide_eq_true_eq, decide_eq_true_eq] at q
 rcases h b hb with p | p <;> omega
theorem bases_append (l m : List Bx) (u v : Int) : basesB (l ++ m) u v = basesB l u v ++ basesB m u v := by
 unfold basesB
 rw [List.filter_append, List.map_append]
theorem bases_all (R : List Rect) (a b u v : Int) (h1 : a < v) (h2 : u < b) : basesB (R.map fun r => ⟨r, a, b⟩) u v = R := by
 unfold basesB
 rw [List.filter_eq_self.2 fun x hx => ?_, List.map_map]
 ·exact List.map_id R
 ·obtain ⟨r, _, rfl⟩ := List.mem_map.1 hx
  simp only [Bool.and_eq_true, decide_eq_true_eq]
  exact ⟨h1, h2⟩
theorem stack_bases : ∀ (Rs : List (List Rect)) (i j : Nat) (h : j < Rs.length), basesB (stackB i Rs) (3 * ((i + j : Nat) : Int)) (3 * ((i + j : Nat) : Int) + 3) = Rs[j]
 | [], _, j, h => absurd h (Nat.not_lt_zero j)
 | R :: Rs, i, 0, _ => by
  unfold stackB
  rw [bases_append, bases_all R _ _ _ _ (by show 3 * (i : Int) < 3 * (i : Int) + 3; omega) (by show 3 * (i : Int) < 3 * (i : Int) + 3; omega), bases_none fun b hb => ?_, List.append_nil]; rfl
  obtain ⟨k, _, _, h2, _⟩ := (mem_stack Rs (i + 1) b).1 hb
  left
  rw [h2]; push_cast; omega
 | R :: Rs, i, j + 1, h => by
  have ih := stack_bases Rs (i + 1) j (Nat.lt_of_succ_lt_succ h)
  unfold stackB
  rw [bases_append, bases_none fun b hb => ?_, List.nil_append]
  ·have e : i + (j + 1) = i + 1 + j := by omega
   rw [e, ih]; rfl
  ·obtain ⟨r, _, rfl⟩ := List.mem_map.1 hb
   right
   show 3 * (i : Int) + 3 ≤ _
   push_cast; omega
end Go.Proofs.Ythkddpgnhaeooaa.Rg
namespace Go.Proofs.Ythkddpgnhaeooaa.Bm
open Go Go.RowKit
open Rg (Rect Lv Bx putL floorsL stackB heightsB basesB)
def solidF (l : List Bx) : List Lv → List Int → Except Int (List Lv)
 | o, a :: b :: zs => match ofR (basesB l a b) with
  | .error e => .error e
  | .ok A => solidF l (putL o ⟨a, b, A⟩) (b :: zs)
 | o, _ => .ok o
def okX (b : Bx) : Bool := okR b.b && (decide (0 ≤ b.lo) && (decide (b.lo < b.hi) && decide (b.hi ≤ 4096)))
def fitX (o : List Lv) : Except Int (List Lv) := if 80 < o.length then .error 6 else .ok o
def solidX (l : List Bx) : Except Int (List Lv) :=
 if l.all okX then (if 200 < l.length then .error 6 else match solidF l [] (heightsB l) with | .error e => .error e | .ok o => fitX o) else .error 1
theorem ofR_reg {R : List Rect} (h : regB R = true) : ofR R = .ok R := by
 unfold regB at h
 cases q : ofR R with
 | error e => rw [q] at h; cases h
 | ok m => rw [q] at h; rw [of_decide_eq_true h]
theorem solidF_stack {Rs : List (List Rect)} (hr : ∀ R ∈ Rs, regB R = true) : ∀ (n j : Nat) (o : List Lv), j + n = Rs.length →
  solidF (stackB 0 Rs) o ((List.range' j (n + 1)).map fun k : Nat => 3 * (k : Int)) = .ok (floorsL o j (Rs.drop j))
 | 0, j, o, h => by
  rw [List.drop_eq_nil_of_le (by omega)]; rfl
 | n + 1, j, o, h => by
  have hj : j < Rs.length := by omega
  have ih := solidF_stack hr n (j + 1) (putL o ⟨3 * j, 3 * j + 3, Rs[j]⟩) (by omega)
  have hb := Rg.stack_bases Rs 0 j hj
  rw [Nat.zero_add] at hb
  rw [List.drop_eq_getElem_cons hj]
  have e : ((j + 1 : Nat) : Int) = (j : Int) + 1 := by omega
  have e3 : 3 * ((j + 1 : Nat) : Int) = 3 * (j : Int) + 3 := by omega
  rw [List.range'_succ, List.map_cons]
  rw [List.range'_succ, List.map_cons] at ih ⊢
  show (match ofR (basesB (stackB 0 Rs) (3 * (j : Int)) (3 * ((j + 1 : Nat) : Int))) with
   | .error e => _
   | .ok A => solidF (stackB 0 Rs) (putL o ⟨3 * (j : Int), 3 * ((j + 1 : Nat) : Int), A⟩) _) = _
  rw [e3, hb, ofR_reg (hr _ (List.getElem_mem hj))]
  simp only
  rw [e3] at ih
  exact ih
theorem solidX_stack {Rs : List (List Rect)} (hr : ∀ R ∈ Rs, regB R = true) (hn : ∀ R ∈ Rs, R ≠ []) (hl : Rs.length ≤ 80) (hx : ¬ 200 < (stackB 0 Rs).length) : solidX (stackB 0 Rs) = .ok (floorsL [] 0 Rs) := by
 have hok : (stackB 0 Rs).all okX = true := List.all_eq_true.2 fun b hb => by
  obtain ⟨j, hj, h1, h2, h3⟩ := (Rg.mem_stack Rs 0 b).1 hb
  obtain ⟨q, _, _⟩ := regB_iff.1 (hr _ (List.getElem_mem hj))
  unfold okX
  rw [List.all_eq_true.1 q _ h1, Bool.true_and, Bool.and_eq_true, Bool.and_eq_true, decide_eq_true_eq, decide_eq_true_eq, decide_eq_true_eq]
  omega
 have hlen : (floorsL [] 0 Rs).length ≤ 80 := by
  have := (Rg.FI.floors (R := fun _ => True) Rs [] [] (Rg.FI.start _) fun S hS => ⟨hn S hS, trivial⟩).len
  rw [List.nil_append] at this
  exact Nat.le_trans this hl
 have hs : solidF (stackB 0 Rs) [] (heightsB (stackB 0 Rs)) = .ok (floorsL [] 0 Rs) := by
  by_cases h0 : Rs = []
  ·subst h0; rfl
  ·rw [Rg.stack_heights hn h0, List.range_eq_range']
   exact solidF_stack hr Rs.length 0 [] (by omega)
 unfold solidX
 rw [if_pos hok, if_neg hx, hs]
 show fitX _ = _
 unfold fitX
 rw [if_neg (by omega)]
open Rg (Rect Lv Bx putL floorsL stackB atL okL volL areaL)
def oneS (x : Lv) : Bool := decide (0 ≤ x.lo) && (decide (x.lo < x.hi) && (decide (x.hi ≤ 4096) && (decide (x.ar ≠ []) && regB x.ar)))
def nextS (y x : Lv) : Bool := decide (y.hi ≤ x.lo) && !(decide (y.hi = x.lo) && decide (y.ar = x.ar))
def runS : Option Lv → List Lv → Bool
 | _, [] => true
 | p, x :: o => oneS x && ((match p with | none => true | some y => nextS y x) && runS (some x) o)
def rightS (s : List Lv) : Bool := decide (s.length ≤ 80) && runS none s
def secX (s : List Lv) (z : Int) : List Rect := if rightS s then atL s z else []
def volX (s : List Lv) : Int := if rightS s then volL s else 0
theorem oneS_iff {x : Lv} : oneS x = true ↔ 0 ≤ x.lo ∧ x.lo < x.hi ∧ x.hi ≤ 4096 ∧ x.ar ≠ [] ∧ regB x.ar = true := by
 unfold oneS
 simp only [Bool.and_eq_true, decide_eq_true_eq]
theorem runS_ok {s : List Lv} (h4 : ∀ x ∈ s, x.hi ≤ 4096) : ∀ (_ : okL (fun R => regB R = true) s) (p : Option Lv) (_ : ∀ y x, p = some y → s.head? = some x → nextS y x = true), runS p s = true := by
 induction s with
 | nil => exact fun _ _ _ => rfl
 | cons x s ih =>
  intro h p hp
  have h1 : oneS x = true := by
   have hx := h4 x (List.mem_cons_self ..)
   cases s with
   | nil => exact oneS_iff.2 ⟨h.1, h.2.1, hx, h.2.2.1, h.2.2.2⟩
   | cons y s => exact oneS_iff.2 ⟨h.1.1, h.1.2.1, hx, h.1.2.2.1, h.1.2.2.2⟩
  have h2 : okL (fun R => regB R = true) s := by
   cases s with
   | nil => trivial
   | cons y s => exact h.2.2
  have h3 : runS (some x) s = true := ih (fun y hy => h4 y (List.mem_cons_of_mem _ hy)) h2 (some x) fun y w hy hw => by
   cases s with
   | nil => cases hw
   | cons v s =>
    have e1 : x = y := Option.some.inj hy
    have e2 : v = w := Option.some.inj hw
    subst e1; subst e2
    obtain ⟨_, ⟨q1, q2⟩, _⟩ := h
    unfold nextS
    rw [decide_eq_true q1, Bool.true_and, Bool.not_eq_true', Bool.and_eq_false_iff, decide_eq_false_iff_not, decide_eq_false_iff_not]
    by_cases e : x.hi = v.lo
    ·exact .inr fun q => q2 ⟨e, q⟩
    ·exact .inl e
  cases p with
  | none =>
   show (oneS x && (true && runS (some x) s)) = true
   rw [h1, h3]; rfl
  | some y =>
   show (oneS x && (nextS y x && runS (some x) s)) = true
   rw [h1, h3, hp y x rfl rfl]; rfl
section
variable {Rs : List (List Rect)} (hr : ∀ R ∈ Rs, regB R = true) (hn : ∀ R ∈ Rs, R ≠ []) (hl : Rs.length ≤ 80)
include hr hn hl
omit hl in
theorem floors_FI : Rg.FI (fun R => regB R = true) (floorsL [] 0 Rs) Rs := by
 have := Rg.FI.floors (R := fun R => regB R = true) Rs [] [] (Rg.FI.start _) fun S hS => ⟨hn S hS, hr S hS⟩
 rw [List.nil_append] at this
 exact this
theorem floors_right : rightS (floorsL [] 0 Rs) = true := by
 have h := floors_FI hr hn
 have hlen := h.len
 unfold rightS
 rw [decide_eq_true (by omega), Bool.true_and]
 exact runS_ok (fun x hx => by have := h.le x hx; omega) h.ok none fun y x q => by cases q
theorem floors_sec (j : Nat) (hj : j < Rs.length) : secX (floorsL [] 0 Rs) (3 * (j : Int) + 1) = Rs[j] := by
 unfold secX
 rw [floors_right hr hn hl, if_pos rfl]
 exact ((floors_FI hr hn).hit j hj).2
theorem floors_volX : volX (floorsL [] 0 Rs) = 3 * (Rs.map areaL).sum := by
 unfold volX
 rw [floors_right hr hn hl, if_pos rfl, Rg.floors_vol Rs 0 [] hn]
 show 0 + _ = _
 omega
end
open Rg (Rect Lv Bx putL floorsL heightsB basesB sortU areaL)
def bxR : Rec Bx where
 enc b := [.int .i64 b.b.x0, .int .i64 b.b.y0, .int .i64 b.b.x1, .int .i64 b.b.y1, .int .i64 b.lo, .int .i64 b.hi]
 m := 5
 len _ := rfl
 set _ := rfl
 bel _ _ := rfl
def lvR : Rec Lv where
 enc x := [.int .i64 x.lo, .int .i64 x.hi, lst false (rectR.vals x.ar)]
 m := 2
 len _ := rfl
 set _ := rfl
 bel _ _ := rfl
def hsR : Rec (Int × Int) where
 enc x := [.int .i64 x.1, .int .i64 x.2, .slice none 0 0]
 m := 2
 len _ := rfl
 set _ := rfl
 bel _ _ := rfl
theorem bx_val {b : Bx} : bxR.val b = .agg ⟨[.int .i64 b.b.x0, .int .i64 b.b.y0, .int .i64 b.b.x1, .int .i64 b.b.y1, .int .i64 b.lo, .int .i64 b.hi]⟩ := rfl
theorem lv_val {x : Lv} : lvR.val x = .agg ⟨[.int .i64 x.lo, .int .i64 x.hi, lst false (rectR.vals x.ar)]⟩ := rfl
def lsE {α : Type} (R : Rec α) : Enc (List α) := ⟨fun l => lst false (R.vals l), fun _ => rfl, fun _ _ => rfl, fun _ _ _ => rfl, fun _ _ => rfl⟩
theorem aI : aggT E.P 3 = some false := by kernel_rfl
theorem pre_reify {h : Heap} {b n : Nat} {e r : List Int} (hob : h[b]? = some (intR.row 3 (e ++ r))) (hn : (e ++ r).length = n) : reifyR E.P h (preS b n e) = some (lst false (intE.vals e)) := by
 subst hn
 have hob' : h[b]? = some (intE.row 3 (e ++ r)) := by
  rw [hob]
  unfold Rec.row
  rw [int_flat]; rfl
 have key := Enc.reifyR_part (O := intE) (P := E.P) (n := e.length) hob' (by simp) s3 aI
 rw [List.take_left] at key
 exact key
def zsL {α : Type} (f : α → Int × Int) (l : List α) : List Int := l.flatMap fun a => [(f a).1, (f a).2]
def zsA {α : Type} (f : α → Int × Int) (Ls : List (List α)) : List Int := Ls.flatMap (zsL f)
theorem zsL_cons {α : Type} (f : α → Int × Int) (a : α) (l : List α) : zsL f (a :: l) = [(f a).1, (f a).2] ++ zsL f l := rfl
theorem zsA_cons {α : Type} (f : α → Int × Int) (a : List α) (l : List (List α)) : zsA f (a :: l) = zsL f a ++ zsA f l := rfl
theorem zsL_len {α : Type} (f : α → Int × Int) (l : List α) : (zsL f l).length = 2 * l.length := by
 induction l with
 | nil => rfl
 | cons r l ih => rw [zsL_cons, List.length_append, ih]; show 2 + 2 * l.length = 2 * (l.length + 1); omega
theorem zsA_len {α : Type} (f : α → Int × Int) : ∀ (Ls : List (List α)), (∀ l ∈ Ls, l.length ≤ 1000) → (zsA f Ls).length ≤ 2000 * Ls.length
 | [], _ => Nat.le_refl _
 | l :: Ls, h => by
  have ih := zsA_len f Ls fun m hm => h m (List.mem_cons_of_mem _ hm)
  have h1 := h l (List.mem_cons_self ..)
  rw [zsA_cons, List.length_append, zsL_len, List.length_cons]
  omega
theorem heights_spec {α : Type} (R : Rec α) (f : α → Int × Int) (t : α → Value) (hm : R.m = 2) (he : ∀ a, R.enc a = [.int .i64 (f a).1, .int .i64 (f a).2, t a]) (Ls : List (List α)) (hl : ∀ l ∈ Ls, l.length ≤ 1000) (hLs : Ls.length ≤ 100) :
  pureCall E.P (L E) 31 [lst true ((lsE R).vals Ls)] = some (lst false (intE.vals (sortU (zsA f Ls)))) := by
 have ln : ∀ h, lenT .sl h (lst true ((lsE R).vals Ls)) = some (.int .i64 Ls.length) := fun h => by rw [len_lst, Enc.vals_len]
 have ix : ∀ (j : Nat) (hj : j < Ls.length), indexAddrT (.sl 44 ⟨some false, some 1⟩) (lst true ((lsE R).vals Ls)) (.int .i64 (j : Int)) = some (cptr ((lsE R).e Ls[j])) := fun j hj => Enc.index_tree hj
 rw [pureCall_fn F31 rfl]
 simp -implicitDefEqProofs [r31, p31, prep_new, newK_nil s3, ln]
 rw [LL_for (γ := List Int) Ls [] (fun i c => [(3, intR.sl 0 c), (10, .int .i64 (i : Int))]) (fun _ c => [intR.row 3 c])
  (fun _ rest c => (.exit 0, [(3, intR.sl 0 (c ++ zsA f rest)), (10, undef)], [intR.row 3 (c ++ zsA f rest)])) (fun i c => c.length ≤ 2000 * i) (by omega) (Nat.le_refl _)]
 ·rw [List.nil_append]
  have hel := zsA_len f Ls hl
  generalize zsA f Ls = D at *
  have so := sortInts (h := [intR.row 3 D]) (b := 0) (lo := 0) (d := D) rfl (Nat.le_refl _) (by omega)
  obtain ⟨r, co, hrl⟩ := compInts (h := [intR.row 3 (sortI D)]) (b := 0) (lo := 0) (d := sortI D) rfl (Nat.le_refl _) (by rw [sortI_len]; omega)
  rw [Rg.comp_sort] at co hrl
  have e1 : intR.sl 0 (sortI D) = intR.sl 0 D := by unfold Rec.sl; rw [sortI_len]
  rw [e1] at co
  have rr := pre_reify (h := [intR.row 3 (sortU D ++ r)]) (b := 0) (n := (sortI D).length) rfl hrl
  simp -implicitDefEqProofs [k31_3, ret2 (E := E) (f := 21) rfl, ret2 (E := E) (f := 22) rfl, so, co, rr]
 ·simp -implicitDefEqProofs [k31_3, Rec.sl_nil]
 ·rfl
 ·intro nx i c hi _
  simp -implicitDefEqProofs [r31_3, k31_3, ln, hi, trim_le, zsA]
 ·intro nx i l rest c hi hv hd hw hc ih
  have xi := ix i hi
  rw [hv] at xi
  have hll : l.length ≤ 1000 := hl l (by rw [← hv]; exact List.getElem_mem hi)
  have ih := ih (c ++ zsL f l) (by rw [List.length_append, zsL_len]; omega)
  rw [zsA_cons, ← List.append_assoc]
  simp -implicitDefEqProofs [k31_3, -List.append_assoc] at ih
  have fe : ∀ l, fitsTT ⟨some false, some 1⟩ ((lsE R).e l) = true := fun l => (lsE R).fits l _
  have ll : ∀ h, lenT .sl h ((lsE R).e l) = some (.int .i64 l.length) := fun h => Rec.tree_len
  have bl : ∀ d n, below (d + 1) n ((lsE R).e l) = true := fun d n => rfl
  have bL : ∀ d n, below (d + 1) n (lst true ((lsE R).vals Ls)) = true := fun d n => rfl
  have jx : ∀ (j : Nat) (hj : j < l.length), indexAddrT (.sl 83 ⟨some true, some 3⟩) ((lsE R).e l) (.int .i64 (j : Int)) = some (cptr (R.val l[j])) := fun j hj => Rec.index_tree (by rw [hm]) hj
  simp -implicitDefEqProofs [r31_3, k31_3, ln, hi, xi, fe, ll, -List.append_assoc]
  rw [LL_for (γ := List Int) l c (fun j c => [(3, intR.sl 0 c), (16, .int .i64 (j : Int))]) (fun _ c => [intR.row 3 c])
   (fun _ rest c => (.exit 2, [(3, intR.sl 0 (c ++ zsL f rest)), (16, undef)], [intR.row 3 (c ++ zsL f rest)])) (fun j c' => c'.length = c.length + 2 * j) (by omega) rfl]
  ·simp -implicitDefEqProofs [k31_6, hw, trim_le, -List.append_assoc]
   exact ih
  ·simp -implicitDefEqProofs [k31_6]
  ·rfl
  ·intro nx j c' hj _
   simp -implicitDefEqProofs [r31_6, k31_6, ll, hj, trim_le, zsL]
  ·intro nx j a rest c' hj hv hd hw hc' ih
   have xj := jx j hj
   rw [hv] at xj
   have va : R.val a = .agg ⟨[.int .i64 (f a).1, .int .i64 (f a).2, t a]⟩ := by unfold Rec.val; rw [he]
   rw [va] at xj
   have ap := fun o => app_two' (h := [intR.row 3 c', o]) (b := 0) (lo := 0) (c := c') (f a).1 (f a).2 rfl (Nat.le_refl _) (by omega)
   have ih := ih (c' ++ [(f a).1, (f a).2]) (by simp; omega)
   rw [zsL_cons, ← List.append_assoc]
   generalize (f a).1 = u at *
   generalize (f a).2 = v at *
   simp -implicitDefEqProofs [k31_6, -List.append_assoc] at ih
   simp -implicitDefEqProofs [r31_6, k31_6, ll, hj, xj, lit_two, ap, hw, trim_cut, Rec.sl_bel, Rec.row_bel, bl, bL, -List.append_assoc]
   exact ih
open Rg (Rect Lv Bx putL floorsL heightsB basesB sortU areaL)
theorem sSl : szOf E.P 83 = some 3 := by kernel_rfl
theorem aSl : aggT E.P 83 = some true := by kernel_rfl
theorem lit_lv (h : Heap) (a b : Int) (l : List Value) : buildSliceT (some ⟨83, 3, 40, .agg ⟨[.int .i64 0, .int .i64 0, .slice none 0 0]⟩, ⟨some true, some 3⟩⟩) false h 1 #[(0, .agg ⟨[.int .i64 a, .int .i64 b, lst false l]⟩)] = some (lst true [.agg ⟨[.int .i64 a, .int .i64 b, lst false l]⟩], h) :=
 (build_lit' (n := 1) (l := [(0, .agg ⟨[.int .i64 a, .int .i64 b, lst false l]⟩)]) rfl rfl (by decide) (by decide) (by decide)).trans rfl
theorem app_lv {h : Heap} {b lo : Nat} {c : List Lv} (x : Lv) (hob : h[b]? = some (lvR.row 83 c)) (hlo : lo ≤ b) (hc : c.length ≤ 1000000) :
  appendT (some ⟨83, 3, 40, .agg ⟨[.int .i64 0, .int .i64 0, .slice none 0 0]⟩, ⟨some true, some 3⟩⟩) h lo false (lvR.sl b c) (lst true [.agg ⟨[.int .i64 x.lo, .int .i64 x.hi, lst false (rectR.vals x.ar)]⟩]) = some (lvR.sl b (c ++ [x]), h.set b (lvR.row 83 (c ++ [x]))) :=
 Rec.app (R := lvR) (m := [x]) rfl hob (Rec.cells_tree (R := lvR) rfl [x]) hlo (by show (c.length + 1) * 40 ≤ 2 ^ 47; omega)
theorem wn1 : IntKind.i64.wrap (-1) = -1 := by decide
theorem put_key (h : Heap) (b lo : Nat) (o : List Lv) (x : Lv) (hob : h[b]? = some (lvR.row 83 o)) (hlo : lo ≤ b) (ho : o.length ≤ 1000) (hy : ∀ y ∈ o, y.ar.length ≤ 1000000) :
  L E 33 [lvR.sl b o, lvR.val x] h lo = some (lvR.sl b (putL o x), (h.set b (lvR.row 83 (putL o x))) ++ [.cells 83 [.int .i64 x.lo, .int .i64 x.hi, lst false (rectR.vals x.ar)] 0]) := by
 have hb : b < h.length := by
  rcases Nat.lt_or_ge b h.length with q | q
  ·exact q
  ·rw [List.getElem?_eq_none q] at hob; cases hob
 obtain ⟨B, hB⟩ : ∃ B, B = AObj.cells 83 [.int .i64 x.lo, .int .i64 x.hi, lst false (rectR.vals x.ar)] 0 := ⟨_, rfl⟩
 have hob' : (h ++ [B])[b]? = some (lvR.row 83 o) := by rw [List.getElem?_append_left hb]; exact hob
 have e1 : ∀ O, (h ++ [B]).set b O = h.set b O ++ [B] := fun O => List.set_append_left _ _ hb
 have e2 : h.set b (lvR.row 83 o) = h := set_same hob
 have lx : ∀ h, lenT .sl h (lst false (rectR.vals x.ar)) = some (.int .i64 x.ar.length) := fun h => Rec.tree_len
 rw [L_fn F33 rfl, lv_val, ← hB]
 unfold putL
 have lit := fun h => lit_lv h x.lo x.hi (rectR.vals x.ar)
 by_cases hx0 : x.ar = []
 ·have hl0 : (x.ar.length : Int) = 0 := by rw [hx0]; rfl
  rw [if_pos hx0, e2]
  generalize lst false (rectR.vals x.ar) = VX at *
  simp -implicitDefEqProofs [r33, p33, lx, hx0, hB]
 have hl0 : ¬ (x.ar.length : Int) = 0 := by have := List.length_pos_iff.2 hx0; omega
 rw [if_neg hx0]
 rcases List.eq_nil_or_concat o with h0 | ⟨u, y, hu⟩
 ·subst h0
  have ap := app_lv (h := h ++ [B]) (b := b) (lo := lo) (c := []) x hob' hlo (by simp)
  rw [e1] at ap
  have hB2 : lvR.row 83 [] = .cells 83 [] 3 := rfl
  simp only [List.getLast?_nil]
  rw [List.nil_append] at ap
  generalize lst false (rectR.vals x.ar) = VX at *
  subst hB
  simp -implicitDefEqProofs [r33, p33, lx, hx0, Rec.sl_len, wn1, lit, ap]
 ·rw [List.concat_eq_append] at hu
  subst hu
  have hul : (u ++ [y]).length = u.length + 1 := by rw [List.length_append]; rfl
  have wu : IntKind.i64.wrap (((u ++ [y]).length : Int) - 1) = (u.length : Int) := (wrap64 (by omega) (by omega)).trans (by omega)
  have hi : u.length < (u ++ [y]).length := by omega
  have ey : (u ++ [y])[u.length] = y := by simp
  have xi := Rec.index_row (R := lvR) (h0 := 3) (t := 83) (g := some true) (b := b) (k := .i64) rfl hi
  have l1 := Rec.load_cell (R := lvR) (h := h ++ [B]) (b := b) (j := 1) (sz := some 1) hob' hi (by decide)
  have l2 := Rec.load_cell (R := lvR) (h := h ++ [B]) (b := b) (j := 2) (sz := some 1) hob' hi (by decide)
  rw [ey] at l1 l2
  have f1 := Rec.field_row (R := lvR) (b := b) (n := 0) (f := 1) (l := u ++ [y]) (i := u.length) (k := ⟨some true, some 3⟩) (g := some false)
  have f2 := Rec.field_row (R := lvR) (b := b) (n := 0) (f := 2) (l := u ++ [y]) (i := u.length) (k := ⟨some true, some 3⟩) (g := some false)
  simp only [List.getLast?_concat, List.dropLast_concat]
  have hyl := hy y (by simp)
  have sm := same_spec (some false) (some false) y.ar x.ar Rec.ok_some Rec.ok_some hyl
  have rx : ∀ h, reify E.P 8 h (lst false (rectR.vals x.ar)) = some (lst false (rectR.vals x.ar)) := fun _ => rfl
  have ry : ∀ h, reify E.P 8 h (lst false (rectR.vals y.ar)) = some (lst false (rectR.vals y.ar)) := fun _ => rfl
  change pureCall _ _ _ [lst false (rectR.vals y.ar), lst false (rectR.vals x.ar)] = _ at sm
  change _ = some (Value.int .i64 y.hi) at l1
  change _ = some (lst false (rectR.vals y.ar)) at l2
  have ap := app_lv (h := h ++ [B]) (b := b) (lo := lo) (c := u ++ [y]) x hob' hlo (by omega)
  rw [e1] at ap
  have st := Rec.store_cell (R := lvR) (h := h ++ [B]) (b := b) (j := 1) (lo := lo) (i := u.length) (v := .int .i64 x.hi) (a := ⟨y.lo, x.hi, y.ar⟩) rfl hob' hlo hi (by decide) (by rw [ey]; rfl)
  rw [e1, List.set_append_right _ _ (Nat.le_refl _), Nat.sub_self, List.set_cons_zero] at st
  have esl : lvR.sl b (u ++ [⟨y.lo, x.hi, y.ar⟩]) = lvR.sl b (u ++ [y]) := by unfold Rec.sl; simp
  have lb : ∀ h, lenT .sl h (lvR.sl b (u ++ [y])) = some (.int .i64 (u ++ [y]).length) := fun h => Rec.sl_len
  clear hi ey
  generalize (u ++ [y]).length = m at *
  generalize lvR.at_ b (u ++ [y]) u.length = PT at *
  generalize hSB : lvR.sl b (u ++ [y]) = SB at *
  by_cases q1 : y.hi = x.lo
  ·by_cases q2 : y.ar = x.ar
   ·rw [if_pos ⟨q1, q2⟩, esl]
    rw [decide_eq_true q2] at sm
    generalize lst false (rectR.vals x.ar) = VX at *
    generalize lst false (rectR.vals y.ar) = VY at *
    subst hB
    clear q2
    simp -implicitDefEqProofs [r33, p33, lx, hx0, lb, wu, xi, f1, f2, l1, l2, q1, ret0 m55, rx, ry, sm, st]
   ·rw [if_neg (fun q => q2 q.2)]
    rw [decide_eq_false q2] at sm
    generalize lst false (rectR.vals x.ar) = VX at *
    generalize lst false (rectR.vals y.ar) = VY at *
    subst hB
    clear q2
    simp -implicitDefEqProofs [r33, p33, lx, hx0, lb, wu, xi, f1, f2, l1, l2, q1, ret0 m55, rx, ry, sm, lit, ap]
  ·rw [if_neg (fun q => q1 q.1)]
   generalize lst false (rectR.vals x.ar) = VX at *
   subst hB
   simp -implicitDefEqProofs [r33, p33, lx, hx0, lb, wu, xi, f1, f2, l1, l2, q1, lit, ap]
theorem put_spec (h : Heap) (b lo : Nat) (o : List Lv) (x : Lv) (hob : h[b]? = some (lvR.row 83 o)) (hlo : lo ≤ b) (ho : o.length ≤ 1000) (hy : ∀ y ∈ o, y.ar.length ≤ 1000000) (hb : h.all (belowO h.length) = true) :
  retCall E (L E) lo false 33 [lvR.sl b o, lvR.val x] h = some (lvR.sl b (putL o x), h.set b (lvR.row 83 (putL o x))) := by
 have hbl : b < h.length := by
  rcases Nat.lt_or_ge b h.length with q | q
  ·exact q
  ·rw [List.getElem?_eq_none q] at hob; cases hob
 have e : (h.set b (lvR.row 83 (putL o x))).length = h.length := List.length_set
 have hs : (h.set b (lvR.row 83 (putL o x))).all (belowO h.length) = true := by
  rw [List.all_eq_true] at hb ⊢
  intro z hz
  rcases List.mem_or_eq_of_mem_set hz with q | q
  ·exact hb z q
  ·rw [q]; exact Rec.row_bel _
 rw [ret3t m33, put_key h b lo o x hob hlo ho hy, Option.map_some]
 rw [trim_cut (by rw [List.length_append, e]; simp) (by simp only [List.all_cons, List.all_nil, Bool.and_true]; exact Rec.sl_bel hbl) (by rw [List.take_left' e]; exact hs), List.take_left' e]
end Go.Proofs.Ythkddpgnhaeooaa.Bm
