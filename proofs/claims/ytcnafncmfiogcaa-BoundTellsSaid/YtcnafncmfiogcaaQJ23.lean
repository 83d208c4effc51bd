/-
 Chapter 25: whether there is a better choice, walked. Conditions: lists that are not too long.
-/
import Derived.Test.YtcnafncmfiogcaaQJ22
import Derived.Test.YtcnafncmfiogcaaQJ14
import Derived.Test.YtcnafncmfiogcaaQJ15
import Derived.Test.YtcnafncmfiogcaaRows
import Derived.Test.YtcnafncmfiogcaaQJ17
namespace Go.Proofs.Ytcnafncmfiogcaa.Bm
open Go Go.RowKit
open Rg (Rect)
open Cp (Br)
theorem okE : OkProg E.P := okProg_of (by kernel_rfl) (by kernel_rfl)
theorem laidE : laidOutB E.P = true := by kernel_rfl
theorem mapsE : mapsRowed E.P = true := by kernel_rfl
noncomputable def tlE : List TypeId := closeT E.P 8 [22, 26, 29, 33, 5, 44, 3]
theorem closedE : closedT E.P tlE = true := by kernel_rfl
theorem in22 : 22 ∈ tlE := List.contains_iff_mem.1 (by kernel_rfl)
theorem in26 : 26 ∈ tlE := List.contains_iff_mem.1 (by kernel_rfl)
theorem in29 : 29 ∈ tlE := List.contains_iff_mem.1 (by kernel_rfl)
theorem in33 : 33 ∈ tlE := List.contains_iff_mem.1 (by kernel_rfl)
theorem in3 : 3 ∈ tlE := List.contains_iff_mem.1 (by kernel_rfl)
theorem ui : E.P.underlying 3 = some (.int .i64) := by kernel_rfl
theorem u4 : E.P.underlying 4 = some .bool := by kernel_rfl
theorem uSt : E.P.underlying 9 = some .string := by kernel_rfl
theorem uRs : E.P.underlying 62 = some (.slice 93) := by kernel_rfl
theorem uRss : E.P.underlying 22 = some (.slice 62) := by kernel_rfl
theorem uIs : E.P.underlying 29 = some (.slice 3) := by kernel_rfl
theorem uBs : E.P.underlying 33 = some (.slice 41) := by kernel_rfl
theorem uEs : E.P.underlying 23 = some (.slice 60) := by kernel_rfl
theorem uPs : E.P.underlying 24 = some (.slice 61) := by kernel_rfl
theorem uPa : E.P.underlying 61 = some (.array 2 3) := by kernel_rfl
theorem fR : fsOf E.P 93 = some [(0, 3), (1, 3), (2, 3), (3, 3)] := by kernel_rfl
theorem fBr : fsOf E.P 41 = some [(0, 3), (1, 3)] := by kernel_rfl
theorem fEn : fsOf E.P 60 = some [(0, 9), (1, 3)] := by kernel_rfl
theorem fPb : fsOf E.P 26 = some [(0, 3), (1, 23), (2, 3), (3, 24)] := by kernel_rfl
theorem nR : E.P.cellsOf 93 = 4 := by kernel_rfl
theorem nBr : E.P.cellsOf 41 = 2 := by kernel_rfl
theorem nEn : E.P.cellsOf 60 = 2 := by kernel_rfl
theorem nPa : E.P.cellsOf 61 = 2 := by kernel_rfl
theorem nPb : E.P.cellsOf 26 = 4 := by kernel_rfl
theorem nEs : E.P.cellsOf 23 = 1 := by kernel_rfl
theorem nPs : E.P.cellsOf 24 = 1 := by kernel_rfl
theorem ni : E.P.cellsOf 3 = 1 := by kernel_rfl
theorem nS : E.P.cellsOf 9 = 1 := by kernel_rfl
theorem gR : aggT E.P 93 = some true := by kernel_rfl
theorem gRs : aggT E.P 62 = some false := by kernel_rfl
theorem gRss : aggT E.P 22 = some false := by kernel_rfl
theorem gIs : aggT E.P 29 = some false := by kernel_rfl
theorem gBs : aggT E.P 33 = some false := by kernel_rfl
theorem gBr : aggT E.P 41 = some true := by kernel_rfl
theorem gEn : aggT E.P 60 = some true := by kernel_rfl
theorem gPa : aggT E.P 61 = some true := by kernel_rfl
theorem gPb : aggT E.P 26 = some true := by kernel_rfl
theorem gi : aggT E.P 3 = some false := by kernel_rfl
def i64ok (z : Int) : Prop := -9223372036854775808 ≤ z ∧ z ≤ 9223372036854775807
theorem wt_array {n m : Nat} {t e : TypeId} {c : List Value} (hu : E.P.underlying t = some (.array m e)) (h : Wt E.P n t c) : c.length = E.P.cellsOf t ∧ ∀ i, i < m → ∃ k, Wt E.P k e ((c.drop (i * E.P.cellsOf e)).take (E.P.cellsOf e)) := by
 cases n with
 | zero => exact h.elim
 | succ n =>
  unfold Wt at h; rw [hu] at h
  exact ⟨h.1, fun i hi => ⟨n, h.2 i hi⟩⟩
theorem rect_of {n : Nat} {c : List Value} (h : Wt E.P n 93 c) : ∃ r : Rect, c = rectR.enc r := by
 obtain ⟨hl, hf⟩ := wt_struct fR h
 rw [nR] at hl
 obtain ⟨a0, c, rfl⟩ := List.exists_cons_of_length_eq_add_one hl; have hl := Nat.succ.inj hl
 obtain ⟨a1, c, rfl⟩ := List.exists_cons_of_length_eq_add_one hl; have hl := Nat.succ.inj hl
 obtain ⟨a2, c, rfl⟩ := List.exists_cons_of_length_eq_add_one hl; have hl := Nat.succ.inj hl
 obtain ⟨a3, c, rfl⟩ := List.exists_cons_of_length_eq_add_one hl; have hl := Nat.succ.inj hl
 obtain rfl := List.eq_nil_of_length_eq_zero hl
 obtain ⟨m0, q0⟩ := hf (0, 3) (by simp)
 replace q0 : Wt E.P m0 3 [a0] := by simpa [ni] using q0
 obtain ⟨m1, q1⟩ := hf (1, 3) (by simp)
 replace q1 : Wt E.P m1 3 [a1] := by simpa [ni] using q1
 obtain ⟨m2, q2⟩ := hf (2, 3) (by simp)
 replace q2 : Wt E.P m2 3 [a2] := by simpa [ni] using q2
 obtain ⟨m3, q3⟩ := hf (3, 3) (by simp)
 replace q3 : Wt E.P m3 3 [a3] := by simpa [ni] using q3
 obtain ⟨z0, e, _⟩ := wt_int ui q0; obtain rfl := List.singleton_inj.1 e
 obtain ⟨z1, e, _⟩ := wt_int ui q1; obtain rfl := List.singleton_inj.1 e
 obtain ⟨z2, e, _⟩ := wt_int ui q2; obtain rfl := List.singleton_inj.1 e
 obtain ⟨z3, e, _⟩ := wt_int ui q3; obtain rfl := List.singleton_inj.1 e
 exact ⟨⟨z0, z1, z2, z3⟩, rfl⟩
theorem br_of {n : Nat} {c : List Value} (h : Wt E.P n 41 c) : ∃ b : Br, c = brR.enc b ∧ i64ok b.kids ∧ i64ok b.bound := by
 obtain ⟨hl, hf⟩ := wt_struct fBr h
 rw [nBr] at hl
 obtain ⟨a0, c, rfl⟩ := List.exists_cons_of_length_eq_add_one hl; have hl := Nat.succ.inj hl
 obtain ⟨a1, c, rfl⟩ := List.exists_cons_of_length_eq_add_one hl; have hl := Nat.succ.inj hl
 obtain rfl := List.eq_nil_of_length_eq_zero hl
 obtain ⟨m0, q0⟩ := hf (0, 3) (by simp)
 replace q0 : Wt E.P m0 3 [a0] := by simpa [ni] using q0
 obtain ⟨m1, q1⟩ := hf (1, 3) (by simp)
 replace q1 : Wt E.P m1 3 [a1] := by simpa [ni] using q1
 obtain ⟨z0, e, h0⟩ := wt_int ui q0; obtain rfl := List.singleton_inj.1 e
 obtain ⟨z1, e, h1⟩ := wt_int ui q1; obtain rfl := List.singleton_inj.1 e
 exact ⟨⟨z0, z1⟩, rfl, i64_wf h0, i64_wf h1⟩
theorem en_of {n : Nat} {c : List Value} (h : Wt E.P n 60 c) : ∃ b : ByteArray × Int, c = entR.enc b := by
 obtain ⟨hl, hf⟩ := wt_struct fEn h
 rw [nEn] at hl
 obtain ⟨a0, c, rfl⟩ := List.exists_cons_of_length_eq_add_one hl; have hl := Nat.succ.inj hl
 obtain ⟨a1, c, rfl⟩ := List.exists_cons_of_length_eq_add_one hl; have hl := Nat.succ.inj hl
 obtain rfl := List.eq_nil_of_length_eq_zero hl
 obtain ⟨m0, q0⟩ := hf (0, 9) (by simp)
 replace q0 : Wt E.P m0 9 [a0] := by simpa [nS] using q0
 obtain ⟨m1, q1⟩ := hf (1, 3) (by simp)
 replace q1 : Wt E.P m1 3 [a1] := by simpa [ni] using q1
 obtain ⟨z0, e, _⟩ := wt_str uSt q0; obtain rfl := List.singleton_inj.1 e
 obtain ⟨z1, e, _⟩ := wt_int ui q1; obtain rfl := List.singleton_inj.1 e
 exact ⟨(z0, z1), rfl⟩
theorem pa_of {n : Nat} {c : List Value} (h : Wt E.P n 61 c) : ∃ b : Int × Int, c = pairR.enc b := by
 obtain ⟨hl, hf⟩ := wt_array uPa h
 rw [nPa] at hl
 obtain ⟨a0, c, rfl⟩ := List.exists_cons_of_length_eq_add_one hl; have hl := Nat.succ.inj hl
 obtain ⟨a1, c, rfl⟩ := List.exists_cons_of_length_eq_add_one hl; have hl := Nat.succ.inj hl
 obtain rfl := List.eq_nil_of_length_eq_zero hl
 obtain ⟨m0, q0⟩ := hf 0 (by decide)
 replace q0 : Wt E.P m0 3 [a0] := by simpa [ni] using q0
 obtain ⟨m1, q1⟩ := hf 1 (by decide)
 replace q1 : Wt E.P m1 3 [a1] := by simpa [ni] using q1
 obtain ⟨z0, e, _⟩ := wt_int ui q0; obtain rfl := List.singleton_inj.1 e
 obtain ⟨z1, e, _⟩ := wt_int ui q1; obtain rfl := List.singleton_inj.1 e
 exact ⟨(z0, z1), rfl⟩
theorem recs_of {α : Type} (R : Rec α) {Q : α → Prop} {n : Nat} {t e : TypeId} {c : List Value} (hu : E.P.underlying t = some (.slice e)) (ge : aggT E.P e = some true) (hb : ∀ (m : Nat) (x : List Value), Wt E.P m e x → ∃ a, x = R.enc a ∧ Q a) (h : Wt E.P n t c) : ∃ l : List α, c = [lst false (R.vals l)] ∧ l.length ≤ maxLen ∧ ∀ a ∈ l, Q a := by
 obtain ⟨ls, rfl, h2, h3⟩ := wt_slice hu h
 obtain ⟨rs, rfl, k2⟩ := choose_list (cells := R.enc) (Q := Q) ls fun x hx => by
  obtain ⟨m, hm⟩ := h3 x hx
  exact hb m x hm
 refine ⟨rs, ?_, by simpa using h2, k2⟩
 have e : ∀ l : List α, (l.map R.enc).map (elemV E.P e) = R.vals l := by
  intro l
  induction l with
  | nil => rfl
  | cons r l ih =>
   rw [List.map_cons, List.map_cons, ih]
   unfold elemV
   rw [if_pos ge]
   rfl
 rw [e]
theorem brsV {n : Nat} {c : List Value} (h : Wt E.P n 33 c) : ∃ l : List Br, elemV E.P 33 c = lst false (brR.vals l) ∧ l.length ≤ maxLen ∧ ∀ b ∈ l, i64ok b.kids ∧ i64ok b.bound := by
 obtain ⟨l, rfl, h1, h2⟩ := recs_of brR (Q := fun b => i64ok b.kids ∧ i64ok b.bound) uBs gBr (fun m x hx => br_of hx) h
 exact ⟨l, by simp [elemV, gBs], h1, h2⟩
theorem intsV {n : Nat} {c : List Value} (h : Wt E.P n 29 c) : ∃ l : List Int, elemV E.P 29 c = intE.o (some false) l ∧ l.length ≤ maxLen ∧ ∀ z ∈ l, i64ok z := by
 obtain ⟨l, rfl, h1, h2⟩ := wt_ints uIs ui h
 exact ⟨l, by simp [elemV, gIs]; rfl, h1, fun z hz => i64_wf (h2 z hz)⟩
theorem intV {n : Nat} {c : List Value} (h : Wt E.P n 3 c) : ∃ z : Int, elemV E.P 3 c = .int .i64 z ∧ i64ok z := by
 obtain ⟨z, rfl, hz⟩ := wt_int ui h
 exact ⟨z, by simp [elemV, gi], i64_wf hz⟩
theorem roomsV_of {n : Nat} {c : List Value} (h : Wt E.P n 22 c) : ∃ P : Rooms, elemV E.P 22 c = roomsV false P ∧ P.length ≤ maxLen ∧ ∀ r ∈ P, Rec.Ok r.1 r.2 ∧ r.2.length ≤ maxLen := by
 obtain ⟨ls, rfl, h2, h3⟩ := wt_slice uRss h
 obtain ⟨rs, rfl, k2⟩ := choose_list (α := List Rect) (cells := fun l => [lst false (rectR.vals l)]) (Q := fun l => l.length ≤ maxLen) ls fun x hx => by
  obtain ⟨m, hm⟩ := h3 x hx
  obtain ⟨l, e, h1, _⟩ := recs_of rectR (Q := fun _ => True) uRs gR (fun m x hx => (rect_of hx).imp fun a h => ⟨h, trivial⟩) hm
  exact ⟨l, e, h1⟩
 refine ⟨rs.map fun l => (some false, l), ?_, by simpa using h2, fun r hr => ?_⟩
 ·have e : ∀ l : List (List Rect), (l.map fun l => [lst false (rectR.vals l)]).map (elemV E.P 62) = (l.map fun l => ((some false, l) : Option Bool × List Rect)).map roomR := by
   intro l
   induction l with
   | nil => rfl
   | cons r l ih =>
    rw [List.map_cons, List.map_cons, ih, List.map_cons, List.map_cons]
    simp [elemV, gRs]; rfl
  rw [e]
  unfold elemV roomsV
  rw [gRss]; rfl
 ·obtain ⟨l, hl, rfl⟩ := List.mem_map.1 hr
  exact ⟨Rec.ok_some, k2 l hl⟩
theorem pbV {n : Nat} {c : List Value} (h : Wt E.P n 26 c) : ∃ p : Pb, elemV E.P 26 c = p.val ∧ Rec.Ok p.kl p.left ∧ Rec.Ok p.kn p.never ∧ i64ok p.uses ∧ i64ok p.most ∧ p.left.length ≤ maxLen ∧ p.never.length ≤ maxLen ∧ p.kl = some false ∧ p.kn = some false := by
 obtain ⟨hl, hf⟩ := wt_struct fPb h
 rw [nPb] at hl
 obtain ⟨a0, c, rfl⟩ := List.exists_cons_of_length_eq_add_one hl; have hl := Nat.succ.inj hl
 obtain ⟨a1, c, rfl⟩ := List.exists_cons_of_length_eq_add_one hl; have hl := Nat.succ.inj hl
 obtain ⟨a2, c, rfl⟩ := List.exists_cons_of_length_eq_add_one hl; have hl := Nat.succ.inj hl
 obtain ⟨a3, c, rfl⟩ := List.exists_cons_of_length_eq_add_one hl; have hl := Nat.succ.inj hl
 obtain rfl := List.eq_nil_of_length_eq_zero hl
 obtain ⟨m0, q0⟩ := hf (0, 3) (by simp)
 replace q0 : Wt E.P m0 3 [a0] := by simpa [ni] using q0
 obtain ⟨m1, q1⟩ := hf (1, 23) (by simp)
 replace q1 : Wt E.P m1 23 [a1] := by simpa [nEs] using q1
 obtain ⟨m2, q2⟩ := hf (2, 3) (by simp)
 replace q2 : Wt E.P m2 3 [a2] := by simpa [ni] using q2
 obtain ⟨m3, q3⟩ := hf (3, 24) (by simp)
 replace q3 : Wt E.P m3 24 [a3] := by simpa [nPs] using q3
 obtain ⟨z0, e, h0⟩ := wt_int ui q0; obtain rfl := List.singleton_inj.1 e
 obtain ⟨l1, e, h1, _⟩ := recs_of entR (Q := fun _ => True) uEs gEn (fun m x hx => (en_of hx).imp fun a h => ⟨h, trivial⟩) q1; obtain rfl := List.singleton_inj.1 e
 obtain ⟨z2, e, h2⟩ := wt_int ui q2; obtain rfl := List.singleton_inj.1 e
 obtain ⟨l3, e, h3, _⟩ := recs_of pairR (Q := fun _ => True) uPs gPa (fun m x hx => (pa_of hx).imp fun a h => ⟨h, trivial⟩) q3; obtain rfl := List.singleton_inj.1 e
 exact ⟨⟨z0, some false, l1, z2, some false, l3⟩, by simp [elemV, gPb]; rfl, Rec.ok_some, Rec.ok_some, i64_wf h0, i64_wf h2, h1, h3, rfl, rfl⟩
theorem orcE : OrcSound E := by
 have h00 : ∀ f, E0.orc f = none := fun _ => rfl
 have key : ∀ g k, E.orc g = some k → (∃ F N, k = inG F N ∧ SortCon E.P g F N) ∨ (∃ q m F, k = inC q m F ∧ CellCon E.P g q m F) ∨ (k = cloG E0 g ∧ CloCon E.P g) := fun g k h => by
  rw [E_orc] at h
  by_cases h0 : g = 70
  ·subst h0; simp only [if_true, Option.some.injEq] at h; exact .inr (.inr ⟨h.symm, conClo⟩)
  ·by_cases h1 : g = 86
   ·subst h1; simp only [h0, if_false, if_true, Option.some.injEq] at h; exact .inl ⟨_, _, h.symm, conSort⟩
   ·by_cases h2 : g = 87
    ·subst h2; simp only [h0, h1, if_false, if_true, Option.some.injEq] at h; exact .inl ⟨_, _, h.symm, conComp⟩
    ·by_cases h3 : g = 96
     ·subst h3; simp only [h0, h1, h2, if_false, if_true, Option.some.injEq] at h; exact .inr (.inl ⟨_, _, _, h.symm, conSpan⟩)
     ·simp only [h0, h1, h2, h3, if_false] at h; cases h
 refine ⟨fun g k hg args h lo r _ => ?_, fun g k hg args h lo v h' hr hlo B M w args' hs hv => ?_, fun g k hg args h lo v h' hr hlo => ?_⟩
 ·rcases key g k hg with ⟨F, N, _, hC⟩ | ⟨q, m, F, _, hC⟩ | ⟨_, hC⟩
  ·exact hC.dfd
  ·exact hC.dfd
  ·exact hC.dfd
 ·rcases key g k hg with ⟨F, N, rfl, hC⟩ | ⟨q, m, F, rfl, hC⟩ | ⟨rfl, hC⟩
  ·exact in_sound hC hr hlo args' hs hv
  ·exact inC_sound hC hr hlo args' hs hv
  ·exact cloG_sound (E₀ := E0) okE rfl rfl h00 hC hr hlo args' hs hv
 ·rcases key g k hg with ⟨F, N, rfl, _⟩ | ⟨q, m, F, rfl, _⟩ | ⟨rfl, _⟩
  ·exact inG_keep hr
  ·exact inC_keep hr
  ·exact cloG_keep h00 hr hlo
end Go.Proofs.Ytcnafncmfiogcaa.Bm
namespace Go.Proofs.Ytcnafncmfiogcaa.Bm
open Go Go.RowKit
open Rg (Rect areaL)
def areasV (o : Option (List Int)) : List Value := match o with
 | none => [.slice none 0 0, .int .i64 1]
 | some A => [lst false (intE.vals A), .int .i64 0]
theorem lists_all (P : Rooms) : (lists P).all regB = P.all (fun r => regB r.2) := by unfold lists; rw [List.all_map]; rfl
theorem lists_map (P : Rooms) : (lists P).map areaL = P.map fun r => areaL r.2 := by unfold lists; rw [List.map_map]; rfl
end Go.Proofs.Ytcnafncmfiogcaa.Bm
namespace Go.Proofs.Ytcnafncmfiogcaa.Bm
open Go Go.RowKit
open Rg (Rect areaL)
open Cp (Q Br Acc Nd prQ validQ vis root ended best)
theorem validQ_most {q : Q} (h : validQ q = true) : 0 ≤ q.most := (Cp.validQ_iff.1 h).2.2.1
theorem sB2 : szOf E.P 41 = some 2 := by kernel_rfl
theorem aB2 : aggT E.P 41 = some true := by kernel_rfl
end Go.Proofs.Ytcnafncmfiogcaa.Bm
namespace Go.Proofs.Ytcnafncmfiogcaa.Bm
open Go Go.RowKit
open Rg (Rect areaL)
open Cp (Q Br Acc Nd prQ validQ vis root ended best nameB badP)
theorem name_spec (u : Int) (h0 : 0 ≤ u) (h6 : u < 6) : pureCall E.P (L E) 46 [.int .i64 u] = some (.string (nameB u)) := by
 rw [pureCall_fn F46 rfl]
 have : u = 0 ∨ u = 1 ∨ u = 2 ∨ u = 3 ∨ u = 4 ∨ u = 5 := by omega
 rcases this with rfl | rfl | rfl | rfl | rfl | rfl <;> simp -implicitDefEqProofs [r46, padS, nameB]
theorem few_spec (x : Bool) (P : Rooms) (p : Pb) (kl : Rec.Ok p.kl p.left) (kn : Rec.Ok p.kn p.never) (ok : ∀ r ∈ P, Rec.Ok r.1 r.2) (hl : P.length ≤ maxLen) :
  pureCall E.P (L E) 13 [roomsV x P, p.val] = some (.bool (P.all (fun r => decide (r.2.length ≤ 16)) && (decide (P.length ≤ 13) && (decide (p.left.length ≤ 40) && decide (p.never.length ≤ 40))))) := by
 unfold maxLen at hl
 have ln := fun h => rooms_len h x P
 have ix := rooms_index x P
 have bl : ∀ d n, below (d + 1) n (roomsV x P) = true := fun d n => rfl
 generalize roomsV x P = RV at *
 have l1 := pb_ld p 1 _ rfl
 have l3 := pb_ld p 3 _ rfl
 have n1 := fun h => Rec.o_len (R := entR) (h := h) kl
 have n3 := fun h => Rec.o_len (R := pairR) (h := h) kn
 have pe : p.val = .agg ⟨p.cells⟩ := rfl
 rw [pureCall_fn F13 rfl, pe]
 simp -implicitDefEqProofs [r13, p13]
 rw [LL_for (γ := Unit) P () (fun i _ => [(5, .int .i64 i)]) (fun _ _ => [.cells 26 p.cells 0]) (fun _ rest _ => if rest.all (fun r => decide (r.2.length ≤ 16)) = true then (.exit 0, [(5, undef)], [.cells 26 p.cells 0]) else (.ret, [(4, .bool false), (5, undef)], [.cells 26 p.cells 0])) (fun _ _ => True) (by omega) trivial]
 ·cases ha : P.all fun r => decide (r.2.length ≤ 16)
  ·simp -implicitDefEqProofs [k13_2, -List.all_eq_true]
  ·by_cases q1 : P.length ≤ 13
   ·have q1' : (P.length : Int) ≤ 13 := by omega
    by_cases q2 : p.left.length ≤ 40
    ·have q2' : (p.left.length : Int) ≤ 40 := by omega
     by_cases q3 : p.never.length ≤ 40
     ·have q3' : (p.never.length : Int) ≤ 40 := by omega
      simp -implicitDefEqProofs [k13_2, ln, l1, l3, n1, n3, q1, q1', q2, q2', q3, q3', -List.all_eq_true]
     ·have q3' : ¬ (p.never.length : Int) ≤ 40 := by omega
      simp -implicitDefEqProofs [k13_2, ln, l1, l3, n1, n3, q1, q1', q2, q2', q3, q3', -List.all_eq_true]
    ·have q2' : ¬ (p.left.length : Int) ≤ 40 := by omega
     simp -implicitDefEqProofs [k13_2, ln, l1, n1, q1, q1', q2, q2', -List.all_eq_true]
   ·have q1' : ¬ (P.length : Int) ≤ 13 := by omega
    simp -implicitDefEqProofs [k13_2, ln, q1, q1', -List.all_eq_true]
 ·simp -implicitDefEqProofs [k13_2]
 ·rfl
 ·intro nx i c hi _
  simp -implicitDefEqProofs [r13_2, k13_2, ln, hi, trim_le]
 ·intro nx i v rest c hi hv hd hw _ ih
  have hi' : (i : Int) < (P.length : Int) := by omega
  have ih := ih () trivial
  have xi := ix i hi
  rw [hv] at xi
  have lv := fun h => rooms_load h v
  have ll := fun h => Rec.o_len (R := rectR) (h := h) (ok v (hv ▸ List.getElem_mem hi))
  have ll : ∀ h, lenT .sl h (roomR v) = some (.int .i64 v.2.length) := ll
  rw [List.all_cons]
  by_cases q : v.2.length ≤ 16
  ·have q' : ¬ ((16 : Int) < v.2.length) := by omega
   rw [decide_eq_true q, Bool.true_and]
   simp -implicitDefEqProofs [k13_2, -List.all_eq_true] at ih
   simp -implicitDefEqProofs [r13_2, k13_2, ln, hi', xi, lv, ll, q', hw, trim_le, -List.all_eq_true]
   exact ih
  ·have q' : ((16 : Int) < v.2.length) := by omega
   rw [decide_eq_false q, Bool.false_and]
   simp -implicitDefEqProofs [r13_2, k13_2, ln, hi', xi, lv, ll, q', trim_le, -List.all_eq_true]
def valF (A : List Int) (n : Nat) : Int := (A.take n).sum
theorem valF_succ {A : List Int} {n : Nat} (h : n < A.length) : valF A (n + 1) = valF A n + A[n] := by
 unfold valF
 rw [List.take_succ_eq_append_getElem h, List.sum_append]
 simp
theorem valF_le {A : List Int} (hA : AOk A) (n : Nat) : 0 ≤ valF A n ∧ valF A n ≤ (n : Int) * 1099511627776 := by
 have h := sumB (A.take n) fun a ha => hA.a a (List.mem_of_mem_take ha)
 have : (A.take n).length ≤ n := by rw [List.length_take]; omega
 unfold valF
 omega
theorem value_spec (ka kc : Option Bool) (A c : List Int) (hka : Enc.Ok ka A) (hkc : Enc.Ok kc c) (hA : AOk A) (hc : c.length ≤ A.length) : pureCall E.P (L E) 18 [intE.o ka A, intE.o kc c] = some (.int .i64 (valF A c.length)) := by
 have h13 := hA.len
 have lc := fun h => Enc.o_len (O := intE) (h := h) hkc
 have ix : ∀ (i : Nat) (hi : i < A.length), indexAddrT (.sl 3 ⟨some false, some 1⟩) (intE.o ka A) (.int .i64 (i : Int)) = some (cptr (.int .i64 A[i])) := fun i hi => Enc.index_o (O := intE) hka hi
 generalize intE.o ka A = VA at *
 generalize intE.o kc c = VC at *
 rw [pureCall_fn F18 rfl]
 simp -implicitDefEqProofs [r18, p18]
 rw [LL_for (γ := Unit) c () (fun i _ => [(5, .int .i64 (valF A i)), (6, .int .i64 i)]) (fun _ _ => []) (fun _ _ _ => (.exit 0, [(5, .int .i64 (valF A c.length)), (6, undef)], [])) (fun _ _ => True) (by omega) trivial]
 ·simp -implicitDefEqProofs [k18_3]
 ·simp -implicitDefEqProofs [k18_3, valF]
 ·rfl
 ·intro nx i u hi _
  subst hi
  simp -implicitDefEqProofs [r18_3, k18_3, lc, trim_le]
 ·intro nx i v rest u hi hv hd hw _ ih
  have ih := ih () trivial
  have hi' : (i : Int) < (c.length : Int) := by omega
  have hiA : i < A.length := by omega
  have xi := ix i hiA
  have h1 := valF_le hA i
  have h2 := hA.a A[i] (List.getElem_mem hiA)
  have ww : IntKind.i64.wrap (valF A i + A[i]) = valF A (i + 1) := by rw [valF_succ hiA]; exact wrap64 (by omega) (by omega)
  simp -implicitDefEqProofs [k18_3] at ih
  simp -implicitDefEqProofs [r18_3, k18_3, lc, hi', xi, ww, hw, trim_le]
  exact ih
end Go.Proofs.Ytcnafncmfiogcaa.Bm
namespace Go.Proofs.Ytcnafncmfiogcaa.Bm
open Go Go.RowKit
open Rg (Rect areaL)
open Cp (Q Br Acc Nd prQ validQ vis root ended best nameB badP)
def tkA (P : Rooms) : List Int := (P.map fun r => areaL r.2).takeWhile fun a => decide (a ≠ 0)
set_option maxHeartbeats 1000000 in
theorem rareas_spec (x : Bool) (P : Rooms) (hP : RoomsOk P) : pureCall E.P (L E) 20 [roomsV x P] = some (.tuple ⟨areasV (areasF (lists P))⟩) := by
 have ln := fun h => rooms_len h x P
 have ix := rooms_index x P
 have h13 := hP.len
 have hll : (lists P).length = P.length := List.length_map _
 generalize roomsV x P = RV at *
 rw [pureCall_fn F20 rfl]
 unfold areasF
 rw [hll, lists_all, lists_map]
 by_cases h12 : 12 < P.length
 ·have h12' : (12 : Int) < P.length := by omega
  have hn : ¬ (P.length ≤ 12 ∧ P.all (fun r => regB r.2) = true) := fun h => by omega
  rw [if_neg hn]
  simp -implicitDefEqProofs [r20, p20, ln, h12', areasV]
 have h12' : ¬ ((12 : Int) < P.length) := by omega
 simp -implicitDefEqProofs [r20, p20, ln, h12']
 rw [LL_for (γ := Unit) P () (fun i _ => [(4, .int .i64 i)]) (fun _ _ => [])
  (fun _ rest _ => if rest.all (fun r => regB r.2) = true then (.exit 0, [(4, undef)], []) else (.ret, [(2, .slice none 0 0), (3, .int .i64 1), (4, undef)], [])) (fun _ _ => True) (by omega) trivial]
 ·by_cases ha : P.all (fun r => regB r.2) = true
  ·rw [if_pos ha, if_pos ⟨by omega, ha⟩]
   have rp := Enc.reify_sl (O := intE) (P := E.P) (d := 7) (h := [intE.row 3 (tkA P)]) (b := 0) (l := tkA P) rfl sI1 gI1
   have e1 : ((P.map fun r => areaL r.2).takeWhile fun a => !decide (a = 0)) = tkA P := by unfold tkA; simp only [ne_eq, decide_not]
   rw [e1]
   simp -implicitDefEqProofs [k20_4, prep_new, newK_nil sI1]
   rw [LL_for (γ := List Int) P [] (fun i c => [(5, Enc.sl 0 c), (6, .int .i64 i)]) (fun _ c => [intE.row 3 c])
    (fun _ rest c => (.exit 2, [(5, Enc.sl 0 (c ++ tkA rest)), (6, undef)], [intE.row 3 (c ++ tkA rest)])) (fun i c => c.length ≤ i) (by omega) (Nat.le_refl _)]
   ·rw [List.nil_append]
    simp -implicitDefEqProofs [k20_10, rp, areasV]
   ·simp -implicitDefEqProofs [k20_10]
    rfl
   ·rfl
   ·intro nx i c hi _
    have e : tkA [] = [] := rfl
    simp -implicitDefEqProofs [r20_10, k20_10, hi, ln, trim_le, e]
   ·intro nx i v rest c hi hv hd hw hc ih
    have hi' : (i : Int) < (P.length : Int) := by omega
    have xi := ix i hi
    rw [hv] at xi
    have lv := fun h => rooms_load h v
    have rv := fun h => room_reify h v
    have hvm : v ∈ P := hv ▸ List.getElem_mem hi
    have hg : regB v.2 = true := List.all_eq_true.1 ha v hvm
    have ra := room_rarea v (hP.ok v hvm) (hP.few v hvm) hg
    by_cases hz : areaL v.2 = 0
    ·have e : tkA (v :: rest) = [] := by unfold tkA; rw [List.map_cons, List.takeWhile_cons, if_neg (by rw [hz]; simp)]
     rw [e, List.append_nil]
     rw [hz] at ra
     simp -implicitDefEqProofs [r20_10, k20_10, hi', ln, xi, lv, ret0 m49, rv, ra, trim_le]
    ·have e : tkA (v :: rest) = areaL v.2 :: tkA rest := by unfold tkA; rw [List.map_cons, List.takeWhile_cons, if_pos (decide_eq_true hz)]
     have ap := Enc.app (O := intE) (m := [areaL v.2]) (el := elInt) (h := [intE.row 3 c]) (lo := 0) (b := 0) (t := 3) (l := c) (u := lst true (intE.vals [areaL v.2])) rfl rfl Enc.cells_tree (Nat.le_refl _) (by show (c.length + 1) * 8 ≤ 2 ^ 47; omega)
     have lt := lit_int [intE.row 3 c] (areaL v.2)
     have ih := ih (c ++ [areaL v.2]) (by rw [List.length_append]; show c.length + 1 ≤ i + 1; omega)
     have e2 : c ++ [areaL v.2] ++ tkA rest = c ++ areaL v.2 :: tkA rest := by simp
     rw [e2] at ih
     rw [e]
     simp -implicitDefEqProofs [k20_10] at ih
     simp -implicitDefEqProofs [r20_10, k20_10, hi', ln, xi, lv, ret0 m49, rv, ra, hz, lt, ap, hw, trim_le]
     exact ih
  ·rw [if_neg ha, if_neg fun h => ha h.2]
   simp -implicitDefEqProofs [k20_4, areasV]
 ·simp -implicitDefEqProofs [k20_4]
 ·rfl
 ·intro nx i c hi _
  simp -implicitDefEqProofs [r20_4, k20_4, hi, ln, trim_le]
 ·intro nx i v rest c hi hv hd hw hc ih
  have hi' : (i : Int) < (P.length : Int) := by omega
  have ih := ih () trivial
  have xi := ix i hi
  rw [hv] at xi
  have lv := fun h => rooms_load h v
  have rv := fun h => room_reify h v
  have hvm : v ∈ P := hv ▸ List.getElem_mem hi
  have rr := room_rright v (hP.ok v hvm) (hP.few v hvm)
  rw [List.all_cons]
  simp -implicitDefEqProofs [k20_4, -List.all_eq_true] at ih
  cases hg : regB v.2
  ·rw [hg] at rr
   simp -implicitDefEqProofs [r20_4, k20_4, hi', ln, xi, lv, ret0 m48, rv, rr, trim_le]
  ·rw [hg] at rr
   rw [Bool.true_and]
   simp -implicitDefEqProofs [r20_4, k20_4, hi', ln, xi, lv, ret0 m48, rv, rr, hw, trim_le, -List.all_eq_true]
   exact ih
theorem bad_or (p : Int × Int) : badP p = (decide (p.1 < 0) || (decide (5 < p.1) || (decide (p.2 < 0) || decide (5 < p.2)))) := by
 unfold badP
 rw [Bool.eq_iff_iff]
 simp only [Bool.or_eq_true, decide_eq_true_eq]
 omega
set_option maxHeartbeats 1000000 in
theorem rvalid_spec (p : Pb) (hp : PbOk p) : pureCall E.P (L E) 16 [p.val] = some (.bool (validQ p.q)) := by
 have l0 := pb_ld p 0 _ rfl
 have l1 := pb_ld p 1 _ rfl
 have l2 := pb_ld p 2 _ rfl
 have l3 := pb_ld p 3 _ rfl
 have n1 := fun h => Rec.o_len (R := entR) (h := h) hp.kl
 have n3 := fun h => Rec.o_len (R := pairR) (h := h) hp.kn
 have ix := fun (i : Nat) (hi : i < p.never.length) => Rec.o_index (R := pairR) (s := 2) (t := 61) (kk := .i64) rfl hp.kn hi
 have nn := hp.nn
 have e : validQ p.q = (decide (0 ≤ p.uses) && (decide (p.uses ≤ 63) && (decide (0 ≤ p.most) && (decide (p.left.length ≤ 30) && (decide (p.never.length ≤ 36) && !p.never.any badP))))) := rfl
 rw [e]
 rw [pureCall_fn F16 rfl]
 unfold Pb.val
 by_cases q1 : p.uses < 0
 ·have : ¬ 0 ≤ p.uses := by omega
  simp -implicitDefEqProofs [r16, p16, l0, q1, this]
 have q1' : 0 ≤ p.uses := by omega
 by_cases q2 : 63 < p.uses
 ·have : ¬ p.uses ≤ 63 := by omega
  simp -implicitDefEqProofs [r16, p16, l0, q1, q2, this]
 have q2' : p.uses ≤ 63 := by omega
 by_cases q3 : p.most < 0
 ·have : ¬ 0 ≤ p.most := by omega
  simp -implicitDefEqProofs [r16, p16, l0, l2, q1, q2, q3, this]
 have q3' : 0 ≤ p.most := by omega
 by_cases q4 : (30 : Int) < p.left.length
 ·have : ¬ p.left.length ≤ 30 := by omega
  simp -implicitDefEqProofs [r16, p16, l0, l1, l2, n1, q1, q2, q3, q4, this]
 have q4' : p.left.length ≤ 30 := by omega
 by_cases q5 : (36 : Int) < p.never.length
 ·have : ¬ p.never.length ≤ 36 := by omega
  simp -implicitDefEqProofs [r16, p16, l0, l1, l2, l3, n1, n3, q1, q2, q3, q4, q5, this]
 have q5' : p.never.length ≤ 36 := by omega
 rw [decide_eq_true q1', decide_eq_true q2', decide_eq_true q3', decide_eq_true q4', decide_eq_true q5']
 simp -implicitDefEqProofs [r16, p16, l0, l1, l2, l3, n1, n3, q1, q2, q3, q4, q5]
 rw [LL_for (γ := Unit) p.never () (fun i _ => [(3, .int .i64 i)]) (fun _ _ => [.cells 26 p.cells 0]) (fun _ rest _ => if rest.any badP = true then (.ret, [(2, .bool false), (3, undef)], [.cells 26 p.cells 0]) else (.exit 0, [(3, undef)], [.cells 26 p.cells 0])) (fun _ _ => True) (by omega) trivial]
 ·cases ha : p.never.any badP
  ·simp -implicitDefEqProofs [k16_4]
  ·simp -implicitDefEqProofs [k16_4]
 ·simp -implicitDefEqProofs [k16_4]
 ·rfl
 ·intro nx i c hi _
  simp -implicitDefEqProofs [r16_4, k16_4, l3, n3, hi, trim_le]
 ·intro nx i v rest c hi hv hd hw _ ih
  have hi' : (i : Int) < (p.never.length : Int) := by omega
  have ih := ih () trivial
  have xi := ix i hi
  rw [hv, pair_val] at xi
  have a0 : ∀ a b : Int, indexAddrT (.arr 2 ⟨some false, some 1⟩) (cptr (.agg ⟨[.int .i64 a, .int .i64 b]⟩)) (.int .i64 0) = some (cptr (.int .i64 a)) := fun a b => rfl
  have a1 : ∀ a b : Int, indexAddrT (.arr 2 ⟨some false, some 1⟩) (cptr (.agg ⟨[.int .i64 a, .int .i64 b]⟩)) (.int .i64 1) = some (cptr (.int .i64 b)) := fun a b => rfl
  have w0 : IntKind.i64.wrap (0 + 1) = 1 := rfl
  have w1 : IntKind.i64.wrap (1 + 1) = 2 := rfl
  have w1' : IntKind.i64.wrap 1 = 1 := rfl
  have w2' : IntKind.i64.wrap 2 = 2 := rfl
  have ea : (v :: rest).any badP = (badP v || rest.any badP) := rfl
  rw [ea, bad_or]
  simp -implicitDefEqProofs [k16_4] at ih
  simp -implicitDefEqProofs [r16_4, k16_4, l3, n3, hi']
  rw [LL_go]
  by_cases k1 : v.1 < 0
  ·simp -implicitDefEqProofs [r16_7, k16_7, k16_4, l3, xi, a0, k1, trim_le]
  by_cases k2 : 5 < v.1
  ·simp -implicitDefEqProofs [r16_7, k16_7, k16_4, l3, xi, a0, k1, k2, trim_le]
  simp -implicitDefEqProofs [r16_7, k16_7, k16_4, l3, xi, a0, k1, k2, w1', trim_le]
  rw [LL_go]
  by_cases k3 : v.2 < 0
  ·simp -implicitDefEqProofs [r16_7, k16_7, k16_4, l3, xi, a1, k3, trim_le]
  by_cases k4 : 5 < v.2
  ·simp -implicitDefEqProofs [r16_7, k16_7, k16_4, l3, xi, a1, k3, k4, trim_le]
  simp -implicitDefEqProofs [r16_7, k16_7, k16_4, l3, xi, a1, k3, k4, w2', trim_le]
  rw [LL_go]
  simp -implicitDefEqProofs [r16_7, k16_7, k16_4, hw, trim_le]
  rw [decide_eq_false k1, decide_eq_false k2, decide_eq_false k3, decide_eq_false k4]
  exact ih
end Go.Proofs.Ytcnafncmfiogcaa.Bm
namespace Go.Proofs.Ytcnafncmfiogcaa.Cp
def goS (q : Q) : Option Int → List Int → List Int → List Int → Bool × List Int
 | _, S, _, [] => (true, S)
 | _, S, [], _ :: _ => (false, S)
 | prev, S, a :: A, u :: c => if mayQ q prev u = true then
   (if leftOk q u (S.getD u.toNat 0 + a) = true then goS q (some u) (S.set u.toNat (S.getD u.toNat 0 + a)) A c else (false, S.set u.toNat (S.getD u.toNat 0 + a)))
  else (false, S)
theorem goS_nil (q : Q) (p : Option Int) (S A : List Int) : goS q p S A [] = (true, S) := by cases A <;> rfl
theorem goS_cons (q : Q) (p : Option Int) (S A c : List Int) (a u : Int) : goS q p S (a :: A) (u :: c) = if mayQ q p u = true then
   (if leftOk q u (S.getD u.toNat 0 + a) = true then goS q (some u) (S.set u.toNat (S.getD u.toNat 0 + a)) A c else (false, S.set u.toNat (S.getD u.toNat 0 + a)))
  else (false, S) := rfl
theorem goS_go (q : Q) : ∀ (c A S : List Int) (p : Option Int) (f : Int → Int), S.length = 6 → (∀ u, 0 ≤ u → u < 6 → f u = S.getD u.toNat 0) → (goS q p S A c).1 = goR q p f A c
 | [], A, S, p, f, _, _ => by rw [goS_nil, go_nil]
 | _ :: _, [], _, _, _, _, _ => rfl
 | u :: c, a :: A, S, p, f, hS, hf => by
  rw [goS_cons]
  show _ = (mayQ q p u && (leftOk q u (f u + a) && goR q (some u) (fun w => if w = u then f u + a else f w) A c))
  cases hm : mayQ q p u
  ·rfl
  ·have hu := may_ge hm
   have e := hf u hu.1 hu.2
   rw [if_pos rfl, Bool.true_and, e]
   cases hl : leftOk q u (S.getD u.toNat 0 + a)
   ·rfl
   ·rw [if_pos rfl, Bool.true_and]
    refine goS_go q c A _ (some u) _ (by rw [List.length_set]; exact hS) fun w h0 h6 => ?_
    show (if w = u then S.getD u.toNat 0 + a else f w) = _
    by_cases hw : w = u
    ·subst hw
     rw [if_pos rfl]
     simp only [List.getD_eq_getElem?_getD, List.getElem?_set_self (show w.toNat < S.length by omega), Option.getD_some]
    ·rw [if_neg hw, hf w h0 h6]
     simp only [List.getD_eq_getElem?_getD]
     rw [List.getElem?_set_ne (by omega)]
end Go.Proofs.Ytcnafncmfiogcaa.Cp
namespace Go.Proofs.Ytcnafncmfiogcaa.Bm
open Go Go.RowKit
open Cp (Q prQ validQ nameB badP hasP mayQ leftOk goS goR fitR inA bitB)
def prevC (c : List Int) (i : Nat) : Option Int := if i = 0 then none else c[i - 1]?
theorem prevC_succ (c : List Int) (i : Nat) (hi : i < c.length) : prevC c (i + 1) = some c[i] := by
 unfold prevC
 rw [if_neg (by omega), Nat.add_sub_cancel, List.getElem?_eq_getElem hi]
set_option maxHeartbeats 4000000 in
theorem rfits_spec (p : Pb) (hp : PbOk p) (ka kc : Option Bool) (A c : List Int) (hka : Enc.Ok ka A) (hkc : Enc.Ok kc c) (hA : A.length ≤ 1000) (hc : c.length ≤ 1000) (_hcb : ∀ u ∈ c, -9223372036854775808 ≤ u ∧ u ≤ 9223372036854775807) :
  pureCall E.P (L E) 17 [intE.o ka A, p.val, intE.o kc c] = some (.bool (fitR p.q A c)) := by
 have lA := fun h => Enc.o_len (O := intE) (h := h) hka
 have lc := fun h => Enc.o_len (O := intE) (h := h) hkc
 have iA : ∀ (i : Nat) (hi : i < A.length), indexAddrT (.sl 3 ⟨some false, some 1⟩) (intE.o ka A) (.int .i64 (i : Int)) = some (cptr (.int .i64 A[i])) := fun i hi => Enc.index_o (O := intE) hka hi
 have ic : ∀ (i : Nat) (hi : i < c.length), indexAddrT (.sl 3 ⟨some false, some 1⟩) (intE.o kc c) (.int .i64 (i : Int)) = some (cptr (.int .i64 c[i])) := fun i hi => Enc.index_o (O := intE) hkc hi
 have hv := rvalid_spec p hp
 have rcp : ∀ h, reifyC E.P 7 h p.cells = some p.cells := fun h => reifyC_set (pb_all p)
 have pe : p.val = .agg ⟨p.cells⟩ := rfl
 have lp : ∀ t, loadT ⟨some true, some 4⟩ (AObj.cells 26 p.cells 0 :: t) (.pointer (some ⟨0, 0, none⟩)) = some (.agg ⟨p.cells⟩) := fun t => obj_all (b := 0) rfl rfl
 have l0 := pb_ld p 0 _ rfl
 have l1 := pb_ld p 1 _ rfl
 have l2 := pb_ld p 2 _ rfl
 have l3 := pb_ld p 3 _ rfl
 have n1 := fun h => Rec.o_len (R := entR) (h := h) hp.kl
 have n3 := fun h => Rec.o_len (R := pairR) (h := h) hp.kn
 have i1 := fun (i : Nat) (hi : i < p.left.length) => Rec.o_index (R := entR) (s := 2) (t := 60) (kk := .i64) rfl hp.kl hi
 have i3 := fun (i : Nat) (hi : i < p.never.length) => Rec.o_index (R := pairR) (s := 2) (t := 61) (kk := .i64) rfl hp.kn hi
 have rA : ∀ h, reify E.P 8 h (intE.o ka A) = some (intE.o ka A) := fun h => Enc.o_reify
 have rc : ∀ h, reify E.P 8 h (intE.o kc c) = some (intE.o kc c) := fun h => Enc.o_reify
 have valv := value_spec ka kc A c hka hkc
 rw [pureCall_fn F17 rfl, pe]
 have hv : pureCall E.P (L E) 16 [.agg ⟨p.cells⟩] = some (.bool (validQ p.q)) := hv
 unfold fitR
 cases hval : validQ p.q
 ·rw [hval] at hv
  simp -implicitDefEqProofs [r17, p17, lp, ret0 m16, rcp, hv]
 rw [hval] at hv
 by_cases q1 : 12 < A.length
 ·have q1' : (12 : Int) < A.length := by omega
  have : ¬ A.length ≤ 12 := by omega
  simp -implicitDefEqProofs [r17, p17, lp, ret0 m16, rcp, hv, lA, q1', this]
 have q1' : ¬ (12 : Int) < A.length := by omega
 have q1n : A.length ≤ 12 := by omega
 by_cases q2 : A.length < c.length
 ·have q2' : (A.length : Int) < c.length := by omega
  have : ¬ c.length ≤ A.length := by omega
  simp -implicitDefEqProofs [r17, p17, lp, ret0 m16, rcp, hv, lA, lc, q1', q2', this]
 have q2' : ¬ (A.length : Int) < c.length := by omega
 have q2n : c.length ≤ A.length := by omega
 rw [decide_eq_true q1n, decide_eq_true q2n, Bool.true_and, Bool.true_and, Bool.true_and]
 simp -implicitDefEqProofs [r17, p17, lp, ret0 m16, rcp, hv, lA, lc, q1', q2']
 rw [LL_for (γ := Unit) A () (fun i _ => [(7, .int .i64 i)]) (fun _ _ => [.cells 26 p.cells 0]) (fun _ rest _ => if inA rest = true then (.exit 0, [(7, undef)], [.cells 26 p.cells 0]) else (.ret, [(6, .bool false), (7, undef)], [.cells 26 p.cells 0])) (fun _ _ => True) (by omega) trivial]
 ·cases hin : inA A
  ·simp -implicitDefEqProofs [k17_4]
  have hAok : AOk A := ⟨by omega, fun a ha => by have := Cp.inA_iff.1 hin a ha; omega⟩
  have valv := valv hAok q2n
  rw [Bool.true_and]
  have hgo := Cp.goS_go p.q c A [0, 0, 0, 0, 0, 0] none (fun _ => 0) rfl (fun u h0 h6 => by
   have : u.toNat = 0 ∨ u.toNat = 1 ∨ u.toNat = 2 ∨ u.toNat = 3 ∨ u.toNat = 4 ∨ u.toNat = 5 := by omega
   rcases this with h | h | h | h | h | h <;> rw [h] <;> rfl)
  rw [← hgo]
  simp -implicitDefEqProofs [k17_4]
  have hu03 := Cp.validQ_iff.1 hval
  rw [LL_for (γ := List Int) c [0, 0, 0, 0, 0, 0] (fun i _ => [(9, .int .i64 i)]) (fun _ S => [.cells 26 p.cells 0, .cells 68 (intE.vals S) 0])
   (fun i rest S => if (goS p.q (prevC c i) S (A.drop i) rest).1 = true then (.exit 2, [(9, undef)], [.cells 26 p.cells 0, .cells 68 (intE.vals (goS p.q (prevC c i) S (A.drop i) rest).2) 0]) else (.ret, [(6, .bool false), (9, undef)], [.cells 26 p.cells 0, .cells 68 (intE.vals (goS p.q (prevC c i) S (A.drop i) rest).2) 0]))
   (fun i S => S.length = 6 ∧ ∀ z ∈ S, 0 ≤ z ∧ z ≤ (i : Int) * 1099511627776) (by omega) ⟨rfl, fun z hz => by
    have : z = 0 := by simpa using hz
    omega⟩]
  ·have ep : prevC c 0 = none := rfl
   rw [ep, List.drop_zero]
   cases hg : (goS p.q none [0, 0, 0, 0, 0, 0] A c).1
   ·simp -implicitDefEqProofs [k17_10]
   ·have ev : valF A c.length = (A.take c.length).sum := rfl
    have em : p.q.most = p.most := rfl
    rw [ev] at valv
    rw [em]
    simp -implicitDefEqProofs [k17_10, ret0 m18, rA, rc, valv, l2]
  ·simp -implicitDefEqProofs [k17_10]
  ·rfl
  ·intro nx i S hi _
   subst hi
   have e := Cp.goS_nil p.q (prevC c c.length) S (A.drop c.length)
   rw [e]
   simp -implicitDefEqProofs [r17_10, k17_10, lc, trim_le]
  ·intro nx i u rest S hi hv2 hd hw hS ih
   obtain ⟨hS6, hSb⟩ := hS
   have hi' : (i : Int) < (c.length : Int) := by omega
   have hiA : i < A.length := by omega
   have xc := ic i hi
   have xA := iA i hiA
   rw [hv2] at xc
   have hps := prevC_succ c i hi
   rw [hv2] at hps
   have hdA : A.drop i = A[i] :: A.drop (i + 1) := List.drop_eq_getElem_cons hiA
   rw [hdA, Cp.goS_cons]
   have ha := Cp.inA_iff.1 hin _ (List.getElem_mem hiA)
   generalize A[i] = a at *
   by_cases k1 : u < 0
   ·have hm : mayQ p.q (prevC c i) u = false := by unfold mayQ; rw [decide_eq_false (by omega), Bool.false_and]
    rw [hm]
    simp -implicitDefEqProofs [r17_10, k17_10, lc, hi', xc, k1, trim_le]
   by_cases k2 : 5 < u
   ·have hm : mayQ p.q (prevC c i) u = false := by unfold mayQ; rw [decide_eq_false (show ¬ u < 6 by omega), Bool.false_and, Bool.and_false]
    rw [hm]
    simp -implicitDefEqProofs [r17_10, k17_10, lc, hi', xc, k1, k2, trim_le]
   obtain ⟨z, b1, _, b2⟩ := shr_bit (w := p.uses) (u := u) ⟨hu03.1, hu03.2.1⟩ ⟨by omega, by omega⟩
   have hmay : mayQ p.q (prevC c i) u = (bitB p.uses u && (match prevC c i with | none => true | some w => !hasP p.never (w, u))) := by
    unfold mayQ
    rw [decide_eq_true (show 0 ≤ u by omega), decide_eq_true (show u < 6 by omega)]; rfl
   by_cases k3 : bitB p.uses u = true
   case neg =>
    rw [hmay, Bool.eq_false_iff.2 k3]
    rw [if_neg k3] at b2
    simp -implicitDefEqProofs [r17_10, k17_10, lc, hi', xc, k1, k2, l0, b1, b2, trim_le]
   rw [if_pos k3] at b2
   rw [k3, Bool.true_and] at hmay
   simp -implicitDefEqProofs [r17_10, k17_10, lc, hi', xc, k1, k2, l0, b1, b2]
   have nn := hp.nn
   rw [LL_for (γ := Unit) p.never () (fun k _ => [(11, .int .i64 k)]) (fun _ _ => [.cells 26 p.cells 0, .cells 68 (intE.vals S) 0])
    (fun _ rest _ => if (match prevC c i with | none => false | some w => rest.any fun y => decide ((w, u) = y)) = true then (.ret, [(6, .bool false), (11, undef)], [.cells 26 p.cells 0, .cells 68 (intE.vals S) 0]) else (.exit 4, [(11, undef)], [.cells 26 p.cells 0, .cells 68 (intE.vals S) 0])) (fun _ _ => True) (by omega) trivial]
   ·have hmn : mayQ p.q (prevC c i) u = !(match prevC c i with | none => false | some w => p.never.any fun y => decide ((w, u) = y)) := by
     rw [hmay]; cases prevC c i <;> rfl
    generalize (match prevC c i with | none => false | some w => p.never.any fun y => decide ((w, u) = y)) = nb at *
    cases nb
    case true =>
     rw [hmn]
     simp -implicitDefEqProofs [k17_10, k17_18, trim_le]
    rw [hmn, if_pos (show (!false) = true from rfl)]
    have hun : ((u.toNat : Nat) : Int) = u := by omega
    have hu6 : u.toNat < 6 := by omega
    have huS : u.toNat < S.length := by omega
    have ai : indexAddrT (.arr 6 ⟨some false, some 1⟩) (.pointer (some ⟨1, 0, none⟩)) (.int .i64 u) = some (cAt 1 u.toNat) := by
     have := arr_idx (b := 1) (off := 0) (len := 6) (k := .i64) (g := some false) hu6
     rw [hun, Nat.zero_add] at this
     exact this
    have eg2 : S[u.toNat]?.getD 0 = S[u.toNat] := by rw [List.getElem?_eq_getElem huS]; rfl
    simp only [eg2]
    have hSu := hSb _ (List.getElem_mem huS)
    have ldS : loadT ⟨some false, some 1⟩ [.cells 26 p.cells 0, .cells 68 (intE.vals S) 0] (cAt 1 u.toNat) = some (.int .i64 S[u.toNat]) := obj_load (b := 1) rfl (Enc.vals_get huS)
    have stS : storeT (some 1) [.cells 26 p.cells 0, .cells 68 (intE.vals S) 0] 0 (.int .i64 (S[u.toNat] + a)) (cAt 1 u.toNat) = some [.cells 26 p.cells 0, .cells 68 (intE.vals (S.set u.toNat (S[u.toNat] + a))) 0] := by
     rw [obj_store (b := 1) (lo := 0) (t := 68) (c := intE.vals S) rfl (by rw [Enc.vals_len]; exact huS) (Nat.zero_le _) rfl, show Value.int .i64 (S[u.toNat] + a) = intE.e (S[u.toNat] + a) from rfl, Enc.vals_put]; rfl
    have hS1b : ∀ z ∈ S.set u.toNat (S[u.toNat] + a), 0 ≤ z ∧ z ≤ ((i + 1 : Nat) : Int) * 1099511627776 := fun z hz => by
     rcases List.mem_or_eq_of_mem_set hz with k | k
     ·have := hSb z k; omega
     ·omega
    have hw2 : IntKind.i64.wrap (S[u.toNat] + a) = S[u.toNat] + a := wrap64 (by omega) (by omega)
    have hS1l : (S.set u.toNat (S[u.toNat] + a)).length = 6 := by rw [List.length_set]; exact hS6
    have hS1g : (S.set u.toNat (S[u.toNat] + a))[u.toNat]? = some (S[u.toNat] + a) := List.getElem?_set_self huS
    generalize hx : S[u.toNat] + a = x at *
    generalize hS1 : S.set u.toNat x = S1 at *
    have ldS1 : loadT ⟨some false, some 1⟩ [.cells 26 p.cells 0, .cells 68 (intE.vals S1) 0] (cAt 1 u.toNat) = some (.int .i64 x) := by
     rw [List.getElem?_eq_getElem (by omega)] at hS1g
     rw [obj_load (b := 1) (t := 68) (c := intE.vals S1) rfl (Enc.vals_get (by omega)), Option.some.inj hS1g]; rfl
    simp -implicitDefEqProofs [k17_18, xA, ai, ldS, hw2, hx, stS]
    have nl := hp.nl
    rw [LL_for (γ := Unit) p.left () (fun k _ => [(12, .int .i64 k)]) (fun _ _ => [.cells 26 p.cells 0, .cells 68 (intE.vals S1) 0])
     (fun _ rest _ => if (rest.all fun e => !decide (e.1 = nameB u) || decide (x ≤ e.2)) = true then (.exit 6, [(12, undef)], [.cells 26 p.cells 0, .cells 68 (intE.vals S1) 0]) else (.ret, [(6, .bool false), (12, undef)], [.cells 26 p.cells 0, .cells 68 (intE.vals S1) 0])) (fun _ _ => True) (by omega) trivial]
    ·have el : leftOk p.q u x = p.left.all fun e => !decide (e.1 = nameB u) || decide (x ≤ e.2) := rfl
     rw [el]
     cases (p.left.all fun e => !decide (e.1 = nameB u) || decide (x ≤ e.2))
     ·simp -implicitDefEqProofs [k17_10, k17_24, trim_le]
     ·have ih := ih S1 ⟨hS1l, hS1b⟩
      rw [hps] at ih
      simp -implicitDefEqProofs [k17_10] at ih
      simp -implicitDefEqProofs [k17_10, k17_24, hw, trim_le]
      exact ih
    ·simp -implicitDefEqProofs [k17_24]
    ·rfl
    ·intro nx k w hk _
     have e : (([] : List (ByteArray × Int)).all fun e => !decide (e.1 = nameB u) || decide (x ≤ e.2)) = true := rfl
     simp -implicitDefEqProofs [r17_24, k17_24, l1, n1, hk, trim_le]
    ·intro nx k y rest2 w hk hy hd2 hwk _ ih2
     have hk' : (k : Int) < (p.left.length : Int) := by omega
     have ih2 := ih2 () trivial
     have xk := i1 k hk
     rw [hy, ent_val] at xk
     have nm := name_spec u (by omega) (by omega)
     rw [List.all_cons]
     simp -implicitDefEqProofs [k17_24, -List.all_eq_true] at ih2
     by_cases e1 : y.1 = nameB u
     ·by_cases e2 : x ≤ y.2
      ·have e2' : ¬ y.2 < x := by omega
       rw [decide_eq_true e1, decide_eq_true e2]
       simp -implicitDefEqProofs [r17_24, k17_24, l1, n1, hk', xk, ret0 m46, nm, e1, ai, ldS1, e2', hwk, trim_le, -List.all_eq_true]
       exact ih2
      ·have e2' : y.2 < x := by omega
       rw [decide_eq_true e1, decide_eq_false e2]
       simp -implicitDefEqProofs [r17_24, k17_24, l1, n1, hk', xk, ret0 m46, nm, e1, ai, ldS1, e2', trim_le, -List.all_eq_true]
     ·rw [decide_eq_false e1]
      simp -implicitDefEqProofs [r17_24, k17_24, l1, n1, hk', xk, ret0 m46, nm, e1, hwk, trim_le, -List.all_eq_true]
      exact ih2
   ·simp -implicitDefEqProofs [k17_18]
   ·rfl
   ·intro nx k w hk _
    have e : (match prevC c i with | none => false | some w => ([] : List (Int × Int)).any fun y => decide ((w, u) = y)) = false := by cases prevC c i <;> rfl
    rw [e]
    simp -implicitDefEqProofs [r17_18, k17_18, l3, n3, hk, trim_le]
   ·intro nx k y rest2 w hk hy hd2 hwk _ ih2
    have hk' : (k : Int) < (p.never.length : Int) := by omega
    have ih2 := ih2 () trivial
    have xk := i3 k hk
    rw [hy, pair_val] at xk
    have a0 : ∀ a b : Int, indexAddrT (.arr 2 ⟨some false, some 1⟩) (cptr (.agg ⟨[.int .i64 a, .int .i64 b]⟩)) (.int .i64 0) = some (cptr (.int .i64 a)) := fun a b => rfl
    have a1 : ∀ a b : Int, indexAddrT (.arr 2 ⟨some false, some 1⟩) (cptr (.agg ⟨[.int .i64 a, .int .i64 b]⟩)) (.int .i64 1) = some (cptr (.int .i64 b)) := fun a b => rfl
    by_cases hi0 : i = 0
    ·subst hi0
     have ep : prevC c 0 = none := rfl
     rw [ep]
     simp -implicitDefEqProofs [r17_18, k17_18, l3, n3, hk', trim_le]
    ·have hi1 : i - 1 < c.length := by omega
     have ep : prevC c i = some c[i - 1] := by
      unfold prevC
      rw [if_neg hi0, List.getElem?_eq_getElem hi1]
     have xp := ic (i - 1) hi1
     have hwm : IntKind.i64.wrap ((i : Int) - 1) = ((i - 1 : Nat) : Int) := (wrap64 (by omega) (by omega)).trans (by omega)
     have hip : (0 : Int) < (i : Int) := by omega
     have hip' : 0 < i := by omega
     rw [ep] at ih2 ⊢
     generalize c[i - 1] = w0 at *
     have ea : (y :: rest2).any (fun z => decide ((w0, u) = z)) = (decide ((w0, u) = y) || rest2.any fun z => decide ((w0, u) = z)) := rfl
     simp only [ea]
     have ey : decide ((w0, u) = y) = (decide (y.1 = w0) && decide (y.2 = u)) := by
      obtain ⟨y1, y2⟩ := y
      rw [Bool.eq_iff_iff]
      simp only [decide_eq_true_eq, Bool.and_eq_true, Prod.mk.injEq]
      exact ⟨fun h => ⟨h.1.symm, h.2.symm⟩, fun h => ⟨h.1.symm, h.2.symm⟩⟩
     simp only [ey]
     simp -implicitDefEqProofs [k17_18, -List.any_eq_true] at ih2
     by_cases e1 : y.1 = w0
     ·by_cases e2 : y.2 = u
      ·simp -implicitDefEqProofs [r17_18, k17_18, l3, n3, hk', hip', xk, a0, a1, hwm, xp, e1, e2, trim_le, -List.any_eq_true]
      ·simp -implicitDefEqProofs [r17_18, k17_18, l3, n3, hk', hip', xk, a0, a1, hwm, xp, e1, e2, hwk, trim_le, -List.any_eq_true]
       exact ih2
     ·simp -implicitDefEqProofs [r17_18, k17_18, l3, n3, hk', hip', xk, a0, hwm, xp, e1, hwk, trim_le, -List.any_eq_true]
      exact ih2
 ·simp -implicitDefEqProofs [k17_4]
 ·rfl
 ·intro nx i u hi _
  have e : inA [] = true := rfl
  simp -implicitDefEqProofs [r17_4, k17_4, lA, hi, e, trim_le]
 ·intro nx i v rest u hi hv hd hw _ ih
  have hi' : (i : Int) < (A.length : Int) := by omega
  have ih := ih () trivial
  have xi := iA i hi
  rw [hv] at xi
  have e : inA (v :: rest) = (decide (1 ≤ v) && decide (v ≤ 1099511627776) && inA rest) := rfl
  rw [e]
  simp -implicitDefEqProofs [k17_4] at ih
  by_cases k1 : v < 1
  ·rw [decide_eq_false (show ¬ 1 ≤ v by omega)]
   simp -implicitDefEqProofs [r17_4, k17_4, lA, hi', xi, k1, trim_le]
  by_cases k2 : 1099511627776 < v
  ·rw [decide_eq_false (show ¬ v ≤ 1099511627776 by omega)]
   simp -implicitDefEqProofs [r17_4, k17_4, lA, hi', xi, k1, k2, trim_le]
  rw [decide_eq_true (show 1 ≤ v by omega), decide_eq_true (show v ≤ 1099511627776 by omega)]
  simp -implicitDefEqProofs [r17_4, k17_4, lA, hi', xi, k1, k2, hw, trim_le]
  exact ih
end Go.Proofs.Ytcnafncmfiogcaa.Bm
namespace Go.Proofs.Ytcnafncmfiogcaa.Bm
open Go Go.RowKit
open Cp (Q Nd prQ validQ nameB badP hasP mayQ inA run fits fitS root next)
end Go.Proofs.Ytcnafncmfiogcaa.Bm
namespace Go.Proofs.Ytcnafncmfiogcaa.Bm
open Go Go.RowKit
open Cp (Q Br Acc bump Nd prQ)
theorem obj_sub {h : Heap} {b j n : Nat} {t : TypeId} {c : List Value} (hob : h[b]? = some (.cells t c 0)) (hn : j + n ≤ c.length) : loadT ⟨some true, some n⟩ h (cAt b j) = some (.agg ⟨(c.drop j).take n⟩) := by
 unfold cAt
 rw [load_agg, obj_row hob, Option.bind_some]
 show (if j + n ≤ c.length then some (Value.agg ((c.drop j).take n).toArray) else none) = _
 rw [if_pos hn]
def BvOk (h : Heap) (bv : Value) (l : List Int) : Prop := (∃ k, Enc.Ok k l ∧ bv = intE.o k l) ∨ ∃ b, 3 ≤ b ∧ bv = Enc.sl b l ∧ h[b]? = some (intE.row 3 l)
theorem BvOk.app {h : Heap} {bv : Value} {l : List Int} (e : Heap) : BvOk h bv l → BvOk (h ++ e) bv l
 | .inl x => .inl x
 | .inr ⟨b, h1, h2, h3⟩ => .inr ⟨b, h1, h2, ga e h3⟩
theorem BvOk.set {h : Heap} {bv : Value} {l : List Int} {i : Nat} {q : AObj} (hi : i < 3) : BvOk h bv l → BvOk (h.set i q) bv l
 | .inl x => .inl x
 | .inr ⟨b, h1, h2, h3⟩ => .inr ⟨b, h1, h2, gs h3 (by omega)⟩
def seC (p : Pb) (ka : Option Bool) (A : List Int) (bv : Value) (v : Int) (t : List Br) : List Value := intE.o ka A :: (p.cells ++ [bv, .int .i64 v, brR.sl 2 t])
structure Rs (p : Pb) (ka : Option Bool) (A : List Int) (h : Heap) (a : Acc) : Prop where
 len : 3 ≤ h.length
 se : ∃ bv, h[1]? = some (.cells 78 (seC p ka A bv a.val a.tree) 0) ∧ BvOk h bv a.best
 row : h[2]? = some (brR.row 41 a.tree)
section
variable {p : Pb} {ka : Option Bool} {A : List Int} {h : Heap} {a : Acc}
end
theorem next_row (h : Heap) (kc : Option Bool) (c : List Int) (hkc : Enc.Ok kc c) (hc : c.length ≤ 1000) (u : Int) : ∃ x h1, appendT (some elInt) h 0 false (lst true []) (intE.o kc c) = some (x, h1) ∧ appendT (some elInt) h1 0 false x (lst true (intE.vals [u])) = some (Enc.sl h.length (c ++ [u]), h ++ [intE.row 3 (c ++ [u])]) := by
 by_cases hz : c = []
 ·subst hz
  refine ⟨_, _, Enc.app_none (O := intE) (el := elInt) (h := h) (lo := 0) (st := false) (u := intE.o kc []) rfl (Enc.cells_o hkc), ?_⟩
  exact Enc.app_tree (O := intE) (l := []) (m := [u]) (el := elInt) (h := h) (lo := 0) (st := false) (u := lst true (intE.vals [u])) rfl Enc.cells_tree (by simp) (by show (0 + 1) * 8 ≤ 2 ^ 47; decide)
 ·have ap := Enc.app_tree (O := intE) (l := []) (m := c) (el := elInt) (h := h) (lo := 0) (st := false) (u := intE.o kc c) rfl (Enc.cells_o hkc) hz (by show (0 + c.length) * 8 ≤ 2 ^ 47; omega)
  rw [List.nil_append] at ap
  refine ⟨_, _, ap, ?_⟩
  have a2 := Enc.app (O := intE) (m := [u]) (el := elInt) (h := h ++ [intE.row 3 c]) (lo := 0) (b := h.length) (t := 3) (l := c) (u := lst true (intE.vals [u])) rfl app_get0 Enc.cells_tree (Nat.zero_le _) (by show (c.length + 1) * 8 ≤ 2 ^ 47; omega)
  rw [app_set0] at a2
  exact a2
theorem frz_row (h : Heap) (l : List Int) (hl : l ≠ []) (lo : Nat) (hlo : lo ≤ h.length) : freezeV E.P depth lo (h ++ [intE.row 3 l]) (Enc.sl h.length l) = some (intE.o (some false) l, h ++ [AObj.dead]) := by
 have fz := Enc.frz_sl (P := E.P) (O := intE) (l := l) (h := h ++ [intE.row 3 l]) (b := h.length) (lo := lo) (t := 3) app_get0 sI1 gI1 hlo
 rw [if_neg (fun e => hl (List.eq_nil_of_length_eq_zero e)), app_set0] at fz
 exact fz
end Go.Proofs.Ytcnafncmfiogcaa.Bm
namespace Go.Proofs.Ytcnafncmfiogcaa.Bm
open Go Go.RowKit
open Cp (Q Br Acc Nd bump prQ mayQ validQ reach enter visR loopR next take us root run fitS fitR inA)
structure Sq (q : Q) (A : List Int) (s : Nd) : Prop where
 run : run (prQ q) (root (prQ q) A) s.c = some s
 us : ∀ u ∈ s.c, 0 ≤ u ∧ u ≤ 5
theorem Sq.told {q : Q} {A : List Int} {s : Nd} (h : Sq q A s) : s.rem = A.drop s.c.length ∧ s.v = valF A s.c.length ∧ s.rem.length + s.c.length = A.length := by
 obtain ⟨h1, h2, h3⟩ := Cp.run_rem h.run
 have e : (root (prQ q) A).rem = A := rfl
 have e2 : (root (prQ q) A).v = 0 := rfl
 rw [e] at h1 h2 h3
 rw [e2, Int.zero_add] at h2
 refine ⟨?_, h2, h3⟩
 have := congrArg (List.drop s.c.length) h1
 rw [List.drop_append_of_le_length (by rw [List.length_take]; omega), List.drop_take, Nat.sub_self, List.take_zero, List.nil_append] at this
 exact this.symm
theorem Sq.next {q : Q} {A : List Int} {s t : Nd} {u : Int} (h : Sq q A s) (hn : next (prQ q) s u = some t) : Sq q A t ∧ t.c = s.c ++ [u] ∧ t.rem.length + 1 = s.rem.length := by
 have h1 := Cp.run_append (prQ q) s.c [u] (root (prQ q) A)
 rw [h.run] at h1
 have h1 : Cp.run (prQ q) (root (prQ q) A) (s.c ++ [u]) = Cp.run (prQ q) s [u] := h1
 rw [Cp.run_cons, hn] at h1
 obtain ⟨a, r, hr, ht, hm, _⟩ := Cp.next_some hn
 have ec : t.c = s.c ++ [u] := by rw [ht]; rfl
 refine ⟨⟨by rw [ec]; exact h1, fun w hw => ?_⟩, ec, Cp.next_rem hn⟩
 rw [ec] at hw
 rcases List.mem_append.1 hw with k | k
 ·exact h.us w k
 ·rw [List.mem_singleton.1 k]
  have hm : mayQ q s.c.getLast? u = true := hm
  have := Cp.may_ge hm
  omega
theorem Sq.fit {q : Q} {A : List Int} {s : Nd} (h : Sq q A s) (hv : validQ q = true) (hA : A.length ≤ 12) (hi : inA A = true) (u : Int) : fitR q A (s.c ++ [u]) = (Cp.next (prQ q) s u).isSome := by
 rw [Cp.fit_eq]
 unfold fitS Cp.fits
 rw [Cp.run_append, h.run, hv, hi, decide_eq_true hA]
 obtain ⟨_, _, h3⟩ := h.told
 show (true && (true && (decide ((s.c ++ [u]).length ≤ A.length) && (true && (Cp.run (prQ q) s [u]).isSome)))) = _
 rw [Cp.run_cons, Bool.true_and, Bool.true_and, Bool.true_and, List.length_append]
 cases hn : Cp.next (prQ q) s u with
 | none => simp
 | some t =>
  have := Cp.next_rem hn
  rw [decide_eq_true (show s.c.length + [u].length ≤ A.length by simp only [List.length_cons, List.length_nil]; omega)]; rfl
def nilT (v : Value) (h : Heap) : Option (Value × Heap) := match v with
 | .pointer (some a) => some (.pointer (some a), h)
 | .func (.yield 2) a b => some (.func (.yield 2) a b, h)
 | .func (.func f) fst cap => some (.func (.func f) fst cap, h)
 | _ => none
theorem rop_nilT {E : Env} {C : Callee} {lo : Nat} {st : Bool} {ρ : Operand → Value} {h : Heap} {x : Operand} : ropR E C lo st (.nilCheck x) ρ h = nilT (ρ x) h := rfl
end Go.Proofs.Ytcnafncmfiogcaa.Bm
namespace Go.Proofs.Ytcnafncmfiogcaa.Bm
open Go Go.RowKit
open Cp (Q Br Acc Nd bump prQ mayQ validQ reach enter visR loopR next take us root run fitS fitR inA)
end Go.Proofs.Ytcnafncmfiogcaa.Bm
namespace Go.Proofs.Ytcnafncmfiogcaa.Bm
open Go Go.RowKit
open Rg (Rect areaL)
open Cp (Q Br Acc Nd prQ validQ visR root ended best inA)
theorem BvOk.reify {h : Heap} {bv : Value} {l : List Int} (x : BvOk h bv l) : ∃ k, Enc.Ok k l ∧ reify E.P 8 h bv = some (intE.o k l) := by
 rcases x with ⟨k, hk, rfl⟩ | ⟨b, _, rfl, hb⟩
 ·exact ⟨k, hk, Enc.o_reify⟩
 ·exact ⟨some false, Enc.ok_some, Enc.reify_sl hb sI1 gI1⟩
end Go.Proofs.Ytcnafncmfiogcaa.Bm
namespace Go.Proofs.Ytcnafncmfiogcaa.Bm
open Go Go.RowKit
open Cp (Q prQ validQ fitR inA us mayQ)
end Go.Proofs.Ytcnafncmfiogcaa.Bm
