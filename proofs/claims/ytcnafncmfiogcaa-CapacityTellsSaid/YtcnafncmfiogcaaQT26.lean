/-
  When a choice fits, plain: the reference's reckoning with a list of sums. Conditions: none. No program in sight.
-/
import Derived.Test.YtcnafncmfiogcaaQT25
import Derived.Test.YtcnafncmfiogcaaQT14
import Derived.Test.YtcnafncmfiogcaaQT15
import Derived.Test.YtcnafncmfiogcaaRows
import Derived.Test.YtcnafncmfiogcaaQT19
namespace Go.Proofs.Ytcnafncmfiogcaa.Bm
open Go Go.RowKit
open Rg (Rect)
open Cp (Br)
theorem okE : OkProg E.P := okProg_of (by kernel_rfl) (by kernel_rfl)
theorem laidE : laidOutB E.P = true := by kernel_rfl
theorem mapsE : mapsRowed E.P = true := by kernel_rfl
noncomputable def tlE : List TypeId := closeT E.P 8 [22, 26, 29, 33, 5, 44, 3]
theorem closedE : closedT E.P tlE = true := by kernel_rfl
theorem in22 : 22 ∈ tlE := List.contains_iff_mem.1 (by kernel_rfl)
theorem in26 : 26 ∈ tlE := List.contains_iff_mem.1 (by kernel_rfl)
theorem in29 : 29 ∈ tlE := List.contains_iff_mem.1 (by kernel_rfl)
theorem ui : E.P.underlying 3 = some (.int .i64) := by kernel_rfl
theorem u4 : E.P.underlying 4 = some .bool := by kernel_rfl
theorem uSt : E.P.underlying 9 = some .string := by kernel_rfl
theorem uRs : E.P.underlying 62 = some (.slice 93) := by kernel_rfl
theorem uRss : E.P.underlying 22 = some (.slice 62) := by kernel_rfl
theorem uIs : E.P.underlying 29 = some (.slice 3) := by kernel_rfl
theorem uEs : E.P.underlying 23 = some (.slice 60) := by kernel_rfl
theorem uPs : E.P.underlying 24 = some (.slice 61) := by kernel_rfl
theorem uPa : E.P.underlying 61 = some (.array 2 3) := by kernel_rfl
theorem fR : fsOf E.P 93 = some [(0, 3), (1, 3), (2, 3), (3, 3)] := by kernel_rfl
theorem fEn : fsOf E.P 60 = some [(0, 9), (1, 3)] := by kernel_rfl
theorem fPb : fsOf E.P 26 = some [(0, 3), (1, 23), (2, 3), (3, 24)] := by kernel_rfl
theorem nR : E.P.cellsOf 93 = 4 := by kernel_rfl
theorem nEn : E.P.cellsOf 60 = 2 := by kernel_rfl
theorem nPa : E.P.cellsOf 61 = 2 := by kernel_rfl
theorem nPb : E.P.cellsOf 26 = 4 := by kernel_rfl
theorem nEs : E.P.cellsOf 23 = 1 := by kernel_rfl
theorem nPs : E.P.cellsOf 24 = 1 := by kernel_rfl
theorem ni : E.P.cellsOf 3 = 1 := by kernel_rfl
theorem nS : E.P.cellsOf 9 = 1 := by kernel_rfl
theorem gR : aggT E.P 93 = some true := by kernel_rfl
theorem gRs : aggT E.P 62 = some false := by kernel_rfl
theorem gRss : aggT E.P 22 = some false := by kernel_rfl
theorem gIs : aggT E.P 29 = some false := by kernel_rfl
theorem gEn : aggT E.P 60 = some true := by kernel_rfl
theorem gPa : aggT E.P 61 = some true := by kernel_rfl
theorem gPb : aggT E.P 26 = some true := by kernel_rfl
def i64ok (z : Int) : Prop := -9223372036854775808 ≤ z ∧ z ≤ 9223372036854775807
theorem wt_array {n m : Nat} {t e : TypeId} {c : List Value} (hu : E.P.underlying t = some (.array m e)) (h : Wt E.P n t c) : c.length = E.P.cellsOf t ∧ ∀ i, i < m → ∃ k, Wt E.P k e ((c.drop (i * E.P.cellsOf e)).take (E.P.cellsOf e)) := by
  cases n with
  | zero => exact h.elim
  | succ n =>
    unfold Wt at h; rw [hu] at h
    exact ⟨h.1, fun i hi => ⟨n, h.2 i hi⟩⟩
theorem rect_of {n : Nat} {c : List Value} (h : Wt E.P n 93 c) : ∃ r : Rect, c = rectR.enc r := by
  obtain ⟨hl, hf⟩ := wt_struct fR h
  rw [nR] at hl
  obtain ⟨a0, c, rfl⟩ := List.exists_cons_of_length_eq_add_one hl; have hl := Nat.succ.inj hl
  obtain ⟨a1, c, rfl⟩ := List.exists_cons_of_length_eq_add_one hl; have hl := Nat.succ.inj hl
  obtain ⟨a2, c, rfl⟩ := List.exists_cons_of_length_eq_add_one hl; have hl := Nat.succ.inj hl
  obtain ⟨a3, c, rfl⟩ := List.exists_cons_of_length_eq_add_one hl; have hl := Nat.succ.inj hl
  obtain rfl := List.eq_nil_of_length_eq_zero hl
  obtain ⟨m0, q0⟩ := hf (0, 3) (by simp)
  replace q0 : Wt E.P m0 3 [a0] := by simpa [ni] using q0
  obtain ⟨m1, q1⟩ := hf (1, 3) (by simp)
  replace q1 : Wt E.P m1 3 [a1] := by simpa [ni] using q1
  obtain ⟨m2, q2⟩ := hf (2, 3) (by simp)
  replace q2 : Wt E.P m2 3 [a2] := by simpa [ni] using q2
  obtain ⟨m3, q3⟩ := hf (3, 3) (by simp)
  replace q3 : Wt E.P m3 3 [a3] := by simpa [ni] using q3
  obtain ⟨z0, e, _⟩ := wt_int ui q0; obtain rfl := List.singleton_inj.1 e
  obtain ⟨z1, e, _⟩ := wt_int ui q1; obtain rfl := List.singleton_inj.1 e
  obtain ⟨z2, e, _⟩ := wt_int ui q2; obtain rfl := List.singleton_inj.1 e
  obtain ⟨z3, e, _⟩ := wt_int ui q3; obtain rfl := List.singleton_inj.1 e
  exact ⟨⟨z0, z1, z2, z3⟩, rfl⟩
theorem en_of {n : Nat} {c : List Value} (h : Wt E.P n 60 c) : ∃ b : ByteArray × Int, c = entR.enc b := by
  obtain ⟨hl, hf⟩ := wt_struct fEn h
  rw [nEn] at hl
  obtain ⟨a0, c, rfl⟩ := List.exists_cons_of_length_eq_add_one hl; have hl := Nat.succ.inj hl
  obtain ⟨a1, c, rfl⟩ := List.exists_cons_of_length_eq_add_one hl; have hl := Nat.succ.inj hl
  obtain rfl := List.eq_nil_of_length_eq_zero hl
  obtain ⟨m0, q0⟩ := hf (0, 9) (by simp)
  replace q0 : Wt E.P m0 9 [a0] := by simpa [nS] using q0
  obtain ⟨m1, q1⟩ := hf (1, 3) (by simp)
  replace q1 : Wt E.P m1 3 [a1] := by simpa [ni] using q1
  obtain ⟨z0, e, _⟩ := wt_str uSt q0; obtain rfl := List.singleton_inj.1 e
  obtain ⟨z1, e, _⟩ := wt_int ui q1; obtain rfl := List.singleton_inj.1 e
  exact ⟨(z0, z1), rfl⟩
theorem pa_of {n : Nat} {c : List Value} (h : Wt E.P n 61 c) : ∃ b : Int × Int, c = pairR.enc b := by
  obtain ⟨hl, hf⟩ := wt_array uPa h
  rw [nPa] at hl
  obtain ⟨a0, c, rfl⟩ := List.exists_cons_of_length_eq_add_one hl; have hl := Nat.succ.inj hl
  obtain ⟨a1, c, rfl⟩ := List.exists_cons_of_length_eq_add_one hl; have hl := Nat.succ.inj hl
  obtain rfl := List.eq_nil_of_length_eq_zero hl
  obtain ⟨m0, q0⟩ := hf 0 (by decide)
  replace q0 : Wt E.P m0 3 [a0] := by simpa [ni] using q0
  obtain ⟨m1, q1⟩ := hf 1 (by decide)
  replace q1 : Wt E.P m1 3 [a1] := by simpa [ni] using q1
  obtain ⟨z0, e, _⟩ := wt_int ui q0; obtain rfl := List.singleton_inj.1 e
  obtain ⟨z1, e, _⟩ := wt_int ui q1; obtain rfl := List.singleton_inj.1 e
  exact ⟨(z0, z1), rfl⟩
theorem recs_of {α : Type} (R : Rec α) {Q : α → Prop} {n : Nat} {t e : TypeId} {c : List Value} (hu : E.P.underlying t = some (.slice e)) (ge : aggT E.P e = some true) (hb : ∀ (m : Nat) (x : List Value), Wt E.P m e x → ∃ a, x = R.enc a ∧ Q a) (h : Wt E.P n t c) : ∃ l : List α, c = [lst false (R.vals l)] ∧ l.length ≤ maxLen ∧ ∀ a ∈ l, Q a := by
  obtain ⟨ls, rfl, h2, h3⟩ := wt_slice hu h
  obtain ⟨rs, rfl, k2⟩ := choose_list (cells := R.enc) (Q := Q) ls fun x hx => by
    obtain ⟨m, hm⟩ := h3 x hx
    exact hb m x hm
  refine ⟨rs, ?_, by simpa using h2, k2⟩
  have e : ∀ l : List α, (l.map R.enc).map (elemV E.P e) = R.vals l := by
    intro l
    induction l with
    | nil => rfl
    | cons r l ih =>
      rw [List.map_cons, List.map_cons, ih]
      unfold elemV
      rw [if_pos ge]
      rfl
  rw [e]
theorem intsV {n : Nat} {c : List Value} (h : Wt E.P n 29 c) : ∃ l : List Int, elemV E.P 29 c = intE.o (some false) l ∧ l.length ≤ maxLen ∧ ∀ z ∈ l, i64ok z := by
  obtain ⟨l, rfl, h1, h2⟩ := wt_ints uIs ui h
  exact ⟨l, by simp [elemV, gIs]; rfl, h1, fun z hz => i64_wf (h2 z hz)⟩
theorem roomsV_of {n : Nat} {c : List Value} (h : Wt E.P n 22 c) : ∃ P : Rooms, elemV E.P 22 c = roomsV false P ∧ P.length ≤ maxLen ∧ ∀ r ∈ P, Rec.Ok r.1 r.2 ∧ r.2.length ≤ maxLen := by
  obtain ⟨ls, rfl, h2, h3⟩ := wt_slice uRss h
  obtain ⟨rs, rfl, k2⟩ := choose_list (α := List Rect) (cells := fun l => [lst false (rectR.vals l)]) (Q := fun l => l.length ≤ maxLen) ls fun x hx => by
    obtain ⟨m, hm⟩ := h3 x hx
    obtain ⟨l, e, h1, _⟩ := recs_of rectR (Q := fun _ => True) uRs gR (fun m x hx => (rect_of hx).imp fun a h => ⟨h, trivial⟩) hm
    exact ⟨l, e, h1⟩
  refine ⟨rs.map fun l => (some false, l), ?_, by simpa using h2, fun r hr => ?_⟩
  · have e : ∀ l : List (List Rect), (l.map fun l => [lst false (rectR.vals l)]).map (elemV E.P 62) = (l.map fun l => ((some false, l) : Option Bool × List Rect)).map roomR := by
      intro l
      induction l with
      | nil => rfl
      | cons r l ih =>
        rw [List.map_cons, List.map_cons, ih, List.map_cons, List.map_cons]
        simp [elemV, gRs]; rfl
    rw [e]
    unfold elemV roomsV
    rw [gRss]; rfl
  · obtain ⟨l, hl, rfl⟩ := List.mem_map.1 hr
    exact ⟨Rec.ok_some, k2 l hl⟩
theorem pbV {n : Nat} {c : List Value} (h : Wt E.P n 26 c) : ∃ p : Pb, elemV E.P 26 c = p.val ∧ Rec.Ok p.kl p.left ∧ Rec.Ok p.kn p.never ∧ i64ok p.uses ∧ i64ok p.most ∧ p.left.length ≤ maxLen ∧ p.never.length ≤ maxLen ∧ p.kl = some false ∧ p.kn = some false := by
  obtain ⟨hl, hf⟩ := wt_struct fPb h
  rw [nPb] at hl
  obtain ⟨a0, c, rfl⟩ := List.exists_cons_of_length_eq_add_one hl; have hl := Nat.succ.inj hl
  obtain ⟨a1, c, rfl⟩ := List.exists_cons_of_length_eq_add_one hl; have hl := Nat.succ.inj hl
  obtain ⟨a2, c, rfl⟩ := List.exists_cons_of_length_eq_add_one hl; have hl := Nat.succ.inj hl
  obtain ⟨a3, c, rfl⟩ := List.exists_cons_of_length_eq_add_one hl; have hl := Nat.succ.inj hl
  obtain rfl := List.eq_nil_of_length_eq_zero hl
  obtain ⟨m0, q0⟩ := hf (0, 3) (by simp)
  replace q0 : Wt E.P m0 3 [a0] := by simpa [ni] using q0
  obtain ⟨m1, q1⟩ := hf (1, 23) (by simp)
  replace q1 : Wt E.P m1 23 [a1] := by simpa [nEs] using q1
  obtain ⟨m2, q2⟩ := hf (2, 3) (by simp)
  replace q2 : Wt E.P m2 3 [a2] := by simpa [ni] using q2
  obtain ⟨m3, q3⟩ := hf (3, 24) (by simp)
  replace q3 : Wt E.P m3 24 [a3] := by simpa [nPs] using q3
  obtain ⟨z0, e, h0⟩ := wt_int ui q0; obtain rfl := List.singleton_inj.1 e
  obtain ⟨l1, e, h1, _⟩ := recs_of entR (Q := fun _ => True) uEs gEn (fun m x hx => (en_of hx).imp fun a h => ⟨h, trivial⟩) q1; obtain rfl := List.singleton_inj.1 e
  obtain ⟨z2, e, h2⟩ := wt_int ui q2; obtain rfl := List.singleton_inj.1 e
  obtain ⟨l3, e, h3, _⟩ := recs_of pairR (Q := fun _ => True) uPs gPa (fun m x hx => (pa_of hx).imp fun a h => ⟨h, trivial⟩) q3; obtain rfl := List.singleton_inj.1 e
  exact ⟨⟨z0, some false, l1, z2, some false, l3⟩, by simp [elemV, gPb]; rfl, Rec.ok_some, Rec.ok_some, i64_wf h0, i64_wf h2, h1, h3, rfl, rfl⟩
theorem orcE : OrcSound E := by
  have h00 : ∀ f, E0.orc f = none := fun _ => rfl
  have key : ∀ g k, E.orc g = some k → (∃ F N, k = inG F N ∧ SortCon E.P g F N) ∨ (∃ q m F, k = inC q m F ∧ CellCon E.P g q m F) ∨ (k = cloG E0 g ∧ CloCon E.P g) := fun g k h => by
    rw [E_orc] at h
    by_cases h0 : g = 70
    · subst h0; simp only [if_true, Option.some.injEq] at h; exact .inr (.inr ⟨h.symm, conClo⟩)
    · by_cases h1 : g = 86
      · subst h1; simp only [h0, if_false, if_true, Option.some.injEq] at h; exact .inl ⟨_, _, h.symm, conSort⟩
      · by_cases h2 : g = 87
        · subst h2; simp only [h0, h1, if_false, if_true, Option.some.injEq] at h; exact .inl ⟨_, _, h.symm, conComp⟩
        · by_cases h3 : g = 96
          · subst h3; simp only [h0, h1, h2, if_false, if_true, Option.some.injEq] at h; exact .inr (.inl ⟨_, _, _, h.symm, conSpan⟩)
          · simp only [h0, h1, h2, h3, if_false] at h; cases h
  refine ⟨fun g k hg args h lo r _ => ?_, fun g k hg args h lo v h' hr hlo B M w args' hs hv => ?_, fun g k hg args h lo v h' hr hlo => ?_⟩
  · rcases key g k hg with ⟨F, N, _, hC⟩ | ⟨q, m, F, _, hC⟩ | ⟨_, hC⟩
    · exact hC.dfd
    · exact hC.dfd
    · exact hC.dfd
  · rcases key g k hg with ⟨F, N, rfl, hC⟩ | ⟨q, m, F, rfl, hC⟩ | ⟨rfl, hC⟩
    · exact in_sound hC hr hlo args' hs hv
    · exact inC_sound hC hr hlo args' hs hv
    · exact cloG_sound (E₀ := E0) okE rfl rfl h00 hC hr hlo args' hs hv
  · rcases key g k hg with ⟨F, N, rfl, _⟩ | ⟨q, m, F, rfl, _⟩ | ⟨rfl, _⟩
    · exact inG_keep hr
    · exact inC_keep hr
    · exact cloG_keep h00 hr hlo
end Go.Proofs.Ytcnafncmfiogcaa.Bm
namespace Go.Proofs.Ytcnafncmfiogcaa.Bm
open Go Go.RowKit
open Rg (Rect areaL)
def areasV (o : Option (List Int)) : List Value := match o with
  | none => [.slice none 0 0, .int .i64 1]
  | some A => [lst false (intE.vals A), .int .i64 0]
def goodA (P : Rooms) : List Int := (P.takeWhile fun r => regB r.2).map fun r => areaL r.2
theorem goodA_all {P : Rooms} (h : P.all (fun r => regB r.2) = true) : goodA P = P.map fun r => areaL r.2 := by
  unfold goodA
  congr 1
  induction P with
  | nil => rfl
  | cons r P ih =>
    rw [List.all_cons, Bool.and_eq_true] at h
    rw [List.takeWhile_cons, if_pos h.1, ih h.2]
theorem lists_all (P : Rooms) : (lists P).all regB = P.all (fun r => regB r.2) := by unfold lists; rw [List.all_map]; rfl
theorem lists_map (P : Rooms) : (lists P).map areaL = P.map fun r => areaL r.2 := by unfold lists; rw [List.map_map]; rfl
set_option maxHeartbeats 1000000 in
theorem areas_spec (x : Bool) (P : Rooms) (hP : RoomsOk P) : pureCall E.P (L E) 14 [roomsV x P] = some (.tuple ⟨areasV (areasF (lists P))⟩) := by
  have ln := fun h => rooms_len h x P
  have ix := rooms_index x P
  have h13 := hP.len
  have hll : (lists P).length = P.length := List.length_map _
  generalize roomsV x P = RV at *
  rw [pureCall_fn F14 rfl]
  unfold areasF
  rw [hll, lists_all, lists_map]
  by_cases h12 : 12 < P.length
  · have h12' : (12 : Int) < P.length := by omega
    have hn : ¬ (P.length ≤ 12 ∧ P.all (fun r => regB r.2) = true) := fun h => by omega
    rw [if_neg hn]
    simp -implicitDefEqProofs [r14, p14, ln, h12', areasV]
  have h12' : ¬ ((12 : Int) < P.length) := by omega
  simp -implicitDefEqProofs [r14, p14, ln, h12', prep_new, newK_nil sI1]
  rw [LL_for (γ := List Int) P [] (fun i c => [(4, Enc.sl 0 c), (13, .int .i64 i)]) (fun _ c => [intE.row 3 c])
    (fun _ rest c => if rest.all (fun r => regB r.2) = true then (.exit 0, [(4, Enc.sl 0 (c ++ goodA rest)), (13, undef)], [intE.row 3 (c ++ goodA rest)]) else (.ret, [(2, .slice none 0 0), (3, .int .i64 1), (4, Enc.sl 0 (c ++ goodA rest)), (13, undef)], [intE.row 3 (c ++ goodA rest)])) (fun i c => c.length = i) (by omega) rfl]
  · by_cases ha : P.all (fun r => regB r.2) = true
    · rw [if_pos ha, if_pos ⟨by omega, ha⟩, goodA_all ha, List.nil_append]
      have hidx := index_ints (some false) (P.map fun r => areaL r.2) 0 Enc.ok_some (by rw [List.length_map]; omega)
      have it := idx_take (P.map fun r => areaL r.2) 0 (Int.le_refl _)
      simp only [ne_eq, decide_not] at it
      have hr : ∀ h, h = [intE.row 3 (P.map fun r => areaL r.2)] → reify E.P 8 h (Enc.sl 0 (P.map fun r => areaL r.2)) = some (intE.o (some false) (P.map fun r => areaL r.2)) := fun h hh => by
        subst hh; exact Enc.reify_sl (O := intE) (b := 0) rfl sI1 gI1
      have hr := hr _ rfl
      have hrp := fun (n : Nat) (hn : n ≤ (P.map fun r => areaL r.2).length) => Enc.reify_part (O := intE) (P := E.P) (d := 7) (h := [intE.row 3 (P.map fun r => areaL r.2)]) (b := 0) (n := n) rfl hn sI1 gI1
      have hpt := fun (n : Nat) (hn : n ≤ (P.map fun r => areaL r.2).length) => Enc.part_take (O := intE) (h := [intE.row 3 (P.map fun r => areaL r.2)]) (b := 0) (n := (P.map fun r => areaL r.2).length) (m := n) (g := some false) (e := 3) (k := .i64) rfl hn
      generalize (P.map fun r => areaL r.2) = AL at *
      generalize hz : idxB (fun a => decide ((0 : Int) = a)) AL 0 = z at *
      by_cases hz1 : z = -1
      · have e := it.1 hz1
        have hneg : ¬ ((0 : Int) ≤ z) := by omega
        have hr2 : reify E.P 8 [intE.row 3 AL] (Enc.sl 0 AL) = some (lst false (intE.vals AL)) := hr
        rw [e]
        simp -implicitDefEqProofs [k14_5, ret0 m40, hr, hidx, hneg, areasV]
        rfl
      · obtain ⟨z1, z2, z3⟩ := it.2 hz1
        have ez : z = ((z.toNat : Nat) : Int) := by omega
        rw [Int.sub_zero] at z2 z3
        have hr2 := hrp z.toNat z3
        have hp2 := hpt z.toNat z3
        rw [z2] at hr2
        have hp2 : sliceT (.sl 3 ⟨some false, some 1⟩) [intE.row 3 AL] (Enc.sl 0 AL) none (some (.int .i64 z)) none = some (Enc.part 0 z.toNat AL) := by rw [ez]; exact hp2
        simp -implicitDefEqProofs [k14_5, ret0 m40, hr, hidx, z1, hp2, hr2, areasV]
    · rw [if_neg ha, if_neg fun h => ha h.2]
      simp -implicitDefEqProofs [k14_5, areasV]
  · simp -implicitDefEqProofs [k14_5]
    rfl
  · rfl
  · intro nx i c hi _
    have e : goodA [] = [] := rfl
    simp -implicitDefEqProofs [r14_5, k14_5, hi, trim_le, e]
  · intro nx i v rest c hi hv hd hw hc ih
    have hi' : (i : Int) < (P.length : Int) := by omega
    have xi := ix i hi
    rw [hv] at xi
    have lv := fun h => rooms_load h v
    have rv := fun h => room_reify h v
    have hvm : v ∈ P := hv ▸ List.getElem_mem hi
    have rr := room_right v (hP.ok v hvm) (hP.few v hvm)
    rw [List.all_cons]
    cases hg : regB v.2
    · have e : goodA (v :: rest) = [] := by unfold goodA; rw [List.takeWhile_cons, if_neg (by rw [hg]; simp)]; rfl
      rw [hg] at rr
      simp -implicitDefEqProofs [r14_5, k14_5, hi', xi, lv, ret0 m38, rv, rr, trim_le, e]
    · have e : goodA (v :: rest) = areaL v.2 :: goodA rest := by unfold goodA; rw [List.takeWhile_cons, if_pos hg]; rfl
      have ra := room_area v (hP.ok v hvm) (hP.few v hvm) hg
      rw [hg] at rr
      have ap := Enc.app (O := intE) (m := [areaL v.2]) (el := elInt) (h := [intE.row 3 c]) (lo := 0) (b := 0) (t := 3) (l := c) (u := lst true (intE.vals [areaL v.2])) rfl rfl Enc.cells_tree (Nat.le_refl _) (by show (c.length + 1) * 8 ≤ 2 ^ 47; omega)
      have lt := lit_int [intE.row 3 c] (areaL v.2)
      have ih := ih (c ++ [areaL v.2]) (by rw [List.length_append, hc]; rfl)
      have e2 : c ++ [areaL v.2] ++ goodA rest = c ++ areaL v.2 :: goodA rest := by simp
      rw [e2] at ih
      rw [e, Bool.true_and]
      simp -implicitDefEqProofs [k14_5] at ih
      simp -implicitDefEqProofs [r14_5, k14_5, hi', xi, lv, ret0 m38, ret0 m39, rv, rr, ra, lt, ap, hw, trim_le]
      exact ih
theorem areas_call (x : Bool) (P : Rooms) (hP : RoomsOk P) (h : Heap) : retCall E (L E) 0 false 14 [roomsV x P] h = some (.tuple ⟨areasV (areasF (lists P))⟩, h) := by
  have fz : freezeV E.P depth 0 h (roomsV x P) = some (roomsV x P, h) := frz_set8 rfl rfl
  have e : frzAll E.P 0 [roomsV x P] h = some ([roomsV x P], h) := by
    unfold frzAll
    simp only [List.foldlM_cons, List.foldlM_nil, fz]
    rfl
  rw [ret4 m14, e, Option.bind_some, areas_spec x P hP]; rfl
end Go.Proofs.Ytcnafncmfiogcaa.Bm
namespace Go.Proofs.Ytcnafncmfiogcaa.Bm
open Go Go.RowKit
open Rg (Rect areaL)
open Cp (Q Br Acc Nd prQ validQ vis root ended best)
theorem validQ_most {q : Q} (h : validQ q = true) : 0 ≤ q.most := (Cp.validQ_iff.1 h).2.2.1
theorem root_sr (p : Pb) (hp : PbOk p) (hv : validQ p.q = true) (A : List Int) : Sr A (limL p.q) (root (prQ p.q) A) := by
  have hm := validQ_most hv
  refine ⟨limN_len _ _, fun u hu => ?_, fun x hx => ?_, rfl, Nat.zero_le _, Int.le_refl _, ?_⟩
  · have h6 : u < 6 := by have := limN_len p.q 6; unfold limL at hu; omega
    have e : (limL p.q)[u] = Cp.limQ p.q (u : Int) := (limN_get p.q 6 u hu).trans (if_pos h6)
    exact e.symm
  · obtain ⟨i, hi, rfl⟩ := List.mem_map.1 hx
    have h6 : i < 6 := List.mem_range.1 hi
    rw [if_pos h6]
    have h1 := Cp.fold_hi (i : Int) p.q.left p.q.most (by omega)
    have h2 : p.q.most ≤ 9223372036854775807 := hp.m.2
    unfold Cp.limQ
    omega
  · show (0 : Int) ≤ ((0 : Nat) : Int) * _
    simp
def bestV (k : Option Bool) (o : Option (Int × List Int × List Br)) : List Value := match o with
  | none => [.slice none 0 0, .int .i64 0, .slice none 0 0, .int .i64 6]
  | some r => [intE.o k r.2.1, .int .i64 r.1, lst false (brR.vals r.2.2), .int .i64 0]
theorem sB2 : szOf E.P 41 = some 2 := by kernel_rfl
theorem aB2 : aggT E.P 41 = some true := by kernel_rfl
set_option maxHeartbeats 1000000 in
theorem best_ok (x : Bool) (P : Rooms) (hP : RoomsOk P) (p : Pb) (hp : PbOk p) (A : List Int) (hA : areasF (lists P) = some A) (hv : validQ p.q = true) :
    ∃ k, (∀ r, best (prQ p.q) A = some r → Enc.Ok k r.2.1) ∧ pureCall E.P (L E) 15 [roomsV x P, p.val] = some (.tuple ⟨bestV k (best (prQ p.q) A)⟩) := by
  have ar := areas_call x P hP
  have sr : settled depth (roomsV x P) = true := rfl
  rw [hA] at ar
  have vs := valid_spec p hp
  rw [hv] at vs
  have rp := p.reify
  obtain ⟨ha1, ha2⟩ := areas_told hA
  have hAok : AOk A := ⟨by omega, fun a ha => by have := ha2 a ha; omega⟩
  have bs := begin_spec p hp (some false) A
  have ps := p.set
  have hroot := root_sr p hp hv A
  let H0 : Heap := [.cells 26 p.cells 0, .cells 29 [intE.o (some false) A] 0, .cells 33 [brR.sl 7 []] 0, .cells 29 [.slice none 0 0] 0, .cells 29 [.slice none 0 0] 0, .cells 3 [.int .i64 (-1)] 0, .cells 67 [visF] 0, brR.row 41 []]
  have C0 : Cs p (some false) A H0 ⟨-1, [], []⟩ [] none := ⟨by simp [H0], rfl, rfl, rfl, ⟨none, Enc.ok_nil, rfl⟩, ⟨_, rfl, .inl ⟨rfl, rfl, rfl⟩⟩, rfl, rfl, rfl⟩
  have V : ∀ n, VisN p false A n := by
    intro n
    induction n with
    | zero => exact vis_all p hp hv false A hAok 0 fun m hm => by omega
    | succ n ih => exact vis_all p hp hv false A hAok (n + 1) fun m hm => (show n = m by omega) ▸ ih
  obtain ⟨h', r1, ob', C1, _⟩ := V A.length (root (prQ p.q) A) (limL p.q) ⟨-1, [], []⟩ H0 none rfl hroot C0 (by decide) (fun b hb => by cases hb)
  have bv := Cp.best_vis (prQ p.q) A
  generalize vis (prQ p.q) A.length (root (prQ p.q) A) ⟨-1, [], []⟩ = a at *
  have C2 := C1.trim 8 [.tuple #[]] (by decide)
  have rc : retCall E (L E) 0 false 42 [stV (intE.o (some false) A) p (limL p.q) 0, cAt 5 0, cAt 4 0, cAt 3 0, cAt 1 0, cAt 2 0, cAt 0 0, cAt 6 0] H0 = some (.tuple #[], trim 8 [.tuple #[]] h') := by
    have r2 : L E 42 [stV (intE.o (some false) A) p (limL p.q) 0, cAt 5 0, cAt 4 0, cAt 3 0, cAt 1 0, cAt 2 0, cAt 0 0, cAt 6 0] H0 0 = _ := r1
    rw [ret3t m42, r2]; rfl
  generalize trim 8 [.tuple #[]] h' = h at *
  obtain ⟨kb, hkb, lbe⟩ := C2.be
  have l3 : loadT ⟨some false, some 1⟩ h (.pointer (some ⟨3, 0, none⟩)) = some (intE.o kb a.best) := obj_load (b := 3) (j := 0) lbe rfl
  have l5 : loadT ⟨some false, some 1⟩ h (.pointer (some ⟨5, 0, none⟩)) = some (.int .i64 a.val) := obj_load (b := 5) (j := 0) C2.va rfl
  have l2 : loadT ⟨some false, some 1⟩ h (.pointer (some ⟨2, 0, none⟩)) = some (brR.sl 7 a.tree) := obj_load (b := 2) (j := 0) C2.tr rfl
  have ll := Rec.sl_len (R := brR) (h := h) (b := 7) (l := a.tree)
  have rt := Rec.reify_row (R := brR) (P := E.P) (n := 7) C2.row sB2 aB2
  have rb : reify E.P 8 h (intE.o kb a.best) = some (intE.o kb a.best) := Enc.o_reify
  refine ⟨kb, fun r hr => ?_, ?_⟩
  · rw [← bv] at hr
    unfold ended at hr
    split at hr
    · cases hr
    · have := Option.some.inj hr
      subst this; exact hkb
  rw [pureCall_fn F15 rfl]
  unfold areasV at ar
  have pe : p.val = .agg ⟨p.cells⟩ := rfl
  have lp : ∀ t, loadT ⟨some true, some 4⟩ (AObj.cells 26 p.cells 0 :: t) (.pointer (some ⟨0, 0, none⟩)) = some (.agg ⟨p.cells⟩) := fun t => obj_all (b := 0) rfl rfl
  rw [pe]
  have vs : pureCall E.P (L E) 41 [.agg ⟨p.cells⟩] = some (.bool true) := vs
  have rcp : ∀ h, reifyC E.P 7 h p.cells = some p.cells := fun h => reifyC_set (pb_all p)
  have ps7 : settled depth (.agg ⟨p.cells⟩) = true := ps
  have sa : settled depth (lst false (intE.vals A)) = true := rfl
  have bs : pureCall E.P (L E) 45 [lst false (intE.vals A), .agg ⟨p.cells⟩] = some (.agg ⟨stC (intE.o (some false) A) p (limL p.q) 0⟩) := bs
  have rc : retCall E (L E) 0 false 42 [.agg ⟨stC (intE.o (some false) A) p (limL p.q) 0⟩, .pointer (some ⟨5, 0, none⟩), .pointer (some ⟨4, 0, none⟩), .pointer (some ⟨3, 0, none⟩), .pointer (some ⟨1, 0, none⟩), .pointer (some ⟨2, 0, none⟩), .pointer (some ⟨0, 0, none⟩), .pointer (some ⟨6, 0, none⟩)]
      [.cells 26 p.cells 0, .cells 29 [lst false (intE.vals A)] 0, .cells 33 [.slice (some ⟨7, 0, some 0⟩) 0 0] 0, .cells 29 [.slice none 0 0] 0, .cells 29 [.slice none 0 0] 0, .cells 3 [.int .i64 (-1)] 0, .cells 67 [.func (.func 42) ⟨[]⟩ ⟨[.pointer (some ⟨5, 0, none⟩), .pointer (some ⟨4, 0, none⟩), .pointer (some ⟨3, 0, none⟩), .pointer (some ⟨1, 0, none⟩), .pointer (some ⟨2, 0, none⟩), .pointer (some ⟨0, 0, none⟩), .pointer (some ⟨6, 0, none⟩)]⟩] 0, .cells 41 [] 2] = some (.tuple #[], h) := rc
  have l0 : loadT ⟨some true, some 4⟩ h (.pointer (some ⟨0, 0, none⟩)) = some (.agg ⟨p.cells⟩) := obj_all (b := 0) C2.pr rfl
  have fnil : flat .nilFunc = true := rfl
  have cnil : cellsOf .nilFunc = some [.nilFunc] := rfl
  rw [← bv]
  unfold ended
  by_cases h4 : 4000 < a.tree.length
  · have h4' : (4000 : Int) < a.tree.length := by omega
    rw [if_pos h4]
    simp -implicitDefEqProofs [r15, p15, ar, lp, ret0 m41, rcp, vs, prep_newc, newcK, sB2, isNil, ret1 m45, ps7, sa, bs, rc, fnil, cnil, l2, ll, h4', bestV]
  · have h4' : ¬ ((4000 : Int) < a.tree.length) := by omega
    rw [if_neg h4]
    simp -implicitDefEqProofs [r15, p15, ar, lp, ret0 m41, rcp, vs, prep_newc, newcK, sB2, isNil, ret1 m45, ps7, sa, bs, rc, fnil, cnil, l2, l3, l5, ll, h4', rt, rb, bestV]
end Go.Proofs.Ytcnafncmfiogcaa.Bm
namespace Go.Proofs.Ytcnafncmfiogcaa.Bm
open Go Go.RowKit
open Rg (Rect areaL)
open Cp (Q Br Acc Nd prQ validQ vis root ended best nameB badP)
theorem best_bad (x : Bool) (P : Rooms) (hP : RoomsOk P) (p : Pb) (hp : PbOk p) (h : areasF (lists P) = none ∨ validQ p.q = false) :
    pureCall E.P (L E) 15 [roomsV x P, p.val] = some (.tuple ⟨[.slice none 0 0, .int .i64 0, .slice none 0 0, .int .i64 1]⟩) := by
  have ar := areas_call x P hP
  have sr : settled depth (roomsV x P) = true := rfl
  have vs := valid_spec p hp
  have rcp : ∀ h, reifyC E.P 7 h p.cells = some p.cells := fun h => reifyC_set (pb_all p)
  have pe : p.val = .agg ⟨p.cells⟩ := rfl
  have lp : ∀ t, loadT ⟨some true, some 4⟩ (AObj.cells 26 p.cells 0 :: t) (.pointer (some ⟨0, 0, none⟩)) = some (.agg ⟨p.cells⟩) := fun t => obj_all (b := 0) rfl rfl
  rw [pureCall_fn F15 rfl, pe]
  cases ha : areasF (lists P) with
  | none =>
    rw [ha] at ar
    unfold areasV at ar
    simp -implicitDefEqProofs [r15, p15, ar]
  | some A =>
    rw [ha] at ar h
    unfold areasV at ar
    have hv : validQ p.q = false := h.resolve_left (by simp)
    rw [hv] at vs
    have vs : pureCall E.P (L E) 41 [.agg ⟨p.cells⟩] = some (.bool false) := vs
    simp -implicitDefEqProofs [r15, p15, ar, lp, ret0 m41, rcp, vs]
theorem name_spec (u : Int) (h0 : 0 ≤ u) (h6 : u < 6) : pureCall E.P (L E) 46 [.int .i64 u] = some (.string (nameB u)) := by
  rw [pureCall_fn F46 rfl]
  have : u = 0 ∨ u = 1 ∨ u = 2 ∨ u = 3 ∨ u = 4 ∨ u = 5 := by omega
  rcases this with rfl | rfl | rfl | rfl | rfl | rfl <;> simp -implicitDefEqProofs [r46, padS, nameB]
theorem few_spec (x : Bool) (P : Rooms) (p : Pb) (kl : Rec.Ok p.kl p.left) (kn : Rec.Ok p.kn p.never) (ok : ∀ r ∈ P, Rec.Ok r.1 r.2) (hl : P.length ≤ maxLen) :
    pureCall E.P (L E) 13 [roomsV x P, p.val] = some (.bool (P.all (fun r => decide (r.2.length ≤ 16)) && (decide (P.length ≤ 13) && (decide (p.left.length ≤ 40) && decide (p.never.length ≤ 40))))) := by
  unfold maxLen at hl
  have ln := fun h => rooms_len h x P
  have ix := rooms_index x P
  have bl : ∀ d n, below (d + 1) n (roomsV x P) = true := fun d n => rfl
  generalize roomsV x P = RV at *
  have l1 := pb_ld p 1 _ rfl
  have l3 := pb_ld p 3 _ rfl
  have n1 := fun h => Rec.o_len (R := entR) (h := h) kl
  have n3 := fun h => Rec.o_len (R := pairR) (h := h) kn
  have pe : p.val = .agg ⟨p.cells⟩ := rfl
  rw [pureCall_fn F13 rfl, pe]
  simp -implicitDefEqProofs [r13, p13]
  rw [LL_for (γ := Unit) P () (fun i _ => [(5, .int .i64 i)]) (fun _ _ => [.cells 26 p.cells 0]) (fun _ rest _ => if rest.all (fun r => decide (r.2.length ≤ 16)) = true then (.exit 0, [(5, undef)], [.cells 26 p.cells 0]) else (.ret, [(4, .bool false), (5, undef)], [.cells 26 p.cells 0])) (fun _ _ => True) (by omega) trivial]
  · cases ha : P.all fun r => decide (r.2.length ≤ 16)
    · simp -implicitDefEqProofs [k13_2, -List.all_eq_true]
    · by_cases q1 : P.length ≤ 13
      · have q1' : (P.length : Int) ≤ 13 := by omega
        by_cases q2 : p.left.length ≤ 40
        · have q2' : (p.left.length : Int) ≤ 40 := by omega
          by_cases q3 : p.never.length ≤ 40
          · have q3' : (p.never.length : Int) ≤ 40 := by omega
            simp -implicitDefEqProofs [k13_2, ln, l1, l3, n1, n3, q1, q1', q2, q2', q3, q3', -List.all_eq_true]
          · have q3' : ¬ (p.never.length : Int) ≤ 40 := by omega
            simp -implicitDefEqProofs [k13_2, ln, l1, l3, n1, n3, q1, q1', q2, q2', q3, q3', -List.all_eq_true]
        · have q2' : ¬ (p.left.length : Int) ≤ 40 := by omega
          simp -implicitDefEqProofs [k13_2, ln, l1, n1, q1, q1', q2, q2', -List.all_eq_true]
      · have q1' : ¬ (P.length : Int) ≤ 13 := by omega
        simp -implicitDefEqProofs [k13_2, ln, q1, q1', -List.all_eq_true]
  · simp -implicitDefEqProofs [k13_2]
  · rfl
  · intro nx i c hi _
    simp -implicitDefEqProofs [r13_2, k13_2, ln, hi, trim_le]
  · intro nx i v rest c hi hv hd hw _ ih
    have hi' : (i : Int) < (P.length : Int) := by omega
    have ih := ih () trivial
    have xi := ix i hi
    rw [hv] at xi
    have lv := fun h => rooms_load h v
    have ll := fun h => Rec.o_len (R := rectR) (h := h) (ok v (hv ▸ List.getElem_mem hi))
    have ll : ∀ h, lenT .sl h (roomR v) = some (.int .i64 v.2.length) := ll
    rw [List.all_cons]
    by_cases q : v.2.length ≤ 16
    · have q' : ¬ ((16 : Int) < v.2.length) := by omega
      rw [decide_eq_true q, Bool.true_and]
      simp -implicitDefEqProofs [k13_2, -List.all_eq_true] at ih
      simp -implicitDefEqProofs [r13_2, k13_2, ln, hi', xi, lv, ll, q', hw, trim_le, -List.all_eq_true]
      exact ih
    · have q' : ((16 : Int) < v.2.length) := by omega
      rw [decide_eq_false q, Bool.false_and]
      simp -implicitDefEqProofs [r13_2, k13_2, ln, hi', xi, lv, ll, q', trim_le, -List.all_eq_true]
def valF (A : List Int) (n : Nat) : Int := (A.take n).sum
theorem valF_succ {A : List Int} {n : Nat} (h : n < A.length) : valF A (n + 1) = valF A n + A[n] := by
  unfold valF
  rw [List.take_succ_eq_append_getElem h, List.sum_append]
  simp
theorem valF_le {A : List Int} (hA : AOk A) (n : Nat) : 0 ≤ valF A n ∧ valF A n ≤ (n : Int) * 1099511627776 := by
  have h := sumB (A.take n) fun a ha => hA.a a (List.mem_of_mem_take ha)
  have : (A.take n).length ≤ n := by rw [List.length_take]; omega
  unfold valF
  omega
theorem value_spec (ka kc : Option Bool) (A c : List Int) (hka : Enc.Ok ka A) (hkc : Enc.Ok kc c) (hA : AOk A) (hc : c.length ≤ A.length) : pureCall E.P (L E) 18 [intE.o ka A, intE.o kc c] = some (.int .i64 (valF A c.length)) := by
  have h13 := hA.len
  have lc := fun h => Enc.o_len (O := intE) (h := h) hkc
  have ix : ∀ (i : Nat) (hi : i < A.length), indexAddrT (.sl 3 ⟨some false, some 1⟩) (intE.o ka A) (.int .i64 (i : Int)) = some (cptr (.int .i64 A[i])) := fun i hi => Enc.index_o (O := intE) hka hi
  generalize intE.o ka A = VA at *
  generalize intE.o kc c = VC at *
  rw [pureCall_fn F18 rfl]
  simp -implicitDefEqProofs [r18, p18]
  rw [LL_for (γ := Unit) c () (fun i _ => [(5, .int .i64 (valF A i)), (6, .int .i64 i)]) (fun _ _ => []) (fun _ _ _ => (.exit 0, [(5, .int .i64 (valF A c.length)), (6, undef)], [])) (fun _ _ => True) (by omega) trivial]
  · simp -implicitDefEqProofs [k18_3]
  · simp -implicitDefEqProofs [k18_3, valF]
  · rfl
  · intro nx i u hi _
    subst hi
    simp -implicitDefEqProofs [r18_3, k18_3, lc, trim_le]
  · intro nx i v rest u hi hv hd hw _ ih
    have ih := ih () trivial
    have hi' : (i : Int) < (c.length : Int) := by omega
    have hiA : i < A.length := by omega
    have xi := ix i hiA
    have h1 := valF_le hA i
    have h2 := hA.a A[i] (List.getElem_mem hiA)
    have ww : IntKind.i64.wrap (valF A i + A[i]) = valF A (i + 1) := by rw [valF_succ hiA]; exact wrap64 (by omega) (by omega)
    simp -implicitDefEqProofs [k18_3] at ih
    simp -implicitDefEqProofs [r18_3, k18_3, lc, hi', xi, ww, hw, trim_le]
    exact ih
end Go.Proofs.Ytcnafncmfiogcaa.Bm
namespace Go.Proofs.Ytcnafncmfiogcaa.Bm
open Go Go.RowKit
open Rg (Rect areaL)
open Cp (Q Br Acc Nd prQ validQ vis root ended best nameB badP)
def tkA (P : Rooms) : List Int := (P.map fun r => areaL r.2).takeWhile fun a => decide (a ≠ 0)
set_option maxHeartbeats 1000000 in
theorem rareas_spec (x : Bool) (P : Rooms) (hP : RoomsOk P) : pureCall E.P (L E) 20 [roomsV x P] = some (.tuple ⟨areasV (areasF (lists P))⟩) := by
  have ln := fun h => rooms_len h x P
  have ix := rooms_index x P
  have h13 := hP.len
  have hll : (lists P).length = P.length := List.length_map _
  generalize roomsV x P = RV at *
  rw [pureCall_fn F20 rfl]
  unfold areasF
  rw [hll, lists_all, lists_map]
  by_cases h12 : 12 < P.length
  · have h12' : (12 : Int) < P.length := by omega
    have hn : ¬ (P.length ≤ 12 ∧ P.all (fun r => regB r.2) = true) := fun h => by omega
    rw [if_neg hn]
    simp -implicitDefEqProofs [r20, p20, ln, h12', areasV]
  have h12' : ¬ ((12 : Int) < P.length) := by omega
  simp -implicitDefEqProofs [r20, p20, ln, h12']
  rw [LL_for (γ := Unit) P () (fun i _ => [(4, .int .i64 i)]) (fun _ _ => [])
    (fun _ rest _ => if rest.all (fun r => regB r.2) = true then (.exit 0, [(4, undef)], []) else (.ret, [(2, .slice none 0 0), (3, .int .i64 1), (4, undef)], [])) (fun _ _ => True) (by omega) trivial]
  · by_cases ha : P.all (fun r => regB r.2) = true
    · rw [if_pos ha, if_pos ⟨by omega, ha⟩]
      have rp := Enc.reify_sl (O := intE) (P := E.P) (d := 7) (h := [intE.row 3 (tkA P)]) (b := 0) (l := tkA P) rfl sI1 gI1
      have e1 : ((P.map fun r => areaL r.2).takeWhile fun a => !decide (a = 0)) = tkA P := by unfold tkA; simp only [ne_eq, decide_not]
      rw [e1]
      simp -implicitDefEqProofs [k20_4, prep_new, newK_nil sI1]
      rw [LL_for (γ := List Int) P [] (fun i c => [(5, Enc.sl 0 c), (6, .int .i64 i)]) (fun _ c => [intE.row 3 c])
        (fun _ rest c => (.exit 2, [(5, Enc.sl 0 (c ++ tkA rest)), (6, undef)], [intE.row 3 (c ++ tkA rest)])) (fun i c => c.length ≤ i) (by omega) (Nat.le_refl _)]
      · rw [List.nil_append]
        simp -implicitDefEqProofs [k20_10, rp, areasV]
      · simp -implicitDefEqProofs [k20_10]
        rfl
      · rfl
      · intro nx i c hi _
        have e : tkA [] = [] := rfl
        simp -implicitDefEqProofs [r20_10, k20_10, hi, ln, trim_le, e]
      · intro nx i v rest c hi hv hd hw hc ih
        have hi' : (i : Int) < (P.length : Int) := by omega
        have xi := ix i hi
        rw [hv] at xi
        have lv := fun h => rooms_load h v
        have rv := fun h => room_reify h v
        have hvm : v ∈ P := hv ▸ List.getElem_mem hi
        have hg : regB v.2 = true := List.all_eq_true.1 ha v hvm
        have ra := room_rarea v (hP.ok v hvm) (hP.few v hvm) hg
        by_cases hz : areaL v.2 = 0
        · have e : tkA (v :: rest) = [] := by unfold tkA; rw [List.map_cons, List.takeWhile_cons, if_neg (by rw [hz]; simp)]
          rw [e, List.append_nil]
          rw [hz] at ra
          simp -implicitDefEqProofs [r20_10, k20_10, hi', ln, xi, lv, ret0 m49, rv, ra, trim_le]
        · have e : tkA (v :: rest) = areaL v.2 :: tkA rest := by unfold tkA; rw [List.map_cons, List.takeWhile_cons, if_pos (decide_eq_true hz)]
          have ap := Enc.app (O := intE) (m := [areaL v.2]) (el := elInt) (h := [intE.row 3 c]) (lo := 0) (b := 0) (t := 3) (l := c) (u := lst true (intE.vals [areaL v.2])) rfl rfl Enc.cells_tree (Nat.le_refl _) (by show (c.length + 1) * 8 ≤ 2 ^ 47; omega)
          have lt := lit_int [intE.row 3 c] (areaL v.2)
          have ih := ih (c ++ [areaL v.2]) (by rw [List.length_append]; show c.length + 1 ≤ i + 1; omega)
          have e2 : c ++ [areaL v.2] ++ tkA rest = c ++ areaL v.2 :: tkA rest := by simp
          rw [e2] at ih
          rw [e]
          simp -implicitDefEqProofs [k20_10] at ih
          simp -implicitDefEqProofs [r20_10, k20_10, hi', ln, xi, lv, ret0 m49, rv, ra, hz, lt, ap, hw, trim_le]
          exact ih
    · rw [if_neg ha, if_neg fun h => ha h.2]
      simp -implicitDefEqProofs [k20_4, areasV]
  · simp -implicitDefEqProofs [k20_4]
  · rfl
  · intro nx i c hi _
    simp -implicitDefEqProofs [r20_4, k20_4, hi, ln, trim_le]
  · intro nx i v rest c hi hv hd hw hc ih
    have hi' : (i : Int) < (P.length : Int) := by omega
    have ih := ih () trivial
    have xi := ix i hi
    rw [hv] at xi
    have lv := fun h => rooms_load h v
    have rv := fun h => room_reify h v
    have hvm : v ∈ P := hv ▸ List.getElem_mem hi
    have rr := room_rright v (hP.ok v hvm) (hP.few v hvm)
    rw [List.all_cons]
    simp -implicitDefEqProofs [k20_4, -List.all_eq_true] at ih
    cases hg : regB v.2
    · rw [hg] at rr
      simp -implicitDefEqProofs [r20_4, k20_4, hi', ln, xi, lv, ret0 m48, rv, rr, trim_le]
    · rw [hg] at rr
      rw [Bool.true_and]
      simp -implicitDefEqProofs [r20_4, k20_4, hi', ln, xi, lv, ret0 m48, rv, rr, hw, trim_le, -List.all_eq_true]
      exact ih
theorem bad_or (p : Int × Int) : badP p = (decide (p.1 < 0) || (decide (5 < p.1) || (decide (p.2 < 0) || decide (5 < p.2)))) := by
  unfold badP
  rw [Bool.eq_iff_iff]
  simp only [Bool.or_eq_true, decide_eq_true_eq]
  omega
set_option maxHeartbeats 1000000 in
theorem rvalid_spec (p : Pb) (hp : PbOk p) : pureCall E.P (L E) 16 [p.val] = some (.bool (validQ p.q)) := by
  have l0 := pb_ld p 0 _ rfl
  have l1 := pb_ld p 1 _ rfl
  have l2 := pb_ld p 2 _ rfl
  have l3 := pb_ld p 3 _ rfl
  have n1 := fun h => Rec.o_len (R := entR) (h := h) hp.kl
  have n3 := fun h => Rec.o_len (R := pairR) (h := h) hp.kn
  have ix := fun (i : Nat) (hi : i < p.never.length) => Rec.o_index (R := pairR) (s := 2) (t := 61) (kk := .i64) rfl hp.kn hi
  have nn := hp.nn
  have e : validQ p.q = (decide (0 ≤ p.uses) && (decide (p.uses ≤ 63) && (decide (0 ≤ p.most) && (decide (p.left.length ≤ 30) && (decide (p.never.length ≤ 36) && !p.never.any badP))))) := rfl
  rw [e]
  rw [pureCall_fn F16 rfl]
  unfold Pb.val
  by_cases q1 : p.uses < 0
  · have : ¬ 0 ≤ p.uses := by omega
    simp -implicitDefEqProofs [r16, p16, l0, q1, this]
  have q1' : 0 ≤ p.uses := by omega
  by_cases q2 : 63 < p.uses
  · have : ¬ p.uses ≤ 63 := by omega
    simp -implicitDefEqProofs [r16, p16, l0, q1, q2, this]
  have q2' : p.uses ≤ 63 := by omega
  by_cases q3 : p.most < 0
  · have : ¬ 0 ≤ p.most := by omega
    simp -implicitDefEqProofs [r16, p16, l0, l2, q1, q2, q3, this]
  have q3' : 0 ≤ p.most := by omega
  by_cases q4 : (30 : Int) < p.left.length
  · have : ¬ p.left.length ≤ 30 := by omega
    simp -implicitDefEqProofs [r16, p16, l0, l1, l2, n1, q1, q2, q3, q4, this]
  have q4' : p.left.length ≤ 30 := by omega
  by_cases q5 : (36 : Int) < p.never.length
  · have : ¬ p.never.length ≤ 36 := by omega
    simp -implicitDefEqProofs [r16, p16, l0, l1, l2, l3, n1, n3, q1, q2, q3, q4, q5, this]
  have q5' : p.never.length ≤ 36 := by omega
  rw [decide_eq_true q1', decide_eq_true q2', decide_eq_true q3', decide_eq_true q4', decide_eq_true q5']
  simp -implicitDefEqProofs [r16, p16, l0, l1, l2, l3, n1, n3, q1, q2, q3, q4, q5]
  rw [LL_for (γ := Unit) p.never () (fun i _ => [(3, .int .i64 i)]) (fun _ _ => [.cells 26 p.cells 0]) (fun _ rest _ => if rest.any badP = true then (.ret, [(2, .bool false), (3, undef)], [.cells 26 p.cells 0]) else (.exit 0, [(3, undef)], [.cells 26 p.cells 0])) (fun _ _ => True) (by omega) trivial]
  · cases ha : p.never.any badP
    · simp -implicitDefEqProofs [k16_4]
    · simp -implicitDefEqProofs [k16_4]
  · simp -implicitDefEqProofs [k16_4]
  · rfl
  · intro nx i c hi _
    simp -implicitDefEqProofs [r16_4, k16_4, l3, n3, hi, trim_le]
  · intro nx i v rest c hi hv hd hw _ ih
    have hi' : (i : Int) < (p.never.length : Int) := by omega
    have ih := ih () trivial
    have xi := ix i hi
    rw [hv, pair_val] at xi
    have a0 : ∀ a b : Int, indexAddrT (.arr 2 ⟨some false, some 1⟩) (cptr (.agg ⟨[.int .i64 a, .int .i64 b]⟩)) (.int .i64 0) = some (cptr (.int .i64 a)) := fun a b => rfl
    have a1 : ∀ a b : Int, indexAddrT (.arr 2 ⟨some false, some 1⟩) (cptr (.agg ⟨[.int .i64 a, .int .i64 b]⟩)) (.int .i64 1) = some (cptr (.int .i64 b)) := fun a b => rfl
    have w0 : IntKind.i64.wrap (0 + 1) = 1 := rfl
    have w1 : IntKind.i64.wrap (1 + 1) = 2 := rfl
    have w1' : IntKind.i64.wrap 1 = 1 := rfl
    have w2' : IntKind.i64.wrap 2 = 2 := rfl
    have ea : (v :: rest).any badP = (badP v || rest.any badP) := rfl
    rw [ea, bad_or]
    simp -implicitDefEqProofs [k16_4] at ih
    simp -implicitDefEqProofs [r16_4, k16_4, l3, n3, hi']
    rw [LL_go]
    by_cases k1 : v.1 < 0
    · simp -implicitDefEqProofs [r16_7, k16_7, k16_4, l3, xi, a0, k1, trim_le]
    by_cases k2 : 5 < v.1
    · simp -implicitDefEqProofs [r16_7, k16_7, k16_4, l3, xi, a0, k1, k2, trim_le]
    simp -implicitDefEqProofs [r16_7, k16_7, k16_4, l3, xi, a0, k1, k2, w1', trim_le]
    rw [LL_go]
    by_cases k3 : v.2 < 0
    · simp -implicitDefEqProofs [r16_7, k16_7, k16_4, l3, xi, a1, k3, trim_le]
    by_cases k4 : 5 < v.2
    · simp -implicitDefEqProofs [r16_7, k16_7, k16_4, l3, xi, a1, k3, k4, trim_le]
    simp -implicitDefEqProofs [r16_7, k16_7, k16_4, l3, xi, a1, k3, k4, w2', trim_le]
    rw [LL_go]
    simp -implicitDefEqProofs [r16_7, k16_7, k16_4, hw, trim_le]
    rw [decide_eq_false k1, decide_eq_false k2, decide_eq_false k3, decide_eq_false k4]
    exact ih
end Go.Proofs.Ytcnafncmfiogcaa.Bm
namespace Go.Proofs.Ytcnafncmfiogcaa.Cp
def goS (q : Q) : Option Int → List Int → List Int → List Int → Bool × List Int
  | _, S, _, [] => (true, S)
  | _, S, [], _ :: _ => (false, S)
  | prev, S, a :: A, u :: c => if mayQ q prev u = true then
      (if leftOk q u (S.getD u.toNat 0 + a) = true then goS q (some u) (S.set u.toNat (S.getD u.toNat 0 + a)) A c else (false, S.set u.toNat (S.getD u.toNat 0 + a)))
    else (false, S)
theorem goS_nil (q : Q) (p : Option Int) (S A : List Int) : goS q p S A [] = (true, S) := by cases A <;> rfl
theorem goS_cons (q : Q) (p : Option Int) (S A c : List Int) (a u : Int) : goS q p S (a :: A) (u :: c) = if mayQ q p u = true then
      (if leftOk q u (S.getD u.toNat 0 + a) = true then goS q (some u) (S.set u.toNat (S.getD u.toNat 0 + a)) A c else (false, S.set u.toNat (S.getD u.toNat 0 + a)))
    else (false, S) := rfl
theorem goS_go (q : Q) : ∀ (c A S : List Int) (p : Option Int) (f : Int → Int), S.length = 6 → (∀ u, 0 ≤ u → u < 6 → f u = S.getD u.toNat 0) → (goS q p S A c).1 = goR q p f A c
  | [], A, S, p, f, _, _ => by rw [goS_nil, go_nil]
  | _ :: _, [], _, _, _, _, _ => rfl
  | u :: c, a :: A, S, p, f, hS, hf => by
    rw [goS_cons]
    show _ = (mayQ q p u && (leftOk q u (f u + a) && goR q (some u) (fun w => if w = u then f u + a else f w) A c))
    cases hm : mayQ q p u
    · rfl
    · have hu := may_ge hm
      have e := hf u hu.1 hu.2
      rw [if_pos rfl, Bool.true_and, e]
      cases hl : leftOk q u (S.getD u.toNat 0 + a)
      · rfl
      · rw [if_pos rfl, Bool.true_and]
        refine goS_go q c A _ (some u) _ (by rw [List.length_set]; exact hS) fun w h0 h6 => ?_
        show (if w = u then S.getD u.toNat 0 + a else f w) = _
        by_cases hw : w = u
        · subst hw
          rw [if_pos rfl]
          simp only [List.getD_eq_getElem?_getD, List.getElem?_set_self (show w.toNat < S.length by omega), Option.getD_some]
        · rw [if_neg hw, hf w h0 h6]
          simp only [List.getD_eq_getElem?_getD]
          rw [List.getElem?_set_ne (by omega)]
end Go.Proofs.Ytcnafncmfiogcaa.Cp
