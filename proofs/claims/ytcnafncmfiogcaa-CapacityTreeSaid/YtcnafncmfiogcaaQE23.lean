/-
  Chapter 25, plain: the tree of the search, read with a stack of how many children are still to come. Conditions: none. No program in sight.
-/
import Derived.Test.YtcnafncmfiogcaaQE22
import Derived.Test.YtcnafncmfiogcaaQE14
import Derived.Test.YtcnafncmfiogcaaQE15
import Derived.Test.YtcnafncmfiogcaaRows
import Derived.Test.YtcnafncmfiogcaaQE18
namespace Go.Proofs.Ytcnafncmfiogcaa.Bm
open Go Go.RowKit
open Rg (Rect)
open Cp (Br)
theorem okE : OkProg E.P := okProg_of (by kernel_rfl) (by kernel_rfl)
theorem laidE : laidOutB E.P = true := by kernel_rfl
theorem mapsE : mapsRowed E.P = true := by kernel_rfl
noncomputable def tlE : List TypeId := closeT E.P 8 [22, 26, 29, 33, 5, 44, 3]
theorem closedE : closedT E.P tlE = true := by kernel_rfl
theorem in22 : 22 ∈ tlE := List.contains_iff_mem.1 (by kernel_rfl)
theorem in26 : 26 ∈ tlE := List.contains_iff_mem.1 (by kernel_rfl)
theorem ui : E.P.underlying 3 = some (.int .i64) := by kernel_rfl
theorem u4 : E.P.underlying 4 = some .bool := by kernel_rfl
theorem uSt : E.P.underlying 9 = some .string := by kernel_rfl
theorem uRs : E.P.underlying 62 = some (.slice 93) := by kernel_rfl
theorem uRss : E.P.underlying 22 = some (.slice 62) := by kernel_rfl
theorem uEs : E.P.underlying 23 = some (.slice 60) := by kernel_rfl
theorem uPs : E.P.underlying 24 = some (.slice 61) := by kernel_rfl
theorem uPa : E.P.underlying 61 = some (.array 2 3) := by kernel_rfl
theorem fR : fsOf E.P 93 = some [(0, 3), (1, 3), (2, 3), (3, 3)] := by kernel_rfl
theorem fEn : fsOf E.P 60 = some [(0, 9), (1, 3)] := by kernel_rfl
theorem fPb : fsOf E.P 26 = some [(0, 3), (1, 23), (2, 3), (3, 24)] := by kernel_rfl
theorem nR : E.P.cellsOf 93 = 4 := by kernel_rfl
theorem nEn : E.P.cellsOf 60 = 2 := by kernel_rfl
theorem nPa : E.P.cellsOf 61 = 2 := by kernel_rfl
theorem nPb : E.P.cellsOf 26 = 4 := by kernel_rfl
theorem nEs : E.P.cellsOf 23 = 1 := by kernel_rfl
theorem nPs : E.P.cellsOf 24 = 1 := by kernel_rfl
theorem ni : E.P.cellsOf 3 = 1 := by kernel_rfl
theorem nS : E.P.cellsOf 9 = 1 := by kernel_rfl
theorem gR : aggT E.P 93 = some true := by kernel_rfl
theorem gRs : aggT E.P 62 = some false := by kernel_rfl
theorem gRss : aggT E.P 22 = some false := by kernel_rfl
theorem gEn : aggT E.P 60 = some true := by kernel_rfl
theorem gPa : aggT E.P 61 = some true := by kernel_rfl
theorem gPb : aggT E.P 26 = some true := by kernel_rfl
def i64ok (z : Int) : Prop := -9223372036854775808 ≤ z ∧ z ≤ 9223372036854775807
theorem wt_array {n m : Nat} {t e : TypeId} {c : List Value} (hu : E.P.underlying t = some (.array m e)) (h : Wt E.P n t c) : c.length = E.P.cellsOf t ∧ ∀ i, i < m → ∃ k, Wt E.P k e ((c.drop (i * E.P.cellsOf e)).take (E.P.cellsOf e)) := by
  cases n with
  | zero => exact h.elim
  | succ n =>
    unfold Wt at h; rw [hu] at h
    exact ⟨h.1, fun i hi => ⟨n, h.2 i hi⟩⟩
theorem rect_of {n : Nat} {c : List Value} (h : Wt E.P n 93 c) : ∃ r : Rect, c = rectR.enc r := by
  obtain ⟨hl, hf⟩ := wt_struct fR h
  rw [nR] at hl
  obtain ⟨a0, c, rfl⟩ := List.exists_cons_of_length_eq_add_one hl; have hl := Nat.succ.inj hl
  obtain ⟨a1, c, rfl⟩ := List.exists_cons_of_length_eq_add_one hl; have hl := Nat.succ.inj hl
  obtain ⟨a2, c, rfl⟩ := List.exists_cons_of_length_eq_add_one hl; have hl := Nat.succ.inj hl
  obtain ⟨a3, c, rfl⟩ := List.exists_cons_of_length_eq_add_one hl; have hl := Nat.succ.inj hl
  obtain rfl := List.eq_nil_of_length_eq_zero hl
  obtain ⟨m0, q0⟩ := hf (0, 3) (by simp)
  replace q0 : Wt E.P m0 3 [a0] := by simpa [ni] using q0
  obtain ⟨m1, q1⟩ := hf (1, 3) (by simp)
  replace q1 : Wt E.P m1 3 [a1] := by simpa [ni] using q1
  obtain ⟨m2, q2⟩ := hf (2, 3) (by simp)
  replace q2 : Wt E.P m2 3 [a2] := by simpa [ni] using q2
  obtain ⟨m3, q3⟩ := hf (3, 3) (by simp)
  replace q3 : Wt E.P m3 3 [a3] := by simpa [ni] using q3
  obtain ⟨z0, e, _⟩ := wt_int ui q0; obtain rfl := List.singleton_inj.1 e
  obtain ⟨z1, e, _⟩ := wt_int ui q1; obtain rfl := List.singleton_inj.1 e
  obtain ⟨z2, e, _⟩ := wt_int ui q2; obtain rfl := List.singleton_inj.1 e
  obtain ⟨z3, e, _⟩ := wt_int ui q3; obtain rfl := List.singleton_inj.1 e
  exact ⟨⟨z0, z1, z2, z3⟩, rfl⟩
theorem en_of {n : Nat} {c : List Value} (h : Wt E.P n 60 c) : ∃ b : ByteArray × Int, c = entR.enc b := by
  obtain ⟨hl, hf⟩ := wt_struct fEn h
  rw [nEn] at hl
  obtain ⟨a0, c, rfl⟩ := List.exists_cons_of_length_eq_add_one hl; have hl := Nat.succ.inj hl
  obtain ⟨a1, c, rfl⟩ := List.exists_cons_of_length_eq_add_one hl; have hl := Nat.succ.inj hl
  obtain rfl := List.eq_nil_of_length_eq_zero hl
  obtain ⟨m0, q0⟩ := hf (0, 9) (by simp)
  replace q0 : Wt E.P m0 9 [a0] := by simpa [nS] using q0
  obtain ⟨m1, q1⟩ := hf (1, 3) (by simp)
  replace q1 : Wt E.P m1 3 [a1] := by simpa [ni] using q1
  obtain ⟨z0, e, _⟩ := wt_str uSt q0; obtain rfl := List.singleton_inj.1 e
  obtain ⟨z1, e, _⟩ := wt_int ui q1; obtain rfl := List.singleton_inj.1 e
  exact ⟨(z0, z1), rfl⟩
theorem pa_of {n : Nat} {c : List Value} (h : Wt E.P n 61 c) : ∃ b : Int × Int, c = pairR.enc b := by
  obtain ⟨hl, hf⟩ := wt_array uPa h
  rw [nPa] at hl
  obtain ⟨a0, c, rfl⟩ := List.exists_cons_of_length_eq_add_one hl; have hl := Nat.succ.inj hl
  obtain ⟨a1, c, rfl⟩ := List.exists_cons_of_length_eq_add_one hl; have hl := Nat.succ.inj hl
  obtain rfl := List.eq_nil_of_length_eq_zero hl
  obtain ⟨m0, q0⟩ := hf 0 (by decide)
  replace q0 : Wt E.P m0 3 [a0] := by simpa [ni] using q0
  obtain ⟨m1, q1⟩ := hf 1 (by decide)
  replace q1 : Wt E.P m1 3 [a1] := by simpa [ni] using q1
  obtain ⟨z0, e, _⟩ := wt_int ui q0; obtain rfl := List.singleton_inj.1 e
  obtain ⟨z1, e, _⟩ := wt_int ui q1; obtain rfl := List.singleton_inj.1 e
  exact ⟨(z0, z1), rfl⟩
theorem recs_of {α : Type} (R : Rec α) {Q : α → Prop} {n : Nat} {t e : TypeId} {c : List Value} (hu : E.P.underlying t = some (.slice e)) (ge : aggT E.P e = some true) (hb : ∀ (m : Nat) (x : List Value), Wt E.P m e x → ∃ a, x = R.enc a ∧ Q a) (h : Wt E.P n t c) : ∃ l : List α, c = [lst false (R.vals l)] ∧ l.length ≤ maxLen ∧ ∀ a ∈ l, Q a := by
  obtain ⟨ls, rfl, h2, h3⟩ := wt_slice hu h
  obtain ⟨rs, rfl, k2⟩ := choose_list (cells := R.enc) (Q := Q) ls fun x hx => by
    obtain ⟨m, hm⟩ := h3 x hx
    exact hb m x hm
  refine ⟨rs, ?_, by simpa using h2, k2⟩
  have e : ∀ l : List α, (l.map R.enc).map (elemV E.P e) = R.vals l := by
    intro l
    induction l with
    | nil => rfl
    | cons r l ih =>
      rw [List.map_cons, List.map_cons, ih]
      unfold elemV
      rw [if_pos ge]
      rfl
  rw [e]
theorem roomsV_of {n : Nat} {c : List Value} (h : Wt E.P n 22 c) : ∃ P : Rooms, elemV E.P 22 c = roomsV false P ∧ P.length ≤ maxLen ∧ ∀ r ∈ P, Rec.Ok r.1 r.2 ∧ r.2.length ≤ maxLen := by
  obtain ⟨ls, rfl, h2, h3⟩ := wt_slice uRss h
  obtain ⟨rs, rfl, k2⟩ := choose_list (α := List Rect) (cells := fun l => [lst false (rectR.vals l)]) (Q := fun l => l.length ≤ maxLen) ls fun x hx => by
    obtain ⟨m, hm⟩ := h3 x hx
    obtain ⟨l, e, h1, _⟩ := recs_of rectR (Q := fun _ => True) uRs gR (fun m x hx => (rect_of hx).imp fun a h => ⟨h, trivial⟩) hm
    exact ⟨l, e, h1⟩
  refine ⟨rs.map fun l => (some false, l), ?_, by simpa using h2, fun r hr => ?_⟩
  · have e : ∀ l : List (List Rect), (l.map fun l => [lst false (rectR.vals l)]).map (elemV E.P 62) = (l.map fun l => ((some false, l) : Option Bool × List Rect)).map roomR := by
      intro l
      induction l with
      | nil => rfl
      | cons r l ih =>
        rw [List.map_cons, List.map_cons, ih, List.map_cons, List.map_cons]
        simp [elemV, gRs]; rfl
    rw [e]
    unfold elemV roomsV
    rw [gRss]; rfl
  · obtain ⟨l, hl, rfl⟩ := List.mem_map.1 hr
    exact ⟨Rec.ok_some, k2 l hl⟩
theorem pbV {n : Nat} {c : List Value} (h : Wt E.P n 26 c) : ∃ p : Pb, elemV E.P 26 c = p.val ∧ Rec.Ok p.kl p.left ∧ Rec.Ok p.kn p.never ∧ i64ok p.uses ∧ i64ok p.most ∧ p.left.length ≤ maxLen ∧ p.never.length ≤ maxLen ∧ p.kl = some false ∧ p.kn = some false := by
  obtain ⟨hl, hf⟩ := wt_struct fPb h
  rw [nPb] at hl
  obtain ⟨a0, c, rfl⟩ := List.exists_cons_of_length_eq_add_one hl; have hl := Nat.succ.inj hl
  obtain ⟨a1, c, rfl⟩ := List.exists_cons_of_length_eq_add_one hl; have hl := Nat.succ.inj hl
  obtain ⟨a2, c, rfl⟩ := List.exists_cons_of_length_eq_add_one hl; have hl := Nat.succ.inj hl
  obtain ⟨a3, c, rfl⟩ := List.exists_cons_of_length_eq_add_one hl; have hl := Nat.succ.inj hl
  obtain rfl := List.eq_nil_of_length_eq_zero hl
  obtain ⟨m0, q0⟩ := hf (0, 3) (by simp)
  replace q0 : Wt E.P m0 3 [a0] := by simpa [ni] using q0
  obtain ⟨m1, q1⟩ := hf (1, 23) (by simp)
  replace q1 : Wt E.P m1 23 [a1] := by simpa [nEs] using q1
  obtain ⟨m2, q2⟩ := hf (2, 3) (by simp)
  replace q2 : Wt E.P m2 3 [a2] := by simpa [ni] using q2
  obtain ⟨m3, q3⟩ := hf (3, 24) (by simp)
  replace q3 : Wt E.P m3 24 [a3] := by simpa [nPs] using q3
  obtain ⟨z0, e, h0⟩ := wt_int ui q0; obtain rfl := List.singleton_inj.1 e
  obtain ⟨l1, e, h1, _⟩ := recs_of entR (Q := fun _ => True) uEs gEn (fun m x hx => (en_of hx).imp fun a h => ⟨h, trivial⟩) q1; obtain rfl := List.singleton_inj.1 e
  obtain ⟨z2, e, h2⟩ := wt_int ui q2; obtain rfl := List.singleton_inj.1 e
  obtain ⟨l3, e, h3, _⟩ := recs_of pairR (Q := fun _ => True) uPs gPa (fun m x hx => (pa_of hx).imp fun a h => ⟨h, trivial⟩) q3; obtain rfl := List.singleton_inj.1 e
  exact ⟨⟨z0, some false, l1, z2, some false, l3⟩, by simp [elemV, gPb]; rfl, Rec.ok_some, Rec.ok_some, i64_wf h0, i64_wf h2, h1, h3, rfl, rfl⟩
theorem orcE : OrcSound E := by
  have h00 : ∀ f, E0.orc f = none := fun _ => rfl
  have key : ∀ g k, E.orc g = some k → (∃ F N, k = inG F N ∧ SortCon E.P g F N) ∨ (∃ q m F, k = inC q m F ∧ CellCon E.P g q m F) ∨ (k = cloG E0 g ∧ CloCon E.P g) := fun g k h => by
    rw [E_orc] at h
    by_cases h0 : g = 70
    · subst h0; simp only [if_true, Option.some.injEq] at h; exact .inr (.inr ⟨h.symm, conClo⟩)
    · by_cases h1 : g = 86
      · subst h1; simp only [h0, if_false, if_true, Option.some.injEq] at h; exact .inl ⟨_, _, h.symm, conSort⟩
      · by_cases h2 : g = 87
        · subst h2; simp only [h0, h1, if_false, if_true, Option.some.injEq] at h; exact .inl ⟨_, _, h.symm, conComp⟩
        · by_cases h3 : g = 96
          · subst h3; simp only [h0, h1, h2, if_false, if_true, Option.some.injEq] at h; exact .inr (.inl ⟨_, _, _, h.symm, conSpan⟩)
          · simp only [h0, h1, h2, h3, if_false] at h; cases h
  refine ⟨fun g k hg args h lo r _ => ?_, fun g k hg args h lo v h' hr hlo B M w args' hs hv => ?_, fun g k hg args h lo v h' hr hlo => ?_⟩
  · rcases key g k hg with ⟨F, N, _, hC⟩ | ⟨q, m, F, _, hC⟩ | ⟨_, hC⟩
    · exact hC.dfd
    · exact hC.dfd
    · exact hC.dfd
  · rcases key g k hg with ⟨F, N, rfl, hC⟩ | ⟨q, m, F, rfl, hC⟩ | ⟨rfl, hC⟩
    · exact in_sound hC hr hlo args' hs hv
    · exact inC_sound hC hr hlo args' hs hv
    · exact cloG_sound (E₀ := E0) okE rfl rfl h00 hC hr hlo args' hs hv
  · rcases key g k hg with ⟨F, N, rfl, _⟩ | ⟨q, m, F, rfl, _⟩ | ⟨rfl, _⟩
    · exact inG_keep hr
    · exact inC_keep hr
    · exact cloG_keep h00 hr hlo
end Go.Proofs.Ytcnafncmfiogcaa.Bm
namespace Go.Proofs.Ytcnafncmfiogcaa.Bm
open Go Go.RowKit
open Rg (Rect areaL)
def areasV (o : Option (List Int)) : List Value := match o with
  | none => [.slice none 0 0, .int .i64 1]
  | some A => [lst false (intE.vals A), .int .i64 0]
def goodA (P : Rooms) : List Int := (P.takeWhile fun r => regB r.2).map fun r => areaL r.2
theorem goodA_all {P : Rooms} (h : P.all (fun r => regB r.2) = true) : goodA P = P.map fun r => areaL r.2 := by
  unfold goodA
  congr 1
  induction P with
  | nil => rfl
  | cons r P ih =>
    rw [List.all_cons, Bool.and_eq_true] at h
    rw [List.takeWhile_cons, if_pos h.1, ih h.2]
theorem lists_all (P : Rooms) : (lists P).all regB = P.all (fun r => regB r.2) := by unfold lists; rw [List.all_map]; rfl
theorem lists_map (P : Rooms) : (lists P).map areaL = P.map fun r => areaL r.2 := by unfold lists; rw [List.map_map]; rfl
set_option maxHeartbeats 1000000 in
theorem areas_spec (x : Bool) (P : Rooms) (hP : RoomsOk P) : pureCall E.P (L E) 14 [roomsV x P] = some (.tuple ⟨areasV (areasF (lists P))⟩) := by
  have ln := fun h => rooms_len h x P
  have ix := rooms_index x P
  have h13 := hP.len
  have hll : (lists P).length = P.length := List.length_map _
  generalize roomsV x P = RV at *
  rw [pureCall_fn F14 rfl]
  unfold areasF
  rw [hll, lists_all, lists_map]
  by_cases h12 : 12 < P.length
  · have h12' : (12 : Int) < P.length := by omega
    have hn : ¬ (P.length ≤ 12 ∧ P.all (fun r => regB r.2) = true) := fun h => by omega
    rw [if_neg hn]
    simp -implicitDefEqProofs [r14, p14, ln, h12', areasV]
  have h12' : ¬ ((12 : Int) < P.length) := by omega
  simp -implicitDefEqProofs [r14, p14, ln, h12', prep_new, newK_nil sI1]
  rw [LL_for (γ := List Int) P [] (fun i c => [(4, Enc.sl 0 c), (13, .int .i64 i)]) (fun _ c => [intE.row 3 c])
    (fun _ rest c => if rest.all (fun r => regB r.2) = true then (.exit 0, [(4, Enc.sl 0 (c ++ goodA rest)), (13, undef)], [intE.row 3 (c ++ goodA rest)]) else (.ret, [(2, .slice none 0 0), (3, .int .i64 1), (4, Enc.sl 0 (c ++ goodA rest)), (13, undef)], [intE.row 3 (c ++ goodA rest)])) (fun i c => c.length = i) (by omega) rfl]
  · by_cases ha : P.all (fun r => regB r.2) = true
    · rw [if_pos ha, if_pos ⟨by omega, ha⟩, goodA_all ha, List.nil_append]
      have hidx := index_ints (some false) (P.map fun r => areaL r.2) 0 Enc.ok_some (by rw [List.length_map]; omega)
      have it := idx_take (P.map fun r => areaL r.2) 0 (Int.le_refl _)
      simp only [ne_eq, decide_not] at it
      have hr : ∀ h, h = [intE.row 3 (P.map fun r => areaL r.2)] → reify E.P 8 h (Enc.sl 0 (P.map fun r => areaL r.2)) = some (intE.o (some false) (P.map fun r => areaL r.2)) := fun h hh => by
        subst hh; exact Enc.reify_sl (O := intE) (b := 0) rfl sI1 gI1
      have hr := hr _ rfl
      have hrp := fun (n : Nat) (hn : n ≤ (P.map fun r => areaL r.2).length) => Enc.reify_part (O := intE) (P := E.P) (d := 7) (h := [intE.row 3 (P.map fun r => areaL r.2)]) (b := 0) (n := n) rfl hn sI1 gI1
      have hpt := fun (n : Nat) (hn : n ≤ (P.map fun r => areaL r.2).length) => Enc.part_take (O := intE) (h := [intE.row 3 (P.map fun r => areaL r.2)]) (b := 0) (n := (P.map fun r => areaL r.2).length) (m := n) (g := some false) (e := 3) (k := .i64) rfl hn
      generalize (P.map fun r => areaL r.2) = AL at *
      generalize hz : idxB (fun a => decide ((0 : Int) = a)) AL 0 = z at *
      by_cases hz1 : z = -1
      · have e := it.1 hz1
        have hneg : ¬ ((0 : Int) ≤ z) := by omega
        have hr2 : reify E.P 8 [intE.row 3 AL] (Enc.sl 0 AL) = some (lst false (intE.vals AL)) := hr
        rw [e]
        simp -implicitDefEqProofs [k14_5, ret0 m40, hr, hidx, hneg, areasV]
        rfl
      · obtain ⟨z1, z2, z3⟩ := it.2 hz1
        have ez : z = ((z.toNat : Nat) : Int) := by omega
        rw [Int.sub_zero] at z2 z3
        have hr2 := hrp z.toNat z3
        have hp2 := hpt z.toNat z3
        rw [z2] at hr2
        have hp2 : sliceT (.sl 3 ⟨some false, some 1⟩) [intE.row 3 AL] (Enc.sl 0 AL) none (some (.int .i64 z)) none = some (Enc.part 0 z.toNat AL) := by rw [ez]; exact hp2
        simp -implicitDefEqProofs [k14_5, ret0 m40, hr, hidx, z1, hp2, hr2, areasV]
    · rw [if_neg ha, if_neg fun h => ha h.2]
      simp -implicitDefEqProofs [k14_5, areasV]
  · simp -implicitDefEqProofs [k14_5]
    rfl
  · rfl
  · intro nx i c hi _
    have e : goodA [] = [] := rfl
    simp -implicitDefEqProofs [r14_5, k14_5, hi, trim_le, e]
  · intro nx i v rest c hi hv hd hw hc ih
    have hi' : (i : Int) < (P.length : Int) := by omega
    have xi := ix i hi
    rw [hv] at xi
    have lv := fun h => rooms_load h v
    have rv := fun h => room_reify h v
    have hvm : v ∈ P := hv ▸ List.getElem_mem hi
    have rr := room_right v (hP.ok v hvm) (hP.few v hvm)
    rw [List.all_cons]
    cases hg : regB v.2
    · have e : goodA (v :: rest) = [] := by unfold goodA; rw [List.takeWhile_cons, if_neg (by rw [hg]; simp)]; rfl
      rw [hg] at rr
      simp -implicitDefEqProofs [r14_5, k14_5, hi', xi, lv, ret0 m38, rv, rr, trim_le, e]
    · have e : goodA (v :: rest) = areaL v.2 :: goodA rest := by unfold goodA; rw [List.takeWhile_cons, if_pos hg]; rfl
      have ra := room_area v (hP.ok v hvm) (hP.few v hvm) hg
      rw [hg] at rr
      have ap := Enc.app (O := intE) (m := [areaL v.2]) (el := elInt) (h := [intE.row 3 c]) (lo := 0) (b := 0) (t := 3) (l := c) (u := lst true (intE.vals [areaL v.2])) rfl rfl Enc.cells_tree (Nat.le_refl _) (by show (c.length + 1) * 8 ≤ 2 ^ 47; omega)
      have lt := lit_int [intE.row 3 c] (areaL v.2)
      have ih := ih (c ++ [areaL v.2]) (by rw [List.length_append, hc]; rfl)
      have e2 : c ++ [areaL v.2] ++ goodA rest = c ++ areaL v.2 :: goodA rest := by simp
      rw [e2] at ih
      rw [e, Bool.true_and]
      simp -implicitDefEqProofs [k14_5] at ih
      simp -implicitDefEqProofs [r14_5, k14_5, hi', xi, lv, ret0 m38, ret0 m39, rv, rr, ra, lt, ap, hw, trim_le]
      exact ih
theorem areas_call (x : Bool) (P : Rooms) (hP : RoomsOk P) (h : Heap) : retCall E (L E) 0 false 14 [roomsV x P] h = some (.tuple ⟨areasV (areasF (lists P))⟩, h) := by
  have fz : freezeV E.P depth 0 h (roomsV x P) = some (roomsV x P, h) := frz_set8 rfl rfl
  have e : frzAll E.P 0 [roomsV x P] h = some ([roomsV x P], h) := by
    unfold frzAll
    simp only [List.foldlM_cons, List.foldlM_nil, fz]
    rfl
  rw [ret4 m14, e, Option.bind_some, areas_spec x P hP]; rfl
end Go.Proofs.Ytcnafncmfiogcaa.Bm
namespace Go.Proofs.Ytcnafncmfiogcaa.Bm
open Go Go.RowKit
open Rg (Rect areaL)
open Cp (Q Br Acc Nd prQ validQ vis root ended best)
theorem validQ_most {q : Q} (h : validQ q = true) : 0 ≤ q.most := (Cp.validQ_iff.1 h).2.2.1
theorem root_sr (p : Pb) (hp : PbOk p) (hv : validQ p.q = true) (A : List Int) : Sr A (limL p.q) (root (prQ p.q) A) := by
  have hm := validQ_most hv
  refine ⟨limN_len _ _, fun u hu => ?_, fun x hx => ?_, rfl, Nat.zero_le _, Int.le_refl _, ?_⟩
  · have h6 : u < 6 := by have := limN_len p.q 6; unfold limL at hu; omega
    have e : (limL p.q)[u] = Cp.limQ p.q (u : Int) := (limN_get p.q 6 u hu).trans (if_pos h6)
    exact e.symm
  · obtain ⟨i, hi, rfl⟩ := List.mem_map.1 hx
    have h6 : i < 6 := List.mem_range.1 hi
    rw [if_pos h6]
    have h1 := Cp.fold_hi (i : Int) p.q.left p.q.most (by omega)
    have h2 : p.q.most ≤ 9223372036854775807 := hp.m.2
    unfold Cp.limQ
    omega
  · show (0 : Int) ≤ ((0 : Nat) : Int) * _
    simp
def bestV (k : Option Bool) (o : Option (Int × List Int × List Br)) : List Value := match o with
  | none => [.slice none 0 0, .int .i64 0, .slice none 0 0, .int .i64 6]
  | some r => [intE.o k r.2.1, .int .i64 r.1, lst false (brR.vals r.2.2), .int .i64 0]
theorem sB2 : szOf E.P 41 = some 2 := by kernel_rfl
theorem aB2 : aggT E.P 41 = some true := by kernel_rfl
set_option maxHeartbeats 1000000 in
theorem best_ok (x : Bool) (P : Rooms) (hP : RoomsOk P) (p : Pb) (hp : PbOk p) (A : List Int) (hA : areasF (lists P) = some A) (hv : validQ p.q = true) :
    ∃ k, (∀ r, best (prQ p.q) A = some r → Enc.Ok k r.2.1) ∧ pureCall E.P (L E) 15 [roomsV x P, p.val] = some (.tuple ⟨bestV k (best (prQ p.q) A)⟩) := by
  have ar := areas_call x P hP
  have sr : settled depth (roomsV x P) = true := rfl
  rw [hA] at ar
  have vs := valid_spec p hp
  rw [hv] at vs
  have rp := p.reify
  obtain ⟨ha1, ha2⟩ := areas_told hA
  have hAok : AOk A := ⟨by omega, fun a ha => by have := ha2 a ha; omega⟩
  have bs := begin_spec p hp (some false) A
  have ps := p.set
  have hroot := root_sr p hp hv A
  let H0 : Heap := [.cells 26 p.cells 0, .cells 29 [intE.o (some false) A] 0, .cells 33 [brR.sl 7 []] 0, .cells 29 [.slice none 0 0] 0, .cells 29 [.slice none 0 0] 0, .cells 3 [.int .i64 (-1)] 0, .cells 67 [visF] 0, brR.row 41 []]
  have C0 : Cs p (some false) A H0 ⟨-1, [], []⟩ [] none := ⟨by simp [H0], rfl, rfl, rfl, ⟨none, Enc.ok_nil, rfl⟩, ⟨_, rfl, .inl ⟨rfl, rfl, rfl⟩⟩, rfl, rfl, rfl⟩
  have V : ∀ n, VisN p false A n := by
    intro n
    induction n with
    | zero => exact vis_all p hp hv false A hAok 0 fun m hm => by omega
    | succ n ih => exact vis_all p hp hv false A hAok (n + 1) fun m hm => (show n = m by omega) ▸ ih
  obtain ⟨h', r1, ob', C1, _⟩ := V A.length (root (prQ p.q) A) (limL p.q) ⟨-1, [], []⟩ H0 none rfl hroot C0 (by decide) (fun b hb => by cases hb)
  have bv := Cp.best_vis (prQ p.q) A
  generalize vis (prQ p.q) A.length (root (prQ p.q) A) ⟨-1, [], []⟩ = a at *
  have C2 := C1.trim 8 [.tuple #[]] (by decide)
  have rc : retCall E (L E) 0 false 42 [stV (intE.o (some false) A) p (limL p.q) 0, cAt 5 0, cAt 4 0, cAt 3 0, cAt 1 0, cAt 2 0, cAt 0 0, cAt 6 0] H0 = some (.tuple #[], trim 8 [.tuple #[]] h') := by
    have r2 : L E 42 [stV (intE.o (some false) A) p (limL p.q) 0, cAt 5 0, cAt 4 0, cAt 3 0, cAt 1 0, cAt 2 0, cAt 0 0, cAt 6 0] H0 0 = _ := r1
    rw [ret3t m42, r2]; rfl
  generalize trim 8 [.tuple #[]] h' = h at *
  obtain ⟨kb, hkb, lbe⟩ := C2.be
  have l3 : loadT ⟨some false, some 1⟩ h (.pointer (some ⟨3, 0, none⟩)) = some (intE.o kb a.best) := obj_load (b := 3) (j := 0) lbe rfl
  have l5 : loadT ⟨some false, some 1⟩ h (.pointer (some ⟨5, 0, none⟩)) = some (.int .i64 a.val) := obj_load (b := 5) (j := 0) C2.va rfl
  have l2 : loadT ⟨some false, some 1⟩ h (.pointer (some ⟨2, 0, none⟩)) = some (brR.sl 7 a.tree) := obj_load (b := 2) (j := 0) C2.tr rfl
  have ll := Rec.sl_len (R := brR) (h := h) (b := 7) (l := a.tree)
  have rt := Rec.reify_row (R := brR) (P := E.P) (n := 7) C2.row sB2 aB2
  have rb : reify E.P 8 h (intE.o kb a.best) = some (intE.o kb a.best) := Enc.o_reify
  refine ⟨kb, fun r hr => ?_, ?_⟩
  · rw [← bv] at hr
    unfold ended at hr
    split at hr
    · cases hr
    · have := Option.some.inj hr
      subst this; exact hkb
  rw [pureCall_fn F15 rfl]
  unfold areasV at ar
  have pe : p.val = .agg ⟨p.cells⟩ := rfl
  have lp : ∀ t, loadT ⟨some true, some 4⟩ (AObj.cells 26 p.cells 0 :: t) (.pointer (some ⟨0, 0, none⟩)) = some (.agg ⟨p.cells⟩) := fun t => obj_all (b := 0) rfl rfl
  rw [pe]
  have vs : pureCall E.P (L E) 41 [.agg ⟨p.cells⟩] = some (.bool true) := vs
  have rcp : ∀ h, reifyC E.P 7 h p.cells = some p.cells := fun h => reifyC_set (pb_all p)
  have ps7 : settled depth (.agg ⟨p.cells⟩) = true := ps
  have sa : settled depth (lst false (intE.vals A)) = true := rfl
  have bs : pureCall E.P (L E) 45 [lst false (intE.vals A), .agg ⟨p.cells⟩] = some (.agg ⟨stC (intE.o (some false) A) p (limL p.q) 0⟩) := bs
  have rc : retCall E (L E) 0 false 42 [.agg ⟨stC (intE.o (some false) A) p (limL p.q) 0⟩, .pointer (some ⟨5, 0, none⟩), .pointer (some ⟨4, 0, none⟩), .pointer (some ⟨3, 0, none⟩), .pointer (some ⟨1, 0, none⟩), .pointer (some ⟨2, 0, none⟩), .pointer (some ⟨0, 0, none⟩), .pointer (some ⟨6, 0, none⟩)]
      [.cells 26 p.cells 0, .cells 29 [lst false (intE.vals A)] 0, .cells 33 [.slice (some ⟨7, 0, some 0⟩) 0 0] 0, .cells 29 [.slice none 0 0] 0, .cells 29 [.slice none 0 0] 0, .cells 3 [.int .i64 (-1)] 0, .cells 67 [.func (.func 42) ⟨[]⟩ ⟨[.pointer (some ⟨5, 0, none⟩), .pointer (some ⟨4, 0, none⟩), .pointer (some ⟨3, 0, none⟩), .pointer (some ⟨1, 0, none⟩), .pointer (some ⟨2, 0, none⟩), .pointer (some ⟨0, 0, none⟩), .pointer (some ⟨6, 0, none⟩)]⟩] 0, .cells 41 [] 2] = some (.tuple #[], h) := rc
  have l0 : loadT ⟨some true, some 4⟩ h (.pointer (some ⟨0, 0, none⟩)) = some (.agg ⟨p.cells⟩) := obj_all (b := 0) C2.pr rfl
  have fnil : flat .nilFunc = true := rfl
  have cnil : cellsOf .nilFunc = some [.nilFunc] := rfl
  rw [← bv]
  unfold ended
  by_cases h4 : 4000 < a.tree.length
  · have h4' : (4000 : Int) < a.tree.length := by omega
    rw [if_pos h4]
    simp -implicitDefEqProofs [r15, p15, ar, lp, ret0 m41, rcp, vs, prep_newc, newcK, sB2, isNil, ret1 m45, ps7, sa, bs, rc, fnil, cnil, l2, ll, h4', bestV]
  · have h4' : ¬ ((4000 : Int) < a.tree.length) := by omega
    rw [if_neg h4]
    simp -implicitDefEqProofs [r15, p15, ar, lp, ret0 m41, rcp, vs, prep_newc, newcK, sB2, isNil, ret1 m45, ps7, sa, bs, rc, fnil, cnil, l2, l3, l5, ll, h4', rt, rb, bestV]
end Go.Proofs.Ytcnafncmfiogcaa.Bm
namespace Go.Proofs.Ytcnafncmfiogcaa.Bm
open Go Go.RowKit
open Rg (Rect areaL)
open Cp (Q Br Acc Nd prQ validQ vis root ended best nameB badP)
theorem best_bad (x : Bool) (P : Rooms) (hP : RoomsOk P) (p : Pb) (hp : PbOk p) (h : areasF (lists P) = none ∨ validQ p.q = false) :
    pureCall E.P (L E) 15 [roomsV x P, p.val] = some (.tuple ⟨[.slice none 0 0, .int .i64 0, .slice none 0 0, .int .i64 1]⟩) := by
  have ar := areas_call x P hP
  have sr : settled depth (roomsV x P) = true := rfl
  have vs := valid_spec p hp
  have rcp : ∀ h, reifyC E.P 7 h p.cells = some p.cells := fun h => reifyC_set (pb_all p)
  have pe : p.val = .agg ⟨p.cells⟩ := rfl
  have lp : ∀ t, loadT ⟨some true, some 4⟩ (AObj.cells 26 p.cells 0 :: t) (.pointer (some ⟨0, 0, none⟩)) = some (.agg ⟨p.cells⟩) := fun t => obj_all (b := 0) rfl rfl
  rw [pureCall_fn F15 rfl, pe]
  cases ha : areasF (lists P) with
  | none =>
    rw [ha] at ar
    unfold areasV at ar
    simp -implicitDefEqProofs [r15, p15, ar]
  | some A =>
    rw [ha] at ar h
    unfold areasV at ar
    have hv : validQ p.q = false := h.resolve_left (by simp)
    rw [hv] at vs
    have vs : pureCall E.P (L E) 41 [.agg ⟨p.cells⟩] = some (.bool false) := vs
    simp -implicitDefEqProofs [r15, p15, ar, lp, ret0 m41, rcp, vs]
theorem few_spec (x : Bool) (P : Rooms) (p : Pb) (kl : Rec.Ok p.kl p.left) (kn : Rec.Ok p.kn p.never) (ok : ∀ r ∈ P, Rec.Ok r.1 r.2) (hl : P.length ≤ maxLen) :
    pureCall E.P (L E) 13 [roomsV x P, p.val] = some (.bool (P.all (fun r => decide (r.2.length ≤ 16)) && (decide (P.length ≤ 13) && (decide (p.left.length ≤ 40) && decide (p.never.length ≤ 40))))) := by
  unfold maxLen at hl
  have ln := fun h => rooms_len h x P
  have ix := rooms_index x P
  have bl : ∀ d n, below (d + 1) n (roomsV x P) = true := fun d n => rfl
  generalize roomsV x P = RV at *
  have l1 := pb_ld p 1 _ rfl
  have l3 := pb_ld p 3 _ rfl
  have n1 := fun h => Rec.o_len (R := entR) (h := h) kl
  have n3 := fun h => Rec.o_len (R := pairR) (h := h) kn
  have pe : p.val = .agg ⟨p.cells⟩ := rfl
  rw [pureCall_fn F13 rfl, pe]
  simp -implicitDefEqProofs [r13, p13]
  rw [LL_for (γ := Unit) P () (fun i _ => [(5, .int .i64 i)]) (fun _ _ => [.cells 26 p.cells 0]) (fun _ rest _ => if rest.all (fun r => decide (r.2.length ≤ 16)) = true then (.exit 0, [(5, undef)], [.cells 26 p.cells 0]) else (.ret, [(4, .bool false), (5, undef)], [.cells 26 p.cells 0])) (fun _ _ => True) (by omega) trivial]
  · cases ha : P.all fun r => decide (r.2.length ≤ 16)
    · simp -implicitDefEqProofs [k13_2, -List.all_eq_true]
    · by_cases q1 : P.length ≤ 13
      · have q1' : (P.length : Int) ≤ 13 := by omega
        by_cases q2 : p.left.length ≤ 40
        · have q2' : (p.left.length : Int) ≤ 40 := by omega
          by_cases q3 : p.never.length ≤ 40
          · have q3' : (p.never.length : Int) ≤ 40 := by omega
            simp -implicitDefEqProofs [k13_2, ln, l1, l3, n1, n3, q1, q1', q2, q2', q3, q3', -List.all_eq_true]
          · have q3' : ¬ (p.never.length : Int) ≤ 40 := by omega
            simp -implicitDefEqProofs [k13_2, ln, l1, l3, n1, n3, q1, q1', q2, q2', q3, q3', -List.all_eq_true]
        · have q2' : ¬ (p.left.length : Int) ≤ 40 := by omega
          simp -implicitDefEqProofs [k13_2, ln, l1, n1, q1, q1', q2, q2', -List.all_eq_true]
      · have q1' : ¬ (P.length : Int) ≤ 13 := by omega
        simp -implicitDefEqProofs [k13_2, ln, q1, q1', -List.all_eq_true]
  · simp -implicitDefEqProofs [k13_2]
  · rfl
  · intro nx i c hi _
    simp -implicitDefEqProofs [r13_2, k13_2, ln, hi, trim_le]
  · intro nx i v rest c hi hv hd hw _ ih
    have hi' : (i : Int) < (P.length : Int) := by omega
    have ih := ih () trivial
    have xi := ix i hi
    rw [hv] at xi
    have lv := fun h => rooms_load h v
    have ll := fun h => Rec.o_len (R := rectR) (h := h) (ok v (hv ▸ List.getElem_mem hi))
    have ll : ∀ h, lenT .sl h (roomR v) = some (.int .i64 v.2.length) := ll
    rw [List.all_cons]
    by_cases q : v.2.length ≤ 16
    · have q' : ¬ ((16 : Int) < v.2.length) := by omega
      rw [decide_eq_true q, Bool.true_and]
      simp -implicitDefEqProofs [k13_2, -List.all_eq_true] at ih
      simp -implicitDefEqProofs [r13_2, k13_2, ln, hi', xi, lv, ll, q', hw, trim_le, -List.all_eq_true]
      exact ih
    · have q' : ((16 : Int) < v.2.length) := by omega
      rw [decide_eq_false q, Bool.false_and]
      simp -implicitDefEqProofs [r13_2, k13_2, ln, hi', xi, lv, ll, q', trim_le, -List.all_eq_true]
def valF (A : List Int) (n : Nat) : Int := (A.take n).sum
end Go.Proofs.Ytcnafncmfiogcaa.Bm
namespace Go.Proofs.Ytcnafncmfiogcaa.Bm
open Go Go.RowKit
open Rg (Rect areaL)
open Cp (Q Br Acc Nd prQ validQ vis root ended best nameB badP)
end Go.Proofs.Ytcnafncmfiogcaa.Bm
namespace Go.Proofs.Ytcnafncmfiogcaa.Cp
def goS (q : Q) : Option Int → List Int → List Int → List Int → Bool × List Int
  | _, S, _, [] => (true, S)
  | _, S, [], _ :: _ => (false, S)
  | prev, S, a :: A, u :: c => if mayQ q prev u = true then
      (if leftOk q u (S.getD u.toNat 0 + a) = true then goS q (some u) (S.set u.toNat (S.getD u.toNat 0 + a)) A c else (false, S.set u.toNat (S.getD u.toNat 0 + a)))
    else (false, S)
end Go.Proofs.Ytcnafncmfiogcaa.Cp
namespace Go.Proofs.Ytcnafncmfiogcaa.Bm
open Go Go.RowKit
open Cp (Q prQ validQ nameB badP hasP mayQ leftOk goS goR fitR inA bitB)
end Go.Proofs.Ytcnafncmfiogcaa.Bm
namespace Go.Proofs.Ytcnafncmfiogcaa.Bm
open Go Go.RowKit
open Cp (Q Nd prQ validQ nameB badP hasP mayQ inA run fits fitS root next)
end Go.Proofs.Ytcnafncmfiogcaa.Bm
namespace Go.Proofs.Ytcnafncmfiogcaa.Bm
open Go Go.RowKit
open Cp (Q Br Acc bump Nd prQ)
def BvOk (h : Heap) (bv : Value) (l : List Int) : Prop := (∃ k, Enc.Ok k l ∧ bv = intE.o k l) ∨ ∃ b, 3 ≤ b ∧ bv = Enc.sl b l ∧ h[b]? = some (intE.row 3 l)
theorem BvOk.app {h : Heap} {bv : Value} {l : List Int} (e : Heap) : BvOk h bv l → BvOk (h ++ e) bv l
  | .inl x => .inl x
  | .inr ⟨b, h1, h2, h3⟩ => .inr ⟨b, h1, h2, ga e h3⟩
theorem BvOk.set {h : Heap} {bv : Value} {l : List Int} {i : Nat} {q : AObj} (hi : i < 3) : BvOk h bv l → BvOk (h.set i q) bv l
  | .inl x => .inl x
  | .inr ⟨b, h1, h2, h3⟩ => .inr ⟨b, h1, h2, gs h3 (by omega)⟩
def seC (p : Pb) (ka : Option Bool) (A : List Int) (bv : Value) (v : Int) (t : List Br) : List Value := intE.o ka A :: (p.cells ++ [bv, .int .i64 v, brR.sl 2 t])
structure Rs (p : Pb) (ka : Option Bool) (A : List Int) (h : Heap) (a : Acc) : Prop where
  len : 3 ≤ h.length
  se : ∃ bv, h[1]? = some (.cells 78 (seC p ka A bv a.val a.tree) 0) ∧ BvOk h bv a.best
  row : h[2]? = some (brR.row 41 a.tree)
section
variable {p : Pb} {ka : Option Bool} {A : List Int} {h : Heap} {a : Acc}
theorem Rs.app (s : Rs p ka A h a) (e : Heap) : Rs p ka A (h ++ e) a := by
  obtain ⟨h0, ⟨bv, h1, h2⟩, h3⟩ := s
  exact ⟨by simp; omega, ⟨bv, ga e h1, h2.app e⟩, ga e h3⟩
theorem Rs.trim (s : Rs p ka A h a) (n : Nat) (vs : List Value) (hn : 3 ≤ n) : Rs p ka A (trim n vs h) a := by
  unfold Bm.trim
  split
  · exact s
  split
  · rename_i hl hc
    rw [Bool.and_eq_true] at hc
    have ht : ∀ {b : Nat} {o : AObj}, b < n → h[b]? = some o → (h.take n)[b]? = some o := fun hb ho => by rw [List.getElem?_take_of_lt hb]; exact ho
    obtain ⟨h0, ⟨bv, h1, h2⟩, h3⟩ := s
    refine ⟨by rw [List.length_take]; omega, ⟨bv, ht (by omega) h1, ?_⟩, ht (by omega) h3⟩
    rcases h2 with x | ⟨b, q1, q2, q3⟩
    · exact .inl x
    · have hm := List.all_eq_true.1 hc.2 _ (List.mem_of_getElem? (ht (by omega) h1))
      have hbn : b < n := by
        rw [q2] at hm
        have hm : (seC p ka A (Enc.sl b a.best) a.val a.tree).all (below 8 n) = true := hm
        have := List.all_eq_true.1 hm (Enc.sl b a.best) (by simp [seC])
        exact of_decide_eq_true this
      exact .inr ⟨b, q1, q2, ht hbn q3⟩
  · exact s
theorem Rs.push (s : Rs p ka A h a) (b : Br) (hl : a.tree.length ≤ 1000000) : ∃ h1, appendT (some elBr) h 0 false (brR.sl 2 a.tree) (lst true [brR.val b]) = some (brR.sl 2 (a.tree ++ [b]), h1) ∧ ∃ h2, storeT (some 1) h1 0 (brR.sl 2 (a.tree ++ [b])) (cAt 1 7) = some h2 ∧ Rs p ka A h2 ⟨a.val, a.best, a.tree ++ [b]⟩ ∧ h.length ≤ h2.length := by
  obtain ⟨h0, ⟨bv, h1, h2⟩, h3⟩ := s
  have ap := Rec.app (R := brR) (m := [b]) (el := elBr) (h := h) (lo := 0) (b := 2) (t := 41) (acc := a.tree) (u := lst true [brR.val b]) rfl h3 (Rec.cells_tree rfl [b]) (Nat.zero_le _) (by show (a.tree.length + 1) * 16 ≤ 2 ^ 47; omega)
  have h1' := gs (q := brR.row 41 (a.tree ++ [b])) h1 (show 2 ≠ 1 by decide)
  exact ⟨_, ap, _, obj_store h1' (by show 7 < 8; decide) (Nat.zero_le _) rfl, ⟨by simpa using h0, ⟨bv, gq (by simp; omega), (h2.set (by decide)).set (by decide)⟩, gs (gq (by omega)) (by decide)⟩, by simp⟩
end
end Go.Proofs.Ytcnafncmfiogcaa.Bm
namespace Go.Proofs.Ytcnafncmfiogcaa.Bm
open Go Go.RowKit
open Cp (Q Br Acc Nd bump prQ mayQ validQ reach enter visR loopR next take us root run fitS fitR inA)
structure Sq (q : Q) (A : List Int) (s : Nd) : Prop where
  run : run (prQ q) (root (prQ q) A) s.c = some s
  us : ∀ u ∈ s.c, 0 ≤ u ∧ u ≤ 5
theorem Sq.told {q : Q} {A : List Int} {s : Nd} (h : Sq q A s) : s.rem = A.drop s.c.length ∧ s.v = valF A s.c.length ∧ s.rem.length + s.c.length = A.length := by
  obtain ⟨h1, h2, h3⟩ := Cp.run_rem h.run
  have e : (root (prQ q) A).rem = A := rfl
  have e2 : (root (prQ q) A).v = 0 := rfl
  rw [e] at h1 h2 h3
  rw [e2, Int.zero_add] at h2
  refine ⟨?_, h2, h3⟩
  have := congrArg (List.drop s.c.length) h1
  rw [List.drop_append_of_le_length (by rw [List.length_take]; omega), List.drop_take, Nat.sub_self, List.take_zero, List.nil_append] at this
  exact this.symm
theorem Sq.next {q : Q} {A : List Int} {s t : Nd} {u : Int} (h : Sq q A s) (hn : next (prQ q) s u = some t) : Sq q A t ∧ t.c = s.c ++ [u] ∧ t.rem.length + 1 = s.rem.length := by
  have h1 := Cp.run_append (prQ q) s.c [u] (root (prQ q) A)
  rw [h.run] at h1
  have h1 : Cp.run (prQ q) (root (prQ q) A) (s.c ++ [u]) = Cp.run (prQ q) s [u] := h1
  rw [Cp.run_cons, hn] at h1
  obtain ⟨a, r, hr, ht, hm, _⟩ := Cp.next_some hn
  have ec : t.c = s.c ++ [u] := by rw [ht]; rfl
  refine ⟨⟨by rw [ec]; exact h1, fun w hw => ?_⟩, ec, Cp.next_rem hn⟩
  rw [ec] at hw
  rcases List.mem_append.1 hw with k | k
  · exact h.us w k
  · rw [List.mem_singleton.1 k]
    have hm : mayQ q s.c.getLast? u = true := hm
    have := Cp.may_ge hm
    omega
end Go.Proofs.Ytcnafncmfiogcaa.Bm
namespace Go.Proofs.Ytcnafncmfiogcaa.Bm
open Go Go.RowKit
open Cp (Q Br Acc Nd bump prQ mayQ validQ reach enter visR loopR next take us root run fitS fitR inA)
theorem trim_len {n : Nat} {vs : List Value} {h : Heap} (hn : n ≤ h.length) : n ≤ (trim n vs h).length := by
  unfold Bm.trim
  split
  · exact hn
  split
  · rw [List.length_take]; omega
  · exact hn
end Go.Proofs.Ytcnafncmfiogcaa.Bm
namespace Go.Proofs.Ytcnafncmfiogcaa.Bm
open Go Go.RowKit
open Rg (Rect areaL)
open Cp (Q Br Acc Nd prQ validQ visR root ended best inA)
theorem BvOk.reify {h : Heap} {bv : Value} {l : List Int} (x : BvOk h bv l) : ∃ k, Enc.Ok k l ∧ reify E.P 8 h bv = some (intE.o k l) := by
  rcases x with ⟨k, hk, rfl⟩ | ⟨b, _, rfl, hb⟩
  · exact ⟨k, hk, Enc.o_reify⟩
  · exact ⟨some false, Enc.ok_some, Enc.reify_sl hb sI1 gI1⟩
end Go.Proofs.Ytcnafncmfiogcaa.Bm
namespace Go.Proofs.Ytcnafncmfiogcaa.Bm
open Go Go.RowKit
open Cp (Q prQ validQ fitR inA us mayQ)
end Go.Proofs.Ytcnafncmfiogcaa.Bm
namespace Go.Proofs.Ytcnafncmfiogcaa.Bm
open Go Go.RowKit
open Rg (Rect)
open Cp (Q Br prQ validQ best)
def rm (n : Int) : Option Bool × List Rect := (some true, [⟨0, 0, n, 1⟩])
def three : Rooms := [rm 10, rm 8, rm 5]
def V3 : Value := lst true [lst true [.agg ⟨[.int .i64 0, .int .i64 0, .int .i64 10, .int .i64 1]⟩], lst true [.agg ⟨[.int .i64 0, .int .i64 0, .int .i64 8, .int .i64 1]⟩], lst true [.agg ⟨[.int .i64 0, .int .i64 0, .int .i64 5, .int .i64 1]⟩]]
theorem three_ok : RoomsOk three := ⟨fun r hr => by
    simp only [three, rm, List.mem_cons, List.not_mem_nil, or_false] at hr
    rcases hr with rfl | rfl | rfl <;> exact Rec.ok_some, fun r hr => by
    simp only [three, rm, List.mem_cons, List.not_mem_nil, or_false] at hr
    rcases hr with rfl | rfl | rfl <;> decide, by decide⟩
theorem three_areas : areasF (lists three) = some [10, 8, 5] := by kernel_rfl
set_option maxRecDepth 100000 in
theorem three_spec : pureCall E.P (L E) 36 [] = some V3 := pureCall_le (evF_L 20) (by kernel_rfl)
set_option maxRecDepth 100000 in
theorem row4_spec : pureCall E.P (L E) 37 [.int .i64 4] = some (lst true [.agg ⟨[.int .i64 0, .int .i64 0, .int .i64 4, .int .i64 1]⟩]) := pureCall_le (evF_L 20) (by kernel_rfl)
def p25a : Pb := ⟨3, none, [], 100, none, []⟩
def p25b : Pb := ⟨3, some true, [(⟨⟨[104, 111, 109, 101]⟩⟩, 12)], 100, some true, [(0, 1)]⟩
def p25c : Pb := ⟨1, none, [], 20, none, []⟩
def p25d : Pb := ⟨3, some true, [(⟨⟨[104, 111, 109, 101]⟩⟩, 9), (⟨⟨[115, 104, 111, 112]⟩⟩, 14)], 100, none, []⟩
theorem p25a_ok : PbOk p25a := ⟨fun _ => rfl, fun _ => rfl, by decide, by decide, by decide, by decide⟩
theorem p25b_ok : PbOk p25b := ⟨Rec.ok_some, Rec.ok_some, by decide, by decide, by decide, by decide⟩
theorem p25c_ok : PbOk p25c := ⟨fun _ => rfl, fun _ => rfl, by decide, by decide, by decide, by decide⟩
theorem p25d_ok : PbOk p25d := ⟨Rec.ok_some, fun _ => rfl, by decide, by decide, by decide, by decide⟩
theorem bs25a : best (prQ p25a.q) [10, 8, 5] = some (23, [0, 0, 0], [⟨2, 23⟩, ⟨2, 23⟩, ⟨2, 23⟩, ⟨0, 23⟩, ⟨0, 23⟩, ⟨0, 23⟩, ⟨0, 23⟩]) := by kernel_rfl
theorem bs25b : best (prQ p25b.q) [10, 8, 5] = some (23, [1, 1, 0], [⟨2, 23⟩, ⟨0, 23⟩, ⟨2, 23⟩, ⟨0, 23⟩, ⟨2, 23⟩, ⟨0, 23⟩, ⟨0, 23⟩]) := by kernel_rfl
theorem bs25c : best (prQ p25c.q) [10, 8, 5] = some (18, [0, 0], [⟨1, 20⟩, ⟨1, 20⟩, ⟨0, 20⟩]) := by kernel_rfl
theorem bs25d : best (prQ p25d.q) [10, 8, 5] = some (18, [1, 0], [⟨1, 23⟩, ⟨1, 23⟩, ⟨0, 23⟩]) := by kernel_rfl
theorem best3 (p : Pb) (hp : PbOk p) (hv : validQ p.q = true) {v : Int} {c : List Int} {t : List Br} (hb : best (prQ p.q) [10, 8, 5] = some (v, c, t)) : ∃ k, Enc.Ok k c ∧ pureCall E.P (L E) 15 [V3, .agg ⟨p.cells⟩] = some (.tuple ⟨[intE.o k c, .int .i64 v, lst false (brR.vals t), .int .i64 0]⟩) := by
  obtain ⟨k, h1, h2⟩ := best_ok true three three_ok p hp [10, 8, 5] three_areas hv
  rw [hb] at h2
  exact ⟨k, h1 _ hb, h2⟩
theorem pb_b2 (a b : Int) : buildT (.fs ⟨[.int .i64 0, .slice none 0 0, .int .i64 0, .slice none 0 0]⟩ ⟨[(0, 1), (1, 1), (2, 1), (3, 1)]⟩) #[(0, .int .i64 a), (2, .int .i64 b)] = some (.agg ⟨[.int .i64 a, .slice none 0 0, .int .i64 b, .slice none 0 0]⟩) := rfl
theorem pb_b3 (a b : Int) (l : List Value) : buildT (.fs ⟨[.int .i64 0, .slice none 0 0, .int .i64 0, .slice none 0 0]⟩ ⟨[(0, 1), (1, 1), (2, 1), (3, 1)]⟩) #[(0, .int .i64 a), (2, .int .i64 b), (1, lst true l)] = some (.agg ⟨[.int .i64 a, lst true l, .int .i64 b, .slice none 0 0]⟩) := rfl
theorem pb_b4 (a b : Int) (l m : List Value) : buildT (.fs ⟨[.int .i64 0, .slice none 0 0, .int .i64 0, .slice none 0 0]⟩ ⟨[(0, 1), (1, 1), (2, 1), (3, 1)]⟩) #[(0, .int .i64 a), (2, .int .i64 b), (1, lst true l), (3, lst true m)] = some (.agg ⟨[.int .i64 a, lst true l, .int .i64 b, lst true m]⟩) := rfl
theorem en_b (a : ByteArray) (b : Int) : buildT (.fs ⟨[.string ⟨⟨[]⟩⟩, .int .i64 0]⟩ ⟨[(0, 1), (1, 1)]⟩) #[(0, .string a), (1, .int .i64 b)] = some (.agg ⟨[.string a, .int .i64 b]⟩) := rfl
theorem sg2 (a b : Int) : settled depth (.agg ⟨[.int .i64 a, .slice none 0 0, .int .i64 b, .slice none 0 0]⟩) = true := rfl
theorem sg3 (a b : Int) (l : List Value) : settled depth (.agg ⟨[.int .i64 a, lst true l, .int .i64 b, .slice none 0 0]⟩) = true := rfl
theorem sg4 (a b : Int) (l m : List Value) : settled depth (.agg ⟨[.int .i64 a, lst true l, .int .i64 b, lst true m]⟩) = true := rfl
theorem lit_e1 (h : Heap) (s : ByteArray) (z : Int) : buildSliceT (some ⟨60, 2, 24, .agg ⟨[.string ⟨⟨[]⟩⟩, .int .i64 0]⟩, ⟨some true, some 2⟩⟩) false h 1 #[(0, .agg ⟨[.string s, .int .i64 z]⟩)] = some (lst true [.agg ⟨[.string s, .int .i64 z]⟩], h) :=
  (build_lit' (n := 1) (l := [(0, .agg ⟨[.string s, .int .i64 z]⟩)]) rfl rfl (by decide) (by decide) (by decide)).trans rfl
theorem lit_e2 (h : Heap) (s t : ByteArray) (z w : Int) : buildSliceT (some ⟨60, 2, 24, .agg ⟨[.string ⟨⟨[]⟩⟩, .int .i64 0]⟩, ⟨some true, some 2⟩⟩) false h 2 #[(0, .agg ⟨[.string s, .int .i64 z]⟩), (1, .agg ⟨[.string t, .int .i64 w]⟩)] = some (lst true [.agg ⟨[.string s, .int .i64 z]⟩, .agg ⟨[.string t, .int .i64 w]⟩], h) :=
  (build_lit' (n := 2) (l := [(0, .agg ⟨[.string s, .int .i64 z]⟩), (1, .agg ⟨[.string t, .int .i64 w]⟩)]) rfl rfl (by decide) (by decide) (by decide)).trans rfl
theorem lit_p1 (h : Heap) (z w : Int) : buildSliceT (some ⟨61, 2, 16, .agg ⟨[.int .i64 0, .int .i64 0]⟩, ⟨some true, some 2⟩⟩) false h 1 #[(0, .agg ⟨[.int .i64 z, .int .i64 w]⟩)] = some (lst true [.agg ⟨[.int .i64 z, .int .i64 w]⟩], h) :=
  (build_lit' (n := 1) (l := [(0, .agg ⟨[.int .i64 z, .int .i64 w]⟩)]) rfl rfl (by decide) (by decide) (by decide)).trans rfl
theorem arr_b (a b : Int) : buildT (.arr ⟨[.int .i64 0, .int .i64 0]⟩ 1) #[(0, .int .i64 a), (1, .int .i64 b)] = some (.agg ⟨[.int .i64 a, .int .i64 b]⟩) := rfl
theorem lit_i3 (h : Heap) (a b c : Int) : buildSliceT (some elInt) false h 3 #[(0, .int .i64 a), (1, .int .i64 b), (2, .int .i64 c)] = some (lst true [.int .i64 a, .int .i64 b, .int .i64 c], h) :=
  (build_lit' (n := 3) (l := [(0, .int .i64 a), (1, .int .i64 b), (2, .int .i64 c)]) rfl rfl (by decide) (by decide) (by decide)).trans rfl
theorem lit_i2 (h : Heap) (a b : Int) : buildSliceT (some elInt) false h 2 #[(0, .int .i64 a), (1, .int .i64 b)] = some (lst true [.int .i64 a, .int .i64 b], h) :=
  (build_lit' (n := 2) (l := [(0, .int .i64 a), (1, .int .i64 b)]) rfl rfl (by decide) (by decide) (by decide)).trans rfl
abbrev R4 : Value := .agg ⟨[.int .i64 0, .int .i64 0, .int .i64 4, .int .i64 1]⟩
abbrev elRs : El := ⟨62, 1, 24, .slice none 0 0, ⟨some false, some 1⟩⟩
theorem lit_r2 (h : Heap) : buildSliceT (some elRs) false h 2 #[(0, .slice none 0 0), (1, lst true [R4])] = some (lst true [.slice none 0 0, lst true [R4]], h) :=
  (build_lit' (n := 2) (l := [(0, .slice none 0 0), (1, lst true [R4])]) rfl rfl (by decide) (by decide) (by decide)).trans rfl
def H5 : AObj := .cells 62 [roomR (rm 10), roomR (rm 8), roomR (rm 5), .slice none 0 0, roomR (rm 4)] 1
theorem app_r2 : appendT (some elRs) [] 0 false V3 (lst true [.slice none 0 0, lst true [R4]]) = some (.slice (some ⟨0, 0, some 5⟩) 5 5, [H5]) := rfl
def five : Rooms := [rm 10, rm 8, rm 5, (none, []), rm 4]
theorem five_ok : RoomsOk five := ⟨fun r hr => by
    simp only [five, rm, List.mem_cons, List.not_mem_nil, or_false] at hr
    rcases hr with rfl | rfl | rfl | rfl | rfl <;> first | exact Rec.ok_some | exact fun _ => rfl, fun r hr => by
    simp only [five, rm, List.mem_cons, List.not_mem_nil, or_false] at hr
    rcases hr with rfl | rfl | rfl | rfl | rfl <;> decide, by decide⟩
theorem five_areas : areasF (lists five) = some [10, 8, 5] := by kernel_rfl
theorem frz5 : frzAll E.P 0 [.slice (some ⟨0, 0, some 5⟩) 5 5] [H5] = some ([roomsV false five], [.dead]) := by kernel_rfl
theorem areas5 : retCall E (L E) 0 false 14 [.slice (some ⟨0, 0, some 5⟩) 5 5] [H5] = some (.tuple ⟨[lst false (intE.vals [10, 8, 5]), .int .i64 0]⟩, [.dead]) := by
  have := areas_spec false five five_ok
  rw [five_areas] at this
  rw [ret4 m14, frz5, Option.bind_some, this]; rfl
theorem ints_of (k : Option Bool) (l : List Int) (hk : Enc.Ok k l) (hl : l.length ≤ 1000000) : pureCall E.P (L E) 21 [intE.o k l, lst true (intE.vals l)] = some (.bool true) := by
  have := ints25 k (some true) l l hk Enc.ok_some hl
  rw [decide_eq_true rfl] at this
  exact this
set_option maxHeartbeats 2000000 in
theorem small25_spec : pureCall E.P (L E) 12 [] = some (.bool true) := by
  obtain ⟨ka, qa, ba⟩ := best3 p25a p25a_ok (by kernel_rfl) bs25a
  obtain ⟨kb, qb, bb⟩ := best3 p25b p25b_ok (by kernel_rfl) bs25b
  obtain ⟨kc, qc, bc⟩ := best3 p25c p25c_ok (by kernel_rfl) bs25c
  obtain ⟨kd, qd, bd⟩ := best3 p25d p25d_ok (by kernel_rfl) bs25d
  have ba : pureCall E.P (L E) 15 [V3, .agg ⟨[.int .i64 3, .slice none 0 0, .int .i64 100, .slice none 0 0]⟩] = _ := ba
  have bb : pureCall E.P (L E) 15 [V3, .agg ⟨[.int .i64 3, lst true [.agg ⟨[.string ⟨⟨[104, 111, 109, 101]⟩⟩, .int .i64 12]⟩], .int .i64 100, lst true [.agg ⟨[.int .i64 0, .int .i64 1]⟩]]⟩] = _ := bb
  have bc : pureCall E.P (L E) 15 [V3, .agg ⟨[.int .i64 1, .slice none 0 0, .int .i64 20, .slice none 0 0]⟩] = _ := bc
  have bd : pureCall E.P (L E) 15 [V3, .agg ⟨[.int .i64 3, lst true [.agg ⟨[.string ⟨⟨[104, 111, 109, 101]⟩⟩, .int .i64 9]⟩, .agg ⟨[.string ⟨⟨[115, 104, 111, 112]⟩⟩, .int .i64 14]⟩], .int .i64 100, .slice none 0 0]⟩] = _ := bd
  have t3 := three_spec
  have rw4 := row4_spec
  have s3 : settled depth V3 = true := rfl
  have b7 : (brR.vals [⟨2, 23⟩, ⟨2, 23⟩, ⟨2, 23⟩, ⟨0, 23⟩, ⟨0, 23⟩, ⟨0, 23⟩, ⟨0, 23⟩]).length = 7 := rfl
  have x7 : indexAddrT (.sl 41 ⟨some true, some 2⟩) (lst false (brR.vals [⟨2, 23⟩, ⟨2, 23⟩, ⟨2, 23⟩, ⟨0, 23⟩, ⟨0, 23⟩, ⟨0, 23⟩, ⟨0, 23⟩])) (.int .i64 0) = some (cptr (.agg ⟨[.int .i64 2, .int .i64 23]⟩)) := rfl
  have l7 : ∀ h, loadT ⟨some true, some 2⟩ h (cptr (.agg ⟨[.int .i64 2, .int .i64 23]⟩)) = some (.agg ⟨[.int .i64 2, .int .i64 23]⟩) := fun _ => rfl
  have bb7 : buildT (.fs ⟨[.int .i64 0, .int .i64 0]⟩ ⟨[(0, 1), (1, 1)]⟩) #[(0, .int .i64 2), (1, .int .i64 23)] = some (.agg ⟨[.int .i64 2, .int .i64 23]⟩) := rfl
  have s4 : settled depth (.int .i64 4) = true := rfl
  have ia : pureCall E.P (L E) 21 [intE.o ka [0, 0, 0], lst true [.int .i64 0, .int .i64 0, .int .i64 0]] = _ := ints_of ka [0, 0, 0] qa (by decide)
  have ib : pureCall E.P (L E) 21 [intE.o kb [1, 1, 0], lst true [.int .i64 1, .int .i64 1, .int .i64 0]] = _ := ints_of kb [1, 1, 0] qb (by decide)
  have ic : pureCall E.P (L E) 21 [intE.o kc [0, 0], lst true [.int .i64 0, .int .i64 0]] = _ := ints_of kc [0, 0] qc (by decide)
  have id : pureCall E.P (L E) 21 [intE.o kd [1, 0], lst true [.int .i64 1, .int .i64 0]] = _ := ints_of kd [1, 0] qd (by decide)
  have i5 : pureCall E.P (L E) 21 [lst false (intE.vals [10, 8, 5]), lst true [.int .i64 10, .int .i64 8, .int .i64 5]] = _ := ints_of (some false) [10, 8, 5] Enc.ok_some (by decide)
  have ra : ∀ h, reify E.P 8 h (intE.o ka [0, 0, 0]) = some (intE.o ka [0, 0, 0]) := fun h => Enc.o_reify
  have rb : ∀ h, reify E.P 8 h (intE.o kb [1, 1, 0]) = some (intE.o kb [1, 1, 0]) := fun h => Enc.o_reify
  have rc : ∀ h, reify E.P 8 h (intE.o kc [0, 0]) = some (intE.o kc [0, 0]) := fun h => Enc.o_reify
  have rd : ∀ h, reify E.P 8 h (intE.o kd [1, 0]) = some (intE.o kd [1, 0]) := fun h => Enc.o_reify
  have beq : aBin E.P .eql 41 (.agg ⟨[.int .i64 2, .int .i64 23]⟩) (.agg ⟨[.int .i64 2, .int .i64 23]⟩) = some (.bool true) := by kernel_rfl
  rw [pureCall_fn F12 rfl]
  simp -implicitDefEqProofs [r12, p12, ret1 m36, t3, ret1 m37, rw4, ret1 m15, s3, s4, pb_b2, pb_b3, pb_b4, en_b, sg2, sg3, sg4, lit_e1, lit_e2, lit_p1, arr_b, ba, bb, bc, bd, lit_i3, lit_i2, lit_r2, app_r2, areas5, ret0 m21, ia, ib, ic, id, i5, ra, rb, rc, rd, beq, b7, x7, l7, bb7]
end Go.Proofs.Ytcnafncmfiogcaa.Bm
namespace Go.Proofs.Ytcnafncmfiogcaa.Bm
open Go Go.RowKit
open Rg (Rect)
open Cp (Q Br Nd VB prQ validQ best sr kidsU conts us inA)
structure Args (P : Rooms) (p : Pb) : Prop where
  ok : ∀ r ∈ P, Rec.Ok r.1 r.2
  len : P.length ≤ maxLen
  kl : Rec.Ok p.kl p.left
  kn : Rec.Ok p.kn p.never
  u : -9223372036854775808 ≤ p.uses ∧ p.uses ≤ 9223372036854775807
  m : -9223372036854775808 ≤ p.most ∧ p.most ≤ 9223372036854775807
def fewB (P : Rooms) (p : Pb) : Bool := P.all (fun r => decide (r.2.length ≤ 16)) && (decide (P.length ≤ 13) && (decide (p.left.length ≤ 40) && decide (p.never.length ≤ 40)))
theorem Args.few {P : Rooms} {p : Pb} (a : Args P p) (x : Bool) : pureCall E.P (L E) 13 [roomsV x P, .agg ⟨p.cells⟩] = some (.bool (fewB P p)) := few_spec x P p a.kl a.kn a.ok a.len
theorem Args.get {P : Rooms} {p : Pb} (a : Args P p) (h : fewB P p = true) : RoomsOk P ∧ PbOk p := by
  unfold fewB at h
  simp only [Bool.and_eq_true, decide_eq_true_eq, List.all_eq_true] at h
  exact ⟨⟨a.ok, h.1, h.2.1⟩, ⟨a.kl, a.kn, a.u, a.m, h.2.2.1, h.2.2.2⟩⟩
theorem rooms_reify (x : Bool) (P : Rooms) (h : Heap) : reify E.P 8 h (roomsV x P) = some (roomsV x P) := by unfold roomsV; rfl
end Go.Proofs.Ytcnafncmfiogcaa.Bm
namespace Go.Proofs.Ytcnafncmfiogcaa.Bm
open Go Go.RowKit
open Rg (Rect)
open Cp (Q Br prQ validQ best fitS fitR)
end Go.Proofs.Ytcnafncmfiogcaa.Bm
namespace Go.Proofs.Ytcnafncmfiogcaa.Cp
def stepK : List Int → Int → Option (List Int)
  | [], _ => none
  | c :: st, k => if c = 0 then stepK st k else some (k :: (c - 1) :: st)
def runK : List Int → List Br → Option (List Int)
  | S, [] => some S
  | S, b :: l => match stepK S b.kids with | none => none | some S' => runK S' l
def Zs (z : List Int) : Prop := ∀ x ∈ z, x = 0
theorem step_zeros {c : Int} (st : List Int) (k : Int) (hc : c ≠ 0) : ∀ (z : List Int), Zs z → stepK (z ++ c :: st) k = some (k :: (c - 1) :: st)
  | [], _ => if_neg hc
  | x :: z, h => by
    have hx := h x List.mem_cons_self
    show stepK (x :: (z ++ c :: st)) k = _
    unfold stepK
    rw [if_pos hx]
    exact step_zeros st k hc z fun y hy => h y (List.mem_cons_of_mem x hy)
theorem runK_app : ∀ (l m : List Br) (S : List Int), runK S (l ++ m) = (runK S l).bind fun S' => runK S' m
  | [], m, S => rfl
  | b :: l, m, S => by
    show (match stepK S b.kids with | none => none | some S' => runK S' (l ++ m)) = _
    rw [show runK S (b :: l) = match stepK S b.kids with | none => none | some S' => runK S' l from rfl]
    cases stepK S b.kids with
    | none => rfl
    | some S' => exact runK_app l m S'
theorem runK_cons (S : List Int) (b : Br) (l : List Br) : runK S (b :: l) = match stepK S b.kids with | none => none | some S' => runK S' l := rfl
theorem zs_app {z : List Int} (h : Zs z) : Zs (z ++ [0]) := fun x hx => by
  rcases List.mem_append.1 hx with k | k
  · exact h x k
  · exact List.mem_singleton.1 k
def Reads1 (f : Nd → VB → VB × List Br) : Prop := ∀ (s : Nd) (a : VB) (z : List Int) (c : Int) (st : List Int), Zs z → 0 ≤ c → ∃ z', Zs z' ∧ runK (z ++ (c + 1) :: st) (f s a).2 = some (z' ++ c :: st)
theorem kidsU_stack {f : Nd → VB → VB × List Br} (h : Reads1 f) : ∀ (ts : List Nd) (a : VB) (z : List Int) (st : List Int), Zs z → ∃ z', Zs z' ∧ runK (z ++ (ts.length : Int) :: st) (kidsU f ts a).2 = some (z' ++ 0 :: st)
  | [], a, z, st, hz => ⟨z, hz, rfl⟩
  | t :: ts, a, z, st, hz => by
    unfold kidsU
    obtain ⟨z1, h1, h2⟩ := h t a z (ts.length : Int) st hz (by omega)
    obtain ⟨z2, h3, h4⟩ := kidsU_stack h ts (f t a).1 z1 st h1
    refine ⟨z2, h3, ?_⟩
    have e : (((t :: ts).length : Nat) : Int) = (ts.length : Int) + 1 := by simp
    show runK _ ((f t a).2 ++ (kidsU f ts (f t a).1).2) = _
    rw [runK_app, e, h2, Option.bind_some, h4]
theorem sr_stack (P : Pr) : ∀ n, Reads1 (sr P n)
  | 0 => fun s a z c st hz hc => by
    refine ⟨[0], fun x hx => List.mem_singleton.1 hx, ?_⟩
    show runK _ [⟨0, reach P s⟩] = _
    rw [runK_cons, step_zeros st 0 (by omega) z hz, Int.add_sub_cancel]; rfl
  | n + 1 => fun s a z c st hz hc => by
    by_cases q : (upd s a).1 < reach P s
    · rw [sr_pos P n s a q]
      obtain ⟨z1, h1, h2⟩ := kidsU_stack (sr_stack P n) (conts P s) (upd s a) [] (c :: st) fun x hx => by cases hx
      refine ⟨z1 ++ [0], zs_app h1, ?_⟩
      show runK _ (⟨((conts P s).length : Int), reach P s⟩ :: (kidsU (sr P n) (conts P s) (upd s a)).2) = _
      rw [runK_cons, step_zeros st _ (by omega) z hz, Int.add_sub_cancel]
      rw [List.append_assoc]
      exact h2
    · rw [sr_neg P n s a q]
      refine ⟨[0], fun x hx => List.mem_singleton.1 hx, ?_⟩
      show runK _ [⟨0, reach P s⟩] = _
      rw [runK_cons, step_zeros st 0 (by omega) z hz, Int.add_sub_cancel]; rfl
def Even (B : Int) (l : List Br) : Prop := ∀ b ∈ l, b.bound = B ∧ 0 ≤ b.kids ∧ b.kids ≤ 6
theorem kidsU_even {P : Pr} {f : Nd → VB → VB × List Br} (h : ∀ s a, Even (reach P s) (f s a).2) {B : Int} : ∀ (ts : List Nd) (a : VB), (∀ t ∈ ts, reach P t = B) → Even B (kidsU f ts a).2
  | [], a, _ => fun b hb => by cases hb
  | t :: ts, a, ht => fun b hb => by
    have hb : b ∈ (f t a).2 ++ (kidsU f ts (f t a).1).2 := hb
    rcases List.mem_append.1 hb with k | k
    · have := h t a b k
      rw [ht t List.mem_cons_self] at this
      exact this
    · exact kidsU_even h ts _ (fun x hx => ht x (List.mem_cons_of_mem t hx)) b k
theorem conts_six (P : Pr) (s : Nd) : (conts P s).length ≤ 6 := List.length_filterMap_le _ _
theorem sr_even (P : Pr) : ∀ (n : Nat) (s : Nd) (a : VB), Even (reach P s) (sr P n s a).2
  | 0, s, a => fun b hb => by
    have hb : b ∈ [(⟨0, reach P s⟩ : Br)] := hb
    rw [List.mem_singleton.1 hb]
    exact ⟨rfl, Int.le_refl _, (by decide : (0 : Int) ≤ 6)⟩
  | n + 1, s, a => fun b hb => by
    by_cases q : (upd s a).1 < reach P s
    · rw [sr_pos P n s a q] at hb
      rcases List.mem_cons.1 hb with rfl | hb
      · have := conts_six P s
        exact ⟨rfl, by show (0 : Int) ≤ ((conts P s).length : Int); omega, by show ((conts P s).length : Int) ≤ 6; omega⟩
      · refine kidsU_even (P := P) (sr_even P n) (conts P s) (upd s a) (fun t ht => ?_) b hb
        obtain ⟨u, hu⟩ := conts_mem ht
        exact next_reach hu
    · rw [sr_neg P n s a q] at hb
      rw [List.mem_singleton.1 hb]
      exact ⟨rfl, Int.le_refl _, (by decide : (0 : Int) ≤ 6)⟩
theorem sr_some (P : Pr) (n : Nat) (s : Nd) (a : VB) : ∃ b l, (sr P n s a).2 = b :: l := by
  cases n with
  | zero => exact ⟨_, _, rfl⟩
  | succ n =>
    by_cases q : (upd s a).1 < reach P s
    · rw [sr_pos P n s a q]; exact ⟨_, _, rfl⟩
    · rw [sr_neg P n s a q]; exact ⟨_, _, rfl⟩
theorem best_tree {P : Pr} (hP : OnlyUs P) {A : List Int} (hA : ∀ a ∈ A, 0 ≤ a) (hm : 0 ≤ P.most) {n : Int} {b : List Int} {l : List Br} (h : best P A = some (n, b, l)) :
    l ≠ [] ∧ Even (reach P (root P A)) l ∧ 0 ≤ n ∧ n ≤ reach P (root P A) ∧ ∃ z, Zs z ∧ runK [1] l = some (z ++ [0]) := by
  obtain ⟨_, he⟩ := best_sr h
  have e : l = (sr P A.length (root P A) (-1, [])).2 := by rw [he]
  obtain ⟨⟨t, h1, h2⟩, h3, _⟩ := best_told hP hA hm h
  have g := root_good hA hm
  refine ⟨?_, by rw [e]; exact sr_even P _ _ _, h3 [] _ rfl, by rw [← h2]; exact run_le g h1, ?_⟩
  · obtain ⟨x, m, hx⟩ := sr_some P A.length (root P A) (-1, [])
    rw [e, hx]; exact List.cons_ne_nil _ _
  · obtain ⟨z, h4, h5⟩ := sr_stack P A.length (root P A) (-1, []) [] 0 [] (fun x hx => by cases hx) (Int.le_refl _)
    exact ⟨z, h4, by rw [e]; exact h5⟩
end Go.Proofs.Ytcnafncmfiogcaa.Cp
