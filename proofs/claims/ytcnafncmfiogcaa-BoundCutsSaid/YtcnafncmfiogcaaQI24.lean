/-
  Chapter 25: whether there is a better choice, walked. Conditions: lists that are not too long.
-/
import Derived.Test.YtcnafncmfiogcaaQI23
import Derived.Test.YtcnafncmfiogcaaQI14
import Derived.Test.YtcnafncmfiogcaaQI15
import Derived.Test.YtcnafncmfiogcaaRows
import Derived.Test.YtcnafncmfiogcaaQI19
namespace Go.Proofs.Ytcnafncmfiogcaa.Bm
open Go Go.RowKit
open Rg (Rect)
open Cp (Br)
theorem okE : OkProg E.P := okProg_of (by kernel_rfl) (by kernel_rfl)
theorem laidE : laidOutB E.P = true := by kernel_rfl
theorem mapsE : mapsRowed E.P = true := by kernel_rfl
noncomputable def tlE : List TypeId := closeT E.P 8 [22, 26, 29, 33, 5, 44, 3]
theorem closedE : closedT E.P tlE = true := by kernel_rfl
theorem in22 : 22 ∈ tlE := List.contains_iff_mem.1 (by kernel_rfl)
theorem in26 : 26 ∈ tlE := List.contains_iff_mem.1 (by kernel_rfl)
theorem in3 : 3 ∈ tlE := List.contains_iff_mem.1 (by kernel_rfl)
theorem ui : E.P.underlying 3 = some (.int .i64) := by kernel_rfl
theorem u4 : E.P.underlying 4 = some .bool := by kernel_rfl
theorem uSt : E.P.underlying 9 = some .string := by kernel_rfl
theorem uRs : E.P.underlying 62 = some (.slice 93) := by kernel_rfl
theorem uRss : E.P.underlying 22 = some (.slice 62) := by kernel_rfl
theorem uEs : E.P.underlying 23 = some (.slice 60) := by kernel_rfl
theorem uPs : E.P.underlying 24 = some (.slice 61) := by kernel_rfl
theorem uPa : E.P.underlying 61 = some (.array 2 3) := by kernel_rfl
theorem fR : fsOf E.P 93 = some [(0, 3), (1, 3), (2, 3), (3, 3)] := by kernel_rfl
theorem fEn : fsOf E.P 60 = some [(0, 9), (1, 3)] := by kernel_rfl
theorem fPb : fsOf E.P 26 = some [(0, 3), (1, 23), (2, 3), (3, 24)] := by kernel_rfl
theorem nR : E.P.cellsOf 93 = 4 := by kernel_rfl
theorem nEn : E.P.cellsOf 60 = 2 := by kernel_rfl
theorem nPa : E.P.cellsOf 61 = 2 := by kernel_rfl
theorem nPb : E.P.cellsOf 26 = 4 := by kernel_rfl
theorem nEs : E.P.cellsOf 23 = 1 := by kernel_rfl
theorem nPs : E.P.cellsOf 24 = 1 := by kernel_rfl
theorem ni : E.P.cellsOf 3 = 1 := by kernel_rfl
theorem nS : E.P.cellsOf 9 = 1 := by kernel_rfl
theorem gR : aggT E.P 93 = some true := by kernel_rfl
theorem gRs : aggT E.P 62 = some false := by kernel_rfl
theorem gRss : aggT E.P 22 = some false := by kernel_rfl
theorem gEn : aggT E.P 60 = some true := by kernel_rfl
theorem gPa : aggT E.P 61 = some true := by kernel_rfl
theorem gPb : aggT E.P 26 = some true := by kernel_rfl
theorem gi : aggT E.P 3 = some false := by kernel_rfl
def i64ok (z : Int) : Prop := -9223372036854775808 ≤ z ∧ z ≤ 9223372036854775807
theorem wt_array {n m : Nat} {t e : TypeId} {c : List Value} (hu : E.P.underlying t = some (.array m e)) (h : Wt E.P n t c) : c.length = E.P.cellsOf t ∧ ∀ i, i < m → ∃ k, Wt E.P k e ((c.drop (i * E.P.cellsOf e)).take (E.P.cellsOf e)) := by
  cases n with
  | zero => exact h.elim
  | succ n =>
    unfold Wt at h; rw [hu] at h
    exact ⟨h.1, fun i hi => ⟨n, h.2 i hi⟩⟩
theorem rect_of {n : Nat} {c : List Value} (h : Wt E.P n 93 c) : ∃ r : Rect, c = rectR.enc r := by
  obtain ⟨hl, hf⟩ := wt_struct fR h
  rw [nR] at hl
  obtain ⟨a0, c, rfl⟩ := List.exists_cons_of_length_eq_add_one hl; have hl := Nat.succ.inj hl
  obtain ⟨a1, c, rfl⟩ := List.exists_cons_of_length_eq_add_one hl; have hl := Nat.succ.inj hl
  obtain ⟨a2, c, rfl⟩ := List.exists_cons_of_length_eq_add_one hl; have hl := Nat.succ.inj hl
  obtain ⟨a3, c, rfl⟩ := List.exists_cons_of_length_eq_add_one hl; have hl := Nat.succ.inj hl
  obtain rfl := List.eq_nil_of_length_eq_zero hl
  obtain ⟨m0, q0⟩ := hf (0, 3) (by simp)
  replace q0 : Wt E.P m0 3 [a0] := by simpa [ni] using q0
  obtain ⟨m1, q1⟩ := hf (1, 3) (by simp)
  replace q1 : Wt E.P m1 3 [a1] := by simpa [ni] using q1
  obtain ⟨m2, q2⟩ := hf (2, 3) (by simp)
  replace q2 : Wt E.P m2 3 [a2] := by simpa [ni] using q2
  obtain ⟨m3, q3⟩ := hf (3, 3) (by simp)
  replace q3 : Wt E.P m3 3 [a3] := by simpa [ni] using q3
  obtain ⟨z0, e, _⟩ := wt_int ui q0; obtain rfl := List.singleton_inj.1 e
  obtain ⟨z1, e, _⟩ := wt_int ui q1; obtain rfl := List.singleton_inj.1 e
  obtain ⟨z2, e, _⟩ := wt_int ui q2; obtain rfl := List.singleton_inj.1 e
  obtain ⟨z3, e, _⟩ := wt_int ui q3; obtain rfl := List.singleton_inj.1 e
  exact ⟨⟨z0, z1, z2, z3⟩, rfl⟩
theorem en_of {n : Nat} {c : List Value} (h : Wt E.P n 60 c) : ∃ b : ByteArray × Int, c = entR.enc b := by
  obtain ⟨hl, hf⟩ := wt_struct fEn h
  rw [nEn] at hl
  obtain ⟨a0, c, rfl⟩ := List.exists_cons_of_length_eq_add_one hl; have hl := Nat.succ.inj hl
  obtain ⟨a1, c, rfl⟩ := List.exists_cons_of_length_eq_add_one hl; have hl := Nat.succ.inj hl
  obtain rfl := List.eq_nil_of_length_eq_zero hl
  obtain ⟨m0, q0⟩ := hf (0, 9) (by simp)
  replace q0 : Wt E.P m0 9 [a0] := by simpa [nS] using q0
  obtain ⟨m1, q1⟩ := hf (1, 3) (by simp)
  replace q1 : Wt E.P m1 3 [a1] := by simpa [ni] using q1
  obtain ⟨z0, e, _⟩ := wt_str uSt q0; obtain rfl := List.singleton_inj.1 e
  obtain ⟨z1, e, _⟩ := wt_int ui q1; obtain rfl := List.singleton_inj.1 e
  exact ⟨(z0, z1), rfl⟩
theorem pa_of {n : Nat} {c : List Value} (h : Wt E.P n 61 c) : ∃ b : Int × Int, c = pairR.enc b := by
  obtain ⟨hl, hf⟩ := wt_array uPa h
  rw [nPa] at hl
  obtain ⟨a0, c, rfl⟩ := List.exists_cons_of_length_eq_add_one hl; have hl := Nat.succ.inj hl
  obtain ⟨a1, c, rfl⟩ := List.exists_cons_of_length_eq_add_one hl; have hl := Nat.succ.inj hl
  obtain rfl := List.eq_nil_of_length_eq_zero hl
  obtain ⟨m0, q0⟩ := hf 0 (by decide)
  replace q0 : Wt E.P m0 3 [a0] := by simpa [ni] using q0
  obtain ⟨m1, q1⟩ := hf 1 (by decide)
  replace q1 : Wt E.P m1 3 [a1] := by simpa [ni] using q1
  obtain ⟨z0, e, _⟩ := wt_int ui q0; obtain rfl := List.singleton_inj.1 e
  obtain ⟨z1, e, _⟩ := wt_int ui q1; obtain rfl := List.singleton_inj.1 e
  exact ⟨(z0, z1), rfl⟩
theorem recs_of {α : Type} (R : Rec α) {Q : α → Prop} {n : Nat} {t e : TypeId} {c : List Value} (hu : E.P.underlying t = some (.slice e)) (ge : aggT E.P e = some true) (hb : ∀ (m : Nat) (x : List Value), Wt E.P m e x → ∃ a, x = R.enc a ∧ Q a) (h : Wt E.P n t c) : ∃ l : List α, c = [lst false (R.vals l)] ∧ l.length ≤ maxLen ∧ ∀ a ∈ l, Q a := by
  obtain ⟨ls, rfl, h2, h3⟩ := wt_slice hu h
  obtain ⟨rs, rfl, k2⟩ := choose_list (cells := R.enc) (Q := Q) ls fun x hx => by
    obtain ⟨m, hm⟩ := h3 x hx
    exact hb m x hm
  refine ⟨rs, ?_, by simpa using h2, k2⟩
  have e : ∀ l : List α, (l.map R.enc).map (elemV E.P e) = R.vals l := by
    intro l
    induction l with
    | nil => rfl
    | cons r l ih =>
      rw [List.map_cons, List.map_cons, ih]
      unfold elemV
      rw [if_pos ge]
      rfl
  rw [e]
theorem intV {n : Nat} {c : List Value} (h : Wt E.P n 3 c) : ∃ z : Int, elemV E.P 3 c = .int .i64 z ∧ i64ok z := by
  obtain ⟨z, rfl, hz⟩ := wt_int ui h
  exact ⟨z, by simp [elemV, gi], i64_wf hz⟩
theorem roomsV_of {n : Nat} {c : List Value} (h : Wt E.P n 22 c) : ∃ P : Rooms, elemV E.P 22 c = roomsV false P ∧ P.length ≤ maxLen ∧ ∀ r ∈ P, Rec.Ok r.1 r.2 ∧ r.2.length ≤ maxLen := by
  obtain ⟨ls, rfl, h2, h3⟩ := wt_slice uRss h
  obtain ⟨rs, rfl, k2⟩ := choose_list (α := List Rect) (cells := fun l => [lst false (rectR.vals l)]) (Q := fun l => l.length ≤ maxLen) ls fun x hx => by
    obtain ⟨m, hm⟩ := h3 x hx
    obtain ⟨l, e, h1, _⟩ := recs_of rectR (Q := fun _ => True) uRs gR (fun m x hx => (rect_of hx).imp fun a h => ⟨h, trivial⟩) hm
    exact ⟨l, e, h1⟩
  refine ⟨rs.map fun l => (some false, l), ?_, by simpa using h2, fun r hr => ?_⟩
  · have e : ∀ l : List (List Rect), (l.map fun l => [lst false (rectR.vals l)]).map (elemV E.P 62) = (l.map fun l => ((some false, l) : Option Bool × List Rect)).map roomR := by
      intro l
      induction l with
      | nil => rfl
      | cons r l ih =>
        rw [List.map_cons, List.map_cons, ih, List.map_cons, List.map_cons]
        simp [elemV, gRs]; rfl
    rw [e]
    unfold elemV roomsV
    rw [gRss]; rfl
  · obtain ⟨l, hl, rfl⟩ := List.mem_map.1 hr
    exact ⟨Rec.ok_some, k2 l hl⟩
theorem pbV {n : Nat} {c : List Value} (h : Wt E.P n 26 c) : ∃ p : Pb, elemV E.P 26 c = p.val ∧ Rec.Ok p.kl p.left ∧ Rec.Ok p.kn p.never ∧ i64ok p.uses ∧ i64ok p.most ∧ p.left.length ≤ maxLen ∧ p.never.length ≤ maxLen ∧ p.kl = some false ∧ p.kn = some false := by
  obtain ⟨hl, hf⟩ := wt_struct fPb h
  rw [nPb] at hl
  obtain ⟨a0, c, rfl⟩ := List.exists_cons_of_length_eq_add_one hl; have hl := Nat.succ.inj hl
  obtain ⟨a1, c, rfl⟩ := List.exists_cons_of_length_eq_add_one hl; have hl := Nat.succ.inj hl
  obtain ⟨a2, c, rfl⟩ := List.exists_cons_of_length_eq_add_one hl; have hl := Nat.succ.inj hl
  obtain ⟨a3, c, rfl⟩ := List.exists_cons_of_length_eq_add_one hl; have hl := Nat.succ.inj hl
  obtain rfl := List.eq_nil_of_length_eq_zero hl
  obtain ⟨m0, q0⟩ := hf (0, 3) (by simp)
  replace q0 : Wt E.P m0 3 [a0] := by simpa [ni] using q0
  obtain ⟨m1, q1⟩ := hf (1, 23) (by simp)
  replace q1 : Wt E.P m1 23 [a1] := by simpa [nEs] using q1
  obtain ⟨m2, q2⟩ := hf (2, 3) (by simp)
  replace q2 : Wt E.P m2 3 [a2] := by simpa [ni] using q2
  obtain ⟨m3, q3⟩ := hf (3, 24) (by simp)
  replace q3 : Wt E.P m3 24 [a3] := by simpa [nPs] using q3
  obtain ⟨z0, e, h0⟩ := wt_int ui q0; obtain rfl := List.singleton_inj.1 e
  obtain ⟨l1, e, h1, _⟩ := recs_of entR (Q := fun _ => True) uEs gEn (fun m x hx => (en_of hx).imp fun a h => ⟨h, trivial⟩) q1; obtain rfl := List.singleton_inj.1 e
  obtain ⟨z2, e, h2⟩ := wt_int ui q2; obtain rfl := List.singleton_inj.1 e
  obtain ⟨l3, e, h3, _⟩ := recs_of pairR (Q := fun _ => True) uPs gPa (fun m x hx => (pa_of hx).imp fun a h => ⟨h, trivial⟩) q3; obtain rfl := List.singleton_inj.1 e
  exact ⟨⟨z0, some false, l1, z2, some false, l3⟩, by simp [elemV, gPb]; rfl, Rec.ok_some, Rec.ok_some, i64_wf h0, i64_wf h2, h1, h3, rfl, rfl⟩
theorem orcE : OrcSound E := by
  have h00 : ∀ f, E0.orc f = none := fun _ => rfl
  have key : ∀ g k, E.orc g = some k → (∃ F N, k = inG F N ∧ SortCon E.P g F N) ∨ (∃ q m F, k = inC q m F ∧ CellCon E.P g q m F) ∨ (k = cloG E0 g ∧ CloCon E.P g) := fun g k h => by
    rw [E_orc] at h
    by_cases h0 : g = 70
    · subst h0; simp only [if_true, Option.some.injEq] at h; exact .inr (.inr ⟨h.symm, conClo⟩)
    · by_cases h1 : g = 86
      · subst h1; simp only [h0, if_false, if_true, Option.some.injEq] at h; exact .inl ⟨_, _, h.symm, conSort⟩
      · by_cases h2 : g = 87
        · subst h2; simp only [h0, h1, if_false, if_true, Option.some.injEq] at h; exact .inl ⟨_, _, h.symm, conComp⟩
        · by_cases h3 : g = 96
          · subst h3; simp only [h0, h1, h2, if_false, if_true, Option.some.injEq] at h; exact .inr (.inl ⟨_, _, _, h.symm, conSpan⟩)
          · simp only [h0, h1, h2, h3, if_false] at h; cases h
  refine ⟨fun g k hg args h lo r _ => ?_, fun g k hg args h lo v h' hr hlo B M w args' hs hv => ?_, fun g k hg args h lo v h' hr hlo => ?_⟩
  · rcases key g k hg with ⟨F, N, _, hC⟩ | ⟨q, m, F, _, hC⟩ | ⟨_, hC⟩
    · exact hC.dfd
    · exact hC.dfd
    · exact hC.dfd
  · rcases key g k hg with ⟨F, N, rfl, hC⟩ | ⟨q, m, F, rfl, hC⟩ | ⟨rfl, hC⟩
    · exact in_sound hC hr hlo args' hs hv
    · exact inC_sound hC hr hlo args' hs hv
    · exact cloG_sound (E₀ := E0) okE rfl rfl h00 hC hr hlo args' hs hv
  · rcases key g k hg with ⟨F, N, rfl, _⟩ | ⟨q, m, F, rfl, _⟩ | ⟨rfl, _⟩
    · exact inG_keep hr
    · exact inC_keep hr
    · exact cloG_keep h00 hr hlo
end Go.Proofs.Ytcnafncmfiogcaa.Bm
namespace Go.Proofs.Ytcnafncmfiogcaa.Bm
open Go Go.RowKit
open Rg (Rect areaL)
def areasV (o : Option (List Int)) : List Value := match o with
  | none => [.slice none 0 0, .int .i64 1]
  | some A => [lst false (intE.vals A), .int .i64 0]
def goodA (P : Rooms) : List Int := (P.takeWhile fun r => regB r.2).map fun r => areaL r.2
theorem goodA_all {P : Rooms} (h : P.all (fun r => regB r.2) = true) : goodA P = P.map fun r => areaL r.2 := by
  unfold goodA
  congr 1
  induction P with
  | nil => rfl
  | cons r P ih =>
    rw [List.all_cons, Bool.and_eq_true] at h
    rw [List.takeWhile_cons, if_pos h.1, ih h.2]
theorem lists_all (P : Rooms) : (lists P).all regB = P.all (fun r => regB r.2) := by unfold lists; rw [List.all_map]; rfl
theorem lists_map (P : Rooms) : (lists P).map areaL = P.map fun r => areaL r.2 := by unfold lists; rw [List.map_map]; rfl
set_option maxHeartbeats 1000000 in
theorem areas_spec (x : Bool) (P : Rooms) (hP : RoomsOk P) : pureCall E.P (L E) 14 [roomsV x P] = some (.tuple ⟨areasV (areasF (lists P))⟩) := by
  have ln := fun h => rooms_len h x P
  have ix := rooms_index x P
  have h13 := hP.len
  have hll : (lists P).length = P.length := List.length_map _
  generalize roomsV x P = RV at *
  rw [pureCall_fn F14 rfl]
  unfold areasF
  rw [hll, lists_all, lists_map]
  by_cases h12 : 12 < P.length
  · have h12' : (12 : Int) < P.length := by omega
    have hn : ¬ (P.length ≤ 12 ∧ P.all (fun r => regB r.2) = true) := fun h => by omega
    rw [if_neg hn]
    simp -implicitDefEqProofs [r14, p14, ln, h12', areasV]
  have h12' : ¬ ((12 : Int) < P.length) := by omega
  simp -implicitDefEqProofs [r14, p14, ln, h12', prep_new, newK_nil sI1]
  rw [LL_for (γ := List Int) P [] (fun i c => [(4, Enc.sl 0 c), (13, .int .i64 i)]) (fun _ c => [intE.row 3 c])
    (fun _ rest c => if rest.all (fun r => regB r.2) = true then (.exit 0, [(4, Enc.sl 0 (c ++ goodA rest)), (13, undef)], [intE.row 3 (c ++ goodA rest)]) else (.ret, [(2, .slice none 0 0), (3, .int .i64 1), (4, Enc.sl 0 (c ++ goodA rest)), (13, undef)], [intE.row 3 (c ++ goodA rest)])) (fun i c => c.length = i) (by omega) rfl]
  · by_cases ha : P.all (fun r => regB r.2) = true
    · rw [if_pos ha, if_pos ⟨by omega, ha⟩, goodA_all ha, List.nil_append]
      have hidx := index_ints (some false) (P.map fun r => areaL r.2) 0 Enc.ok_some (by rw [List.length_map]; omega)
      have it := idx_take (P.map fun r => areaL r.2) 0 (Int.le_refl _)
      simp only [ne_eq, decide_not] at it
      have hr : ∀ h, h = [intE.row 3 (P.map fun r => areaL r.2)] → reify E.P 8 h (Enc.sl 0 (P.map fun r => areaL r.2)) = some (intE.o (some false) (P.map fun r => areaL r.2)) := fun h hh => by
        subst hh; exact Enc.reify_sl (O := intE) (b := 0) rfl sI1 gI1
      have hr := hr _ rfl
      have hrp := fun (n : Nat) (hn : n ≤ (P.map fun r => areaL r.2).length) => Enc.reify_part (O := intE) (P := E.P) (d := 7) (h := [intE.row 3 (P.map fun r => areaL r.2)]) (b := 0) (n := n) rfl hn sI1 gI1
      have hpt := fun (n : Nat) (hn : n ≤ (P.map fun r => areaL r.2).length) => Enc.part_take (O := intE) (h := [intE.row 3 (P.map fun r => areaL r.2)]) (b := 0) (n := (P.map fun r => areaL r.2).length) (m := n) (g := some false) (e := 3) (k := .i64) rfl hn
      generalize (P.map fun r => areaL r.2) = AL at *
      generalize hz : idxB (fun a => decide ((0 : Int) = a)) AL 0 = z at *
      by_cases hz1 : z = -1
      · have e := it.1 hz1
        have hneg : ¬ ((0 : Int) ≤ z) := by omega
        have hr2 : reify E.P 8 [intE.row 3 AL] (Enc.sl 0 AL) = some (lst false (intE.vals AL)) := hr
        rw [e]
        simp -implicitDefEqProofs [k14_5, ret0 m40, hr, hidx, hneg, areasV]
        rfl
      · obtain ⟨z1, z2, z3⟩ := it.2 hz1
        have ez : z = ((z.toNat : Nat) : Int) := by omega
        rw [Int.sub_zero] at z2 z3
        have hr2 := hrp z.toNat z3
        have hp2 := hpt z.toNat z3
        rw [z2] at hr2
        have hp2 : sliceT (.sl 3 ⟨some false, some 1⟩) [intE.row 3 AL] (Enc.sl 0 AL) none (some (.int .i64 z)) none = some (Enc.part 0 z.toNat AL) := by rw [ez]; exact hp2
        simp -implicitDefEqProofs [k14_5, ret0 m40, hr, hidx, z1, hp2, hr2, areasV]
    · rw [if_neg ha, if_neg fun h => ha h.2]
      simp -implicitDefEqProofs [k14_5, areasV]
  · simp -implicitDefEqProofs [k14_5]
    rfl
  · rfl
  · intro nx i c hi _
    have e : goodA [] = [] := rfl
    simp -implicitDefEqProofs [r14_5, k14_5, hi, trim_le, e]
  · intro nx i v rest c hi hv hd hw hc ih
    have hi' : (i : Int) < (P.length : Int) := by omega
    have xi := ix i hi
    rw [hv] at xi
    have lv := fun h => rooms_load h v
    have rv := fun h => room_reify h v
    have hvm : v ∈ P := hv ▸ List.getElem_mem hi
    have rr := room_right v (hP.ok v hvm) (hP.few v hvm)
    rw [List.all_cons]
    cases hg : regB v.2
    · have e : goodA (v :: rest) = [] := by unfold goodA; rw [List.takeWhile_cons, if_neg (by rw [hg]; simp)]; rfl
      rw [hg] at rr
      simp -implicitDefEqProofs [r14_5, k14_5, hi', xi, lv, ret0 m38, rv, rr, trim_le, e]
    · have e : goodA (v :: rest) = areaL v.2 :: goodA rest := by unfold goodA; rw [List.takeWhile_cons, if_pos hg]; rfl
      have ra := room_area v (hP.ok v hvm) (hP.few v hvm) hg
      rw [hg] at rr
      have ap := Enc.app (O := intE) (m := [areaL v.2]) (el := elInt) (h := [intE.row 3 c]) (lo := 0) (b := 0) (t := 3) (l := c) (u := lst true (intE.vals [areaL v.2])) rfl rfl Enc.cells_tree (Nat.le_refl _) (by show (c.length + 1) * 8 ≤ 2 ^ 47; omega)
      have lt := lit_int [intE.row 3 c] (areaL v.2)
      have ih := ih (c ++ [areaL v.2]) (by rw [List.length_append, hc]; rfl)
      have e2 : c ++ [areaL v.2] ++ goodA rest = c ++ areaL v.2 :: goodA rest := by simp
      rw [e2] at ih
      rw [e, Bool.true_and]
      simp -implicitDefEqProofs [k14_5] at ih
      simp -implicitDefEqProofs [r14_5, k14_5, hi', xi, lv, ret0 m38, ret0 m39, rv, rr, ra, lt, ap, hw, trim_le]
      exact ih
theorem areas_call (x : Bool) (P : Rooms) (hP : RoomsOk P) (h : Heap) : retCall E (L E) 0 false 14 [roomsV x P] h = some (.tuple ⟨areasV (areasF (lists P))⟩, h) := by
  have fz : freezeV E.P depth 0 h (roomsV x P) = some (roomsV x P, h) := frz_set8 rfl rfl
  have e : frzAll E.P 0 [roomsV x P] h = some ([roomsV x P], h) := by
    unfold frzAll
    simp only [List.foldlM_cons, List.foldlM_nil, fz]
    rfl
  rw [ret4 m14, e, Option.bind_some, areas_spec x P hP]; rfl
end Go.Proofs.Ytcnafncmfiogcaa.Bm
namespace Go.Proofs.Ytcnafncmfiogcaa.Bm
open Go Go.RowKit
open Rg (Rect areaL)
open Cp (Q Br Acc Nd prQ validQ vis root ended best)
theorem validQ_most {q : Q} (h : validQ q = true) : 0 ≤ q.most := (Cp.validQ_iff.1 h).2.2.1
theorem root_sr (p : Pb) (hp : PbOk p) (hv : validQ p.q = true) (A : List Int) : Sr A (limL p.q) (root (prQ p.q) A) := by
  have hm := validQ_most hv
  refine ⟨limN_len _ _, fun u hu => ?_, fun x hx => ?_, rfl, Nat.zero_le _, Int.le_refl _, ?_⟩
  · have h6 : u < 6 := by have := limN_len p.q 6; unfold limL at hu; omega
    have e : (limL p.q)[u] = Cp.limQ p.q (u : Int) := (limN_get p.q 6 u hu).trans (if_pos h6)
    exact e.symm
  · obtain ⟨i, hi, rfl⟩ := List.mem_map.1 hx
    have h6 : i < 6 := List.mem_range.1 hi
    rw [if_pos h6]
    have h1 := Cp.fold_hi (i : Int) p.q.left p.q.most (by omega)
    have h2 : p.q.most ≤ 9223372036854775807 := hp.m.2
    unfold Cp.limQ
    omega
  · show (0 : Int) ≤ ((0 : Nat) : Int) * _
    simp
def bestV (k : Option Bool) (o : Option (Int × List Int × List Br)) : List Value := match o with
  | none => [.slice none 0 0, .int .i64 0, .slice none 0 0, .int .i64 6]
  | some r => [intE.o k r.2.1, .int .i64 r.1, lst false (brR.vals r.2.2), .int .i64 0]
theorem sB2 : szOf E.P 41 = some 2 := by kernel_rfl
theorem aB2 : aggT E.P 41 = some true := by kernel_rfl
set_option maxHeartbeats 1000000 in
theorem best_ok (x : Bool) (P : Rooms) (hP : RoomsOk P) (p : Pb) (hp : PbOk p) (A : List Int) (hA : areasF (lists P) = some A) (hv : validQ p.q = true) :
    ∃ k, (∀ r, best (prQ p.q) A = some r → Enc.Ok k r.2.1) ∧ pureCall E.P (L E) 15 [roomsV x P, p.val] = some (.tuple ⟨bestV k (best (prQ p.q) A)⟩) := by
  have ar := areas_call x P hP
  have sr : settled depth (roomsV x P) = true := rfl
  rw [hA] at ar
  have vs := valid_spec p hp
  rw [hv] at vs
  have rp := p.reify
  obtain ⟨ha1, ha2⟩ := areas_told hA
  have hAok : AOk A := ⟨by omega, fun a ha => by have := ha2 a ha; omega⟩
  have bs := begin_spec p hp (some false) A
  have ps := p.set
  have hroot := root_sr p hp hv A
  let H0 : Heap := [.cells 26 p.cells 0, .cells 29 [intE.o (some false) A] 0, .cells 33 [brR.sl 7 []] 0, .cells 29 [.slice none 0 0] 0, .cells 29 [.slice none 0 0] 0, .cells 3 [.int .i64 (-1)] 0, .cells 67 [visF] 0, brR.row 41 []]
  have C0 : Cs p (some false) A H0 ⟨-1, [], []⟩ [] none := ⟨by simp [H0], rfl, rfl, rfl, ⟨none, Enc.ok_nil, rfl⟩, ⟨_, rfl, .inl ⟨rfl, rfl, rfl⟩⟩, rfl, rfl, rfl⟩
  have V : ∀ n, VisN p false A n := by
    intro n
    induction n with
    | zero => exact vis_all p hp hv false A hAok 0 fun m hm => by omega
    | succ n ih => exact vis_all p hp hv false A hAok (n + 1) fun m hm => (show n = m by omega) ▸ ih
  obtain ⟨h', r1, ob', C1, _⟩ := V A.length (root (prQ p.q) A) (limL p.q) ⟨-1, [], []⟩ H0 none rfl hroot C0 (by decide) (fun b hb => by cases hb)
  have bv := Cp.best_vis (prQ p.q) A
  generalize vis (prQ p.q) A.length (root (prQ p.q) A) ⟨-1, [], []⟩ = a at *
  have C2 := C1.trim 8 [.tuple #[]] (by decide)
  have rc : retCall E (L E) 0 false 42 [stV (intE.o (some false) A) p (limL p.q) 0, cAt 5 0, cAt 4 0, cAt 3 0, cAt 1 0, cAt 2 0, cAt 0 0, cAt 6 0] H0 = some (.tuple #[], trim 8 [.tuple #[]] h') := by
    have r2 : L E 42 [stV (intE.o (some false) A) p (limL p.q) 0, cAt 5 0, cAt 4 0, cAt 3 0, cAt 1 0, cAt 2 0, cAt 0 0, cAt 6 0] H0 0 = _ := r1
    rw [ret3t m42, r2]; rfl
  generalize trim 8 [.tuple #[]] h' = h at *
  obtain ⟨kb, hkb, lbe⟩ := C2.be
  have l3 : loadT ⟨some false, some 1⟩ h (.pointer (some ⟨3, 0, none⟩)) = some (intE.o kb a.best) := obj_load (b := 3) (j := 0) lbe rfl
  have l5 : loadT ⟨some false, some 1⟩ h (.pointer (some ⟨5, 0, none⟩)) = some (.int .i64 a.val) := obj_load (b := 5) (j := 0) C2.va rfl
  have l2 : loadT ⟨some false, some 1⟩ h (.pointer (some ⟨2, 0, none⟩)) = some (brR.sl 7 a.tree) := obj_load (b := 2) (j := 0) C2.tr rfl
  have ll := Rec.sl_len (R := brR) (h := h) (b := 7) (l := a.tree)
  have rt := Rec.reify_row (R := brR) (P := E.P) (n := 7) C2.row sB2 aB2
  have rb : reify E.P 8 h (intE.o kb a.best) = some (intE.o kb a.best) := Enc.o_reify
  refine ⟨kb, fun r hr => ?_, ?_⟩
  · rw [← bv] at hr
    unfold ended at hr
    split at hr
    · cases hr
    · have := Option.some.inj hr
      subst this; exact hkb
  rw [pureCall_fn F15 rfl]
  unfold areasV at ar
  have pe : p.val = .agg ⟨p.cells⟩ := rfl
  have lp : ∀ t, loadT ⟨some true, some 4⟩ (AObj.cells 26 p.cells 0 :: t) (.pointer (some ⟨0, 0, none⟩)) = some (.agg ⟨p.cells⟩) := fun t => obj_all (b := 0) rfl rfl
  rw [pe]
  have vs : pureCall E.P (L E) 41 [.agg ⟨p.cells⟩] = some (.bool true) := vs
  have rcp : ∀ h, reifyC E.P 7 h p.cells = some p.cells := fun h => reifyC_set (pb_all p)
  have ps7 : settled depth (.agg ⟨p.cells⟩) = true := ps
  have sa : settled depth (lst false (intE.vals A)) = true := rfl
  have bs : pureCall E.P (L E) 45 [lst false (intE.vals A), .agg ⟨p.cells⟩] = some (.agg ⟨stC (intE.o (some false) A) p (limL p.q) 0⟩) := bs
  have rc : retCall E (L E) 0 false 42 [.agg ⟨stC (intE.o (some false) A) p (limL p.q) 0⟩, .pointer (some ⟨5, 0, none⟩), .pointer (some ⟨4, 0, none⟩), .pointer (some ⟨3, 0, none⟩), .pointer (some ⟨1, 0, none⟩), .pointer (some ⟨2, 0, none⟩), .pointer (some ⟨0, 0, none⟩), .pointer (some ⟨6, 0, none⟩)]
      [.cells 26 p.cells 0, .cells 29 [lst false (intE.vals A)] 0, .cells 33 [.slice (some ⟨7, 0, some 0⟩) 0 0] 0, .cells 29 [.slice none 0 0] 0, .cells 29 [.slice none 0 0] 0, .cells 3 [.int .i64 (-1)] 0, .cells 67 [.func (.func 42) ⟨[]⟩ ⟨[.pointer (some ⟨5, 0, none⟩), .pointer (some ⟨4, 0, none⟩), .pointer (some ⟨3, 0, none⟩), .pointer (some ⟨1, 0, none⟩), .pointer (some ⟨2, 0, none⟩), .pointer (some ⟨0, 0, none⟩), .pointer (some ⟨6, 0, none⟩)]⟩] 0, .cells 41 [] 2] = some (.tuple #[], h) := rc
  have l0 : loadT ⟨some true, some 4⟩ h (.pointer (some ⟨0, 0, none⟩)) = some (.agg ⟨p.cells⟩) := obj_all (b := 0) C2.pr rfl
  have fnil : flat .nilFunc = true := rfl
  have cnil : cellsOf .nilFunc = some [.nilFunc] := rfl
  rw [← bv]
  unfold ended
  by_cases h4 : 4000 < a.tree.length
  · have h4' : (4000 : Int) < a.tree.length := by omega
    rw [if_pos h4]
    simp -implicitDefEqProofs [r15, p15, ar, lp, ret0 m41, rcp, vs, prep_newc, newcK, sB2, isNil, ret1 m45, ps7, sa, bs, rc, fnil, cnil, l2, ll, h4', bestV]
  · have h4' : ¬ ((4000 : Int) < a.tree.length) := by omega
    rw [if_neg h4]
    simp -implicitDefEqProofs [r15, p15, ar, lp, ret0 m41, rcp, vs, prep_newc, newcK, sB2, isNil, ret1 m45, ps7, sa, bs, rc, fnil, cnil, l2, l3, l5, ll, h4', rt, rb, bestV]
end Go.Proofs.Ytcnafncmfiogcaa.Bm
namespace Go.Proofs.Ytcnafncmfiogcaa.Bm
open Go Go.RowKit
open Rg (Rect areaL)
open Cp (Q Br Acc Nd prQ validQ vis root ended best nameB badP)
theorem best_bad (x : Bool) (P : Rooms) (hP : RoomsOk P) (p : Pb) (hp : PbOk p) (h : areasF (lists P) = none ∨ validQ p.q = false) :
    pureCall E.P (L E) 15 [roomsV x P, p.val] = some (.tuple ⟨[.slice none 0 0, .int .i64 0, .slice none 0 0, .int .i64 1]⟩) := by
  have ar := areas_call x P hP
  have sr : settled depth (roomsV x P) = true := rfl
  have vs := valid_spec p hp
  have rcp : ∀ h, reifyC E.P 7 h p.cells = some p.cells := fun h => reifyC_set (pb_all p)
  have pe : p.val = .agg ⟨p.cells⟩ := rfl
  have lp : ∀ t, loadT ⟨some true, some 4⟩ (AObj.cells 26 p.cells 0 :: t) (.pointer (some ⟨0, 0, none⟩)) = some (.agg ⟨p.cells⟩) := fun t => obj_all (b := 0) rfl rfl
  rw [pureCall_fn F15 rfl, pe]
  cases ha : areasF (lists P) with
  | none =>
    rw [ha] at ar
    unfold areasV at ar
    simp -implicitDefEqProofs [r15, p15, ar]
  | some A =>
    rw [ha] at ar h
    unfold areasV at ar
    have hv : validQ p.q = false := h.resolve_left (by simp)
    rw [hv] at vs
    have vs : pureCall E.P (L E) 41 [.agg ⟨p.cells⟩] = some (.bool false) := vs
    simp -implicitDefEqProofs [r15, p15, ar, lp, ret0 m41, rcp, vs]
theorem few_spec (x : Bool) (P : Rooms) (p : Pb) (kl : Rec.Ok p.kl p.left) (kn : Rec.Ok p.kn p.never) (ok : ∀ r ∈ P, Rec.Ok r.1 r.2) (hl : P.length ≤ maxLen) :
    pureCall E.P (L E) 13 [roomsV x P, p.val] = some (.bool (P.all (fun r => decide (r.2.length ≤ 16)) && (decide (P.length ≤ 13) && (decide (p.left.length ≤ 40) && decide (p.never.length ≤ 40))))) := by
  unfold maxLen at hl
  have ln := fun h => rooms_len h x P
  have ix := rooms_index x P
  have bl : ∀ d n, below (d + 1) n (roomsV x P) = true := fun d n => rfl
  generalize roomsV x P = RV at *
  have l1 := pb_ld p 1 _ rfl
  have l3 := pb_ld p 3 _ rfl
  have n1 := fun h => Rec.o_len (R := entR) (h := h) kl
  have n3 := fun h => Rec.o_len (R := pairR) (h := h) kn
  have pe : p.val = .agg ⟨p.cells⟩ := rfl
  rw [pureCall_fn F13 rfl, pe]
  simp -implicitDefEqProofs [r13, p13]
  rw [LL_for (γ := Unit) P () (fun i _ => [(5, .int .i64 i)]) (fun _ _ => [.cells 26 p.cells 0]) (fun _ rest _ => if rest.all (fun r => decide (r.2.length ≤ 16)) = true then (.exit 0, [(5, undef)], [.cells 26 p.cells 0]) else (.ret, [(4, .bool false), (5, undef)], [.cells 26 p.cells 0])) (fun _ _ => True) (by omega) trivial]
  · cases ha : P.all fun r => decide (r.2.length ≤ 16)
    · simp -implicitDefEqProofs [k13_2, -List.all_eq_true]
    · by_cases q1 : P.length ≤ 13
      · have q1' : (P.length : Int) ≤ 13 := by omega
        by_cases q2 : p.left.length ≤ 40
        · have q2' : (p.left.length : Int) ≤ 40 := by omega
          by_cases q3 : p.never.length ≤ 40
          · have q3' : (p.never.length : Int) ≤ 40 := by omega
            simp -implicitDefEqProofs [k13_2, ln, l1, l3, n1, n3, q1, q1', q2, q2', q3, q3', -List.all_eq_true]
          · have q3' : ¬ (p.never.length : Int) ≤ 40 := by omega
            simp -implicitDefEqProofs [k13_2, ln, l1, l3, n1, n3, q1, q1', q2, q2', q3, q3', -List.all_eq_true]
        · have q2' : ¬ (p.left.length : Int) ≤ 40 := by omega
          simp -implicitDefEqProofs [k13_2, ln, l1, n1, q1, q1', q2, q2', -List.all_eq_true]
      · have q1' : ¬ (P.length : Int) ≤ 13 := by omega
        simp -implicitDefEqProofs [k13_2, ln, q1, q1', -List.all_eq_true]
  · simp -implicitDefEqProofs [k13_2]
  · rfl
  · intro nx i c hi _
    simp -implicitDefEqProofs [r13_2, k13_2, ln, hi, trim_le]
  · intro nx i v rest c hi hv hd hw _ ih
    have hi' : (i : Int) < (P.length : Int) := by omega
    have ih := ih () trivial
    have xi := ix i hi
    rw [hv] at xi
    have lv := fun h => rooms_load h v
    have ll := fun h => Rec.o_len (R := rectR) (h := h) (ok v (hv ▸ List.getElem_mem hi))
    have ll : ∀ h, lenT .sl h (roomR v) = some (.int .i64 v.2.length) := ll
    rw [List.all_cons]
    by_cases q : v.2.length ≤ 16
    · have q' : ¬ ((16 : Int) < v.2.length) := by omega
      rw [decide_eq_true q, Bool.true_and]
      simp -implicitDefEqProofs [k13_2, -List.all_eq_true] at ih
      simp -implicitDefEqProofs [r13_2, k13_2, ln, hi', xi, lv, ll, q', hw, trim_le, -List.all_eq_true]
      exact ih
    · have q' : ((16 : Int) < v.2.length) := by omega
      rw [decide_eq_false q, Bool.false_and]
      simp -implicitDefEqProofs [r13_2, k13_2, ln, hi', xi, lv, ll, q', trim_le, -List.all_eq_true]
def valF (A : List Int) (n : Nat) : Int := (A.take n).sum
end Go.Proofs.Ytcnafncmfiogcaa.Bm
namespace Go.Proofs.Ytcnafncmfiogcaa.Bm
open Go Go.RowKit
open Rg (Rect areaL)
open Cp (Q Br Acc Nd prQ validQ vis root ended best nameB badP)
end Go.Proofs.Ytcnafncmfiogcaa.Bm
namespace Go.Proofs.Ytcnafncmfiogcaa.Cp
def goS (q : Q) : Option Int → List Int → List Int → List Int → Bool × List Int
  | _, S, _, [] => (true, S)
  | _, S, [], _ :: _ => (false, S)
  | prev, S, a :: A, u :: c => if mayQ q prev u = true then
      (if leftOk q u (S.getD u.toNat 0 + a) = true then goS q (some u) (S.set u.toNat (S.getD u.toNat 0 + a)) A c else (false, S.set u.toNat (S.getD u.toNat 0 + a)))
    else (false, S)
end Go.Proofs.Ytcnafncmfiogcaa.Cp
namespace Go.Proofs.Ytcnafncmfiogcaa.Bm
open Go Go.RowKit
open Cp (Q prQ validQ nameB badP hasP mayQ leftOk goS goR fitR inA bitB)
end Go.Proofs.Ytcnafncmfiogcaa.Bm
namespace Go.Proofs.Ytcnafncmfiogcaa.Bm
open Go Go.RowKit
open Cp (Q Nd prQ validQ nameB badP hasP mayQ inA run fits fitS root next)
theorem trim_back {h e : Heap} {r : Value} (hh : h.all (belowO h.length) = true) (hr : below depth h.length r = true) : trim h.length [r] (h ++ e) = h := by
  unfold Bm.trim
  split
  · rename_i hl
    rw [List.length_append] at hl
    have : e = [] := List.eq_nil_of_length_eq_zero (by omega)
    rw [this, List.append_nil]
  · rw [if_pos]
    · exact List.take_left
    · rw [List.take_left, hh, List.all_cons, hr]; rfl
theorem add_ret (p : Pb) (ka : Option Bool) (A W W' : List Int) (v v' : Int) (ok : Bool) (args : List Value) {e : Heap} (h : L E 44 args [.cells 26 p.cells 0, .cells 70 (stC (intE.o ka A) p W v) 0] 0 =
      some (.tuple ⟨[stV (intE.o ka A) p W' v', .bool ok]⟩, [.cells 26 p.cells 0, .cells 70 (stC (intE.o ka A) p W v) 0] ++ e)) :
    retCall E (L E) 0 false 44 args [.cells 26 p.cells 0, .cells 70 (stC (intE.o ka A) p W v) 0] = some (.tuple ⟨[.agg ⟨stC (intE.o ka A) p W' v'⟩, .bool ok]⟩, [.cells 26 p.cells 0, .cells 70 (stC (intE.o ka A) p W v) 0]) := by
  rw [ret3t m44, h, Option.map_some, trim_back]
  · rfl
  · have h1 := pb_bel p 7 2
    have h2 := st_bel (p := p) (L := W) (v := v) (d := 7) (n := 2) (Enc.o_bel (O := intE) (k := ka) (l := A))
    show (p.cells.all (below 8 2) && ((stC (intE.o ka A) p W v).all (below 8 2) && true)) = true
    rw [h1, h2]; rfl
  · have h2 := st_bel (p := p) (L := W') (v := v') (d := 5) (n := 2) (Enc.o_bel (O := intE) (k := ka) (l := A))
    show ((stC (intE.o ka A) p W' v').all (below 6 2) && (true && true)) = true
    rw [h2]; rfl
set_option maxHeartbeats 4000000 in
theorem fits_spec (p : Pb) (hp : PbOk p) (ka : Option Bool) (A c : List Int) (x : Bool) (hka : Enc.Ok ka A) (hA : A.length ≤ 1000) (_hc : c.length ≤ 1000) (_hcb : ∀ u ∈ c, -9223372036854775808 ≤ u ∧ u ≤ 9223372036854775807) :
    pureCall E.P (L E) 22 [intE.o ka A, p.val, lst x (intE.vals c)] = some (.bool (fitS p.q A c)) := by
  have lA := fun h => Enc.o_len (O := intE) (h := h) hka
  have lc := fun h => Enc.o_len (O := intE) (h := h) (k := some x) (l := c) Enc.ok_some
  have lc : ∀ h, lenT .sl h (lst x (intE.vals c)) = some (.int .i64 c.length) := lc
  have iA : ∀ (i : Nat) (hi : i < A.length), indexAddrT (.sl 3 ⟨some false, some 1⟩) (intE.o ka A) (.int .i64 (i : Int)) = some (cptr (.int .i64 A[i])) := fun i hi => Enc.index_o (O := intE) hka hi
  have ic : ∀ (i : Nat) (hi : i < c.length), indexAddrT (.sl 3 ⟨some false, some 1⟩) (lst x (intE.vals c)) (.int .i64 (i : Int)) = some (cptr (.int .i64 c[i])) := fun i hi => Enc.index_tree (O := intE) hi
  have sl : ∀ (h : Heap) (i : Nat) (hi : i ≤ c.length), sliceT (.sl 3 ⟨some false, some 1⟩) h (lst x (intE.vals c)) none (some (.int .i64 (i : Int))) none = some (intE.o (some (x && i == c.length)) (c.take i)) := fun h i hi => Enc.take_tree (O := intE) hi
  have hv := valid_spec p hp
  have rcp : ∀ h, reifyC E.P 7 h p.cells = some p.cells := fun h => reifyC_set (pb_all p)
  have pe : p.val = .agg ⟨p.cells⟩ := rfl
  have lp : ∀ t, loadT ⟨some true, some 4⟩ (AObj.cells 26 p.cells 0 :: t) (.pointer (some ⟨0, 0, none⟩)) = some (.agg ⟨p.cells⟩) := fun t => obj_all (b := 0) rfl rfl
  have hbg := begin_spec p hp ka A
  have sA : settled depth (intE.o ka A) = true := Enc.o_set
  have sP : settled depth (.agg ⟨p.cells⟩) = true := p.set
  generalize hCV : lst x (intE.vals c) = CV at *
  rw [pureCall_fn F22 rfl, pe]
  have hv : pureCall E.P (L E) 41 [.agg ⟨p.cells⟩] = some (.bool (validQ p.q)) := hv
  have hbg : pureCall E.P (L E) 45 [intE.o ka A, .agg ⟨p.cells⟩] = some (.agg ⟨stC (intE.o ka A) p (limL p.q) 0⟩) := hbg
  unfold fitS
  cases hval : validQ p.q
  · rw [hval] at hv
    simp -implicitDefEqProofs [r22, p22, lp, ret0 m41, rcp, hv]
  rw [hval] at hv
  by_cases q1 : 12 < A.length
  · have q1' : (12 : Int) < A.length := by omega
    have : ¬ A.length ≤ 12 := by omega
    simp -implicitDefEqProofs [r22, p22, lp, ret0 m41, rcp, hv, lA, q1', this]
  have q1' : ¬ (12 : Int) < A.length := by omega
  have q1n : A.length ≤ 12 := by omega
  by_cases q2 : A.length < c.length
  · have q2' : (A.length : Int) < c.length := by omega
    have : ¬ c.length ≤ A.length := by omega
    simp -implicitDefEqProofs [r22, p22, lp, ret0 m41, rcp, hv, lA, lc, q1', q2', this]
  have q2' : ¬ (A.length : Int) < c.length := by omega
  have q2n : c.length ≤ A.length := by omega
  rw [decide_eq_true q1n, decide_eq_true q2n, Bool.true_and, Bool.true_and, Bool.true_and]
  simp -implicitDefEqProofs [r22, p22, lp, ret0 m41, rcp, hv, lA, lc, q1', q2']
  rw [LL_for (γ := Unit) A () (fun i _ => [(30, .int .i64 i)]) (fun _ _ => [.cells 26 p.cells 0]) (fun _ rest _ => if inA rest = true then (.exit 0, [(30, undef)], [.cells 26 p.cells 0]) else (.ret, [(6, .bool false), (30, undef)], [.cells 26 p.cells 0])) (fun _ _ => True) (by omega) trivial]
  · cases hin : inA A
    · simp -implicitDefEqProofs [k22_4]
    have hAok : AOk A := ⟨by omega, fun a ha => by have := Cp.inA_iff.1 hin a ha; omega⟩
    have hroot := root_sr p hp hval A
    have zl : ∀ e : Heap, storeT (some 12) (AObj.cells 26 p.cells 0 :: AObj.cells 70 zSt 0 :: e) 0 (.agg ⟨stC (intE.o ka A) p (limL p.q) 0⟩) (.pointer (some ⟨1, 0, none⟩)) = some (AObj.cells 26 p.cells 0 :: AObj.cells 70 (stC (intE.o ka A) p (limL p.q) 0) 0 :: e) := fun e =>
      (obj_put (h := AObj.cells 26 p.cells 0 :: AObj.cells 70 zSt 0 :: e) (b := 1) (n := 12) (lo := 0) (t := 70) (c := zSt) rfl rfl (st_len (limN_len _ _)) (by decide) (Nat.zero_le _)).trans rfl
    unfold zSt at zl
    rw [Bool.true_and]
    simp -implicitDefEqProofs [k22_4, lp, ret1 m45, sA, sP, hbg, zl, lc]
    generalize hB : fits (prQ p.q) A c = B
    refine hx_goal (g := fun y => Option.bind (retK [RRes.tmp 6] (seqC E (L E) LL 0 (blkK 2 y) _)) _) (LL_hx (α := Nat × Nd × List Int) (0, root (prQ p.q) A, limL p.q) (fun z => [(46, .int .i64 (z.1 : Int))])
      (fun z => [AObj.cells 26 p.cells 0, AObj.cells 70 (stC (intE.o ka A) p z.2.2 z.2.1.v) 0]) (if B = true then (.exit 2, [(46, undef)]) else (.ret, [(6, .bool false), (46, undef)]))
      (fun z => z.1 ≤ c.length ∧ Sr A z.2.2 z.2.1 ∧ z.2.1.c = c.take z.1 ∧ (run (prQ p.q) z.2.1 (c.drop z.1)).isSome = B) (fun z => c.length - z.1) ⟨Nat.zero_le _, hroot, rfl, hB⟩ ?_ rfl ?_) ?_
    · simp -implicitDefEqProofs [k22_11]
    · intro nx z hz ih
      obtain ⟨i, s, W⟩ := z
      obtain ⟨g1, g2, g3, g4⟩ := hz
      simp only at g1 g2 g3 g4 ih ⊢
      have hsc : s.c.length = i := by rw [g3, List.length_take]; omega
      by_cases hi : i < c.length
      case neg =>
        have e : i = c.length := by omega
        rw [List.drop_of_length_le (by omega)] at g4
        have g4 : true = B := g4
        subst g4
        rw [if_pos rfl]
        refine ⟨[AObj.cells 26 p.cells 0, AObj.cells 70 (stC (intE.o ka A) p W s.v) 0], ?_⟩
        simp -implicitDefEqProofs [r22_11, k22_11, e, trim_le]
      have hi' : (i : Int) < (c.length : Int) := by omega
      have xi := ic i hi
      have sli := sl [AObj.cells 26 p.cells 0, AObj.cells 70 (stC (intE.o ka A) p W s.v) 0] i (by omega)
      have hdc : c.drop i = c[i] :: c.drop (i + 1) := List.drop_eq_getElem_cons hi
      rw [hdc, Cp.run_cons] at g4
      have hcA : s.c.length < A.length := by omega
      have hwi : IntKind.i64.wrap ((i : Int) + 1) = ((i + 1 : Nat) : Int) := (wrap64 (by omega) (by omega)).trans (by omega)
      have ldA : loadT ⟨some true, some 12⟩ [AObj.cells 26 p.cells 0, AObj.cells 70 (stC (intE.o ka A) p W s.v) 0] (.pointer (some ⟨1, 0, none⟩)) = some (.agg ⟨stC (intE.o ka A) p W s.v⟩) := obj_all (b := 1) rfl (st_len g2.w)
      have stA : ∀ W' v', W'.length = 6 → storeT (some 12) [AObj.cells 26 p.cells 0, AObj.cells 70 (stC (intE.o ka A) p W s.v) 0] 0 (.agg ⟨stC (intE.o ka A) p W' v'⟩) (.pointer (some ⟨1, 0, none⟩)) = some [AObj.cells 26 p.cells 0, AObj.cells 70 (stC (intE.o ka A) p W' v') 0] := fun W' v' hW' =>
        (obj_put (h := [AObj.cells 26 p.cells 0, AObj.cells 70 (stC (intE.o ka A) p W s.v) 0]) (b := 1) (n := 12) (lo := 0) (t := 70) (c := stC (intE.o ka A) p W s.v) rfl (st_len g2.w) (st_len hW') (by decide) (Nat.zero_le _)).trans rfl
      have ch : ChV [AObj.cells 26 p.cells 0, AObj.cells 70 (stC (intE.o ka A) p W s.v) 0] (intE.o (some (x && i == c.length)) s.c) s.c := ChV.tree Enc.ok_some
      rw [← g3] at sli
      generalize intE.o (some (x && i == c.length)) s.c = SV at *
      cases hm : mayQ p.q s.c.getLast? c[i]
      · rw [Cp.next_no hm] at g4
        have g4 : false = B := g4
        subst g4
        obtain ⟨e, he⟩ := add_no p hp hval ka A W g2.lok s.v _ SV s.c ch c[i] hm (by omega)
        have hr := add_ret p ka A W W s.v s.v false _ he
        have st := stA W s.v g2.w
        rw [if_neg (by decide)]
        unfold stV at hr
        refine ⟨[AObj.cells 26 p.cells 0, AObj.cells 70 (stC (intE.o ka A) p W s.v) 0], ?_⟩
        simp -implicitDefEqProofs [r22_11, k22_11, hi', xi, sli, ldA, hr, st, trim_le]
      · have hu := Cp.may_ge hm
        have eu : c[i] = ((c[i].toNat : Nat) : Int) := by omega
        have hW6 := g2.w
        have huW : c[i].toNat < W.length := by omega
        have hn := Cp.next_may (g2.remE hcA) hm
        have hleft := g2.left c[i].toNat huW
        rw [← eu] at hleft
        rw [hleft] at hn
        obtain ⟨e, he⟩ := add_yes p hp hval ka A W hka hAok g2.lok s.v (by have := g2.vb hAok; omega) _ SV s.c ch c[i].toNat (by rw [← eu]; exact hm) hcA huW
        have hr := add_ret p ka A W _ s.v _ _ _ he
        rw [← eu] at hr
        have st := stA (W.set c[i].toNat (W[c[i].toNat] - A[s.c.length])) (s.v + A[s.c.length]) (by rw [List.length_set]; exact g2.w)
        unfold stV at hr
        by_cases hok : 0 ≤ W[c[i].toNat] - A[s.c.length] ∧ s.v + A[s.c.length] ≤ p.q.most
        · rw [if_pos hok] at hn
          rw [hn] at g4
          have hnx := g2.next hAok hcA c[i].toNat huW hok.1
          rw [← eu] at hnx
          rw [decide_eq_true hok.1, decide_eq_true (show s.v + A[s.c.length] ≤ p.most from hok.2)] at hr
          have ih := ih (i + 1, Cp.take s c[i] A[s.c.length] (A.drop (s.c.length + 1)), W.set c[i].toNat (W[c[i].toNat] - A[s.c.length])) (by show c.length - (i + 1) < c.length - i; omega) ⟨hi, hnx, by
            show s.c ++ [c[i]] = c.take (i + 1)
            rw [g3, List.take_succ_eq_append_getElem hi], g4⟩
          have ev : (Cp.take s c[i] A[s.c.length] (A.drop (s.c.length + 1))).v = s.v + A[s.c.length] := rfl
          simp only [ev] at ih
          generalize W.set c[i].toNat (W[c[i].toNat] - A[s.c.length]) = W' at *
          generalize s.v + A[s.c.length] = v' at *
          simp -implicitDefEqProofs [k22_11, -Int.natCast_add] at ih
          simp -implicitDefEqProofs [r22_11, k22_11, hi', xi, sli, ldA, hr, st, hwi, trim_le, -Int.natCast_add]
          exact ih
        · rw [if_neg hok] at hn
          rw [hn] at g4
          have g4 : false = B := g4
          subst g4
          have hb : (decide (0 ≤ W[c[i].toNat] - A[s.c.length]) && decide (s.v + A[s.c.length] ≤ p.most)) = false := by
            cases hd : (decide (0 ≤ W[c[i].toNat] - A[s.c.length]) && decide (s.v + A[s.c.length] ≤ p.most))
            · rfl
            · rw [Bool.and_eq_true, decide_eq_true_eq, decide_eq_true_eq] at hd
              exact absurd hd hok
          rw [hb] at hr
          generalize W.set c[i].toNat (W[c[i].toNat] - A[s.c.length]) = W' at *
          generalize s.v + A[s.c.length] = v' at *
          rw [if_neg (by decide)]
          refine ⟨[AObj.cells 26 p.cells 0, AObj.cells 70 (stC (intE.o ka A) p W' v') 0], ?_⟩
          simp -implicitDefEqProofs [r22_11, k22_11, hi', xi, sli, ldA, hr, st, trim_le]
    · intro h'
      cases B
      · simp -implicitDefEqProofs [k22_11]
      · simp -implicitDefEqProofs [k22_11]
  · simp -implicitDefEqProofs [k22_4]
  · rfl
  · intro nx i u hi _
    have e : inA [] = true := rfl
    simp -implicitDefEqProofs [r22_4, k22_4, hi, e, trim_le]
  · intro nx i v rest u hi hv2 hd hw _ ih
    have hi' : (i : Int) < (A.length : Int) := by omega
    have ih := ih () trivial
    have xi := iA i hi
    rw [hv2] at xi
    have e : inA (v :: rest) = (decide (1 ≤ v) && decide (v ≤ 1099511627776) && inA rest) := rfl
    rw [e]
    simp -implicitDefEqProofs [k22_4] at ih
    by_cases k1 : v < 1
    · rw [decide_eq_false (show ¬ 1 ≤ v by omega)]
      simp -implicitDefEqProofs [r22_4, k22_4, hi', xi, k1, trim_le]
    by_cases k2 : 1099511627776 < v
    · rw [decide_eq_false (show ¬ v ≤ 1099511627776 by omega)]
      simp -implicitDefEqProofs [r22_4, k22_4, hi', xi, k1, k2, trim_le]
    rw [decide_eq_true (show 1 ≤ v by omega), decide_eq_true (show v ≤ 1099511627776 by omega)]
    simp -implicitDefEqProofs [r22_4, k22_4, hi', xi, k1, k2, hw, trim_le]
    exact ih
end Go.Proofs.Ytcnafncmfiogcaa.Bm
namespace Go.Proofs.Ytcnafncmfiogcaa.Bm
open Go Go.RowKit
open Cp (Q Br Acc bump Nd prQ)
theorem obj_sub {h : Heap} {b j n : Nat} {t : TypeId} {c : List Value} (hob : h[b]? = some (.cells t c 0)) (hn : j + n ≤ c.length) : loadT ⟨some true, some n⟩ h (cAt b j) = some (.agg ⟨(c.drop j).take n⟩) := by
  unfold cAt
  rw [load_agg, obj_row hob, Option.bind_some]
  show (if j + n ≤ c.length then some (Value.agg ((c.drop j).take n).toArray) else none) = _
  rw [if_pos hn]
def BvOk (h : Heap) (bv : Value) (l : List Int) : Prop := (∃ k, Enc.Ok k l ∧ bv = intE.o k l) ∨ ∃ b, 3 ≤ b ∧ bv = Enc.sl b l ∧ h[b]? = some (intE.row 3 l)
theorem BvOk.app {h : Heap} {bv : Value} {l : List Int} (e : Heap) : BvOk h bv l → BvOk (h ++ e) bv l
  | .inl x => .inl x
  | .inr ⟨b, h1, h2, h3⟩ => .inr ⟨b, h1, h2, ga e h3⟩
theorem BvOk.set {h : Heap} {bv : Value} {l : List Int} {i : Nat} {q : AObj} (hi : i < 3) : BvOk h bv l → BvOk (h.set i q) bv l
  | .inl x => .inl x
  | .inr ⟨b, h1, h2, h3⟩ => .inr ⟨b, h1, h2, gs h3 (by omega)⟩
def seC (p : Pb) (ka : Option Bool) (A : List Int) (bv : Value) (v : Int) (t : List Br) : List Value := intE.o ka A :: (p.cells ++ [bv, .int .i64 v, brR.sl 2 t])
structure Rs (p : Pb) (ka : Option Bool) (A : List Int) (h : Heap) (a : Acc) : Prop where
  len : 3 ≤ h.length
  se : ∃ bv, h[1]? = some (.cells 78 (seC p ka A bv a.val a.tree) 0) ∧ BvOk h bv a.best
  row : h[2]? = some (brR.row 41 a.tree)
section
variable {p : Pb} {ka : Option Bool} {A : List Int} {h : Heap} {a : Acc}
theorem Rs.app (s : Rs p ka A h a) (e : Heap) : Rs p ka A (h ++ e) a := by
  obtain ⟨h0, ⟨bv, h1, h2⟩, h3⟩ := s
  exact ⟨by simp; omega, ⟨bv, ga e h1, h2.app e⟩, ga e h3⟩
theorem Rs.trim (s : Rs p ka A h a) (n : Nat) (vs : List Value) (hn : 3 ≤ n) : Rs p ka A (trim n vs h) a := by
  unfold Bm.trim
  split
  · exact s
  split
  · rename_i hl hc
    rw [Bool.and_eq_true] at hc
    have ht : ∀ {b : Nat} {o : AObj}, b < n → h[b]? = some o → (h.take n)[b]? = some o := fun hb ho => by rw [List.getElem?_take_of_lt hb]; exact ho
    obtain ⟨h0, ⟨bv, h1, h2⟩, h3⟩ := s
    refine ⟨by rw [List.length_take]; omega, ⟨bv, ht (by omega) h1, ?_⟩, ht (by omega) h3⟩
    rcases h2 with x | ⟨b, q1, q2, q3⟩
    · exact .inl x
    · have hm := List.all_eq_true.1 hc.2 _ (List.mem_of_getElem? (ht (by omega) h1))
      have hbn : b < n := by
        rw [q2] at hm
        have hm : (seC p ka A (Enc.sl b a.best) a.val a.tree).all (below 8 n) = true := hm
        have := List.all_eq_true.1 hm (Enc.sl b a.best) (by simp [seC])
        exact of_decide_eq_true this
      exact .inr ⟨b, q1, q2, ht hbn q3⟩
  · exact s
theorem Rs.ld (s : Rs p ka A h a) : loadT ⟨some false, some 1⟩ h (cAt 1 0) = some (intE.o ka A) ∧ loadT ⟨some true, some 4⟩ h (cAt 1 1) = some (.agg ⟨p.cells⟩) ∧ loadT ⟨some false, some 1⟩ h (cAt 1 3) = some (.int .i64 p.most) ∧
    loadT ⟨some false, some 1⟩ h (cAt 1 6) = some (.int .i64 a.val) ∧ loadT ⟨some false, some 1⟩ h (cAt 1 7) = some (brR.sl 2 a.tree) := by
  obtain ⟨_, ⟨bv, h1, _⟩, _⟩ := s
  exact ⟨obj_load h1 rfl, obj_sub h1 (by show 1 + 4 ≤ 8; decide), obj_load h1 rfl, obj_load h1 rfl, obj_load h1 rfl⟩
end
theorem next_row (h : Heap) (kc : Option Bool) (c : List Int) (hkc : Enc.Ok kc c) (hc : c.length ≤ 1000) (u : Int) : ∃ x h1, appendT (some elInt) h 0 false (lst true []) (intE.o kc c) = some (x, h1) ∧ appendT (some elInt) h1 0 false x (lst true (intE.vals [u])) = some (Enc.sl h.length (c ++ [u]), h ++ [intE.row 3 (c ++ [u])]) := by
  by_cases hz : c = []
  · subst hz
    refine ⟨_, _, Enc.app_none (O := intE) (el := elInt) (h := h) (lo := 0) (st := false) (u := intE.o kc []) rfl (Enc.cells_o hkc), ?_⟩
    exact Enc.app_tree (O := intE) (l := []) (m := [u]) (el := elInt) (h := h) (lo := 0) (st := false) (u := lst true (intE.vals [u])) rfl Enc.cells_tree (by simp) (by show (0 + 1) * 8 ≤ 2 ^ 47; decide)
  · have ap := Enc.app_tree (O := intE) (l := []) (m := c) (el := elInt) (h := h) (lo := 0) (st := false) (u := intE.o kc c) rfl (Enc.cells_o hkc) hz (by show (0 + c.length) * 8 ≤ 2 ^ 47; omega)
    rw [List.nil_append] at ap
    refine ⟨_, _, ap, ?_⟩
    have a2 := Enc.app (O := intE) (m := [u]) (el := elInt) (h := h ++ [intE.row 3 c]) (lo := 0) (b := h.length) (t := 3) (l := c) (u := lst true (intE.vals [u])) rfl app_get0 Enc.cells_tree (Nat.zero_le _) (by show (c.length + 1) * 8 ≤ 2 ^ 47; omega)
    rw [app_set0] at a2
    exact a2
theorem frz_row (h : Heap) (l : List Int) (hl : l ≠ []) (lo : Nat) (hlo : lo ≤ h.length) : freezeV E.P depth lo (h ++ [intE.row 3 l]) (Enc.sl h.length l) = some (intE.o (some false) l, h ++ [AObj.dead]) := by
  have fz := Enc.frz_sl (P := E.P) (O := intE) (l := l) (h := h ++ [intE.row 3 l]) (b := h.length) (lo := lo) (t := 3) app_get0 sI1 gI1 hlo
  rw [if_neg (fun e => hl (List.eq_nil_of_length_eq_zero e)), app_set0] at fz
  exact fz
end Go.Proofs.Ytcnafncmfiogcaa.Bm
namespace Go.Proofs.Ytcnafncmfiogcaa.Bm
open Go Go.RowKit
open Cp (Q Br Acc Nd bump prQ mayQ validQ reach enter visR loopR next take us root run fitS fitR inA)
structure Sq (q : Q) (A : List Int) (s : Nd) : Prop where
  run : run (prQ q) (root (prQ q) A) s.c = some s
  us : ∀ u ∈ s.c, 0 ≤ u ∧ u ≤ 5
theorem Sq.told {q : Q} {A : List Int} {s : Nd} (h : Sq q A s) : s.rem = A.drop s.c.length ∧ s.v = valF A s.c.length ∧ s.rem.length + s.c.length = A.length := by
  obtain ⟨h1, h2, h3⟩ := Cp.run_rem h.run
  have e : (root (prQ q) A).rem = A := rfl
  have e2 : (root (prQ q) A).v = 0 := rfl
  rw [e] at h1 h2 h3
  rw [e2, Int.zero_add] at h2
  refine ⟨?_, h2, h3⟩
  have := congrArg (List.drop s.c.length) h1
  rw [List.drop_append_of_le_length (by rw [List.length_take]; omega), List.drop_take, Nat.sub_self, List.take_zero, List.nil_append] at this
  exact this.symm
theorem Sq.next {q : Q} {A : List Int} {s t : Nd} {u : Int} (h : Sq q A s) (hn : next (prQ q) s u = some t) : Sq q A t ∧ t.c = s.c ++ [u] ∧ t.rem.length + 1 = s.rem.length := by
  have h1 := Cp.run_append (prQ q) s.c [u] (root (prQ q) A)
  rw [h.run] at h1
  have h1 : Cp.run (prQ q) (root (prQ q) A) (s.c ++ [u]) = Cp.run (prQ q) s [u] := h1
  rw [Cp.run_cons, hn] at h1
  obtain ⟨a, r, hr, ht, hm, _⟩ := Cp.next_some hn
  have ec : t.c = s.c ++ [u] := by rw [ht]; rfl
  refine ⟨⟨by rw [ec]; exact h1, fun w hw => ?_⟩, ec, Cp.next_rem hn⟩
  rw [ec] at hw
  rcases List.mem_append.1 hw with k | k
  · exact h.us w k
  · rw [List.mem_singleton.1 k]
    have hm : mayQ q s.c.getLast? u = true := hm
    have := Cp.may_ge hm
    omega
theorem Sq.fit {q : Q} {A : List Int} {s : Nd} (h : Sq q A s) (hv : validQ q = true) (hA : A.length ≤ 12) (hi : inA A = true) (u : Int) : fitR q A (s.c ++ [u]) = (Cp.next (prQ q) s u).isSome := by
  rw [Cp.fit_eq]
  unfold fitS Cp.fits
  rw [Cp.run_append, h.run, hv, hi, decide_eq_true hA]
  obtain ⟨_, _, h3⟩ := h.told
  show (true && (true && (decide ((s.c ++ [u]).length ≤ A.length) && (true && (Cp.run (prQ q) s [u]).isSome)))) = _
  rw [Cp.run_cons, Bool.true_and, Bool.true_and, Bool.true_and, List.length_append]
  cases hn : Cp.next (prQ q) s u with
  | none => simp
  | some t =>
    have := Cp.next_rem hn
    rw [decide_eq_true (show s.c.length + [u].length ≤ A.length by simp only [List.length_cons, List.length_nil]; omega)]; rfl
def nilT (v : Value) (h : Heap) : Option (Value × Heap) := match v with
  | .pointer (some a) => some (.pointer (some a), h)
  | .func (.yield 2) a b => some (.func (.yield 2) a b, h)
  | .func (.func f) fst cap => some (.func (.func f) fst cap, h)
  | _ => none
theorem rop_nilT {E : Env} {C : Callee} {lo : Nat} {st : Bool} {ρ : Operand → Value} {h : Heap} {x : Operand} : ropR E C lo st (.nilCheck x) ρ h = nilT (ρ x) h := rfl
end Go.Proofs.Ytcnafncmfiogcaa.Bm
namespace Go.Proofs.Ytcnafncmfiogcaa.Bm
open Go Go.RowKit
open Cp (Q Br Acc Nd bump prQ mayQ validQ reach enter visR loopR next take us root run fitS fitR inA)
end Go.Proofs.Ytcnafncmfiogcaa.Bm
namespace Go.Proofs.Ytcnafncmfiogcaa.Bm
open Go Go.RowKit
open Rg (Rect areaL)
open Cp (Q Br Acc Nd prQ validQ visR root ended best inA)
theorem BvOk.reify {h : Heap} {bv : Value} {l : List Int} (x : BvOk h bv l) : ∃ k, Enc.Ok k l ∧ reify E.P 8 h bv = some (intE.o k l) := by
  rcases x with ⟨k, hk, rfl⟩ | ⟨b, _, rfl, hb⟩
  · exact ⟨k, hk, Enc.o_reify⟩
  · exact ⟨some false, Enc.ok_some, Enc.reify_sl hb sI1 gI1⟩
end Go.Proofs.Ytcnafncmfiogcaa.Bm
namespace Go.Proofs.Ytcnafncmfiogcaa.Bm
open Go Go.RowKit
open Cp (Q prQ validQ fitR inA us mayQ)
end Go.Proofs.Ytcnafncmfiogcaa.Bm
