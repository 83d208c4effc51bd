/-
  Chapter 27: the core of a problem, walked. Conditions: few alternatives; a heap that names only itself.
-/
import Derived.Test.YtgefjhjmkejjbaaDoorQB21
namespace Go.Proofs.YtgefjhjmkejjbaaDoor.Bm
open Go Go.RowKit
open Co (ltB rem maskF apartF allF packF packedF)
abbrev elRow : El := ⟨42, 1, 24, .slice none 0 0, ⟨some false, some 1⟩⟩
def pvF (B : Nat) : Value := .func (.func 43) #[] #[ptr B, ptr (B + 1), ptr (B + 2)]
def rowsV (B : Nat) (n : Nat) : Value := .slice (some ⟨B + 3, 0, some n⟩) n n
def pvH (b B : Nat) (cs : List Value) (e : Heap) : Heap := AObj.cells 43 [ptr b] 0 :: AObj.cells 24 [rowsV B cs.length] 0 :: AObj.cells 70 [pvF B] 0 :: AObj.cells 42 cs 1 :: e
theorem pvH_len {b B : Nat} {cs : List Value} {e : Heap} : (pvH b B cs e).length = e.length + 4 := rfl
theorem pvH_app {b B : Nat} {cs : List Value} {e f : Heap} : pvH b B cs e ++ f = pvH b B cs (e ++ f) := rfl
structure Rows (n : Nat) (e : Heap) (cs : List Value) (P : List (List Int)) : Prop where
  len : cs.length = P.length
  row : ∀ i (h1 : i < cs.length) (h2 : i < P.length), ∃ q, cs[i] = Enc.sl (n + q) P[i] ∧ e[q]? = some (intE.row 3 P[i])
theorem Rows.nil {n : Nat} {e : Heap} : Rows n e [] [] := ⟨rfl, fun i h1 => absurd h1 (by simp)⟩
theorem Rows.app {n : Nat} {e : Heap} {cs : List Value} {P : List (List Int)} (h : Rows n e cs P) (f : Heap) : Rows n (e ++ f) cs P := ⟨h.len, fun i h1 h2 => by
  obtain ⟨q, a, b⟩ := h.row i h1 h2
  exact ⟨q, a, get_app b⟩⟩
theorem Rows.snoc {n : Nat} {e : Heap} {cs : List Value} {P : List (List Int)} (h : Rows n e cs P) {L : List Int} {q : Nat} (hq : e[q]? = some (intE.row 3 L)) : Rows n e (cs ++ [Enc.sl (n + q) L]) (P ++ [L]) := ⟨by rw [List.length_append, List.length_append, h.len]; rfl, fun i h1 h2 => by
  by_cases e : i < cs.length
  · have h3 : i < P.length := by have := h.len; omega
    rw [List.getElem_append_left e, List.getElem_append_left h3]
    exact h.row i e h3
  · have h4 : i = cs.length := by simp at h1; omega
    subst h4
    have h3 : P.length = cs.length := h.len.symm
    refine ⟨q, by simp [h3], ?_⟩
    rw [hq]; simp [h3]⟩
theorem Rows.cut {n m : Nat} {e : Heap} {cs : List Value} {P : List (List Int)} (h : Rows n e cs P) (hb : cs.all (below 8 (n + m)) = true) : Rows n (e.take m) cs P := ⟨h.len, fun i h1 h2 => by
  obtain ⟨q, a, b⟩ := h.row i h1 h2
  have h3 := List.all_eq_true.1 hb cs[i] (List.getElem_mem h1)
  rw [a] at h3
  have h3 : decide (n + q < n + m) = true := h3
  have h3 := of_decide_eq_true h3
  exact ⟨q, a, by rw [List.getElem?_take_of_lt (by omega)]; exact b⟩⟩
structure PvO (h : Heap) (b : Nat) (cs : List Value) (P : List (List Int)) (e : Heap) : Prop where
  wf : WF (h ++ pvH b h.length cs e)
  rows : Rows (h.length + 4) e cs P
section
variable {h : Heap} {b : Nat} {cs : List Value} {P : List (List Int)} {E1 : Heap}
theorem PvO.app (o : PvO h b cs P E1) {x : AObj} (hx : belowO (h.length + (E1.length + 4) + 1) x = true) : PvO h b cs P (E1 ++ [x]) := ⟨by
  have := o.wf.snoc (o := x) (by rw [List.length_append, pvH_len]; exact hx)
  rw [List.append_assoc, pvH_app] at this
  exact this, o.rows.app _⟩
theorem pv_trim {e : Heap} (o : PvO h b cs P (E1 ++ e)) (vs : List Value) : ∃ e', trim (h.length + (E1.length + 4)) vs (h ++ pvH b h.length cs (E1 ++ e)) = h ++ pvH b h.length cs (E1 ++ e') ∧ PvO h b cs P (E1 ++ e') := by
  unfold Bm.trim
  split
  · exact ⟨e, rfl, o⟩
  · split
    · rename_i hq
      have e1 : (h ++ pvH b h.length cs (E1 ++ e)).take (h.length + (E1.length + 4)) = h ++ pvH b h.length cs E1 := by
        have e2 : h ++ pvH b h.length cs (E1 ++ e) = (h ++ pvH b h.length cs E1) ++ e := by rw [List.append_assoc, pvH_app]
        rw [e2, List.take_left' (by rw [List.length_append, pvH_len])]
      rw [e1] at hq ⊢
      refine ⟨[], by rw [List.append_nil], ?_⟩
      rw [Bool.and_eq_true] at hq
      rw [List.append_nil]
      have hb : cs.all (below 8 (h.length + 4 + E1.length)) = true := by
        have h2 := List.all_eq_true.1 hq.2 (AObj.cells 42 cs 1) (List.mem_append_right _ (by unfold pvH; simp))
        rw [show h.length + 4 + E1.length = h.length + (E1.length + 4) by omega]
        exact h2
      have hr := o.rows.cut hb
      rw [List.take_left] at hr
      refine ⟨?_, hr⟩
      unfold WF
      rw [List.length_append, pvH_len]
      exact hq.2
    · exact ⟨e, rfl, o⟩
theorem pv_push {lo : Nat} (hlo : lo ≤ h.length) (o : PvO h b cs P E1) (hP : P.length ≤ 1000000000000) {x : List Int} {K : List Nat} (hK : K ≠ []) (hx : x.length ≤ 2) (hl : K.length ≤ 1000) :
    (∀ st, appendT (some elInt) (h ++ pvH b h.length cs E1) lo st (lst true (intE.vals x)) (intE.o (some false) (castL K)) = some (Enc.sl (h.length + (E1.length + 4)) (x ++ castL K), h ++ pvH b h.length cs (E1 ++ [intE.row 3 (x ++ castL K)]))) ∧
    buildSliceT (some elRow) false (h ++ pvH b h.length cs (E1 ++ [intE.row 3 (x ++ castL K)])) 1 #[(0, Enc.sl (h.length + (E1.length + 4)) (x ++ castL K))] = some (.slice (some ⟨h.length + (E1.length + 5), 0, none⟩) 1 1, h ++ pvH b h.length cs (E1 ++ [intE.row 3 (x ++ castL K), AObj.cells 42 [Enc.sl (h.length + (E1.length + 4)) (x ++ castL K)] 0])) ∧
    ∃ H, appendT (some elRow) (h ++ pvH b h.length cs (E1 ++ [intE.row 3 (x ++ castL K), AObj.cells 42 [Enc.sl (h.length + (E1.length + 4)) (x ++ castL K)] 0])) lo false (rowsV h.length cs.length) (.slice (some ⟨h.length + (E1.length + 5), 0, none⟩) 1 1) = some (rowsV h.length (cs.length + 1), H) ∧
      storeT (some 1) H lo (rowsV h.length (cs.length + 1)) (ptr (h.length + 1)) = some (h ++ pvH b h.length (cs ++ [Enc.sl (h.length + (E1.length + 4)) (x ++ castL K)]) (E1 ++ [intE.row 3 (x ++ castL K), AObj.cells 42 [Enc.sl (h.length + (E1.length + 4)) (x ++ castL K)] 0])) ∧
      PvO h b (cs ++ [Enc.sl (h.length + (E1.length + 4)) (x ++ castL K)]) (P ++ [x ++ castL K]) (E1 ++ [intE.row 3 (x ++ castL K), AObj.cells 42 [Enc.sl (h.length + (E1.length + 4)) (x ++ castL K)] 0]) := by
  have hKc : castL K ≠ [] := fun e => hK (by rw [show castL K = K.map Int.ofNat from rfl] at e; exact List.map_eq_nil_iff.1 e)
  have hcl := cast_len K
  refine ⟨fun st => ?_, ?_, ?_⟩
  · have := Enc.app_tree (O := intE) (el := elInt) (lo := lo) (st := st) (h := h ++ pvH b h.length cs E1) (l := x) (m := castL K) rfl (Enc.cells_tree (O := intE) (x := false)) hKc (by rw [hcl]; show (x.length + K.length) * 8 ≤ _; omega)
    rw [List.length_append, pvH_len, List.append_assoc, pvH_app] at this
    exact this
  · rw [build_one' (by rfl) rfl rfl, if_neg (by decide), if_neg (by
      show ¬ false = true
      decide), List.length_append, pvH_len, List.length_append, List.append_assoc, pvH_app, List.append_assoc]
    rfl
  · generalize hL : x ++ castL K = L at *
    refine ⟨(h ++ pvH b h.length cs (E1 ++ [intE.row 3 L, AObj.cells 42 [Enc.sl (h.length + (E1.length + 4)) L] 0])).set (h.length + 3) (.cells 42 (cs ++ [Enc.sl (h.length + (E1.length + 4)) L]) 1), ?_, ?_, ?_⟩
    · have e1 : (h ++ pvH b h.length cs (E1 ++ [intE.row 3 L, AObj.cells 42 [Enc.sl (h.length + (E1.length + 4)) L] 0]))[h.length + 3]? = some (.cells 42 cs 1) := get_at rfl
      have e2 : sliceCells (h ++ pvH b h.length cs (E1 ++ [intE.row 3 L, AObj.cells 42 [Enc.sl (h.length + (E1.length + 4)) L] 0])) 1 (.slice (some ⟨h.length + (E1.length + 5), 0, none⟩) 1 1) = some ([Enc.sl (h.length + (E1.length + 4)) L], 1) := by
        have e3 : (h ++ pvH b h.length cs (E1 ++ [intE.row 3 L, AObj.cells 42 [Enc.sl (h.length + (E1.length + 4)) L] 0]))[h.length + (E1.length + 5)]? = some (AObj.cells 42 [Enc.sl (h.length + (E1.length + 4)) L] 0) := get_at (by
          show (E1 ++ [intE.row 3 L, AObj.cells 42 [Enc.sl (h.length + (E1.length + 4)) L] 0])[E1.length + 1]? = _
          rw [List.getElem?_append_right (by omega), show E1.length + 1 - E1.length = 1 by omega]; rfl)
        unfold sliceCells fitsRow rdN rowOf
        simp [e3, stampOk]
      unfold rowsV
      rw [append_slice]
      show appS elRow _ lo false _ _ _ (_[h.length + 3]?) (sliceCells _ 1 _) = _
      rw [e1, e2]
      refine (appS_grown (el := elRow) (m := 1) (g := 0) (b := h.length + 3) (by decide) rfl rfl rfl (by omega) (by omega) (by rw [o.rows.len]; show (P.length + 1) * 24 ≤ _; omega)).trans ?_
      rw [List.length_append]; rfl
    · rw [set_at]
      have := obj_store (h := h ++ (pvH b h.length cs (E1 ++ [intE.row 3 L, AObj.cells 42 [Enc.sl (h.length + (E1.length + 4)) L] 0])).set 3 (.cells 42 (cs ++ [Enc.sl (h.length + (E1.length + 4)) L]) 1)) (b := h.length + 1) (j := 0) (lo := lo) (t := 24) (c := [rowsV h.length cs.length]) (v := rowsV h.length (cs.length + 1)) (get_at (k := 1) rfl) (by simp) (by omega) rfl
      refine this.trans ?_
      rw [set_at]
      unfold pvH
      rw [List.length_append]; rfl
    · have o2 := (o.app (x := intE.row 3 L) Enc.row_bel).app (x := AObj.cells 42 [Enc.sl (h.length + (E1.length + 4)) L] 0) (by
        rw [belO_cells, List.all_cons, List.all_nil, Bool.and_true]
        exact Enc.sl_bel (d := 7) (by rw [List.length_append, List.length_singleton]; omega))
      rw [List.append_assoc] at o2
      have hr := o2.rows.snoc (L := L) (q := E1.length) (by
        show (E1 ++ [intE.row 3 L, AObj.cells 42 [Enc.sl (h.length + (E1.length + 4)) L] 0])[E1.length]? = _
        rw [List.getElem?_append_right (Nat.le_refl _), Nat.sub_self]; rfl)
      have e5 : h.length + 4 + E1.length = h.length + (E1.length + 4) := by omega
      rw [e5] at hr
      refine ⟨?_, hr⟩
      have hw := o2.wf
      unfold WF pvH at hw ⊢
      simp only [List.all_append, List.all_cons, List.length_append, List.length_cons, List.length_nil, Bool.and_eq_true, List.singleton_append] at hw ⊢
      obtain ⟨a1, a2, a3, a4, a5, a6⟩ := hw
      refine ⟨a1, a2, ?_, a4, ?_, a6⟩
      · rw [belO_cells, List.all_cons, List.all_nil, Bool.and_true]
        refine decide_eq_true ?_
        show h.length + 3 < _
        omega
      · rw [belO_cells] at a5 ⊢
        rw [List.all_append, a5, List.all_cons, List.all_nil, Bool.and_true, Bool.true_and]
        exact Enc.sl_bel (d := 7) (by omega)
end
end Go.Proofs.YtgefjhjmkejjbaaDoor.Bm
namespace Go.Proofs.YtgefjhjmkejjbaaDoor.Bm
open Go Go.RowKit
open Co (ltB rem maskF apartF allF packF packedF proveF choicesF firstF Within CovS)
theorem uInts : E.P.underlying 42 = some (.slice 3) := by kernel_rfl
theorem neq_list {l : List Int} (hl : l ≠ []) : aBin E.P .neq 42 (intE.o (some false) l) (.slice none 0 0) = some (.bool true) := by
  have hv : (intE.vals l).isEmpty = false := by
    cases l with
    | nil => exact absurd rfl hl
    | cons a l => rfl
  simp [aBin, aEq, Op.maxDepth, uInts, Enc.o, lst, hv]
theorem neq_nil_nil : aBin E.P .neq 42 (.slice none 0 0) (.slice none 0 0) = some (.bool false) := by
  simp [aBin, aEq, Op.maxDepth, uInts]
theorem lit2 (H : Heap) (x y : Int) : buildSliceT (some elInt) false H 2 #[(0, .int .i64 x), (1, .int .i64 y)] = some (lst true (intE.vals [x, y]), H) :=
  (build_lit' (el := elInt) (n := 2) (l := [(0, .int .i64 x), (1, .int .i64 y)]) rfl rfl (by decide) (by decide) (by decide)).trans rfl
theorem lit1 (H : Heap) (x : Int) : buildSliceT (some elInt) false H 1 #[(0, .int .i64 x)] = some (lst true (intE.vals [x]), H) := Enc.lit (O := intE) x rfl rfl rfl
theorem lop_ih {nx : Body} {σ : Slots} {α : Type} {G : α → Heap} {Fh : Unit → Heap → CRes} {Kk : Unit → Heap → Prop} {Pp : α → Prop} {F : Slots → α} (ihl : ∀ e', Pp e' → ∃ u h', nx σ (G e') = Fh u h' ∧ Kk u h') (hp : ∀ vs, Pp (F vs)) : ∃ u h', nx σ (G (F σ)) = Fh u h' ∧ Kk u h' := ihl (F σ) (hp σ)
def PvS (A : List (Option Bool × List ByteArray)) (h : Heap) (b g : Nat) : Prop := ∀ (o : Nat) (cs : List Value) (P : List (List Int)) (e : Heap) (lo : Nat), lo ≤ h.length → Within (als A) o → (∀ C, CovS (als A) o C → g + 1 ≤ C.length) → PvO h b cs P e → P.length + (proveF (als A) (g + 1) o).length ≤ 1000000000000 →
  ∃ cs' e', aCall E (L E) lo false (pvF h.length) [setV o, .int .i64 (g : Int)] (h ++ pvH b h.length cs e) = some (.tuple #[], h ++ pvH b h.length cs' (e ++ e')) ∧ PvO h b cs' (P ++ proveF (als A) (g + 1) o) (e ++ e')
def PvG (h : Heap) (b : Nat) (P' : List (List Int)) (e : Heap) (X : Res) : Prop := ∃ cs' e', X = some (.tuple #[], h ++ pvH b h.length cs' (e ++ e')) ∧ PvO h b cs' P' (e ++ e')
section
variable {h : Heap} {b r m : Nat} {K : Option Bool} {A : List (Option Bool × List ByteArray)} {ns : List ByteArray}
theorem within_lt (hA : A.length ≤ 8) {o : Nat} (hw : Within (als A) o) : o < 256 := Nat.lt_pow_two_of_testBit (n := 8) o fun i hi => by
  cases q : o.testBit i
  · rfl
  · have := hw i q
    unfold als at this
    rw [List.length_map] at this
    omega
set_option maxHeartbeats 4000000 in
theorem prove1_step (p : Pb h b r m K A ns) (hne : ∀ a ∈ als A, a ≠ []) {g : Nat} (hg : g ≤ 900) (ih : ∀ g', g = g' + 1 → PvS A h b g') : PvS A h b g := by
  intro o cs P e lo hlo hwn hcov hO hP
  have eal : (als A).length = A.length := by unfold als; rw [List.length_map]
  have hfew := p.few
  have ho := within_lt hfew hwn
  have ho64 : o < 2 ^ 64 := by omega
  have g0 := fun cs e sz => box_load (h := h ++ pvH b h.length cs e) (x := h.length) (t := 43) (v := ptr b) (get_at (k := 0) rfl) (sz := sz)
  have g1 := fun cs e sz => box_load (h := h ++ pvH b h.length cs e) (x := h.length + 1) (t := 24) (v := rowsV h.length cs.length) (get_at (k := 1) rfl) (sz := sz)
  have g2 := fun cs e sz => box_load (h := h ++ pvH b h.length cs e) (x := h.length + 2) (t := 70) (v := pvF h.length) (get_at (k := 2) rfl) (sz := sz)
  have pe := fun cs e => p.app (pvH b h.length cs e)
  have pk := pack_spec (pe cs e) hO.wf (n := g + 1) ho64
  unfold Rd at pk
  have wg : IntKind.i64.wrap ((g : Int) + 1) = ((g + 1 : Nat) : Int) := (wrap64 (by omega) (by omega)).trans (by omega)
  show PvG h b (P ++ proveF (als A) (g + 1) o) e (retCall E (L E) lo false 43 [setV o, .int .i64 (g : Int), ptr h.length, ptr (h.length + 1), ptr (h.length + 2)] (h ++ pvH b h.length cs e))
  have hop : ∃ k, o.testBit k = true := by
    apply Classical.byContradiction
    intro h
    have := hcov [] (Co.covS_iff.2 fun k hk => absurd ⟨k, hk⟩ h)
    simp at this
  obtain ⟨kb, hkb⟩ := hop
  unfold proveF at hP ⊢
  rw [eal] at hP ⊢
  rw [ret2 m43, L_fn F43 rfl]
  cases hp : packF (als A) o (g + 1) (List.range A.length) [] with
  | some K' =>
    rw [hp] at pk hP
    have hl := Co.pack_len hp
    have hK : K' ≠ [] := fun q => by rw [q] at hl; simp at hl
    have hKc : castL K' ≠ [] := fun e => hK (by rw [show castL K' = K'.map Int.ofNat from rfl] at e; exact List.map_eq_nil_iff.1 e)
    obtain ⟨a1, a2, H, a3, a4, a5⟩ := pv_push (lo := lo) hlo hO (Nat.le_trans (Nat.le_add_right _ _) hP) (x := [0]) hK (by simp) (by omega)
    have nl := neq_list hKc
    refine ⟨_, _, ?_, a5⟩
    generalize Enc.sl (h.length + (e.length + 4)) ([0] ++ castL K') = V at *
    generalize [0] ++ castL K' = LL0 at *
    generalize hVK : intE.o (some false) (castL K') = VK at *
    simp -implicitDefEqProofs [r43, p43, g0, g1, wg, pk, packV, hVK, nl, lit1, a1, a2, a3, a4, -Int.natCast_add]
  | none =>
    rw [hp] at pk hP
    have hg0 : g ≠ 0 := by
      rintro rfl
      obtain ⟨K', hK'⟩ := Co.packF_one (als A) o (List.range A.length) ⟨kb, List.mem_range.2 (by have := hwn kb hkb; omega), hkb⟩
      rw [hK'] at hp; cases hp
    obtain ⟨g', rfl⟩ : ∃ g', g = g' + 1 := ⟨g - 1, by omega⟩
    have ih := ih g' rfl
    have hlow := low_first (o := o) (n := A.length) hfew ⟨kb, by have := hwn kb hkb; omega, hkb⟩
    obtain ⟨f1, f2⟩ := Co.first_bit o A.length 0 ⟨kb, Nat.zero_le _, by have := hwn kb hkb; omega, hkb⟩
    have ho0 : o ≠ 0 := fun e => by rw [e, Nat.zero_testBit] at hkb; cases hkb
    have tz := tz_spec ho0 ho
    rw [hlow] at tz
    dsimp only at hP ⊢
    generalize firstF o A.length 0 = k0 at *
    have hk0 : k0 < A.length := by omega
    rw [alt_at hk0] at hP ⊢
    have hka := p.ka _ (List.getElem_mem hk0)
    have hsm := p.small _ (List.getElem_mem hk0)
    have hane : A[k0].2 ≠ [] := hne _ (by unfold als; exact List.mem_map.2 ⟨_, List.getElem_mem hk0, rfl⟩)
    have hcn := Co.choices_ne (l := als A) (o := o) hane
    have hcl : ∀ i ∈ choicesF (als A) o A[k0].2, i < A[k0].2.length := fun i hi => Co.choices_lt hi
    have hcle : (choicesF (als A) o A[k0].2).length ≤ 12 := by
      have h1 : (choicesF (als A) o A[k0].2).length ≤ (List.range A[k0].2.length).length := List.length_filter_le _ _
      rw [List.length_range] at h1
      omega
    have ch := choices_spec (pe cs e) hO.wf hka (Nat.le_trans hsm (by omega)) ho64
    rw [more_choices] at ch
    unfold Rd at ch
    have iA := Enc.index_o (O := listE) (t := 23) (k := .i64) p.k hk0
    have lA : ∀ h sz, loadT ⟨some false, sz⟩ h (cptr (listE.e A[k0])) = some (strE.o A[k0].1 A[k0].2) := fun h sz => Enc.load_e (O := listE) _
    have l0 := fun cs e sz => (pe cs e).l0 (sz := sz)
    have l2 := fun cs e sz => (pe cs e).l2 (sz := sz)
    have lk := fun cs e s => (pe cs e).look s
    have as_ : ∀ (i : Nat) (hi : i < A[k0].2.length), indexAddrT (.sl 9 ⟨some false, some 1⟩) (strE.o A[k0].1 A[k0].2) (.int .i64 (i : Int)) = some (cptr (.string A[k0].2[i])) := fun i hi => Enc.index_o hka hi
    generalize hn : choicesF (als A) o A[k0].2 = n at *
    have an : ∀ (i : Nat) (hi : i < n.length), indexAddrT (.sl 3 ⟨some false, some 1⟩) (intE.o (some false) (castL n)) (.int .i64 (i : Int)) = some (cptr (.int .i64 (n[i] : Int))) := fun i hi => by
      rw [Enc.index_o Enc.ok_some (by rw [cast_len]; exact hi), cast_get hi]; rfl
    have ln : ∀ H, lenT .sl H (intE.o (some false) (castL n)) = some (.int .i64 n.length) := fun H => by rw [Enc.o_len Enc.ok_some, cast_len]
    obtain ⟨a1, a2, H, a3, a4, a5⟩ := pv_push (lo := lo) hlo hO (Nat.le_trans (Nat.le_add_right _ _) hP) (x := [1, (k0 : Int)]) hcn (by simp) (by omega)
    have eP : 1 :: (k0 : Int) :: n.map Int.ofNat = [1, (k0 : Int)] ++ castL n := rfl
    rw [eP] at hP ⊢
    generalize hVV : Enc.sl (h.length + (e.length + 4)) ([1, (k0 : Int)] ++ castL n) = V at *
    generalize [1, (k0 : Int)] ++ castL n = LL0 at *
    generalize intE.o (some false) (castL n) = VK at *
    generalize hVA : listE.o K A = VA at *
    generalize cptr (listE.e A[k0]) = VE at *
    generalize hVS : strE.o A[k0].1 A[k0].2 = VS at *
    have hGi : ∀ (j : Nat) (hj : j < A[k0].2.length), proveF (als A) (g' + 1) (rem o ((maskF (als A) <$> A[k0].2[j]?).getD 0)) = proveF (als A) (g' + 1) (rem o (maskF (als A) A[k0].2[j])) := fun j hj => by
      rw [List.getElem?_eq_getElem hj]; rfl
    obtain ⟨G, hG⟩ : ∃ G : Nat → List (List Int), G = fun i => proveF (als A) (g' + 1) (rem o ((maskF (als A) <$> A[k0].2[i]?).getD 0)) := ⟨_, rfl⟩
    rw [← hG] at hP ⊢
    have hGj : ∀ (j : Nat) (hj : j < A[k0].2.length), G j = proveF (als A) (g' + 1) (rem o (maskF (als A) A[k0].2[j])) := fun j hj => by rw [hG]; exact hGi j hj
    clear hG hGi
    have rfU : ∀ H, reify E.P 8 H (setV o) = some (setV o) := fun _ => rfl
    simp -implicitDefEqProofs [r43, p43, g0, g1, wg, pk, packV, neq_nil_nil, ret0 m45, rfU, tz, rop_nilT, nilT_ptr, l0, iA, lA, ch, lit2, a1, a2, a3, a4, ln, -Int.natCast_add]
    generalize hT : P ++ LL0 :: List.flatMap G n = T
    have hTl : T.length ≤ 1000000000000 := by rw [← hT, List.length_append]; exact hP
    refine ux_goal (G := fun X => PvG h b T e (retK [] (blkK 0 X)))
      (LL_ux (α := Nat × List Value × List (List Int) × Heap) (U := Unit) (0, cs ++ [V], P ++ [LL0], e ++ [intE.row 3 LL0, AObj.cells 42 [V] 0]) (fun a => [(48, .int .i64 (a.1 : Int))]) (fun a => h ++ pvH b h.length a.2.1 a.2.2.2)
        (.exit 0) (fun _ => [(48, undef)])
        (fun _ h' => ∃ cs' e', h' = h ++ pvH b h.length cs' (e ++ e') ∧ PvO h b cs' T (e ++ e'))
        (fun a => a.1 ≤ n.length ∧ PvO h b a.2.1 a.2.2.1 a.2.2.2 ∧ (∃ e2, a.2.2.2 = e ++ e2) ∧ a.2.2.1 ++ (n.drop a.1).flatMap G = T)
        (fun a => n.length - a.1) ?_ ?_ ?_ ?_) ?_
    · exact ⟨Nat.zero_le _, a5, ⟨_, rfl⟩, by rw [← hT, List.append_assoc]; rfl⟩
    · simp -implicitDefEqProofs [k43_8]
    · rfl
    · intro nx a ha ihl
      obtain ⟨i, cs1, P1, e1⟩ := a
      obtain ⟨c1, c2, ⟨e2, c3⟩, c4⟩ := ha
      simp only at c1 c2 c3 c4 ihl ⊢
      by_cases hi : i < n.length
      case neg =>
        have e : i = n.length := by omega
        subst e
        rw [List.drop_length, List.flatMap_nil, List.append_nil] at c4
        subst c4
        refine ⟨(), h ++ pvH b h.length cs1 e1, ?_, cs1, e2, by rw [c3], by rw [← c3]; exact c2⟩
        have gi : ¬ ((n.length : Int) < (n.length : Int)) := by omega
        simp -implicitDefEqProofs [r43_8, k43_8, trim_le]
      have hi2 : (i : Int) < (n.length : Int) := by omega
      have hd : n.drop i = n[i] :: n.drop (i + 1) := List.drop_eq_getElem_cons hi
      have hj := hcl n[i] (List.getElem_mem hi)
      have x1 := an i hi
      have x2 := as_ n[i] hj
      have x3 := lk cs1 e1 A[k0].2[n[i]]
      have b3 := bin_remU (P := E.P) (t := 58) ho64 (mask_small A p.few A[k0].2[n[i]])
      have wi : IntKind.i64.wrap ((i : Int) + 1) = ((i + 1 : Nat) : Int) := (wrap64 (by omega) (by omega)).trans (by omega)
      have wg2 : IntKind.i64.wrap (((g' + 1 : Nat) : Int) - 1) = (g' : Int) := (wrap64 (by omega) (by omega)).trans (by omega)
      rw [hd, List.flatMap_cons, ← List.append_assoc, hGj n[i] hj] at c4
      have hlen : P1.length + (proveF (als A) (g' + 1) (rem o (maskF (als A) A[k0].2[n[i]]))).length ≤ 1000000000000 := by
        have := congrArg List.length c4
        rw [List.length_append, List.length_append] at this
        omega
      obtain ⟨cs2, e3, cl, o2⟩ := ih (rem o (maskF (als A) A[k0].2[n[i]])) cs1 P1 e1 lo hlo (hwn.rem _) (fun C hC => by
        have := hcov (A[k0].2[n[i]] :: C) hC
        rw [List.length_cons] at this
        omega) c2 hlen
      obtain ⟨F, hF1, hF2⟩ : ∃ F : Slots → Heap, (∀ vs, Bm.trim (h.length + (e1.length + 4)) vs (h ++ pvH b h.length cs2 (e1 ++ e3)) = h ++ pvH b h.length cs2 (e1 ++ F vs)) ∧ ∀ vs, PvO h b cs2 (P1 ++ proveF (als A) (g' + 1) (rem o (maskF (als A) A[k0].2[n[i]]))) (e1 ++ F vs) :=
        ⟨fun vs => (pv_trim o2 vs).choose, fun vs => (pv_trim o2 vs).choose_spec.1, fun vs => (pv_trim o2 vs).choose_spec.2⟩
      have qn := fun e' (hp : PvO h b cs2 (P1 ++ proveF (als A) (g' + 1) (rem o (maskF (als A) A[k0].2[n[i]]))) (e1 ++ e')) => ihl (i + 1, cs2, P1 ++ proveF (als A) (g' + 1) (rem o (maskF (als A) A[k0].2[n[i]])), e1 ++ e') (by show n.length - (i + 1) < n.length - i; omega) ⟨hi, hp, ⟨e2 ++ e', by rw [c3, List.append_assoc]⟩, c4⟩
      simp only at qn
      obtain ⟨u, h', r1, r2⟩ := lop_ih (F := F) qn hF2
      refine ⟨u, h', ?_, r2⟩
      rw [← r1]
      simp -implicitDefEqProofs [k43_8, -Int.natCast_add]
      simp -implicitDefEqProofs [r43_8, hi2, x1, x2, g0, g2, rop_nilT, nilT_ptr, l2, x3, b3, wg2, wi, cl, pvH_len, hF1, -Int.natCast_add]
    · intro u h' hK
      obtain ⟨cs', e', rfl, hO'⟩ := hK
      refine ⟨cs', e', ?_, hO'⟩
      simp -implicitDefEqProofs [k43_8]
theorem prove1_spec (p : Pb h b r m K A ns) (hne : ∀ a ∈ als A, a ≠ []) : ∀ g, g ≤ 900 → PvS A h b g := by
  intro g
  induction g with
  | zero => intro hg; exact prove1_step p hne hg fun g' e => by omega
  | succ g ih =>
    intro hg
    refine prove1_step p hne hg fun g' e => ?_
    have e : g = g' := by omega
    subst e
    exact ih (by omega)
end
end Go.Proofs.YtgefjhjmkejjbaaDoor.Bm
namespace Go.Proofs.YtgefjhjmkejjbaaDoor.Bm
open Go Go.RowKit
open Co (ltB rem maskF apartF allF packF packedF proveF choicesF firstF Within CovS)
section
variable {h : Heap} {b r m : Nat} {K : Option Bool} {A : List (Option Bool × List ByteArray)} {ns : List ByteArray}
set_option maxHeartbeats 2000000 in
theorem prove_spec (p : Pb h b r m K A ns) (hw : WF h) (hne : ∀ a ∈ als A, a ≠ []) {g : Nat} (hg : g ≤ 900) (hcov : ∀ C, CovS (als A) (allF (als A)) C → g + 1 ≤ C.length) (hP : (proveF (als A) (g + 1) (allF (als A))).length ≤ 1000000000000) {lo : Nat} (hlo : lo ≤ h.length) :
    ∃ cs e, L E 29 [ptr b, .int .i64 (g : Int)] h lo = some (rowsV h.length cs.length, h ++ pvH b h.length cs e) ∧ Rows (h.length + 4) e cs (proveF (als A) (g + 1) (allF (als A))) := by
  have hb := p.lt
  have sI : szOf E.P 42 = some 1 := by kernel_rfl
  have w0 : WF (h ++ pvH b h.length [] []) := by
    unfold WF pvH at *
    simp only [List.all_append, List.all_cons, List.all_nil, List.length_append, List.length_cons, List.length_nil, Bool.and_true, Bool.and_eq_true]
    refine ⟨?_, ?_, ?_, ?_, rfl⟩
    · exact List.all_eq_true.2 fun x hx => belO_mono (by omega) (List.all_eq_true.1 hw x hx)
    · simp [belO_cells, below]; omega
    · simp [belO_cells, below, rowsV]
    · simp [belO_cells, below, pvF]
  have hwn : Within (als A) (allF (als A)) := fun i hi => by rw [Co.all_bit, decide_eq_true_eq] at hi; exact hi
  obtain ⟨cs, e, cl, o⟩ := prove1_spec p hne g hg (allF (als A)) [] [] [] lo hlo hwn hcov ⟨w0, Rows.nil⟩ (by rw [List.length_nil, Nat.zero_add]; exact hP)
  rw [List.nil_append, List.nil_append] at *
  have pe := fun e => p.app e
  have al := all_spec (p.app (pvH b h.length [] []))
  unfold Rd at al
  have g0 := fun cs e sz => box_load (h := h ++ pvH b h.length cs e) (x := h.length) (t := 43) (v := ptr b) (get_at (k := 0) rfl) (sz := sz)
  have g1 := fun cs e sz => box_load (h := h ++ pvH b h.length cs e) (x := h.length + 1) (t := 24) (v := rowsV h.length cs.length) (get_at (k := 1) rfl) (sz := sz)
  have g2 := fun cs e sz => box_load (h := h ++ pvH b h.length cs e) (x := h.length + 2) (t := 70) (v := pvF h.length) (get_at (k := 2) rfl) (sz := sz)
  have ff : flat .nilFunc = true := rfl
  have cn : cellsOf .nilFunc = some [.nilFunc] := rfl
  have st : storeT (some 1) (h ++ [AObj.cells 43 [ptr b] 0, AObj.cells 24 [.slice none 0 0] 0, AObj.cells 70 [.nilFunc] 0]) lo (.func (.func 43) #[] #[ptr h.length, ptr (h.length + 1), ptr (h.length + 2)]) (ptr (h.length + 2)) = some (h ++ [AObj.cells 43 [ptr b] 0, AObj.cells 24 [.slice none 0 0] 0, AObj.cells 70 [pvF h.length] 0]) := by
    have := obj_store (h := h ++ [AObj.cells 43 [ptr b] 0, AObj.cells 24 [.slice none 0 0] 0, AObj.cells 70 [.nilFunc] 0]) (lo := lo) (v := pvF h.length) (b := h.length + 2) (j := 0) (t := 70) (c := [.nilFunc]) (get_at (k := 2) rfl) (by simp) (by omega) rfl
    refine this.trans ?_
    rw [set_at]; rfl
  have nc : ∀ σ, newcK E.P lo (h ++ [AObj.cells 43 [ptr b] 0, AObj.cells 24 [.slice none 0 0] 0, AObj.cells 70 [pvF h.length] 0]) σ 0 42 (ptr (h.length + 1)) = some (σ, h ++ pvH b h.length [] []) := fun σ => by
    have := newcK_cell (P := E.P) (σ := σ) (lo := lo) (t := 42) (b := h.length + 1) (off := 0) (d := 0) (n := 0) (sp := none) (h := h ++ [AObj.cells 43 [ptr b] 0, AObj.cells 24 [.slice none 0 0] 0, AObj.cells 70 [pvF h.length] 0]) (c := [.slice none 0 0]) (g := 0) (get_at (k := 1) rfl) rfl sI (by omega)
    rw [this, set_at, List.append_assoc, List.length_append]; rfl
  refine ⟨cs, e, ?_, o.rows⟩
  rw [L_fn F29 rfl]
  simp -implicitDefEqProofs [r29, p29, prep_newc, ff, cn, st, nc, g0, g1, g2, al, cl]
end
end Go.Proofs.YtgefjhjmkejjbaaDoor.Bm
namespace Go.Proofs.YtgefjhjmkejjbaaDoor.Bm
open Go Go.RowKit
open Co (ltB rem maskF allF needF leastF)
def stE (k : Nat × Nat) : Value := .agg #[.int .i64 (k.1 : Int), setV k.2]
theorem st_flat (k : Nat × Nat) : flat (stE k) = true := by simp [stE, flat, atom, setV]
theorem st_ok (k : Nat × Nat) : keyOk E.P 4 68 (stE k) = true := by kernel_rfl
theorem st_eq0 (a b : Nat × Nat) : aKeyEq E.P 68 (stE a) (stE b) = allOf [some ((a.1 : Int) == (b.1 : Int)), some ((a.2 : Int) == (b.2 : Int))] := by kernel_rfl
theorem stK : KeyEnc E.P 68 stE where
  flat := st_flat
  ok := st_ok
  eq a b := by
    rw [st_eq0]
    obtain ⟨a1, a2⟩ := a
    obtain ⟨b1, b2⟩ := b
    have e : ∀ x y : Nat, ((x : Int) == (y : Int)) = decide (x = y) := fun x y => by rw [Bool.eq_iff_iff]; simp; omega
    show allOf [some ((a1 : Int) == (b1 : Int)), some ((a2 : Int) == (b2 : Int))] = _
    rw [e, e]
    by_cases h1 : a1 = b1 <;> by_cases h2 : a2 = b2 <;> simp [allOf, h1, h2]
  bits a := by
    obtain ⟨a1, a2⟩ := a
    show Instr.sameBits 10000 (.agg #[.int .i64 (a1 : Int), .int .u64 (a2 : Int)]) (.agg #[.int .i64 (a1 : Int), .int .u64 (a2 : Int)]) = true
    simp [Instr.sameBits]
theorem aset_mem {κ : Type} [DecidableEq κ] {k : κ} {v : Value} : ∀ {l : List (κ × Value)} {p : κ × Value}, p ∈ aset l k v → p ∈ l ∨ p.2 = v
  | [], p, h => by
    have h : p ∈ [(k, v)] := h
    rw [List.mem_singleton.1 h]; exact .inr rfl
  | q :: l, p, h => by
    unfold aset at h
    split at h
    · rcases List.mem_cons.1 h with rfl | h
      · exact .inr rfl
      · exact .inl (List.mem_cons_of_mem _ h)
    · rcases List.mem_cons.1 h with rfl | h
      · exact .inl List.mem_cons_self
      · rcases aset_mem h with h | h
        · exact .inl (List.mem_cons_of_mem _ h)
        · exact .inr h
theorem minI (a b : Int) : aMinMax false [.int .i64 a, .int .i64 b] = some (.int .i64 (min a b)) := by
  show some (Value.int .i64 (if b < a then b else a)) = _
  congr 2
  omega
def leF (B : Nat) : Value := .func (.func 41) #[] #[ptr B, ptr (B + 2), ptr (B + 3)]
def leH (b B : Nat) (tb : List ((Nat × Nat) × Value)) (out : List ByteArray) (e : Heap) : Heap := AObj.cells 43 [ptr b] 0 :: AObj.dead :: AObj.cells 65 [.map (some (B + 4))] 0 :: AObj.cells 66 [leF B] 0 :: mapB stE tb :: strE.row 9 out :: e
theorem leH_len {b B : Nat} {tb : List ((Nat × Nat) × Value)} {out : List ByteArray} {e : Heap} : (leH b B tb out e).length = e.length + 6 := rfl
theorem leH_app {b B : Nat} {tb : List ((Nat × Nat) × Value)} {out : List ByteArray} {e f : Heap} : leH b B tb out e ++ f = leH b B tb out (e ++ f) := rfl
def prs (ls : List (List ByteArray)) (ns : List ByteArray) : List (ByteArray × Nat) := ns.map fun s => (s, maskF ls s)
def infN (ls : List (List ByteArray)) (ns : List ByteArray) : Nat := ls.length + ns.length + 1
structure LeO (ls : List (List ByteArray)) (ns : List ByteArray) (tb : List ((Nat × Nat) × Value)) (e : Heap) : Prop where
  memo : ∀ i o v, aget tb (i, o) = some v → v = .int .i64 ((needF (infN ls ns) ((prs ls ns).drop i) o : Nat) : Int)
  fl : ∀ p ∈ tb, flat p.2 = true
  ge : ∀ x ∈ e, ∀ n, belowO n x = true
def NeS (A : List (Option Bool × List ByteArray)) (ns : List ByteArray) (h : Heap) (b i : Nat) : Prop := ∀ (o : Nat) (tb : List ((Nat × Nat) × Value)) (out : List ByteArray) (e : Heap) (lo : Nat), o < 2 ^ 64 → lo ≤ h.length + 4 → LeO (als A) ns tb e →
  ∃ tb' e', aCall E (L E) lo false (leF h.length) [.int .i64 (i : Int), setV o] (h ++ leH b h.length tb out e) = some (.int .i64 ((needF (infN (als A) ns) ((prs (als A) ns).drop i) o : Nat) : Int), h ++ leH b h.length tb' out (e ++ e')) ∧ LeO (als A) ns tb' (e ++ e')
def NeG (A : List (Option Bool × List ByteArray)) (ns : List ByteArray) (h : Heap) (b : Nat) (out : List ByteArray) (e : Heap) (n : Nat) (X : Res) : Prop := ∃ tb' e', X = some (.int .i64 (n : Int), h ++ leH b h.length tb' out (e ++ e')) ∧ LeO (als A) ns tb' (e ++ e')
section
variable {h : Heap} {b r m : Nat} {K : Option Bool} {A : List (Option Bool × List ByteArray)} {ns : List ByteArray}
set_option maxHeartbeats 4000000 in
theorem need_step (p : Pb h b r m K A ns) {i : Nat} (hi : i ≤ ns.length) (ih : i < ns.length → NeS A ns h b (i + 1)) : NeS A ns h b i := by
  intro o tb out e lo ho hlo hO
  have eal : (als A).length = A.length := by unfold als; rw [List.length_map]
  have hfew := p.few
  have hlot := p.lot
  have g0 := fun tb e sz => box_load (h := h ++ leH b h.length tb out e) (x := h.length) (t := 43) (v := ptr b) (get_at (k := 0) rfl) (sz := sz)
  have g2 := fun tb e sz => box_load (h := h ++ leH b h.length tb out e) (x := h.length + 2) (t := 65) (v := .map (some (h.length + 4))) (get_at (k := 2) rfl) (sz := sz)
  have g3 := fun tb e sz => box_load (h := h ++ leH b h.length tb out e) (x := h.length + 3) (t := 66) (v := leF h.length) (get_at (k := 3) rfl) (sz := sz)
  have g4 : ∀ tb e, (h ++ leH b h.length tb out e)[h.length + 4]? = some (mapB stE tb) := fun tb e => get_at (k := 4) rfl
  have pe := fun tb e => p.app (leH b h.length tb out e)
  have l0 := fun tb e sz => (pe tb e).l0 (sz := sz)
  have l1 := fun tb e sz => (pe tb e).l1 (sz := sz)
  have l2 := fun tb e sz => (pe tb e).l2 (sz := sz)
  have lk := fun tb e s => (pe tb e).look s
  have ll : ∀ H, lenT .sl H (listE.o K A) = some (.int .i64 A.length) := fun H => Enc.o_len p.k
  have ln : ∀ H, lenT .sl H (Enc.sl r ns) = some (.int .i64 ns.length) := fun H => Enc.sl_len
  have zq := mk_eq (P := E.P) (t := 58) (a := o) (b := 0)
  rw [show setV 0 = .int .u64 0 from rfl] at zq
  generalize hv : needF (infN (als A) ns) ((prs (als A) ns).drop i) o = v
  show NeG A ns h b out e v (retCall E (L E) lo false 41 [.int .i64 (i : Int), setV o, ptr h.length, ptr (h.length + 2), ptr (h.length + 3)] (h ++ leH b h.length tb out e))
  rw [ret2 m41, L_fn F41 rfl]
  generalize listE.o K A = VA at *
  by_cases h0 : o = 0
  · rw [h0, Co.need_zero] at hv
    subst hv
    refine ⟨tb, [], ?_, by rw [List.append_nil]; exact hO⟩
    rw [decide_eq_true h0] at zq
    simp -implicitDefEqProofs [r41, p41, zq]
  rw [decide_eq_false h0] at zq
  by_cases hie : i = ns.length
  · have hv2 : v = A.length + ns.length + 1 := by
      rw [← hv, List.drop_eq_nil_of_le (by unfold prs; rw [List.length_map]; omega), Co.need_nil h0, infN, eal]
    subst hv2
    refine ⟨tb, [], ?_, by rw [List.append_nil]; exact hO⟩
    have w1 : IntKind.i64.wrap ((A.length : Int) + (ns.length : Int)) = (A.length : Int) + (ns.length : Int) := wrap64 (by omega) (by omega)
    have w2 : IntKind.i64.wrap ((A.length : Int) + (ns.length : Int) + 1) = ((A.length + ns.length + 1 : Nat) : Int) := (wrap64 (by omega) (by omega)).trans (by omega)
    subst hie
    simp -implicitDefEqProofs [r41, p41, zq, g0, rop_nilT, nilT_ptr, l0, l1, ll, ln, w1, w2, -Int.natCast_add]
  have hie2 : ¬ (i : Int) = (ns.length : Int) := by omega
  have hil : i < ns.length := by omega
  have ih := ih hil
  have bt : buildT (Bl.fs ⟨[Value.int .i64 0, Value.int .u64 0]⟩ ⟨[(0, 1), (1, 1)]⟩) #[(0, .int .i64 (i : Int)), (1, setV o)] = some (stE (i, o)) := rfl
  have ff : flat (.agg ⟨[Value.int .i64 0, Value.int .u64 0]⟩) = true := by simp [flat, atom]
  have cz : cellsOf (.agg ⟨[Value.int .i64 0, Value.int .u64 0]⟩) = some [.int .i64 0, .int .u64 0] := rfl
  have at_ : ∀ tb e' f, (h ++ leH b h.length tb out ((e ++ [AObj.cells 68 f 0]) ++ e'))[h.length + (e.length + 6)]? = some (AObj.cells 68 f 0) := fun tb e' f => get_at (by
    show ((e ++ [AObj.cells 68 f 0]) ++ e')[e.length]? = _
    simp)
  have at0 : ∀ tb f, (h ++ leH b h.length tb out (e ++ [AObj.cells 68 f 0]))[h.length + (e.length + 6)]? = some (AObj.cells 68 f 0) := fun tb f => by
    have := at_ tb [] f
    rwa [List.append_nil] at this
  have st : storeT (some 2) (h ++ leH b h.length tb out (e ++ [AObj.cells 68 [.int .i64 0, .int .u64 0] 0])) lo (stE (i, o)) (ptr (h.length + (e.length + 6))) = some (h ++ leH b h.length tb out (e ++ [AObj.cells 68 [.int .i64 (i : Int), setV o] 0])) := by
    have := obj_put (n := 2) (d := [.int .i64 (i : Int), setV o]) (lo := lo) (at0 tb [.int .i64 0, .int .u64 0]) rfl rfl (by decide) (by omega)
    refine this.trans ?_
    rw [set_at]
    congr 2
    show _ :: _ :: _ :: _ :: _ :: _ :: (e ++ [AObj.cells 68 [.int .i64 0, .int .u64 0] 0]).set e.length _ = _
    rw [List.set_append_right _ _ (Nat.le_refl _), Nat.sub_self]; rfl
  have ld : ∀ tb e', loadT ⟨some true, some 2⟩ (h ++ leH b h.length tb out ((e ++ [AObj.cells 68 [.int .i64 (i : Int), setV o] 0]) ++ e')) (ptr (h.length + (e.length + 6))) = some (stE (i, o)) := fun tb e' => obj_all (at_ tb e' _) rfl
  have ld0 : ∀ tb, loadT ⟨some true, some 2⟩ (h ++ leH b h.length tb out (e ++ [AObj.cells 68 [.int .i64 (i : Int), setV o] 0])) (ptr (h.length + (e.length + 6))) = some (stE (i, o)) := fun tb => obj_all (at0 tb _) rfl
  have hO1 : LeO (als A) ns tb (e ++ [AObj.cells 68 [.int .i64 (i : Int), setV o] 0]) := ⟨hO.memo, hO.fl, fun x hx n => by
    rcases List.mem_append.1 hx with hx | hx
    · exact hO.ge x hx n
    · rw [List.mem_singleton.1 hx]; rfl⟩
  obtain ⟨E1, hE1⟩ : ∃ E1, E1 = e ++ [AObj.cells 68 [.int .i64 (i : Int), setV o] 0] := ⟨_, rfl⟩
  rw [← hE1] at hO1 ld ld0 st
  cases hg : aget tb (i, o) with
  | some w =>
    have hw := hO.memo i o w hg
    rw [hv] at hw
    subst hw
    have lu := lookup_some (ok := true) (z := some (.int .i64 0)) (et := some ⟨68, some (.int .i64 0)⟩) stK rfl (g4 tb E1) hg
    refine ⟨tb, [AObj.cells 68 [.int .i64 (i : Int), setV o] 0], ?_, by rw [← hE1]; exact hO1⟩
    rw [← hE1]
    simp -implicitDefEqProofs [r41, p41, zq, g0, g2, rop_nilT, nilT_ptr, l1, ln, hie2, bt, ff, cz, leH_app, leH_len, st, ld0, lu, -Int.natCast_add]
  | none =>
    have lu := lookup_none (ok := true) (zv := .int .i64 0) (et := some ⟨68, some (.int .i64 0)⟩) stK rfl (g4 tb E1) hg
    obtain ⟨tb1, e1, c1, hO2⟩ := ih o tb out E1 lo ho hlo hO1
    have wi : IntKind.i64.wrap ((i : Int) + 1) = ((i + 1 : Nat) : Int) := (wrap64 (by omega) (by omega)).trans (by omega)
    have ld2 : ∀ tb e', loadT ⟨some true, some 2⟩ (h ++ leH b h.length tb out ((E1 ++ e1) ++ e')) (ptr (h.length + (e.length + 6))) = some (stE (i, o)) := fun tb e' => by
      rw [List.append_assoc]; exact ld tb _
    have ld20 : ∀ tb, loadT ⟨some true, some 2⟩ (h ++ leH b h.length tb out (E1 ++ e1)) (ptr (h.length + (e.length + 6))) = some (stE (i, o)) := fun tb => ld tb _
    have hE2 : ∃ e3, E1 ++ e1 = e ++ e3 := ⟨[AObj.cells 68 [.int .i64 (i : Int), setV o] 0] ++ e1, by rw [hE1, List.append_assoc]⟩
    generalize E1 ++ e1 = E2 at *
    have ix := Enc.sl_index (b := r) (t := 9) (g := some false) (k := .i64) hil
    have le : ∀ tb e sz, loadT ⟨some false, sz⟩ (h ++ leH b h.length tb out e) (Enc.at_ r ns i) = some (.string ns[i]) := fun tb e sz => Enc.load_at (O := strE) (sz := sz) (pe tb e).row hil
    have b3 := bin_remU (P := E.P) (t := 58) ho (mask_small A p.few ns[i])
    have bn := mk_neq (P := E.P) (t := 58) (a := rem o (maskF (als A) ns[i])) (b := o)
    have hd : (prs (als A) ns).drop i = (ns[i], maskF (als A) ns[i]) :: (prs (als A) ns).drop (i + 1) := by
      unfold prs
      rw [← List.map_drop, List.drop_eq_getElem_cons hil, List.map_cons, List.map_drop]
    rw [hd, Co.need_cons h0] at hv
    have pt := fun tb e x => put_map (lo := lo) (x := x) (z := some (.int .i64 0)) (k := (i, o)) stK (g4 tb e) hlo
    have hset : ∀ tb e x, (h ++ leH b h.length tb out e).set (h.length + 4) (mapB stE (aset tb (i, o) x)) = h ++ leH b h.length (aset tb (i, o) x) out e := fun tb e x => by rw [set_at]; rfl
    simp only [hset] at pt
    have mem2 : ∀ (tb : List ((Nat × Nat) × Value)) (e : Heap), LeO (als A) ns tb e → LeO (als A) ns (aset tb (i, o) (.int .i64 (v : Int))) e := fun tb e hO => ⟨fun i' o' w hw => by
      rw [aget_set] at hw
      split at hw
      · rename_i q
        cases q
        have hw := (Option.some.inj hw).symm
        subst hw
        rw [← hv, hd, Co.need_cons h0]
      · exact hO.memo i' o' w hw, fun q hq => by
        rcases aset_mem hq with hq | hq
        · exact hO.fl q hq
        · rw [hq]; rfl, hO.ge⟩
    have nb := Co.need_inf (infN (als A) ns) ((prs (als A) ns).drop (i + 1)) o
    have nb2 := Co.need_inf (infN (als A) ns) ((prs (als A) ns).drop (i + 1)) (rem o (maskF (als A) ns[i]))
    have hinf : infN (als A) ns ≤ 200 := by unfold infN; omega
    by_cases hr : rem o (maskF (als A) ns[i]) = o
    · rw [if_pos hr] at hv
      rw [hv] at c1
      rw [hr] at b3 bn
      rw [decide_eq_true rfl] at bn
      obtain ⟨e3, he3⟩ := hE2
      refine ⟨aset tb1 (i, o) (.int .i64 (v : Int)), e3, ?_, by rw [← he3]; exact mem2 _ _ hO2⟩
      rw [← he3]
      simp -implicitDefEqProofs [r41, p41, zq, g0, g2, g3, rop_nilT, nilT_ptr, l1, l2, ln, hie2, bt, ff, cz, leH_app, leH_len, st, ld0, lu, wi, c1, ix, le, lk, b3, bn, ld20, pt, -Int.natCast_add]
    · rw [if_neg hr] at hv
      rw [decide_eq_false hr] at bn
      obtain ⟨tb2, e2, c2, hO3⟩ := ih (rem o (maskF (als A) ns[i])) tb1 out E2 lo (rem_lt ho) hlo hO2
      obtain ⟨e3, he3⟩ := hE2
      refine ⟨aset tb2 (i, o) (.int .i64 (v : Int)), e3 ++ e2, ?_, by rw [← List.append_assoc, ← he3]; exact mem2 _ _ hO3⟩
      rw [← List.append_assoc, ← he3]
      have ld30 := fun tb => ld2 tb e2
      generalize E2 ++ e2 = E3 at *
      generalize needF (infN (als A) ns) ((prs (als A) ns).drop (i + 1)) o = n1 at *
      generalize needF (infN (als A) ns) ((prs (als A) ns).drop (i + 1)) (rem o (maskF (als A) ns[i])) = n2 at *
      have mn : aMinMax false [.int .i64 (n1 : Int), .int .i64 ((1 + n2 : Nat) : Int)] = some (.int .i64 (v : Int)) := by
        rw [minI, ← hv]
        congr 2
        omega
      have w2 : IntKind.i64.wrap (1 + (n2 : Int)) = ((1 + n2 : Nat) : Int) := (wrap64 (by omega) (by omega)).trans (by omega)
      simp -implicitDefEqProofs [r41, p41, zq, g0, g2, g3, rop_nilT, nilT_ptr, l1, l2, ln, hie2, bt, ff, cz, leH_app, leH_len, st, ld0, lu, wi, c1, c2, w2, mn, ix, le, lk, b3, bn, ld30, pt, -Int.natCast_add]
theorem need_spec (p : Pb h b r m K A ns) : ∀ (d i : Nat), ns.length - i ≤ d → i ≤ ns.length → NeS A ns h b i := by
  intro d
  induction d with
  | zero => intro i h1 h2; exact need_step p h2 fun h3 => by omega
  | succ d ih => intro i h1 h2; exact need_step p h2 fun h3 => ih (i + 1) (by omega) h3
end
end Go.Proofs.YtgefjhjmkejjbaaDoor.Bm
namespace Go.Proofs.YtgefjhjmkejjbaaDoor.Bm
open Go Go.RowKit
open Co (ltB rem maskF allF needF leastF)
abbrev elStr : El := ⟨9, 1, 16, .string ⟨⟨[]⟩⟩, ⟨some false, some 1⟩⟩
theorem rop_loadL {E : Env} {C : Callee} {lo : Nat} {h : Heap} {k : TI} {x : Operand} {ρ : Operand → Value} (hc : isLow lo h (ρ x) = true) : ropR E C lo true (.load k x) ρ h = (loadT k h (ρ x)).map (·, h) := by
  show (if (true && !(isCp (ρ x) || isLow lo h (ρ x))) = true then none else _) = _
  rw [hc, Bool.or_true]; rfl
theorem eql_nat {P : Program} {t : TypeId} (x y : Nat) : aBin P .eql t (.int .i64 (x : Int)) (.int .i64 (y : Int)) = some (.bool (decide (x = y))) := by
  rw [bin_eql]
  congr 2
  rw [Bool.eq_iff_iff, decide_eq_true_eq, decide_eq_true_eq]
  exact Int.natCast_inj
section
variable {h : Heap} {b r m : Nat} {K : Option Bool} {A : List (Option Bool × List ByteArray)} {ns : List ByteArray} {ls : List (List ByteArray)} {tb : List ((Nat × Nat) × Value)} {out : List ByteArray} {e : Heap}
theorem le_wf (hw : WF h) (hb : b < h.length) (o : LeO ls ns tb e) : WF (h ++ leH b h.length tb out e) := by
  unfold WF leH at *
  simp only [List.all_append, List.all_cons, List.length_append, List.length_cons, Bool.and_eq_true]
  refine ⟨?_, ?_, rfl, ?_, ?_, ?_, Enc.row_bel, ?_⟩
  · exact List.all_eq_true.2 fun x hx => belO_mono (by omega) (List.all_eq_true.1 hw x hx)
  · simp [belO_cells, below]; omega
  · simp [belO_cells, below]
  · simp [belO_cells, below, leF]
  · exact belO_map stK fun q hq => flat_below (o.fl q hq)
  · exact List.all_eq_true.2 fun x hx => o.ge x hx _
theorem le_trim {E1 : Heap} (o : LeO ls ns tb (E1 ++ e)) (B : Nat) (vs : List Value) : ∃ e', trim (h.length + (E1.length + 6)) vs (h ++ leH b B tb out (E1 ++ e)) = h ++ leH b B tb out (E1 ++ e') ∧ LeO ls ns tb (E1 ++ e') := by
  unfold Bm.trim
  split
  · exact ⟨e, rfl, o⟩
  · split
    · have e1 : (h ++ leH b B tb out (E1 ++ e)).take (h.length + (E1.length + 6)) = h ++ leH b B tb out E1 := by
        have e2 : h ++ leH b B tb out (E1 ++ e) = (h ++ leH b B tb out E1) ++ e := by rw [List.append_assoc, leH_app]
        rw [e2, List.take_left' (by rw [List.length_append, leH_len])]
      exact ⟨[], by rw [e1, List.append_nil], ⟨o.memo, o.fl, fun x hx n => o.ge x (by rw [List.append_nil] at hx; exact List.mem_append_left _ hx) n⟩⟩
    · exact ⟨e, rfl, o⟩
def LsG (A : List (Option Bool × List ByteArray)) (ns : List ByteArray) (h : Heap) (b : Nat) (out : List ByteArray) (X : Res) : Prop := ∃ tb e, X = some (Enc.sl (h.length + 5) out, h ++ leH b h.length tb out e) ∧ LeO (als A) ns tb e
set_option maxHeartbeats 4000000 in
theorem least_spec (p : Pb h b r m K A ns) (_hr : r < h.length) {lo : Nat} (hlo : lo ≤ h.length) : LsG A ns h b ((leastF (infN (als A) ns) (prs (als A) ns) (allF (als A))).map (·.1)) (L E 24 [ptr b] h lo) := by
  have hfew := p.few
  have hlot := p.lot
  have sS : szOf E.P 9 = some 1 := by kernel_rfl
  have g0 := fun tb out e sz => box_load (h := h ++ leH b h.length tb out e) (x := h.length) (t := 43) (v := ptr b) (get_at (k := 0) rfl) (sz := sz)
  have g3 := fun tb out e sz => box_load (h := h ++ leH b h.length tb out e) (x := h.length + 3) (t := 66) (v := leF h.length) (get_at (k := 3) rfl) (sz := sz)
  have pe := fun tb out e => p.app (leH b h.length tb out e)
  have l1 := fun tb out e sz => (pe tb out e).l1 (sz := sz)
  have l2 := fun tb out e sz => (pe tb out e).l2 (sz := sz)
  have lk := fun tb out e s => (pe tb out e).look s
  have ln : ∀ H, lenT .sl H (Enc.sl r ns) = some (.int .i64 ns.length) := fun H => Enc.sl_len
  have fm : flat (.map none) = true := rfl
  have cm : cellsOf (.map none) = some [.map none] := rfl
  have ff : flat .nilFunc = true := rfl
  have cn : cellsOf .nilFunc = some [.nilFunc] := rfl
  have st1 : storeT (some 1) (h ++ [AObj.cells 43 [ptr b] 0, AObj.map [] 0, AObj.cells 65 [.map none] 0]) lo (.map (some (h.length + 1))) (ptr (h.length + 2)) = some (h ++ [AObj.cells 43 [ptr b] 0, AObj.map [] 0, AObj.cells 65 [.map (some (h.length + 1))] 0]) := by
    have := obj_store (h := h ++ [AObj.cells 43 [ptr b] 0, AObj.map [] 0, AObj.cells 65 [.map none] 0]) (lo := lo) (v := .map (some (h.length + 1))) (b := h.length + 2) (j := 0) (t := 65) (c := [.map none]) (get_at (k := 2) rfl) (by simp) (by omega) rfl
    refine this.trans ?_
    rw [set_at]; rfl
  have la : ∀ σ, lateK lo (h ++ [AObj.cells 43 [ptr b] 0, AObj.map [] 0, AObj.cells 65 [.map (some (h.length + 1))] 0, AObj.cells 66 [.nilFunc] 0]) σ (ptr (h.length + 2)) =
      some (σ, h ++ [AObj.cells 43 [ptr b] 0, AObj.dead, AObj.cells 65 [.map (some (h.length + 4))] 0, AObj.cells 66 [.nilFunc] 0, mapB stE []]) := fun σ => by
    have := lateK_map (σ := σ) (lo := lo) (h := h ++ [AObj.cells 43 [ptr b] 0, AObj.map [] 0, AObj.cells 65 [.map (some (h.length + 1))] 0, AObj.cells 66 [.nilFunc] 0]) (b := h.length + 2) (m := h.length + 1) (off := 0) (g := 0) (ck := 0) (sp := none) (ty := 65) (c := [.map (some (h.length + 1))]) (es := []) (get_at (k := 2) rfl) rfl (get_at (k := 1) rfl) (by omega) (by omega)
    refine this.trans ?_
    rw [set_at, List.append_assoc, set_at, List.length_append]; rfl
  have st2 : storeT (some 1) (h ++ [AObj.cells 43 [ptr b] 0, AObj.dead, AObj.cells 65 [.map (some (h.length + 4))] 0, AObj.cells 66 [.nilFunc] 0, mapB stE []]) lo (.func (.func 41) #[] #[ptr h.length, ptr (h.length + 2), ptr (h.length + 3)]) (ptr (h.length + 3)) =
      some (h ++ [AObj.cells 43 [ptr b] 0, AObj.dead, AObj.cells 65 [.map (some (h.length + 4))] 0, AObj.cells 66 [leF h.length] 0, mapB stE []]) := by
    have := obj_store (h := h ++ [AObj.cells 43 [ptr b] 0, AObj.dead, AObj.cells 65 [.map (some (h.length + 4))] 0, AObj.cells 66 [.nilFunc] 0, mapB stE []]) (lo := lo) (v := leF h.length) (b := h.length + 3) (j := 0) (t := 66) (c := [.nilFunc]) (get_at (k := 3) rfl) (by simp) (by omega) rfl
    refine this.trans ?_
    rw [set_at]; rfl
  have hnew := fun (h : Heap) (σ : Slots) (s : Nat) => newK_nil (P := E.P) (t := 9) (h := h) (σ := σ) (s := s) (n := 0) sS
  have h0 : h ++ [AObj.cells 43 [ptr b] 0, AObj.dead, AObj.cells 65 [.map (some (h.length + 4))] 0, AObj.cells 66 [leF h.length] 0, mapB stE [], AObj.cells 9 [] 1] = h ++ leH b h.length [] [] [] := rfl
  have al := all_spec (pe [] [] [])
  unfold Rd at al
  have i0 : (Value.slice (some ⟨h.length + 5, 0, some 0⟩) 0 0) = Enc.sl (h.length + 5) ([] : List ByteArray) := rfl
  rw [L_fn F24 rfl]
  simp -implicitDefEqProofs [r24, p24, prep_late, prep_new, fm, cm, ff, cn, st1, la, st2, hnew, h0, i0, g0, al, rop_nilT, nilT_ptr, l1, ln]
  generalize hT : (leastF (infN (als A) ns) (prs (als A) ns) (allF (als A))).map (·.1) = T
  refine ux_goal (G := fun X => LsG A ns h b T (retK [RRes.tmp 2] (seqC E (L E) LL lo (blkK 0 X) _)))
    (LL_ux (α := Nat × List ((Nat × Nat) × Value) × List ByteArray × Heap × Nat) (U := Unit) (0, [], [], [], allF (als A)) (fun a => [(5, Enc.sl (h.length + 5) a.2.2.1), (6, setV a.2.2.2.2), (19, .int .i64 (a.1 : Int))]) (fun a => h ++ leH b h.length a.2.1 a.2.2.1 a.2.2.2.1)
      (.exit 0) (fun _ => [(5, Enc.sl (h.length + 5) T), (6, undef), (19, undef)])
      (fun _ h' => ∃ tb e, h' = h ++ leH b h.length tb T e ∧ LeO (als A) ns tb e)
      (fun a => a.1 ≤ ns.length ∧ a.2.2.2.2 < 2 ^ 64 ∧ LeO (als A) ns a.2.1 a.2.2.2.1 ∧ a.2.2.1.length ≤ a.1 ∧ a.2.2.1 ++ (leastF (infN (als A) ns) ((prs (als A) ns).drop a.1) a.2.2.2.2).map (·.1) = T)
      (fun a => ns.length - a.1) ?_ ?_ ?_ ?_) ?_
  · exact ⟨Nat.zero_le _, all_lt hfew, ⟨fun i o v hv => (by cases hv), fun q hq => (by cases hq), fun x hx => (by cases hx)⟩, Nat.le_refl _, hT⟩
  · simp -implicitDefEqProofs [k24_7]
  · rfl
  · intro nx a ha ihl
    obtain ⟨i, tb, out, e, o⟩ := a
    obtain ⟨c1, c2, c3, c4, c5⟩ := ha
    simp only at c1 c2 c3 c4 c5 ihl ⊢
    by_cases hi : i < ns.length
    case neg =>
      have ei : i = ns.length := by omega
      subst ei
      rw [List.drop_eq_nil_of_le (by unfold prs; rw [List.length_map]; omega)] at c5
      have c5 : out = T := by rw [← c5]; exact (List.append_nil _).symm
      subst c5
      refine ⟨(), h ++ leH b h.length tb out e, ?_, tb, e, rfl, c3⟩
      simp -implicitDefEqProofs [r24_7, k24_7, trim_le]
    have hi2 : (i : Int) < (ns.length : Int) := by omega
    have ix := Enc.sl_index (b := r) (t := 9) (g := some false) (k := .i64) hi
    have le : ∀ tb out e sz, loadT ⟨some false, sz⟩ (h ++ leH b h.length tb out e) (Enc.at_ r ns i) = some (.string ns[i]) := fun tb out e sz => Enc.load_at (O := strE) (sz := sz) (pe tb out e).row hi
    have hd : (prs (als A) ns).drop i = (ns[i], maskF (als A) ns[i]) :: (prs (als A) ns).drop (i + 1) := by
      unfold prs
      rw [← List.map_drop, List.drop_eq_getElem_cons hi, List.map_cons, List.map_drop]
    have ms := mask_small A p.few ns[i]
    have b3 := bin_remU (P := E.P) (t := 58) c2 ms
    have bn := mk_neq (P := E.P) (t := 58) (a := rem o (maskF (als A) ns[i])) (b := o)
    have wi : IntKind.i64.wrap ((i : Int) + 1) = ((i + 1 : Nat) : Int) := (wrap64 (by omega) (by omega)).trans (by omega)
    rw [hd, Co.least_cons] at c5
    by_cases hr : rem o (maskF (als A) ns[i]) = o
    · rw [if_neg (fun q => q.1 hr)] at c5
      obtain ⟨u, h', r1, r2⟩ := ihl (i + 1, tb, out, e, o) (by show ns.length - (i + 1) < ns.length - i; omega) ⟨hi, c2, c3, by show out.length ≤ i + 1; omega, c5⟩
      refine ⟨u, h', ?_, r2⟩
      rw [← r1]
      rw [hr] at b3 bn
      rw [decide_eq_true rfl] at bn
      simp -implicitDefEqProofs [k24_7, -Int.natCast_add]
      simp -implicitDefEqProofs [r24_7, hi2, ix, le, g0, rop_nilT, nilT_ptr, l2, lk, b3, bn, prep_still, prep_fix, wi, trim_le, -Int.natCast_add]
    · rw [decide_eq_false hr] at bn
      have nc0 := Co.need_cons (inf := infN (als A) ns) (o := o) (x := (ns[i], maskF (als A) ns[i])) (r := (prs (als A) ns).drop (i + 1)) (fun e => hr (by rw [e]; exact Co.rem_zero _))
      obtain ⟨tb1, e1, n1, hO1⟩ := need_spec p (ns.length - i) i (Nat.le_refl _) (by omega) o tb out e (h.length + 4) c2 (Nat.le_refl _) c3
      obtain ⟨tb2, e2, n2, hO2⟩ := need_spec p (ns.length - (i + 1)) (i + 1) (Nat.le_refl _) (by omega) (rem o (maskF (als A) ns[i])) tb1 out (e ++ e1) (h.length + 4) (rem_lt c2) (Nat.le_refl _) hO1
      rw [hd] at n1
      have nb1 := Co.need_inf (infN (als A) ns) ((ns[i], maskF (als A) ns[i]) :: (prs (als A) ns).drop (i + 1)) o
      have nb2 := Co.need_inf (infN (als A) ns) ((prs (als A) ns).drop (i + 1)) (rem o (maskF (als A) ns[i]))
      have eal : (als A).length = A.length := by unfold als; rw [List.length_map]
      have hinf : infN (als A) ns ≤ 200 := by unfold infN; omega
      have ec : (rem o (maskF (als A) ns[i]) ≠ o ∧ needF (infN (als A) ns) ((ns[i], maskF (als A) ns[i]) :: (prs (als A) ns).drop (i + 1)) o = 1 + needF (infN (als A) ns) ((prs (als A) ns).drop (i + 1)) (rem o (maskF (als A) ns[i]))) ↔ needF (infN (als A) ns) ((ns[i], maskF (als A) ns[i]) :: (prs (als A) ns).drop (i + 1)) o = 1 + needF (infN (als A) ns) ((prs (als A) ns).drop (i + 1)) (rem o (maskF (als A) ns[i])) := ⟨fun q => q.2, fun q => ⟨hr, q⟩⟩
      simp only [ec] at c5
      clear nc0 ec
      rw [List.append_assoc] at n2 hO2
      generalize needF (infN (als A) ns) ((ns[i], maskF (als A) ns[i]) :: (prs (als A) ns).drop (i + 1)) o = v1 at *
      generalize needF (infN (als A) ns) ((prs (als A) ns).drop (i + 1)) (rem o (maskF (als A) ns[i])) = v2 at *
      have w2 : IntKind.i64.wrap (1 + (v2 : Int)) = ((1 + v2 : Nat) : Int) := (wrap64 (by omega) (by omega)).trans (by omega)
      have be : aBin E.P .eql 3 (.int .i64 (v1 : Int)) (.int .i64 ((1 + v2 : Nat) : Int)) = some (.bool (decide (v1 = 1 + v2))) := by
        exact eql_nat v1 (1 + v2)
      have lf := fun (σ : Slots) (hs : slot σ 4 = ptr (h.length + 3)) => lowF_at (s := 4) (lo := lo) (σ := σ) (h := h ++ leH b h.length tb out e) hs (by omega) (by rw [List.length_append, leH_len]; omega)
      have il : ∀ tb out e, isLow (h.length + 4) (h ++ leH b h.length tb out e) (ptr (h.length + 3)) = true := fun tb out e => by
        have hg : (h ++ leH b h.length tb out e)[h.length + 3]? = some (AObj.cells 66 [leF h.length] 0) := get_at (k := 3) rfl
        unfold isLow
        rw [Bool.and_eq_true]
        refine ⟨decide_eq_true (by show h.length + 3 < h.length + 4; omega), ?_⟩
        show Option.any _ ((h ++ leH b h.length tb out e)[h.length + 3]?) = true
        rw [hg]
        simp [belO_cells, below, leF]
      by_cases hq : v1 = 1 + v2
      · rw [if_pos hq, List.map_cons] at c5
        rw [decide_eq_true hq] at be
        have ap : appendT (some elStr) (h ++ leH b h.length tb2 out (e ++ (e1 ++ e2))) lo false (Enc.sl (h.length + 5) out) (lst true (strE.vals [ns[i]])) = some (Enc.sl (h.length + 5) (out ++ [ns[i]]), h ++ leH b h.length tb2 (out ++ [ns[i]]) (e ++ (e1 ++ e2))) := by
          have := Enc.app (O := strE) (el := elStr) (lo := lo) (m := [ns[i]]) (h := h ++ leH b h.length tb2 out (e ++ (e1 ++ e2))) (b := h.length + 5) (t := 9) (l := out) rfl (get_at (k := 5) rfl) (Enc.cells_tree (O := strE) (x := true)) (by omega) (by show (out.length + 1) * 16 ≤ _; omega)
          rw [set_at] at this
          exact this
        have li : ∀ H, buildSliceT (some elStr) false H 1 #[(0, .string ns[i])] = some (lst true (strE.vals [ns[i]]), H) := fun H => Enc.lit (O := strE) ns[i] rfl rfl rfl
        obtain ⟨F, hF1, hF2⟩ : ∃ F : Slots → Heap, (∀ vs, Bm.trim (h.length + (e.length + 6)) vs (h ++ leH b h.length tb2 (out ++ [ns[i]]) (e ++ (e1 ++ e2))) = h ++ leH b h.length tb2 (out ++ [ns[i]]) (e ++ F vs)) ∧ ∀ vs, LeO (als A) ns tb2 (e ++ F vs) :=
          ⟨fun vs => (le_trim (h := h) (b := b) (out := out ++ [ns[i]]) hO2 h.length vs).choose, fun vs => (le_trim (h := h) (b := b) (out := out ++ [ns[i]]) hO2 h.length vs).choose_spec.1, fun vs => (le_trim (h := h) (b := b) (out := out ++ [ns[i]]) hO2 h.length vs).choose_spec.2⟩
        have qn := fun e' (hp : LeO (als A) ns tb2 (e ++ e')) => ihl (i + 1, tb2, out ++ [ns[i]], e ++ e', rem o (maskF (als A) ns[i])) (by show ns.length - (i + 1) < ns.length - i; omega) ⟨hi, rem_lt c2, hp, by show (out ++ [ns[i]]).length ≤ i + 1; rw [List.length_append]; simp; omega, by
          show (out ++ [ns[i]]) ++ _ = T
          rw [List.append_assoc]; exact c5⟩
        simp only at qn
        obtain ⟨u, h', r1, r2⟩ := lop_ih (F := F) qn hF2
        refine ⟨u, h', ?_, r2⟩
        rw [← r1]
        simp -implicitDefEqProofs [k24_7, -Int.natCast_add]
        simp -implicitDefEqProofs [r24_7, hi2, ix, le, g0, g3, rop_nilT, nilT_ptr, l2, lk, b3, bn, prep_still, prep_fix, lf, rop_loadL, il, wi, n1, n2, w2, be, li, ap, leH_len, hF1, -Int.natCast_add]
      · rw [if_neg hq] at c5
        rw [decide_eq_false hq] at be
        obtain ⟨F, hF1, hF2⟩ : ∃ F : Slots → Heap, (∀ vs, Bm.trim (h.length + (e.length + 6)) vs (h ++ leH b h.length tb2 out (e ++ (e1 ++ e2))) = h ++ leH b h.length tb2 out (e ++ F vs)) ∧ ∀ vs, LeO (als A) ns tb2 (e ++ F vs) :=
          ⟨fun vs => (le_trim (h := h) (b := b) (out := out) hO2 h.length vs).choose, fun vs => (le_trim (h := h) (b := b) (out := out) hO2 h.length vs).choose_spec.1, fun vs => (le_trim (h := h) (b := b) (out := out) hO2 h.length vs).choose_spec.2⟩
        have qn := fun e' (hp : LeO (als A) ns tb2 (e ++ e')) => ihl (i + 1, tb2, out, e ++ e', o) (by show ns.length - (i + 1) < ns.length - i; omega) ⟨hi, c2, hp, by show out.length ≤ i + 1; omega, c5⟩
        simp only at qn
        obtain ⟨u, h', r1, r2⟩ := lop_ih (F := F) qn hF2
        refine ⟨u, h', ?_, r2⟩
        rw [← r1]
        simp -implicitDefEqProofs [k24_7, -Int.natCast_add]
        simp -implicitDefEqProofs [r24_7, hi2, ix, le, g0, g3, rop_nilT, nilT_ptr, l2, lk, b3, bn, prep_still, prep_fix, lf, rop_loadL, il, wi, n1, n2, w2, be, leH_len, hF1, -Int.natCast_add]
  · intro u h' hK
    obtain ⟨tb, e, rfl, hO⟩ := hK
    refine ⟨tb, e, ?_, hO⟩
    simp -implicitDefEqProofs [k24_7]
end
end Go.Proofs.YtgefjhjmkejjbaaDoor.Bm
