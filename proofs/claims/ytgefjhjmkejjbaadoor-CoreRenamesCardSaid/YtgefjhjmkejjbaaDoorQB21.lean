/-
  Chapter 27: the laws' arguments as data, and what is known of sorting. Conditions: none.
-/
import Derived.Test.YtgefjhjmkejjbaaDoorQB20
import Derived.Test.YtgefjhjmkejjbaaDoorQB18
import Derived.Test.YtgefjhjmkejjbaaDoorQB16
import Derived.Test.YtgefjhjmkejjbaaDoorQB17
import Derived.Test.YtgefjhjmkejjbaaDoorRows
namespace Go.Proofs.YtgefjhjmkejjbaaDoor.Bm
open Go Go.RowKit
open Co (ltB rem maskF apartF allF packF packedF)
theorem trim_stay {n : Nat} {vs : List Value} {h : Heap} (hv : vs.all (below 8 n) = false) : trim n vs h = h := by
  unfold trim
  split
  · rfl
  · show (if (vs.all (below 8 n) && _) = true then _ else _) = _
    rw [hv]; rfl
theorem app_part {H : Heap} {lo bb k : Nat} {l : List Int} {x : Int} (hob : H[bb]? = some (intE.row 3 l)) (hk : k ≤ l.length) (hl : l.length ≤ 1000) (hlo : lo ≤ bb) :
    ∃ l', appendT (some elInt) H lo false (Enc.part bb k l) (lst true (intE.vals [x])) = some (Enc.part bb (k + 1) l', H.set bb (intE.row 3 l')) ∧ l'.take (k + 1) = l.take k ++ [x] ∧ k + 1 ≤ l'.length ∧ l'.length ≤ max l.length (k + 1) := by
  have hu := Enc.cells_tree (O := intE) (h := H) (x := true) (l := [x])
  by_cases e : k = l.length
  · subst e
    refine ⟨l ++ [x], ?_, by rw [List.take_length, List.take_of_length_le (by simp)], by simp, by simp⟩
    have := Enc.app (O := intE) (el := elInt) (lo := lo) (m := [x]) rfl hob hu hlo (by show (l.length + 1) * 8 ≤ _; omega)
    rw [← Enc.sl_part, this]
    unfold Enc.sl Enc.part
    rw [List.length_append]; rfl
  · refine ⟨_, Enc.app_room (O := intE) (el := elInt) (lo := lo) (m := [x]) (i := k) rfl hob hu (by simp) hlo (by simp; omega), ?_, ?_, ?_⟩
    · rw [List.take_append_of_le_length (by simp; omega), List.take_of_length_le (by simp; omega)]
    · simp; omega
    · simp; omega
def pkF (B : Nat) : Value := .func (.func 61) #[] #[ptr (B + 3), ptr (B + 2), ptr B, ptr (B + 1), ptr (B + 4)]
def pkH (b o n B : Nat) (k : Nat) (l : List Int) (e : Heap) : Heap := AObj.cells 43 [ptr b] 0 :: AObj.cells 58 [setV o] 0 :: AObj.cells 3 [.int .i64 (n : Int)] 0 :: AObj.cells 42 [Enc.part (B + 5) k l] 0 :: AObj.cells 85 [pkF B] 0 :: intE.row 3 l :: e
theorem pkH_len {b o n B k : Nat} {l : List Int} {e : Heap} : (pkH b o n B k l e).length = e.length + 6 := rfl
theorem pkH_app {b o n B k : Nat} {l : List Int} {e f : Heap} : pkH b o n B k l e ++ f = pkH b o n B k l (e ++ f) := rfl
theorem castL_app (K : List Nat) (i : Nat) : castL (K ++ [i]) = castL K ++ [(i : Int)] := by unfold castL; rw [List.map_append]; rfl
section
variable {h : Heap} {b o n k : Nat} {l : List Int} {E1 : Heap}
theorem pk_wf (hw : WF (h ++ pkH b o n h.length k l E1)) (k' : Nat) (l' : List Int) : WF (h ++ pkH b o n h.length k' l' E1) := by
  unfold WF pkH at *
  simp only [List.all_append, List.all_cons, List.length_append, List.length_cons, Bool.and_eq_true] at hw ⊢
  obtain ⟨a1, a2, a3, a4, a5, a6, a7, a8⟩ := hw
  refine ⟨a1, a2, a3, a4, ?_, a6, Enc.row_bel, a8⟩
  rw [belO_cells, List.all_cons, List.all_nil, Bool.and_true]
  exact Enc.part_bel (d := 7) (by omega)
theorem pk_trim (hw : WF (h ++ pkH b o n h.length k l E1)) {e : Heap} {vs : List Value} (hv : vs.all (below 8 (h.length + (E1.length + 6))) = true) : trim (h.length + (E1.length + 6)) vs (h ++ pkH b o n h.length k l (E1 ++ e)) = h ++ pkH b o n h.length k l E1 := by
  have e1 : (h ++ pkH b o n h.length k l E1).length = h.length + (E1.length + 6) := by rw [List.length_append, pkH_len]
  have := trim_wfs (e := e) hw (vs := vs) (by rw [e1]; exact hv)
  rw [e1, List.append_assoc, pkH_app] at this
  exact this
theorem pk_at {c : AObj} : (h ++ pkH b o n h.length k l (E1 ++ [c]))[h.length + (E1.length + 6)]? = some c := get_at (by
  show (E1 ++ [c])[E1.length]? = some c
  simp)
theorem pk_st {v w : Value} (hv : cellsOf v = some [v]) : storeT (some 1) (h ++ pkH b o n h.length k l (E1 ++ [AObj.cells 3 [w] 0])) h.length v (ptr (h.length + (E1.length + 6))) = some (h ++ pkH b o n h.length k l (E1 ++ [AObj.cells 3 [v] 0])) := by
  have := obj_store (lo := h.length) (v := v) (pk_at (h := h) (b := b) (o := o) (n := n) (k := k) (l := l) (E1 := E1) (c := AObj.cells 3 [w] 0)) (j := 0) (by simp) (by omega) hv
  refine this.trans ?_
  rw [set_at]
  congr 2
  show AObj.cells _ _ _ :: AObj.cells _ _ _ :: AObj.cells _ _ _ :: AObj.cells _ _ _ :: AObj.cells _ _ _ :: intE.row _ _ :: (E1 ++ [AObj.cells 3 [w] 0]).set E1.length (AObj.cells 3 [v] 0) = _
  rw [List.set_append_right _ _ (Nat.le_refl _), Nat.sub_self]; rfl
end
structure PkO (A : List (Option Bool × List ByteArray)) (h : Heap) (b o n : Nat) (out : List Nat) (r : Option (List Nat)) (k : Nat) (l : List Int) (e : Heap) : Prop where
  wf : WF (h ++ pkH b o n h.length k l e)
  tk : l.take k = castL (r.getD out)
  kl : k ≤ l.length
  la : l.length ≤ A.length
def PkS (A : List (Option Bool × List ByteArray)) (h : Heap) (b o n : Nat) (i : Nat) (out : List Nat) : Prop := ∀ (k : Nat) (l : List Int) (e : Heap), PkO A h b o n out none k l e → k ≤ i →
  ∃ k' l' e', aCall E (L E) h.length false (pkF h.length) [.int .i64 (i : Int)] (h ++ pkH b o n h.length k l e) = some (.bool (packF (als A) o n (List.range' i (A.length - i)) out).isSome, h ++ pkH b o n h.length k' l' (e ++ e')) ∧ PkO A h b o n out (packF (als A) o n (List.range' i (A.length - i)) out) k' l' (e ++ e')
def PkG (A : List (Option Bool × List ByteArray)) (h : Heap) (b o n : Nat) (out : List Nat) (e : Heap) (r : Option (List Nat)) (X : Res) : Prop := ∃ k' l' e', X = some (.bool r.isSome, h ++ pkH b o n h.length k' l' (e ++ e')) ∧ PkO A h b o n out r k' l' (e ++ e')
section
variable {h : Heap} {b r m : Nat} {K : Option Bool} {A : List (Option Bool × List ByteArray)} {ns : List ByteArray}
set_option maxHeartbeats 2000000 in
theorem pack1_step (p : Pb h b r m K A ns) (_hw : WF h) {o n : Nat} (ho : o < 2 ^ 64) {i : Nat} {out : List Nat} (hi : i ≤ A.length) (hout : ∀ j ∈ out, j < A.length)
    (ih : ∀ j out, i < j → j ≤ A.length → (∀ x ∈ out, x < A.length) → PkS A h b o n j out) : PkS A h b o n i out := by
  intro k l e hO hki
  have hfew := p.few
  have hk : k = out.length := by
    have := congrArg List.length hO.tk
    rw [cast_len, List.length_take] at this
    have h2 := hO.kl
    simp at this
    omega
  have g0 := fun k l e sz => box_load (h := h ++ pkH b o n h.length k l e) (x := h.length) (t := 43) (v := ptr b) (get_at (k := 0) rfl) (sz := sz)
  have g1 := fun k l e sz => box_load (h := h ++ pkH b o n h.length k l e) (x := h.length + 1) (t := 58) (v := setV o) (get_at (k := 1) rfl) (sz := sz)
  have g2 := fun k l e sz => box_load (h := h ++ pkH b o n h.length k l e) (x := h.length + 2) (t := 3) (v := .int .i64 (n : Int)) (get_at (k := 2) rfl) (sz := sz)
  have g3 := fun k l e sz => box_load (h := h ++ pkH b o n h.length k l e) (x := h.length + 3) (t := 42) (v := Enc.part (h.length + 5) k l) (get_at (k := 3) rfl) (sz := sz)
  have g4 := fun k l e sz => box_load (h := h ++ pkH b o n h.length k l e) (x := h.length + 4) (t := 85) (v := pkF h.length) (get_at (k := 4) rfl) (sz := sz)
  have pe := fun k l e => p.app (pkH b o n h.length k l e)
  have l0 := fun k l e sz => (pe k l e).l0 (sz := sz)
  have ll : ∀ H, lenT .sl H (listE.o K A) = some (.int .i64 A.length) := fun H => Enc.o_len p.k
  have lp : ∀ H, lenT .sl H (Enc.part (h.length + 5) k l) = some (.int .i64 k) := fun H => Enc.part_len
  have mi : cellsOf (.int .i64 (i : Int)) = some [.int .i64 (i : Int)] := rfl
  show PkG A h b o n out e (packF (als A) o n (List.range' i (A.length - i)) out) (retCall E (L E) h.length false 61 [.int .i64 (i : Int), ptr (h.length + 3), ptr (h.length + 2), ptr h.length, ptr (h.length + 1), ptr (h.length + 4)] (h ++ pkH b o n h.length k l e))
  rw [ret2 m61, L_fn F61 rfl]
  by_cases hn : out.length = n
  · have ep : packF (als A) o n (List.range' i (A.length - i)) out = some out := by
      cases List.range' i (A.length - i) with
      | nil => rw [Co.packF_nil, if_pos hn]
      | cons a q => rw [Co.packF_cons, if_pos hn]
    rw [ep]
    have hkn : (k : Int) = (n : Int) := by omega
    refine ⟨k, l, [], ?_, ?_⟩
    · simp -implicitDefEqProofs [r61, p61, g2, g3, lp, hkn]
    · rw [List.append_nil]; exact ⟨hO.wf, hO.tk, hO.kl, hO.la⟩
  · have hkn : ¬ (k : Int) = (n : Int) := by omega
    have st0 : storeT (some 1) (h ++ pkH b o n h.length k l (e ++ [AObj.cells 3 [.int .i64 0] 0])) h.length (.int .i64 (i : Int)) (ptr (h.length + (e.length + 6))) = some (h ++ pkH b o n h.length k l (e ++ [AObj.cells 3 [.int .i64 (i : Int)] 0])) := pk_st rfl
    simp -implicitDefEqProofs [r61, p61, g2, g3, lp, hkn, pkH_app, pkH_len, st0]
    generalize hR : packF (als A) o n (List.range' i (A.length - i)) out = R
    refine ux_goal (G := fun X => PkG A h b o n out e R (retK [RRes.tmp 7] (seqC E (L E) LL h.length (blkK 0 X) _)))
      (LL_ux (α := Nat × List Int × Heap) (U := Unit) (i, l, e) (fun a => [(8, ptr (h.length + (a.2.2.length + 6)))]) (fun a => h ++ pkH b o n h.length k a.2.1 (a.2.2 ++ [AObj.cells 3 [.int .i64 (a.1 : Int)] 0]))
        (if R.isSome = true then .ret else .exit 0) (fun _ => if R.isSome = true then [(7, .bool true), (8, undef)] else [(8, undef)])
        (fun _ h' => ∃ k' l' e', h' = h ++ pkH b o n h.length k' l' (e ++ e') ∧ PkO A h b o n out R k' l' (e ++ e'))
        (fun a => a.1 ≤ A.length ∧ i ≤ a.1 ∧ PkO A h b o n out none k a.2.1 (a.2.2 ++ [AObj.cells 3 [.int .i64 (a.1 : Int)] 0]) ∧ (∃ e2, a.2.2 = e ++ e2) ∧ packF (als A) o n (List.range' a.1 (A.length - a.1)) out = R)
        (fun a => A.length - a.1) ?_ ?_ ?_ ?_) ?_
    · refine ⟨hi, Nat.le_refl _, ⟨?_, hO.tk, hO.kl, hO.la⟩, ⟨[], (List.append_nil _).symm⟩, hR⟩
      have := hO.wf.snoc (o := AObj.cells 3 [.int .i64 (i : Int)] 0) rfl
      rw [List.append_assoc, pkH_app] at this
      exact this
    · simp -implicitDefEqProofs [k61_4]
    · rfl
    · intro nx a ha ihl
      obtain ⟨i', l', e1⟩ := a
      obtain ⟨c1, c2, hO', ⟨e2, he2⟩, c5⟩ := ha
      simp only at c1 c2 hO' he2 c5 ihl ⊢
      by_cases hlt : i' < A.length
      case neg =>
        have e : i' = A.length := by omega
        subst e
        rw [Nat.sub_self, show List.range' A.length 0 = [] from rfl, Co.packF_nil, if_neg hn] at c5
        subst c5
        refine ⟨(), h ++ pkH b o n h.length k l' (e1 ++ [AObj.cells 3 [.int .i64 (A.length : Int)] 0]), ?_, k, l', e2 ++ [AObj.cells 3 [.int .i64 (A.length : Int)] 0], by rw [he2, List.append_assoc], by rw [← List.append_assoc, ← he2]; exact hO'⟩
        have ly : ∀ sz, loadT ⟨some false, sz⟩ (h ++ pkH b o n h.length k l' (e1 ++ [AObj.cells 3 [.int .i64 (A.length : Int)] 0])) (ptr (h.length + (e1.length + 6))) = some (.int .i64 (A.length : Int)) := fun sz => box_load pk_at
        generalize e1 ++ [AObj.cells 3 [.int .i64 (A.length : Int)] 0] = E1 at *
        simp -implicitDefEqProofs [r61_4, k61_4, rop_nilT, nilT_ptr, ly, g0, l0, ll, trim_le]
      have hi3 : (i' : Int) < (A.length : Int) := by omega
      obtain ⟨E1, hE1⟩ : ∃ E1, E1 = e1 ++ [AObj.cells 3 [.int .i64 (i' : Int)] 0] := ⟨_, rfl⟩
      have ly : ∀ k l E' sz, loadT ⟨some false, sz⟩ (h ++ pkH b o n h.length k l (E1 ++ E')) (ptr (h.length + (e1.length + 6))) = some (.int .i64 (i' : Int)) := fun k l E' sz => box_load (t := 3) (get_at (by
        show (E1 ++ E')[e1.length]? = _
        rw [hE1]; simp))
      have ly0 : ∀ k l sz, loadT ⟨some false, sz⟩ (h ++ pkH b o n h.length k l E1) (ptr (h.length + (e1.length + 6))) = some (.int .i64 (i' : Int)) := fun k l sz => by
        have := ly k l [] sz
        rwa [List.append_nil] at this
      have bc : Box (h ++ pkH b o n h.length k l' E1) (h.length + (e1.length + 6)) 3 (.int .i64 (i' : Int)) := by rw [hE1]; exact pk_at
      rw [← hE1] at hO' ⊢
      have hle1 : e1.length < E1.length := by rw [hE1]; simp
      have heE : ∃ e4, E1 = e ++ e4 := ⟨e2 ++ [AObj.cells 3 [.int .i64 (i' : Int)] 0], by rw [hE1, he2, List.append_assoc]⟩
      clear hE1 he2
      obtain ⟨e4, he4⟩ := heE
      have hwf := hO'.wf
      have hd : List.range' i' (A.length - i') = i' :: List.range' (i' + 1) (A.length - (i' + 1)) := by
        rw [show A.length - i' = (A.length - (i' + 1)) + 1 by omega, List.range'_succ]
      rw [hd, Co.packF_cons, if_neg hn] at c5
      have w1 : IntKind.i64.wrap ((i' : Int) + 1) = ((i' + 1 : Nat) : Int) := (wrap64 (by omega) (by omega)).trans (by omega)
      have b1 := bin_shrU (P := E.P) (t := 58) (a := o) (n := i') (by omega)
      have hao : o >>> i' < 2 ^ 64 := Nat.lt_of_le_of_lt (by rw [Nat.shiftRight_eq_div_pow]; exact Nat.div_le_self _ _) ho
      have b2 := bin_andU (P := E.P) (t := 58) (a := o >>> i') (b := 1) hao (by omega)
      have z0 : aBin E.P .eql 58 (setV 0) (.int .u64 0) = some (.bool true) := mk_eq (a := 0) (b := 0)
      have z1 : aBin E.P .eql 58 (setV 1) (.int .u64 0) = some (.bool false) := mk_eq (a := 1) (b := 0)
      rw [bit_at] at b2
      have e1V : setV 1 = .int .u64 1 := rfl
      rw [e1V] at b2
      have hkout : castL out = l'.take k := hO'.tk.symm
      have cf := containsFL (castL out) (Enc.part (h.length + 5) k l') (fun j => Enc.at_ (h.length + 5) l' j) (.func (.func 63) #[] #[ptr h.length, ptr (h.length + (e1.length + 6))]) (fun z => !apartF (als A) i' z.toNat) (h ++ pkH b o n h.length k l' E1)
        (by rw [cast_len]; have := hO'.la; have := hO'.kl; omega) (fun H => by rw [cast_len, ← hk]; rfl) (fun j hj => Enc.part_index (by rw [cast_len, ← hk] at hj; exact hj))
        (fun j hj => by
          rw [cast_len, ← hk] at hj
          have := Enc.load_at (O := intE) (h := h ++ pkH b o n h.length k l' E1) (b := h.length + 5) (t := 3) (sz := some 1) (l := l') (get_at (k := 5) rfl) (Nat.lt_of_lt_of_le hj hO'.kl)
          rw [this]
          have e5 : (castL out)[j]'(by rw [cast_len, ← hk]; exact hj) = l'[j]'(Nat.lt_of_lt_of_le hj hO'.kl) := by simp only [hkout, List.getElem_take]
          rw [e5]; rfl)
        (fun z hz => by
          obtain ⟨j, hj, rfl⟩ := List.mem_map.1 hz
          exact Cl.of (pack11_spec (pe k l' E1) hwf (get_at (k := 0) rfl) bc hlt (by have := hout j hj; omega)))
      unfold Rd at cf
      have ea : (castL out).any (fun z => !apartF (als A) i' z.toNat) = !out.all (apartF (als A) i') := by
        unfold castL
        rw [List.any_map, List.not_all_eq_any_not]; rfl
      rw [ea] at cf
      have s1 := fun k l E v w => pk_st (h := h) (b := b) (o := o) (n := n) (k := k) (l := l) (E1 := E) (v := .int .i64 v) (w := w) rfl
      have s2 := fun k l E v sz => box_load (sz := sz) (pk_at (h := h) (b := b) (o := o) (n := n) (k := k) (l := l) (E1 := E) (c := AObj.cells 3 [.int .i64 v] 0))
      have q1 : 1 < E1.length + 6 := by omega
      have q2 : 2 < E1.length + 6 := by omega
      have q3 : 3 < E1.length + 6 := by omega
      have q4 : 4 < E1.length + 6 := by omega
      have q5 : 5 < E1.length + 6 := by omega
      have snoc : ∀ k l E v, WF (h ++ pkH b o n h.length k l E) → WF (h ++ pkH b o n h.length k l (E ++ [AObj.cells 3 [.int .i64 v] 0])) := fun k l E v hw => by
        have := hw.snoc (o := AObj.cells 3 [.int .i64 v] 0) rfl
        rw [List.append_assoc, pkH_app] at this
        exact this
      -- to the next alternative, without this one
      have skip : packF (als A) o n (List.range' (i' + 1) (A.length - (i' + 1))) out = R → ∃ (u : Unit) (h' : Heap), nx (sets [(8, ptr (h.length + (E1.length + 6)))] (forget k61_4.1 _)) (h ++ pkH b o n h.length k l' (E1 ++ [AObj.cells 3 [.int .i64 ((i' + 1 : Nat) : Int)] 0])) = _ ∧ _ := fun hr =>
        ihl (i' + 1, l', E1) (by show A.length - (i' + 1) < A.length - i'; omega) ⟨hlt, by omega, ⟨snoc _ _ _ _ hwf, hO'.tk, hO'.kl, hO'.la⟩, ⟨e4, he4⟩, hr⟩
      cases q : o.testBit i'
      · rw [q, Bool.false_and, if_neg (by decide)] at c5
        obtain ⟨u, h', r1, r2⟩ := skip c5
        refine ⟨u, h', ?_, r2⟩
        rw [← r1]
        simp -implicitDefEqProofs [k61_4, -Int.natCast_add]
        simp -implicitDefEqProofs [r61_4, rop_nilT, nilT_ptr, ly0, g0, g1, l0, ll, hi3, b1, b2, z0, q, pkH_app, pkH_len, s1, s2, w1, trim_stay, -Int.natCast_add]
      rw [q, Bool.true_and] at c5
      cases qa : out.all (apartF (als A) i')
      · rw [qa, if_neg (by decide)] at c5
        rw [qa] at cf
        obtain ⟨u, h', r1, r2⟩ := skip c5
        refine ⟨u, h', ?_, r2⟩
        rw [← r1]
        simp -implicitDefEqProofs [k61_4, -Int.natCast_add]
        simp -implicitDefEqProofs [r61_4, rop_nilT, nilT_ptr, ly0, g0, g1, g3, l0, ll, hi3, b1, b2, z1, q, cf, pkH_app, pkH_len, s1, s2, w1, trim_stay, -Int.natCast_add]
      rw [qa, if_pos rfl] at c5
      rw [qa] at cf
      have hla := hO'.la
      obtain ⟨l1, ap, t1, t2, t3⟩ := app_part (H := h ++ pkH b o n h.length k l' E1) (bb := h.length + 5) (lo := h.length) (x := (i' : Int)) (get_at (k := 5) rfl) hO'.kl (by omega) (by omega)
      rw [set_at] at ap
      have st3 : storeT (some 1) (h ++ (pkH b o n h.length k l' E1).set 5 (intE.row 3 l1)) h.length (Enc.part (h.length + 5) (k + 1) l1) (ptr (h.length + 3)) = some (h ++ pkH b o n h.length (k + 1) l1 E1) := by
        have := obj_store (h := h ++ (pkH b o n h.length k l' E1).set 5 (intE.row 3 l1)) (lo := h.length) (v := Enc.part (h.length + 5) (k + 1) l1) (b := h.length + 3) (j := 0) (t := 42) (c := [Enc.part (h.length + 5) k l']) (get_at (k := 3) rfl) (by simp) (by omega) rfl
        refine this.trans ?_
        rw [set_at]; rfl
      have li : ∀ H, buildSliceT (some elInt) false H 1 #[(0, .int .i64 (i' : Int))] = some (lst true (intE.vals [(i' : Int)]), H) := fun H => Enc.lit (O := intE) (i' : Int) rfl rfl rfl
      generalize h ++ (pkH b o n h.length k l' E1).set 5 (intE.row 3 l1) = H1 at *
      obtain ⟨k2, l2, e3, cs, hO2⟩ := ih (i' + 1) (out ++ [i']) (by omega) hlt (fun x hx => by
        rcases List.mem_append.1 hx with hx | hx
        · exact hout x hx
        · rw [List.mem_singleton.1 hx]; exact hlt) (k + 1) l1 E1 ⟨pk_wf hwf _ _, by rw [t1, hO'.tk]; exact (castL_app out i').symm, t2, by omega⟩ (by omega)
      have hwf2 := hO2.wf
      have hle2 : E1.length ≤ (E1 ++ e3).length := by rw [List.length_append]; omega
      cases hq : packF (als A) o n (List.range' (i' + 1) (A.length - (i' + 1))) (out ++ [i']) with
      | some K' =>
        rw [hq] at cs hO2 c5
        have c5 : some K' = R := c5
        subst c5
        have tr := fun vs hv => pk_trim (vs := vs) (E1 := E1) (pk_wf hwf k2 l2) (e := e3) hv
        refine ⟨(), h ++ pkH b o n h.length k2 l2 E1, ?_, k2, l2, e4, by rw [he4], ⟨by rw [← he4]; exact pk_wf hwf _ _, hO2.tk, hO2.kl, hO2.la⟩⟩
        simp -implicitDefEqProofs [r61_4, k61_4, rop_nilT, nilT_ptr, ly0, g0, g1, g3, g4, l0, ll, hi3, b1, b2, z1, q, cf, li, ap, st3, w1, cs, pkH_len, tr, Enc.part_bel, q1, q2, q3, q4, q5, -Int.natCast_add]
      | none =>
        rw [hq] at cs hO2 c5
        have c5 : packF (als A) o n (List.range' (i' + 1) (A.length - (i' + 1))) out = R := c5
        have hk2 : k2 = k + 1 := by
          have := congrArg List.length hO2.tk
          rw [cast_len, List.length_take] at this
          have h2 := hO2.kl
          simp at this
          omega
        subst hk2
        have tk2 : l2.take k = castL out := by
          have := congrArg (List.take k) hO2.tk
          rw [List.take_take, show min k (k + 1) = k by omega] at this
          rw [this]
          show (castL (out ++ [i'])).take k = _
          rw [castL_app, List.take_append_of_le_length (by rw [cast_len]; omega), List.take_of_length_le (by rw [cast_len]; omega)]
        have kl2 : k ≤ l2.length := by have := hO2.kl; omega
        have la2 := hO2.la
        have ly2 := fun l sz => ly k l e3 sz
        have hE2 : ∃ e5, E1 ++ e3 = e ++ e5 := ⟨e4 ++ e3, by rw [he4, List.append_assoc]⟩
        generalize E1 ++ e3 = E2 at *
        have sl : sliceT (.sl 3 ⟨some false, some 1⟩) (h ++ pkH b o n h.length (k + 1) l2 E2) (Enc.part (h.length + 5) (k + 1) l2) none (some (.int .i64 (k : Int))) none = some (Enc.part (h.length + 5) k l2) := Enc.part_take (O := intE) (t := 3) (get_at (k := 5) rfl) kl2
        have wk : IntKind.i64.wrap (((k + 1 : Nat) : Int) - 1) = (k : Int) := (wrap64 (by omega) (by omega)).trans (by omega)
        have lp2 : ∀ H, lenT .sl H (Enc.part (h.length + 5) (k + 1) l2) = some (.int .i64 ((k + 1 : Nat) : Int)) := fun H => Enc.part_len
        have st4 : storeT (some 1) (h ++ pkH b o n h.length (k + 1) l2 E2) h.length (Enc.part (h.length + 5) k l2) (ptr (h.length + 3)) = some (h ++ pkH b o n h.length k l2 E2) := by
          have := obj_store (h := h ++ pkH b o n h.length (k + 1) l2 E2) (lo := h.length) (v := Enc.part (h.length + 5) k l2) (b := h.length + 3) (j := 0) (t := 42) (c := [Enc.part (h.length + 5) (k + 1) l2]) (get_at (k := 3) rfl) (by simp) (by omega) rfl
          refine this.trans ?_
          rw [set_at]; rfl
        obtain ⟨u, h', r1, r2⟩ := ihl (i' + 1, l2, E2) (by show A.length - (i' + 1) < A.length - i'; omega) ⟨hlt, by omega, ⟨snoc _ _ _ _ (pk_wf hwf2 _ _), tk2, kl2, la2⟩, hE2, c5⟩
        refine ⟨u, h', ?_, r2⟩
        rw [← r1]
        have hle3 : ¬ E2.length < E1.length := by omega
        simp -implicitDefEqProofs [k61_4, -Int.natCast_add]
        simp -implicitDefEqProofs [r61_4, rop_nilT, nilT_ptr, ly0, ly2, g0, g1, g3, g4, l0, ll, hi3, b1, b2, z1, q, cf, li, ap, st3, w1, cs, lp2, wk, sl, st4, pkH_app, pkH_len, s1, s2, hle3, trim_stay, -Int.natCast_add]
    · intro u h' hK
      obtain ⟨k', l', e', rfl, hO'⟩ := hK
      refine ⟨k', l', e', ?_, hO'⟩
      cases R with
      | none => simp -implicitDefEqProofs [k61_4]
      | some K' => simp -implicitDefEqProofs [k61_4]
theorem pack1_spec (p : Pb h b r m K A ns) (hw : WF h) {o n : Nat} (ho : o < 2 ^ 64) : ∀ (d i : Nat) (out : List Nat), A.length - i ≤ d → i ≤ A.length → (∀ j ∈ out, j < A.length) → PkS A h b o n i out := by
  intro d
  induction d with
  | zero => intro i out hd hi hout; exact pack1_step p hw ho hi hout fun j out h1 h2 _ => by omega
  | succ d ih => intro i out hd hi hout; exact pack1_step p hw ho hi hout fun j out' h1 h2 h3 => ih j out' (by omega) h2 h3
def packV : Option (List Nat) → Value
  | none => .slice none 0 0
  | some K => intE.o (some false) (castL K)
theorem pack_spec (p : Pb h b r m K A ns) (hw : WF h) {o n : Nat} (ho : o < 2 ^ 64) : Rd 44 [ptr b, setV o, .int .i64 (n : Int)] h (packV (packF (als A) o n (List.range A.length) [])) := by
  intro lo st
  have hb := p.lt
  have w0 : WF (h ++ pkH b o n h.length 0 [] []) := by
    unfold WF pkH at *
    simp only [List.all_append, List.all_cons, List.all_nil, List.length_append, List.length_cons, List.length_nil, Bool.and_true, Bool.and_eq_true]
    refine ⟨?_, ?_, rfl, rfl, ?_, ?_, Enc.row_bel⟩
    · exact List.all_eq_true.2 fun x hx => belO_mono (by omega) (List.all_eq_true.1 hw x hx)
    · simp [belO_cells, below]; omega
    · rw [belO_cells, List.all_cons, List.all_nil, Bool.and_true]; exact Enc.part_bel (d := 7) (by omega)
    · simp [belO_cells, below, pkF]
  obtain ⟨k', l', e', cs, hO⟩ := pack1_spec p hw (n := n) ho A.length 0 [] (by omega) (Nat.zero_le _) (fun j hj => by cases hj) 0 [] [] ⟨w0, rfl, Nat.le_refl _, Nat.zero_le _⟩ (Nat.le_refl _)
  rw [Nat.sub_zero, ← List.range_eq_range', List.nil_append] at cs hO
  rw [show ((0 : Nat) : Int) = 0 from rfl] at cs
  have sI : szOf E.P 3 = some 1 := by kernel_rfl
  have co : cellsOf (setV o) = some [setV o] := rfl
  have nc : ∀ σ, newcK E.P h.length (h ++ [AObj.cells 43 [ptr b] 0, AObj.cells 58 [setV o] 0, AObj.cells 3 [.int .i64 (n : Int)] 0, AObj.cells 42 [.slice none 0 0] 0, AObj.cells 85 [.nilFunc] 0]) σ 0 3 (ptr (h.length + 3)) =
      some (σ, h ++ [AObj.cells 43 [ptr b] 0, AObj.cells 58 [setV o] 0, AObj.cells 3 [.int .i64 (n : Int)] 0, AObj.cells 42 [Enc.part (h.length + 5) 0 ([] : List Int)] 0, AObj.cells 85 [.nilFunc] 0, intE.row 3 []]) := fun σ => by
    have := newcK_cell (P := E.P) (σ := σ) (lo := h.length) (t := 3) (b := h.length + 3) (off := 0) (d := 0) (n := 0) (sp := none) (h := h ++ [AObj.cells 43 [ptr b] 0, AObj.cells 58 [setV o] 0, AObj.cells 3 [.int .i64 (n : Int)] 0, AObj.cells 42 [.slice none 0 0] 0, AObj.cells 85 [.nilFunc] 0]) (c := [.slice none 0 0]) (g := 0) (get_at (k := 3) rfl) rfl sI (by omega)
    rw [this, set_at, List.append_assoc, List.length_append]; rfl
  have st : storeT (some 1) (h ++ [AObj.cells 43 [ptr b] 0, AObj.cells 58 [setV o] 0, AObj.cells 3 [.int .i64 (n : Int)] 0, AObj.cells 42 [Enc.part (h.length + 5) 0 ([] : List Int)] 0, AObj.cells 85 [.nilFunc] 0, intE.row 3 []]) h.length (.func (.func 61) #[] #[ptr (h.length + 3), ptr (h.length + 2), ptr h.length, ptr (h.length + 1), ptr (h.length + 4)]) (ptr (h.length + 4)) = some (h ++ pkH b o n h.length 0 [] []) := by
    have := obj_store (h := h ++ [AObj.cells 43 [ptr b] 0, AObj.cells 58 [setV o] 0, AObj.cells 3 [.int .i64 (n : Int)] 0, AObj.cells 42 [Enc.part (h.length + 5) 0 ([] : List Int)] 0, AObj.cells 85 [.nilFunc] 0, intE.row 3 []]) (lo := h.length) (v := pkF h.length) (b := h.length + 4) (j := 0) (t := 85) (c := [.nilFunc]) (get_at (k := 4) rfl) (by simp) (by omega) rfl
    refine this.trans ?_
    rw [set_at]; rfl
  have g3 := fun k l e sz => box_load (h := h ++ pkH b o n h.length k l e) (x := h.length + 3) (t := 42) (v := Enc.part (h.length + 5) k l) (get_at (k := 3) rfl) (sz := sz)
  have g4 := fun k l e sz => box_load (h := h ++ pkH b o n h.length k l e) (x := h.length + 4) (t := 85) (v := pkF h.length) (get_at (k := 4) rfl) (sz := sz)
  have tl : ∀ (v : Value) (e : Heap), below 8 h.length v = true → trim h.length [v] (h ++ e) = h := fun v e hv => trim_wfs hw (by rw [List.all_cons, List.all_nil, Bool.and_true]; exact hv)
  have fn : ∀ lo H, freezeV E.P depth lo H (.slice none 0 0) = some (.slice none 0 0, H) := fun _ _ => rfl
  have b0 : below 8 h.length (.slice none 0 0) = true := rfl
  have ff : flat .nilFunc = true := rfl
  have cn : cellsOf .nilFunc = some [.nilFunc] := rfl
  rw [ret5 m44, L_fn F44 rfl]
  cases hq : packF (als A) o n (List.range A.length) [] with
  | none =>
    rw [hq] at cs hO
    simp -implicitDefEqProofs [r44, p44, prep_newc, co, ff, cn, nc, st, g4, cs, tl, fn, b0, packV]
  | some K' =>
    rw [hq] at cs hO
    have fz : ∃ H', freezeV E.P depth h.length (h ++ pkH b o n h.length k' l' e') (Enc.part (h.length + 5) k' l') = some (intE.o (some false) (castL K'), h ++ H') := by
      have := Enc.frz_part (P := E.P) (O := intE) (lo := h.length) (h := h ++ pkH b o n h.length k' l' e') (b := h.length + 5) (t := 3) (get_at (k := 5) rfl) hO.kl sI (by kernel_rfl) (by omega)
      rw [hO.tk] at this
      refine ⟨if k' = 0 then pkH b o n h.length k' l' e' else (pkH b o n h.length k' l' e').set 5 .dead, this.trans ?_⟩
      split
      · rfl
      · rw [set_at]; rfl
    obtain ⟨H', fz⟩ := fz
    have bo : below 8 h.length (intE.o (some false) (castL K')) = true := Enc.o_bel
    simp -implicitDefEqProofs [r44, p44, prep_newc, co, ff, cn, nc, st, g3, g4, cs, fz, tl, bo, packV]
end
end Go.Proofs.YtgefjhjmkejjbaaDoor.Bm
namespace Go.Proofs.YtgefjhjmkejjbaaDoor.Bm
open Go Go.RowKit
open Co (ltB rem maskF apartF allF packF packedF followF idxF replF)
theorem ret3t {f : FuncId} (hm : E.mode f = 3) {C : Callee} {lo : Nat} {h : Heap} {args : List Value} : retCall E C lo false f args h = (C f args h lo).map fun r => (r.1, trim h.length [r.1] r.2) := by
  unfold retCall; rw [hm]; rfl
theorem idxOk_eq (l : List Int) (n : Nat) : idxOk l n = idxF n l := by rw [Co.idx_asc]; rfl
theorem idx_cast {l : List Int} {n : Nat} (h : idxF n l = true) : castL (l.map (·.toNat)) = l ∧ ∀ k ∈ l.map (·.toNat), k < n := by
  have hm := Co.idx_mem h
  constructor
  · unfold castL
    rw [List.map_map]
    have : l.map (Int.ofNat ∘ fun x => x.toNat) = l.map id := List.map_congr_left fun i hi => by
      have := hm i hi
      show ((i.toNat : Nat) : Int) = i
      omega
    rw [this, List.map_id]
  · intro k hk
    obtain ⟨i, hi, rfl⟩ := List.mem_map.1 hk
    have := hm i hi
    omega
theorem repl_all (ls : List (List ByteArray)) (o : Nat) (a : List ByteArray) {N : List Nat} (hN : ∀ k ∈ N, k < a.length) : a.all (repB ls o a N) = replF ls o a N := by
  unfold replF repB
  rw [Bool.eq_iff_iff, List.all_eq_true, List.all_eq_true]
  refine forall_congr' fun x => forall_congr' fun hx => ?_
  rw [List.any_eq_true, List.any_eq_true]
  refine exists_congr fun k => and_congr_right fun hk => ?_
  have := hN k hk
  rw [List.getD_eq_getElem?_getD, List.getD_eq_getElem?_getD, List.getElem?_eq_getElem this]; rfl
structure FlP (k : Option Bool) (R : List (Option Bool × List Int)) : Prop where
  kk : Enc.Ok k R
  rows : ∀ x ∈ R, Enc.Ok x.1 x.2 ∧ x.2.length ≤ 1000
  len : R.length ≤ 1000000000000
structure FlO (r : Option (List (List Int))) (k : Option Bool) (R : List (Option Bool × List Int)) (ok : Bool) : Prop where
  p : FlP k R
  ok : ok = r.isSome
  eq : ∀ R', r = some R' → R.map (·.2) = R'
def FlG (h : Heap) (r : Option (List (List Int))) (X : Res) : Prop := ∃ k' R' ok, FlO r k' R' ok ∧ X = some (.tuple #[rowE.o k' R', .bool ok], h)
def FlS (A : List (Option Bool × List ByteArray)) (h : Heap) (b g : Nat) : Prop := ∀ (k : Option Bool) (R : List (Option Bool × List Int)) (o : Nat), FlP k R → o < 2 ^ 64 →
  ∀ lo, FlG h (followF (als A) (g + 1) (R.map (·.2)) o) (retCall E (L E) lo false 36 [ptr b, rowE.o k R, setV o, .int .i64 (g : Int)] h)
theorem fl_none : FlO none none [] false := ⟨⟨fun _ => rfl, fun _x hx => (List.not_mem_nil hx).elim, Nat.zero_le _⟩, rfl, fun _R' h => nomatch h⟩
section
variable {h : Heap} {b r m : Nat} {K : Option Bool} {A : List (Option Bool × List ByteArray)} {ns : List ByteArray}
set_option maxHeartbeats 4000000 in
theorem follow_step (p : Pb h b r m K A ns) (hw : WF h) {g : Nat} (hg : g ≤ 1000000) (ih : ∀ g', g = g' + 1 → FlS A h b g') : FlS A h b g := by
  intro k R o hR ho lo
  have l0 := fun sz => p.l0 (sz := sz)
  have ll : ∀ H, lenT .sl H (listE.o K A) = some (.int .i64 A.length) := fun H => Enc.o_len p.k
  match R, hR with
  | [], hR =>
    refine ⟨none, [], false, fl_none, ?_⟩
    have lr : ∀ H, lenT .sl H (rowE.o k []) = some (.int .i64 0) := fun H => Enc.o_len (O := rowE) hR.kk
    generalize rowE.o k [] = VR at *
    rw [ret3t m36, L_fn F36 rfl]
    simp -implicitDefEqProofs [r36, p36, lr, trim_le]
    rfl
  | (kr, row) :: rest, hR =>
    obtain ⟨x, rfl⟩ : ∃ x, k = some x := by
      cases k with
      | none => have := hR.kk rfl; cases this
      | some x => exact ⟨x, rfl⟩
    have lr : ∀ H, lenT .sl H (rowE.o (some x) ((kr, row) :: rest)) = some (.int .i64 ((rest.length : Int) + 1)) := fun H => by rw [Enc.o_len (O := rowE) Enc.ok_some]; rfl
    have ix : indexAddrT (.sl 42 ⟨some false, some 1⟩) (rowE.o (some x) ((kr, row) :: rest)) (.int .i64 0) = some (cptr (rowE.e (kr, row))) := Enc.index_o (O := rowE) (i := 0) (k := .i64) Enc.ok_some (by simp)
    have le : ∀ H sz, loadT ⟨some false, sz⟩ H (cptr (rowE.e (kr, row))) = some (intE.o kr row) := fun H sz => Enc.load_e (O := rowE) _
    have dr : ∀ H, sliceT (.sl 42 ⟨some false, some 1⟩) H (rowE.o (some x) ((kr, row) :: rest)) (some (.int .i64 1)) none none = some (rowE.o (some x) rest) := fun H => Enc.drop_tree (O := rowE) (x := x) (n := 1) (z := 1) rfl (by simp)
    have hrow := hR.rows _ List.mem_cons_self
    have hrl := hR.len
    rw [List.length_cons] at hrl
    have n0 : ¬ ((rest.length : Int) + 1 = 0) := by omega
    have hRr : FlP (some x) rest := ⟨Enc.ok_some, fun y hy => hR.rows y (List.mem_cons_of_mem _ hy), by omega⟩
    generalize rowE.o (some x) ((kr, row) :: rest) = VR at *
    generalize cptr (rowE.e (kr, row)) = VE at *
    match row, hrow with
    | [], hrow =>
      have lw : ∀ H, lenT .sl H (intE.o kr []) = some (.int .i64 0) := fun H => Enc.o_len (O := intE) hrow.1
      refine ⟨none, [], false, by
        rw [List.map_cons]
        exact fl_none, ?_⟩
      rw [ret3t m36, L_fn F36 rfl]
      generalize intE.o kr [] = VW at *
      simp -implicitDefEqProofs [r36, p36, lr, n0, ix, le, lw, trim_le]
      rfl
    | c :: t, hrow =>
      obtain ⟨y, rfl⟩ : ∃ y, kr = some y := by
        cases kr with
        | none => have := hrow.1 rfl; cases this
        | some y => exact ⟨y, rfl⟩
      have lw : ∀ H, lenT .sl H (intE.o (some y) (c :: t)) = some (.int .i64 ((t.length : Int) + 1)) := fun H => by rw [Enc.o_len (O := intE) Enc.ok_some]; rfl
      have htl := hrow.2
      simp only [List.length_cons] at htl
      have n1 : ¬ ((t.length : Int) + 1 = 0) := by omega
      have iw : indexAddrT (.sl 3 ⟨some false, some 1⟩) (intE.o (some y) (c :: t)) (.int .i64 0) = some (cptr (.int .i64 c)) := Enc.index_o (O := intE) (i := 0) (k := .i64) Enc.ok_some (by simp)
      have d1 : ∀ H, sliceT (.sl 3 ⟨some false, some 1⟩) H (intE.o (some y) (c :: t)) (some (.int .i64 1)) none none = some (intE.o (some y) t) := fun H => Enc.drop_tree (O := intE) (x := y) (n := 1) (z := 1) rfl (by simp)
      have wl : IntKind.i64.wrap ((t.length : Int) + 1 - 1) = (t.length : Int) := (wrap64 (by omega) (by omega)).trans (by omega)
      have wl2 : IntKind.i64.wrap (t.length : Int) = (t.length : Int) := wrap64 (by omega) (by omega)
      by_cases c0 : c = 0
      · subst c0
        have hf : followF (als A) (g + 1) ((0 :: t) :: rest.map (·.2)) o = if decide (g + 1 ≤ t.length) && (idxF (als A).length t && packedF (als A) o [] (t.map (·.toNat))) then some (rest.map (·.2)) else none := by
          unfold followF
          dsimp only
          rw [if_pos rfl]
        rw [List.map_cons, hf]
        refine ⟨some x, rest, (decide (g + 1 ≤ t.length) && (idxF (als A).length t && packedF (als A) o [] (t.map (·.toNat)))), ?_, ?_⟩
        · cases decide (g + 1 ≤ t.length) && (idxF (als A).length t && packedF (als A) o [] (t.map (·.toNat)))
          · exact ⟨hRr, rfl, fun R' h => by cases h⟩
          · exact ⟨hRr, rfl, fun R' h => by cases h; rfl⟩
        · have rf : ∀ H, reify E.P 8 H (intE.o (some y) t) = some (intE.o (some y) t) := fun H => Enc.o_reify
          have rl : ∀ H z, reify E.P 8 H (.int .i64 z) = some (.int .i64 z) := fun _ _ => rfl
          have ia := indices_spec (some y) t Enc.ok_some (by omega) A.length
          rw [idxOk_eq] at ia
          have eal : (als A).length = A.length := by unfold als; rw [List.length_map]
          rw [eal]
          have pk : idxF A.length t = true → ∀ st, retCall E (L E) lo st 53 [ptr b, intE.o (some y) t, setV o] h = some (.bool (packedF (als A) o [] (t.map (·.toNat))), h) := fun q st => by
            obtain ⟨q1, q2⟩ := idx_cast q
            have := packed_spec p hw y (t.map (·.toNat)) q2 (by rw [List.length_map]; omega) ho lo st
            rw [q1] at this
            exact this
          rw [ret3t m36, L_fn F36 rfl]
          generalize intE.o (some y) (0 :: t) = VW at *
          generalize intE.o (some y) t = VT at *
          generalize rowE.o (some x) rest = VR2 at *
          generalize packedF (als A) o [] (t.map (·.toNat)) = pkB at *
          by_cases q1 : g + 1 ≤ t.length
          · have q1' : (g : Int) < (t.length : Int) := by omega
            cases q2 : idxF A.length t
            · rw [q2] at ia
              simp -implicitDefEqProofs [r36, p36, lr, n0, ix, le, lw, n1, dr, iw, d1, wl2, q1, q1', rop_nilT, nilT_ptr, l0, ll, ret0 m52, rf, rl, ia, trim_le]
            · rw [q2] at ia
              have pk := pk q2
              simp -implicitDefEqProofs [r36, p36, lr, n0, ix, le, lw, n1, dr, iw, d1, wl2, q1, q1', rop_nilT, nilT_ptr, l0, ll, ret0 m52, rf, rl, ia, pk, trim_le]
          · have q1' : ¬ (g : Int) < (t.length : Int) := by omega
            simp -implicitDefEqProofs [r36, p36, lr, n0, ix, le, lw, n1, dr, iw, wl2, q1, q1', trim_le]
      · have c0' : ¬ (c == 0) = true := by simpa using c0
        by_cases c1 : c = 1 ∧ 2 ≤ t.length ∧ g ≠ 0 ∧ 0 ≤ t.headD 0 ∧ t.headD 0 < (A.length : Int)
        case neg =>
          have hf : followF (als A) (g + 1) ((c :: t) :: rest.map (·.2)) o = none := by
            unfold followF
            dsimp only
            rw [if_neg c0]
            by_cases e1 : c = 1
            · rw [if_pos e1]
              cases t with
              | nil => rfl
              | cons k n =>
                show (if n = [] ∨ g = 0 ∨ k < 0 ∨ ((als A).length : Int) ≤ k then none else _) = none
                rw [if_pos]
                have eal : (als A).length = A.length := by unfold als; rw [List.length_map]
                rw [eal]
                apply Classical.byContradiction
                intro hne
                apply c1
                have h1 : n ≠ [] := fun e => hne (.inl e)
                have h2 := List.length_pos_iff.2 h1
                refine ⟨e1, by rw [List.length_cons]; omega, fun e => hne (.inr (.inl e)), ?_, ?_⟩
                · show 0 ≤ k
                  apply Classical.byContradiction
                  intro q
                  exact hne (.inr (.inr (.inl (by omega))))
                · show k < (A.length : Int)
                  apply Classical.byContradiction
                  intro q
                  exact hne (.inr (.inr (.inr (by omega))))
            · rw [if_neg e1]
          rw [List.map_cons, hf]
          refine ⟨none, [], false, fl_none, ?_⟩
          show _ = some (Value.tuple #[.slice none 0 0, .bool false], h)
          rw [ret3t m36, L_fn F36 rfl]
          generalize rowE.o (some x) rest = VR2 at *
          by_cases e1 : c = 1
          · subst e1
            by_cases e2 : 2 ≤ t.length
            · obtain ⟨k, n, rfl⟩ : ∃ k n, t = k :: n := by
                cases t with
                | nil => simp at e2
                | cons k n => exact ⟨k, n, rfl⟩
              have e2' : ¬ (((k :: n).length : Int) + 1 < 3) := by omega
              have ik : indexAddrT (.sl 3 ⟨some false, some 1⟩) (intE.o (some y) (1 :: k :: n)) (.int .i64 1) = some (cptr (.int .i64 k)) := Enc.index_o (O := intE) (i := 1) (k := .i64) Enc.ok_some (by simp)
              have c1 : ¬ (g ≠ 0 ∧ 0 ≤ k ∧ k < (A.length : Int)) := fun q => c1 ⟨rfl, e2, q⟩
              generalize intE.o (some y) (1 :: k :: n) = VW at *
              generalize intE.o (some y) (k :: n) = VT at *
              generalize (k :: n).length = tl at *
              by_cases e3 : g = 0
              · subst e3
                simp -implicitDefEqProofs [r36, p36, lr, n0, ix, le, lw, n1, dr, iw, e2', trim_le]
              · have e3' : ¬ ((g : Int) < 1) := by omega
                by_cases e4 : k < 0
                · simp -implicitDefEqProofs [r36, p36, lr, n0, ix, le, lw, n1, dr, iw, ik, e2', e3', e4, trim_le]
                · have e5 : (A.length : Int) ≤ k := by omega
                  simp -implicitDefEqProofs [r36, p36, lr, n0, ix, le, lw, n1, dr, iw, ik, e2', e3', e4, e5, rop_nilT, nilT_ptr, l0, ll, trim_le]
            · have e2' : ((t.length : Int) + 1 < 3) := by omega
              generalize intE.o (some y) (1 :: t) = VW at *
              simp -implicitDefEqProofs [r36, p36, lr, n0, ix, le, lw, n1, dr, iw, e2', trim_le]
          · generalize intE.o (some y) (c :: t) = VW at *
            simp -implicitDefEqProofs [r36, p36, lr, n0, ix, le, lw, n1, dr, iw, c0, e1, trim_le]
        obtain ⟨e1, e2, e3, e4, e5⟩ := c1
        subst e1
        obtain ⟨kz, n, rfl⟩ : ∃ k n, t = k :: n := by
          cases t with
          | nil => simp at e2
          | cons k n => exact ⟨k, n, rfl⟩
        have e4 : 0 ≤ kz := e4
        have e5 : kz < (A.length : Int) := e5
        obtain ⟨kn, rfl⟩ : ∃ kn : Nat, kz = (kn : Int) := ⟨kz.toNat, by omega⟩
        have hkn : kn < A.length := by omega
        obtain ⟨g', rfl⟩ : ∃ g', g = g' + 1 := ⟨g - 1, by omega⟩
        have ih := ih g' rfl
        rw [List.length_cons] at e2 htl
        have hnl : 0 < n.length := by omega
        have hn : n ≠ [] := List.length_pos_iff.1 hnl
        have eal : (als A).length = A.length := by unfold als; rw [List.length_map]
        have hf : followF (als A) (g' + 1 + 1) ((1 :: (kn : Int) :: n) :: rest.map (·.2)) o = if o.testBit kn && (idxF A[kn].2.length n && replF (als A) o A[kn].2 (n.map (·.toNat))) then
            n.foldlM (fun r i => followF (als A) (g' + 1) r (rem o ((maskF (als A) <$> A[kn].2[i.toNat]?).getD 0))) (rest.map (·.2)) else none := by
          rw [Co.followF.eq_def]
          dsimp only
          rw [if_neg (by decide), if_pos rfl, if_neg (by
            rintro (q | q | q | q)
            · exact hn q
            · omega
            · omega
            · rw [eal] at q; omega), Int.toNat_natCast, alt_at hkn]
        rw [List.map_cons, hf]
        have hka := p.ka _ (List.getElem_mem hkn)
        have hsm := p.small _ (List.getElem_mem hkn)
        have ik : indexAddrT (.sl 3 ⟨some false, some 1⟩) (intE.o (some y) (1 :: (kn : Int) :: n)) (.int .i64 1) = some (cptr (.int .i64 (kn : Int))) := Enc.index_o (O := intE) (i := 1) (k := .i64) Enc.ok_some (by simp)
        have d2 : ∀ H, sliceT (.sl 3 ⟨some false, some 1⟩) H (intE.o (some y) (1 :: (kn : Int) :: n)) (some (.int .i64 2)) none none = some (intE.o (some y) n) := fun H => Enc.drop_tree (O := intE) (x := y) (n := 2) (z := 2) rfl (by simp)
        have iA := Enc.index_o (O := listE) (t := 23) (k := .i64) p.k hkn
        have lA : ∀ h sz, loadT ⟨some false, sz⟩ h (cptr (listE.e A[kn])) = some (strE.o A[kn].1 A[kn].2) := fun h sz => Enc.load_e (O := listE) _
        have la : ∀ H, lenT .sl H (strE.o A[kn].1 A[kn].2) = some (.int .i64 A[kn].2.length) := fun H => Enc.o_len hka
        have ln : ∀ H, lenT .sl H (intE.o (some y) n) = some (.int .i64 n.length) := fun H => Enc.o_len (O := intE) Enc.ok_some
        have rf : ∀ H, reify E.P 8 H (intE.o (some y) n) = some (intE.o (some y) n) := fun H => Enc.o_reify
        have rl : ∀ H z, reify E.P 8 H (.int .i64 z) = some (.int .i64 z) := fun _ _ => rfl
        have ia := indices_spec (some y) n Enc.ok_some (by omega) A[kn].2.length
        rw [idxOk_eq] at ia
        have rp : idxF A[kn].2.length n = true → ∀ lo st, retCall E (L E) lo st 54 [ptr b, strE.o A[kn].1 A[kn].2, intE.o (some y) n, setV o] h = some (.bool (replF (als A) o A[kn].2 (n.map (·.toNat))), h) := fun q lo st => by
          obtain ⟨q1, q2⟩ := idx_cast q
          have := replace_spec p hw y (n.map (·.toNat)) hka q2 (by rw [List.length_map]; omega) (by omega) ho lo st
          rw [q1, repl_all _ _ _ q2] at this
          exact this
        have b1 := bin_shrU (P := E.P) (t := 58) (a := o) (n := kn) (by have := p.few; omega)
        have hao : o >>> kn < 2 ^ 64 := Nat.lt_of_le_of_lt (by rw [Nat.shiftRight_eq_div_pow]; exact Nat.div_le_self _ _) ho
        have b2 := bin_andU (P := E.P) (t := 58) (a := o >>> kn) (b := 1) hao (by omega)
        have z0 : aBin E.P .eql 58 (setV 0) (.int .u64 0) = some (.bool true) := mk_eq (a := 0) (b := 0)
        have z1 : aBin E.P .eql 58 (setV 1) (.int .u64 0) = some (.bool false) := mk_eq (a := 1) (b := 0)
        rw [bit_at] at b2
        have e1V : setV 1 = .int .u64 1 := rfl
        rw [e1V] at b2
        have g2 : ¬ (((n.length + 1 : Nat) : Int) + 1 < 3) := by omega
        have g3 : ¬ (((g' + 1 : Nat) : Int) < 1) := by omega
        have g4 : ¬ ((kn : Int) < 0) := by omega
        have g5 : ¬ ((A.length : Int) ≤ (kn : Int)) := by omega
        have g6 : ((n.length + 1 : Nat) : Int) = (n.length : Int) + 1 := by omega
        have g7 : ((g' + 1 : Nat) : Int) = (g' : Int) + 1 := by omega
        simp only [List.length_cons] at lw
        rw [g6] at lw g2
        rw [g7] at g3
        have n1' : ¬ ((n.length : Int) + 1 + 1 = 0) := by omega
        have an : ∀ (i : Nat) (hi : i < n.length), indexAddrT (.sl 3 ⟨some false, some 1⟩) (intE.o (some y) n) (.int .i64 (i : Int)) = some (cptr (.int .i64 n[i])) := fun i hi => Enc.index_o Enc.ok_some hi
        have as_ : ∀ (i : Nat) (hi : i < A[kn].2.length), indexAddrT (.sl 9 ⟨some false, some 1⟩) (strE.o A[kn].1 A[kn].2) (.int .i64 (i : Int)) = some (cptr (.string A[kn].2[i])) := fun i hi => Enc.index_o hka hi
        have l2 := fun sz => p.l2 (sz := sz)
        have lk := fun s => p.look s
        generalize hVW : intE.o (some y) (1 :: (kn : Int) :: n) = VW at *
        generalize intE.o (some y) n = VN at *
        generalize listE.o K A = VA at *
        generalize cptr (listE.e A[kn]) = VE2 at *
        generalize strE.o A[kn].1 A[kn].2 = VS at *
        by_cases q : (o.testBit kn && (idxF A[kn].2.length n && replF (als A) o A[kn].2 (n.map (·.toNat)))) = true
        case neg =>
          rw [if_neg q]
          refine ⟨none, [], false, fl_none, ?_⟩
          show _ = some (Value.tuple #[.slice none 0 0, .bool false], h)
          rw [ret3t m36, L_fn F36 rfl]
          generalize rowE.o (some x) rest = VR2 at *
          cases q1 : o.testBit kn
          · simp -implicitDefEqProofs [r36, p36, lr, n0, ix, le, lw, n1', dr, iw, g2, g3, g4, g5, ik, d2, iA, lA, rop_nilT, nilT_ptr, l0, ll, b1, b2, q1, z0, trim_le]
          cases q2 : idxF A[kn].2.length n
          · rw [q2] at ia
            simp -implicitDefEqProofs [r36, p36, lr, n0, ix, le, lw, n1', dr, iw, g2, g3, g4, g5, ik, d2, iA, lA, la, rop_nilT, nilT_ptr, l0, ll, b1, b2, q1, z1, ret0 m52, rf, rl, ia, trim_le]
          rw [q2] at ia
          have rp := rp q2
          have q3 : replF (als A) o A[kn].2 (n.map (·.toNat)) = false := by
            cases q3 : replF (als A) o A[kn].2 (n.map (·.toNat))
            · rfl
            · rw [q1, q2, q3] at q; exact absurd rfl q
          rw [q3] at rp
          simp -implicitDefEqProofs [r36, p36, lr, n0, ix, le, lw, n1', dr, iw, g2, g3, g4, g5, ik, d2, iA, lA, la, rop_nilT, nilT_ptr, l0, ll, b1, b2, q1, z1, ret0 m52, rf, rl, ia, rp, trim_le]
        rw [if_pos q]
        simp only [Bool.and_eq_true] at q
        obtain ⟨q1, q2, q3⟩ := q
        rw [q2] at ia
        have rp := rp q2
        rw [q3] at rp
        have him := Co.idx_mem q2
        generalize hF : n.foldlM (fun r i => followF (als A) (g' + 1) r (rem o ((maskF (als A) <$> A[kn].2[i.toNat]?).getD 0))) (rest.map (·.2)) = F
        rw [ret3t m36, L_fn F36 rfl]
        simp -implicitDefEqProofs [r36, p36, lr, n0, ix, le, lw, n1', dr, iw, g2, g3, g4, g5, ik, d2, iA, lA, la, rop_nilT, nilT_ptr, l0, ll, b1, b2, q1, z1, ret0 m52, rf, rl, ia, rp, ln]
        refine ux_goal (G := fun X => FlG h F (Option.map (fun r => (r.1, Bm.trim h.length [r.1] r.2)) (retK [RRes.tmp 8, RRes.tmp 9] (seqC E (L E) LL lo (blkK 1 X) _))))
          (LL_ux (α := Nat × Option Bool × List (Option Bool × List Int)) (U := Option Bool × List (Option Bool × List Int)) (0, some x, rest) (fun a => [(11, rowE.o a.2.1 a.2.2), (127, .int .i64 (a.1 : Int))]) (fun _ => h)
            (if F.isSome = true then .exit 1 else .ret) (fun u => if F.isSome = true then [(11, rowE.o u.1 u.2), (127, undef)] else [(8, .slice none 0 0), (9, .bool false), (11, rowE.o u.1 u.2), (127, undef)])
            (fun u h' => h' = h ∧ ∀ R', F = some R' → FlP u.1 u.2 ∧ u.2.map (·.2) = R')
            (fun a => a.1 ≤ n.length ∧ FlP a.2.1 a.2.2 ∧ (n.drop a.1).foldlM (fun r i => followF (als A) (g' + 1) r (rem o ((maskF (als A) <$> A[kn].2[i.toNat]?).getD 0))) (a.2.2.map (·.2)) = F)
            (fun a => n.length - a.1) ?_ ?_ ?_ ?_) ?_
        · exact ⟨Nat.zero_le _, hRr, hF⟩
        · simp -implicitDefEqProofs [k36_12]
        · rfl
        · intro nx a ha ihl
          obtain ⟨i, k', R'⟩ := a
          obtain ⟨c1, c2, c3⟩ := ha
          simp only at c1 c2 c3 ihl ⊢
          by_cases hi : i < n.length
          case neg =>
            have e : i = n.length := by omega
            subst e
            rw [List.drop_length, List.foldlM_nil] at c3
            have c3 : F = some (R'.map (·.2)) := c3.symm
            subst c3
            refine ⟨(k', R'), h, ?_, rfl, fun R2 h2 => ⟨c2, Option.some.inj h2⟩⟩
            have gi : ¬ ((n.length : Int) < (n.length : Int)) := by omega
            simp -implicitDefEqProofs [r36_12, k36_12, trim_le]
          have hi2 : (i : Int) < (n.length : Int) := by omega
          have hd : n.drop i = n[i] :: n.drop (i + 1) := List.drop_eq_getElem_cons hi
          have hm := him n[i] (List.getElem_mem hi)
          obtain ⟨j, hj⟩ : ∃ j : Nat, n[i] = (j : Int) := ⟨n[i].toNat, by omega⟩
          have hj2 : j < A[kn].2.length := by omega
          have x1 := an i hi
          rw [hj] at x1
          have x2 := as_ j hj2
          have x3 := lk A[kn].2[j]
          have em : (maskF (als A) <$> A[kn].2[n[i].toNat]?).getD 0 = maskF (als A) A[kn].2[j] := by
            rw [hj, Int.toNat_natCast, List.getElem?_eq_getElem hj2]; rfl
          have b3 := bin_remU (P := E.P) (t := 58) ho (mask_small A p.few A[kn].2[j])
          have wi : IntKind.i64.wrap ((i : Int) + 1) = ((i + 1 : Nat) : Int) := (wrap64 (by omega) (by omega)).trans (by omega)
          have wg : IntKind.i64.wrap ((g' : Int) + 1 - 1) = (g' : Int) := (wrap64 (by omega) (by omega)).trans (by omega)
          have wg2 : IntKind.i64.wrap (g' : Int) = (g' : Int) := wrap64 (by omega) (by omega)
          obtain ⟨k2, R2, ok, f1, f2⟩ := ih k' R' (rem o (maskF (als A) A[kn].2[j])) c2 (rem_lt ho) lo
          rw [hd, List.foldlM_cons, em] at c3
          cases hq : followF (als A) (g' + 1) (R'.map (·.2)) (rem o (maskF (als A) A[kn].2[j])) with
          | none =>
            rw [hq] at f1 c3
            have c3 : F = none := c3.symm
            subst c3
            have ho1 := f1.ok
            rw [show (none : Option (List (List Int))).isSome = false from rfl] at ho1
            subst ho1
            refine ⟨(k', R'), h, ?_, rfl, fun R2 h2 => by cases h2⟩
            simp -implicitDefEqProofs [r36_12, k36_12, hi2, x1, x2, rop_nilT, nilT_ptr, l2, x3, b3, wg2, f2, trim_le]
          | some R3 =>
            rw [hq] at f1 c3
            have c3 : (n.drop (i + 1)).foldlM (fun r i => followF (als A) (g' + 1) r (rem o ((maskF (als A) <$> A[kn].2[i.toNat]?).getD 0))) R3 = F := c3
            have ho1 := f1.ok
            rw [show (some R3 : Option (List (List Int))).isSome = true from rfl] at ho1
            subst ho1
            have heq := f1.eq R3 rfl
            rw [← heq] at c3
            obtain ⟨u, h', r1, r2⟩ := ihl (i + 1, k2, R2) (by show n.length - (i + 1) < n.length - i; omega) ⟨hi, f1.p, c3⟩
            refine ⟨u, h', ?_, r2⟩
            rw [← r1]
            simp -implicitDefEqProofs [k36_12, -Int.natCast_add]
            simp -implicitDefEqProofs [r36_12, hi2, x1, x2, rop_nilT, nilT_ptr, l2, x3, b3, wg2, f2, wi, trim_le, -Int.natCast_add]
        · intro u h' hK
          obtain ⟨rfl, hu⟩ := hK
          cases F with
          | none =>
            refine ⟨none, [], false, fl_none, ?_⟩
            simp -implicitDefEqProofs [k36_12, trim_le]
            rfl
          | some R' =>
            obtain ⟨u1, u2⟩ := hu R' rfl
            refine ⟨u.1, u.2, true, ⟨u1, rfl, fun R2 h2 => by rw [← Option.some.inj h2]; exact u2⟩, ?_⟩
            simp -implicitDefEqProofs [k36_12, trim_le]
theorem follow_spec (p : Pb h b r m K A ns) (hw : WF h) : ∀ g, g ≤ 1000000 → FlS A h b g := by
  intro g
  induction g with
  | zero => intro hg; exact follow_step p hw hg fun g' e => by omega
  | succ g ih =>
    intro hg
    refine follow_step p hw hg fun g' e => ?_
    have e : g = g' := by omega
    subst e
    exact ih (by omega)
end
end Go.Proofs.YtgefjhjmkejjbaaDoor.Bm
namespace Go.Proofs.YtgefjhjmkejjbaaDoor.Bm
open Go Go.RowKit
theorem okE : OkProg E.P := okProg_of (by kernel_rfl) (by kernel_rfl)
theorem laidE : laidOutB E.P = true := by kernel_rfl
theorem mapsE : mapsRowed E.P = true := by kernel_rfl
noncomputable def tlE : List TypeId := closeT E.P 8 [22, 23, 24, 5]
theorem closedE : closedT E.P tlE = true := by kernel_rfl
theorem in22 : 22 ∈ tlE := List.contains_iff_mem.1 (by kernel_rfl)
theorem in23 : 23 ∈ tlE := List.contains_iff_mem.1 (by kernel_rfl)
theorem in24 : 24 ∈ tlE := List.contains_iff_mem.1 (by kernel_rfl)
theorem in5 : 5 ∈ tlE := List.contains_iff_mem.1 (by kernel_rfl)
theorem u4 : E.P.underlying 4 = some .bool := by kernel_rfl
theorem fU8 : E.P.underlying 5 = some (.int .u8) := by kernel_rfl
theorem fStr : E.P.underlying 9 = some .string := by kernel_rfl
theorem fSs : E.P.underlying 23 = some (.slice 9) := by kernel_rfl
theorem fSss : E.P.underlying 22 = some (.slice 23) := by kernel_rfl
theorem gSs : aggT E.P 23 = some false := by kernel_rfl
theorem gSss : aggT E.P 22 = some false := by kernel_rfl
theorem gU8 : aggT E.P 5 = some false := by kernel_rfl
theorem alV {n : Nat} {c : List Value} (h : Wt E.P n 22 c) : ∃ A : List (Option Bool × List ByteArray), elemV E.P 22 c = listE.o (some false) A ∧ A.length ≤ maxLen ∧ ∀ x ∈ A, Enc.Ok x.1 x.2 ∧ x.2.length ≤ maxLen := by
  obtain ⟨ls, rfl, h2, h3⟩ := wt_slice fSss h
  obtain ⟨rs, rfl, k2⟩ := choose_list (α := List ByteArray) (cells := fun l => [strE.o (some false) l]) (Q := fun l => l.length ≤ maxLen) ls fun x hx => by
    obtain ⟨m, hm⟩ := h3 x hx
    obtain ⟨l, rfl, h1, _⟩ := wt_strs fSs fStr hm
    exact ⟨l, rfl, h1⟩
  refine ⟨rs.map fun l => (some false, l), ?_, by simpa using h2, fun r hr => ?_⟩
  · have e : ∀ l : List (List ByteArray), (l.map fun l => [strE.o (some false) l]).map (elemV E.P 23) = (l.map fun l => ((some false, l) : Option Bool × List ByteArray)).map listE.e := by
      intro l
      induction l with
      | nil => rfl
      | cons r l ih =>
        rw [List.map_cons, List.map_cons, ih, List.map_cons, List.map_cons]
        simp [elemV, gSs]; rfl
    rw [e]
    unfold elemV
    rw [gSss]; rfl
  · obtain ⟨l, hl, rfl⟩ := List.mem_map.1 hr
    exact ⟨Enc.ok_some, k2 l hl⟩
theorem u8V {n : Nat} {c : List Value} (h : Wt E.P n 5 c) : ∃ z : Int, elemV E.P 5 c = .int .u8 z ∧ 0 ≤ z ∧ z ≤ 255 := by
  obtain ⟨z, rfl, hz⟩ := wt_int fU8 h
  exact ⟨z, by simp [elemV, gU8], by simpa [Lit.wf, IntKind.min, IntKind.max, IntKind.signed, IntKind.bits] using hz⟩
theorem orcE : OrcSound E := by
  have key : ∀ g k, E.orc g = some k → k = inGS Co.sortB none ∧ SortConS E.P g Co.sortB none := fun g k h => by
    rw [E_orc] at h
    by_cases h0 : g = 40
    · subst h0; simp only [if_true, Option.some.injEq] at h; exact ⟨h.symm, conSortS⟩
    · simp only [h0, if_false] at h; cases h
  refine ⟨fun g k hg args h lo r _ => ?_, fun g k hg args h lo v h' hr hlo B M w args' hs hv => ?_, fun g k hg args h lo v h' hr hlo => ?_⟩
  · exact (key g k hg).2.dfd
  · obtain ⟨rfl, hC⟩ := key g k hg
    exact in_soundS hC hr hlo args' hs hv
  · obtain ⟨rfl, _⟩ := key g k hg
    exact inGS_keep hr
end Go.Proofs.YtgefjhjmkejjbaaDoor.Bm
