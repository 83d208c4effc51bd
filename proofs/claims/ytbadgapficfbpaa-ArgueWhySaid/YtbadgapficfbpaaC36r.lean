/-
  Chapter 36: the law on certificates. Conditions: lists that are not too long.
-/
import Derived.Test.YtbadgapficfbpaaC36l
import Derived.Test.YtbadgapficfbpaaBmNum
namespace Go.Proofs.Ytbadgapficfbpaa.Bm
open Go Go.RowKit

/-! ### Plain: what is accepted -/

theorem Cert.congr {A : List (List Int)} {L R L' R' : List Int} (h : Cert A L R) (e : ∀ j, dom A.length j → getI L j = getI L' j ∧ getI R j = getI R' j) : Cert A L' R' := by
  refine ⟨fun j hj => by rw [← (e j hj).1]; exact h.l01 j hj, fun j hj h1 => ?_, fun j hj h2 => ?_, fun j hj h0 => ?_⟩
  · rw [← (e j hj).1] at h1
    obtain ⟨q1, q2⟩ := h.in_ j hj h1
    refine ⟨by rw [← (e j hj).2]; exact q1, fun i hi ha => ?_⟩
    rw [← (e i hi).1, ← (e i hi).2, ← (e j hj).2]
    exact q2 i hi ha
  · rw [← (e j hj).1] at h2
    obtain ⟨i, hi, ha, q1, q2, q3⟩ := h.out_ j hj h2
    exact ⟨i, hi, ha, by rw [← (e i hi).1]; exact q1, by rw [← (e i hi).2]; exact q2, by rw [← (e i hi).2, ← (e j hj).2]; exact q3⟩
  · rw [← (e j hj).1] at h0
    obtain ⟨q1, q2, i, hi, ha, q3⟩ := h.open_ j hj h0
    exact ⟨by rw [← (e j hj).2]; exact q1, fun i hi ha => by rw [← (e i hi).1]; exact q2 i hi ha, i, hi, ha, by rw [← (e i hi).1]; exact q3⟩

/-- Ranks that are seven times as great do as well. -/
theorem Cert.far {A : List (List Int)} {L R R' : List Int} (h : Cert A L R) (e : ∀ j, dom A.length j → getI R' j = 7 * getI R j) : Cert A L R' := by
  refine ⟨h.l01, fun j hj h1 => ?_, fun j hj h2 => ?_, fun j hj h0 => ?_⟩
  · obtain ⟨q1, q2⟩ := h.in_ j hj h1
    refine ⟨by rw [e j hj]; omega, fun i hi ha => ⟨(q2 i hi ha).1, ?_⟩⟩
    have := (q2 i hi ha).2
    rw [e i hi, e j hj]; omega
  · obtain ⟨i, hi, ha, q1, q2, q3⟩ := h.out_ j hj h2
    exact ⟨i, hi, ha, q1, by rw [e i hi]; omega, by rw [e i hi, e j hj]; omega⟩
  · obtain ⟨q1, q2⟩ := h.open_ j hj h0
    exact ⟨by rw [e j hj, q1]; rfl, q2⟩

theorem eq_of_getI {n : Nat} {l r : List Int} (hl : l.length = n) (hr : r.length = n) (h : ∀ j, dom n j → getI l j = getI r j) : l = r := by
  refine List.ext_getElem (by omega) fun i h1 h2 => ?_
  have := h (i : Int) ⟨by omega, by omega⟩
  rwa [getI_nat h1, getI_nat h2] at this

/-- What is accepted has the labels of the grounded labelling. -/
theorem accepted {A : List (List Int)} (hr : rightB A = true) {L R : List Int} (h : checkF A L R = 0) : L = (groundF A).1 := by
  obtain ⟨⟨h1, _⟩, hc⟩ := (check_zero hr).1 h
  exact eq_of_getI h1 ground_len.1 fun j hj => hc.unique (ground_cert hr) hj
theorem refused {A : List (List Int)} (hr : rightB A = true) {L R : List Int} (_hL : L.length = A.length) {j : Int} (hj : dom A.length j) (h : getI L j ≠ getI (groundF A).1 j) : checkF A L R = 19 :=
  check_19 hr fun ⟨_, hc⟩ => h (hc.unique (ground_cert hr) hj)

theorem waves_rank {A : List (List Int)} (hr : rightB A = true) : ∀ (m : Nat) (r : Int) (s : GS), GInv A.length m r s → SInv A r s → ∃ r', SInv A r' (wavesS A m r s) ∧ r' ≤ r + 2 * m
  | 0, r, s, g, _ => absurd g.open_ (Nat.not_lt_zero _)
  | m + 1, r, s, g, h => by
    unfold wavesS
    split
    · exact ⟨r, h, by omega⟩
    · rename_i hw
      obtain ⟨hn, hat⟩ := right_at hr
      obtain ⟨r', h1, h2⟩ := waves_rank hr m (r + 2) _ (g.step hn hat hw) (h.step hr g)
      exact ⟨r', h1, by omega⟩
theorem ground_rank {A : List (List Int)} (hr : rightB A = true) (j : Int) (hj : dom A.length j) : 0 ≤ getI (groundF A).2 j ∧ getI (groundF A).2 j ≤ 1000 := by
  obtain ⟨r, h, hle⟩ := waves_rank hr (A.length + 1) 1 (startS A) (GInv.start hr) (SInv.start hr)
  have hn := (right_at hr).1
  unfold groundF
  simp only
  generalize wavesS A (A.length + 1) 1 (startS A) = s at *
  by_cases h0 : getI s.lab j = 0
  · have := h.zero j hj h0; omega
  · have := h.pos j hj h0; omega

/-! ### The law -/
def farL (R : List Int) : List Int := R.map (7 * ·)
theorem tree_any {h : Heap} {b : Nat} {l : List Int} {g n : Nat} {sp : Option Nat} (hob : h[b]? = some (.cells 3 (l.map (.int .i64)) g)) (hst : stampOk sp g l.length = true) (hn : n = l.length) : reify E1.P 8 h (.slice (some ⟨b, 0, sp⟩) n n) = some (rowT l) := by
  subst hn
  show reify E.P 8 h _ = some (lst false (l.map (.int .i64)))
  rw [reify_slice]
  by_cases h0 : l.length = 0
  · have : l = [] := List.eq_nil_of_length_eq_zero h0
    subst this; rfl
  · rw [if_neg h0, hob]
    show reifyS E.P 7 h (some (.cells 3 (l.map (.int .i64)) g)) _ _ = _
    rw [reifyS_cells, s3, Option.bind_some, if_pos ⟨by simpa using hst, Nat.one_pos, by simp⟩]
    have e : ((l.map (Value.int .i64)).drop 0).take (l.length * 1) = l.map (.int .i64) := by rw [List.drop_zero, Nat.mul_one, List.take_of_length_le (by simp)]
    rw [e, reifyC_set (by simp [List.all_eq_true]), Option.bind_some, elems_one a3 s3]; rfl

theorem app_ints {h : Heap} {lo : Nat} {st : Bool} {A : List Int} (h0 : A ≠ []) (hb : A.length ≤ 1000000) : appendT (some elI) h lo st (lst true []) (rowT A) = some (.slice (some ⟨h.length, 0, some A.length⟩) A.length A.length, h ++ [rowG A]) := by
  have e : (A.map (Value.int .i64)).flatMap cellsL = A.map (.int .i64) := by
    induction A with
    | nil => rfl
    | cons a A ih =>
      rw [List.map_cons, List.flatMap_cons]
      cases A with
      | nil => rfl
      | cons b A => rw [ih (by simp) (by simp at hb ⊢; omega)]; rfl
  have hne : A.map (Value.int .i64) ≠ [] := by simpa using h0
  have key := app_first (el := elI) (x := false) (st := st) (h := h) (lo := lo) (A := A.map (.int .i64)) (by simp [List.all_eq_true, elI]) (by simp [elI]; omega)
  have e1 : rowV elI.size h (A.map (.int .i64)) = .slice (some ⟨h.length, 0, some A.length⟩) A.length A.length := by
    unfold rowV; rw [if_neg hne]; simp [elI]
  have e2 : rowH elI.size elI.e h (A.map (.int .i64)) = h ++ [rowG A] := by
    unfold rowH; rw [if_neg hne, e]; rfl
  rw [e1, e2] at key
  exact key
theorem getI_setI {l : List Int} {i : Nat} {v j : Int} (hi : i < l.length) : getI (l.set i v) j = if j.toNat = i then v else getI l j := getI_set (k := (i : Int)) hi
theorem take_setI {l : List Int} {i : Nat} {v : Int} (hi : i < l.length) : (l.set i v).take (i + 1) = l.take i ++ [v] := by
  rw [List.take_succ_eq_append_getElem (by simpa using hi), List.getElem_set_self, List.take_set_of_le (Nat.le_refl _)]

set_option maxRecDepth 20000 in
theorem checks_spec (x : Bool) (l : List Claim) (Lb Rk : List Int) (at_ to : Int) (hc : CaseOk l) (hl : l.length ≤ maxLen) : ∃ h', L E1 5 [lst x (l.map Claim.val), rowT Lb, rowT Rk, .int .i64 at_, .int .i64 to] [] 0 = some (.bool true, h') := by
  have sm := small_spec
  have fw : pureCall E1.P (L E1) 9 [lst x (l.map Claim.val), .int .i64 40] = _ := lift (few_spec x l 40 (by decide) hc)
  have rs := lift (right_spec x l hc hl)
  have gs := lift (grounded_spec x l hc hl)
  have n8 : E1.mode 8 = 0 := rfl
  have n9 : E1.mode 9 = 0 := rfl
  have n10 : E1.mode 10 = 4 := rfl
  have n12 : E1.mode 12 = 0 := rfl
  have n13 : E1.mode 13 = 0 := rfl
  have n15 : E1.mode 15 = 0 := rfl
  have rt : ∀ n l h, reify E1.P (n + 1) h (rowT l) = some (rowT l) := fun _ _ _ => rfl
  have lT : ∀ l h, lenT .sl h (rowT l) = some (.int .i64 (l.length : Int)) := fun l h => by unfold rowT; simp
  have lT' : ∀ h, lenT .sl h (lst x (l.map Claim.val)) = some (.int .i64 (l.length : Int)) := fun h => by simp
  rw [L_fn (fn1 F5) rfl]
  cases hf : fewB 40 l
  · rw [hf] at fw
    simp -implicitDefEqProofs [r5, p5, ret0 n8, sm, ret0 n9, fw]
  · have hn := few_len hf
    rw [hf] at fw
    cases hr : rightB (atts l)
    · rw [hr] at rs
      simp -implicitDefEqProofs [r5, p5, ret0 n8, sm, ret0 n9, fw, ret0 n13, rs]
    · by_cases q1 : Lb.length ≤ 60
      · by_cases q2 : Rk.length ≤ 60
        · have q1' : ¬ (60 : Int) < Lb.length := by omega
          have q2' : ¬ (60 : Int) < Rk.length := by omega
          rw [hr] at rs gs
          simp only [if_true] at gs
          obtain ⟨hL, hR⟩ := ground_len (A := atts l)
          rw [atts_len] at hL hR
          have cert := ground_cert hr
          have ck : ∀ A B, pureCall E1.P (L E1) 15 [lst x (l.map Claim.val), rowT A, rowT B] = some (.int .i64 (checkF (atts l) A B)) := fun A B => lift (check_spec x l (some false) (some false) A B hc hl iok_some iok_some)
          have cg : checkF (atts l) (groundF (atts l)).1 (groundF (atts l)).2 = 0 := (check_zero hr).2 ⟨ground_len, cert⟩
          have cb : checkF (atts l) Lb Rk = 0 → Lb = (groundF (atts l)).1 := accepted hr
          have ci : ∀ A B, A.length ≤ maxLen → pureCall E1.P (L E1) 12 [rowT A, rowT B] = some (.bool (decide (A = B))) := fun A B hA => lift (ints_spec (some false) (some false) A B iok_some iok_some hA)
          have ci := ci Lb (groundF (atts l)).1 (by unfold maxLen; omega)
          have far : checkF (atts l) (groundF (atts l)).1 (farL (groundF (atts l)).2) = 0 := (check_zero hr).2 ⟨⟨ground_len.1, by rw [farL, List.length_map]; exact ground_len.2⟩, cert.far fun j hj => by
            simp only [farL, getI, List.getD_eq_getElem?_getD, List.getElem?_map]
            cases (groundF (atts l)).2[j.toNat]? <;> rfl⟩
          have ref := fun (A B : List Int) h j hj e => refused hr (L := A) (R := B) h (j := j) hj e
          have hrk := ground_rank hr
          have b0 := fun h => build_none' (el := elI) (lv := true) (h := h)
          have bE : ∀ n, elemsT elI.k n [] = some [] := fun _ => rfl
          simp only [bE, Option.map_some] at b0
          have ap := fun h A h0 hb => app_ints (h := h) (lo := 0) (st := false) (A := A) h0 hb
          simp only [elI] at b0 ap
          have tr := @tree_any
          generalize hLg : (groundF (atts l)).1 = Lg at *
          generalize hRg : (groundF (atts l)).2 = Rg at *
          have cbd : (checkF (atts l) Lb Rk = 0 ∧ decide (Lb = Lg) = true) ∨ checkF (atts l) Lb Rk ≠ 0 := by
            by_cases q : checkF (atts l) Lb Rk = 0
            · exact .inl ⟨q, decide_eq_true (cb q)⟩
            · exact .inr q
          by_cases q0 : l.length = 0
          · rcases cbd with ⟨q3, q4⟩ | q3
            · rw [q4] at ci
              simp -implicitDefEqProofs [r5, p5, ret0 n8, sm, ret0 n9, fw, ret0 n13, rs, ret4 n10, frzAll_lst, gs, lT, hL, hR, q1', q2', ret0 n15, rt, ck, cg, q3, ret0 n12, ci, q0]
            · simp -implicitDefEqProofs [r5, p5, ret0 n8, sm, ret0 n9, fw, ret0 n13, rs, ret4 n10, frzAll_lst, gs, lT, hL, hR, q1', q2', ret0 n15, rt, ck, cg, q3, q0]
          · obtain ⟨m, hm, em⟩ := and_mask (P := E1.P) (t := 3) at_
            have er := rem_nat (P := E1.P) (t := 3) (m := m) (n := l.length) (by omega)
            have hi : m % l.length < l.length := Nat.mod_lt m (by omega)
            generalize m % l.length = i at er hi
            have hne : Lg ≠ [] := fun e => q0 (by rw [← hL, e]; rfl)
            have ap := fun h => ap h Lg hne (by omega)
            have mk := fun h => make_one (h := h) (el := elI) (n := l.length) (k := .i64) (k' := .i64) rfl rfl (by omega) (by decide)
            have hz : List.replicate l.length (Value.int .i64 0) = (zerosI l.length).map (.int .i64) := by simp [zerosI]
            simp only [elI, hz] at mk
            have hiL : i < Lg.length := by omega
            have hiI : (i : Int) < (l.length : Int) := by omega
            have sp := splice_ints (L := Lg) (k := i) (v := to) (kk := .i64) hiL
            have hi1 : i + 1 ≤ l.length := hi
            rcases cbd with ⟨q3, q4⟩ | q3
            rw [q4] at ci
            simp -implicitDefEqProofs [r5, p5, ret0 n8, sm, ret0 n9, fw, ret0 n13, rs, ret4 n10, frzAll_lst, gs, lT, hL, hR, q1', q2', ret0 n15, rt, ck, cg, q3, ret0 n12, ci, q0, em, er, b0, ap, index_slice, hiI, hi1, sp, rowG, mk, -splice]
            rotate_left
            simp -implicitDefEqProofs [r5, p5, ret0 n8, sm, ret0 n9, fw, ret0 n13, rs, ret4 n10, frzAll_lst, gs, lT, hL, hR, q1', q2', ret0 n15, rt, ck, cg, q3, q0, em, er, b0, ap, index_slice, hiI, hi1, sp, rowG, mk, -splice]
            all_goals
              rw [LL_for (γ := List Int) Rg (zerosI l.length) (fun j _ => [(18, .int .i64 j)]) (fun _ c => [rowG (Lg.set i to), rowC c]) (fun j rest c => (.exit 0, [(18, undef)], [rowG (Lg.set i to), rowC (c.take j ++ farL rest)])) (fun _ c => c.length = l.length) (by omega) (by simp [zerosI])]
              · simp only [List.take_zero, List.nil_append]
                have r0 := tr (h := [rowG (Lg.set i to), rowC (farL Rg)]) (b := 0) (l := Lg.set i to) (g := 1) (sp := some l.length) (n := l.length) rfl (by rw [List.length_set, hL]; simp [stampOk]) (by rw [List.length_set, hL])
                have r1 := tr (h := [rowG (Lg.set i to), rowC (farL Rg)]) (b := 1) (l := farL Rg) (g := 0) (sp := none) (n := l.length) rfl rfl (by rw [farL, List.length_map, hR])
                have hLi := rowT_idxN (e := 3) (l := Lg) (i := i) hiL
                by_cases qt : to = Lg[i]
                · have r2 := tr (h := [rowG Lg, rowC (farL Rg)]) (b := 1) (l := farL Rg) (g := 0) (sp := none) (n := l.length) rfl rfl (by rw [farL, List.length_map, hR])
                  simp -implicitDefEqProofs [k5_16, hLi, qt, -reify_slice, r2, ret0 n15, rt, ck, far]
                · have hid : dom (atts l).length (i : Int) := ⟨by omega, by rw [atts_len]; omega⟩
                  have hne2 : getI (Lg.set i to) (i : Int) ≠ getI Lg (i : Int) := by
                    rw [getI_setI hiL, if_pos (by omega), getI_nat hiL]; exact qt
                  have f1 := ref (Lg.set i to) Rg (by rw [List.length_set, hL, atts_len]) (i : Int) hid hne2
                  have f2 := ref (Lg.set i to) (farL Rg) (by rw [List.length_set, hL, atts_len]) (i : Int) hid hne2
                  simp -implicitDefEqProofs [k5_16, hLi, qt, -reify_slice, r0, r1, ret0 n15, rt, ck, far, f1, f2]
              · simp -implicitDefEqProofs [k5_16]
              · simp -implicitDefEqProofs [rowG, rowC]
              · intro nx j c hj hcl
                have hj' : ¬ j < l.length := by omega
                have e : c.take j ++ farL [] = c := by rw [List.take_of_length_le (by omega)]; simp [farL]
                rw [e]
                simp -implicitDefEqProofs [r5_16, k5_16, hj', trim_le]
              · intro nx j v rest c hj hv hd hwj hcl ihj
                have hjl : j < l.length := by omega
                have ihj := ihj (c.set j (7 * v)) (by simpa using hcl)
                have hvb := hrk (j : Int) ⟨by omega, by rw [atts_len]; omega⟩
                rw [getI_nat hj, hv] at hvb
                have hw7 : IntKind.i64.wrap (7 * v) = 7 * v := wrap64 (by omega) (by omega)
                have hR := rowT_idxN (e := 3) (l := Rg) (i := j) hj
                have sp := splice_ints (L := c) (k := j) (v := 7 * v) (kk := .i64) (by omega)
                have et : (c.set j (7 * v)).take (j + 1) ++ farL rest = c.take j ++ farL (v :: rest) := by
                  rw [take_setI (by omega), List.append_assoc]; rfl
                rw [et] at ihj
                have hj1 : j + 1 ≤ c.length := by omega
                have hjc : j < c.length := by omega
                have hjI : (j : Int) < (l.length : Int) := by omega
                simp -implicitDefEqProofs [k5_16, rowG, rowC] at ihj
                simp -implicitDefEqProofs [r5_16, k5_16, hwj, hR, hv, hw7, index_slice, hjI, hj1, sp, rowG, rowC, trim_le, -splice]
                exact ihj
        · have q1' : ¬ (60 : Int) < Lb.length := by omega
          have q2' : (60 : Int) < Rk.length := by omega
          rw [hr] at rs
          simp -implicitDefEqProofs [r5, p5, ret0 n8, sm, ret0 n9, fw, ret0 n13, rs, lT, q1', q2']
      · have q1' : (60 : Int) < Lb.length := by omega
        rw [hr] at rs
        simp -implicitDefEqProofs [r5, p5, ret0 n8, sm, ret0 n9, fw, ret0 n13, rs, lT, q1']

end Go.Proofs.Ytbadgapficfbpaa.Bm
