/-
  Chapter 21: the law on a plan without one of its rules, and with this one alone. Conditions: integers within their kinds.
-/
import Derived.Test.YtippkkkddhnmhaaC21d
import Derived.Test.YtippkkkddhnmhaaC21q
import Derived.Test.YtippkkkddhnmhaaBmLit
namespace Go.Proofs.Ytippkkkddhnmhaa.Bm
open Go Go.RowKit

theorem u4c : E.P.underlying 4 = some .bool := by kernel_rfl
theorem s48 : szOf E.P 48 = some 20 := by kernel_rfl
theorem a48 : aggT E.P 48 = some true := by kernel_rfl
theorem s30 : szOf E.P 30 = some 8 := by kernel_rfl
theorem a30 : aggT E.P 30 = some true := by kernel_rfl

theorem rules_len (l : List Rule) : (l.map Rule.val).all (fun v => (cellsL v).length == 20) = true := by
  simp [List.all_eq_true, Rule.val, Rule.cells]

theorem app1 {z : Value} {k : TI} {h : Heap} {lo : Nat} {st x : Bool} {A : List Rule} (hb : A.length ≤ 1000) :
    appendT (some ⟨48, 20, 232, z, k⟩) h lo st (lst true []) (lst x (A.map Rule.val)) = some (rowV 20 h (A.map Rule.val), rowH 20 48 h (A.map Rule.val)) :=
  app_first (el := ⟨48, 20, 232, z, k⟩) (rules_len A) (by simp only [List.length_map]; omega)
theorem app2 {z : Value} {k : TI} {h : Heap} {lo : Nat} {x : Bool} {A B R : List Rule} (hlo : lo ≤ h.length) (hR : A ++ B = R) (hb : R.length ≤ 1000) :
    appendT (some ⟨48, 20, 232, z, k⟩) (rowH 20 48 h (A.map Rule.val)) lo false (rowV 20 h (A.map Rule.val)) (lst x (B.map Rule.val)) = some (rowV 20 h (R.map Rule.val), rowH 20 48 h (R.map Rule.val)) := by
  subst hR
  rw [List.length_append] at hb
  rw [List.map_append]
  exact app_second (el := ⟨48, 20, 232, z, k⟩) (rules_len A) (rules_len B) (by simp) hlo (by simp only [List.length_map]; omega)

theorem row_ints (h : Heap) (W : List Int) : reifyC E.P 7 h ((W.map (.int .i64)).take W.length) = some (W.map (.int .i64)) := by
  rw [List.take_of_length_le (by simp), reifyC_set (by simp [List.all_eq_true])]
theorem rules_set (R : List Rule) : ((R.map Rule.val).flatMap cellsL).all (settled 8) = true := by
  induction R with
  | nil => rfl
  | cons r R ih =>
    rw [List.map_cons, List.flatMap_cons, List.all_append, ih]
    rfl
theorem rules_agg (R : List Rule) : ∀ v ∈ R.map Rule.val, ∃ cs, v = .agg ⟨cs⟩ ∧ cs.length = 20 := by
  intro v hv
  obtain ⟨r, _, rfl⟩ := List.mem_map.1 hv
  exact ⟨r.cells, rfl, rfl⟩
theorem rules_flat (R : List Rule) : ((R.map Rule.val).flatMap cellsL).length = R.length * 20 := by
  rw [flat_len' (rules_len R), List.length_map]

theorem frz_plan (o0 o3 : AObj) (a b c e f g hh : Value) {R : List Rule} (h0 : R ≠ []) (h7 : [a, b, c, e, f, g, hh].all (settled 8) = true) (h1 : [a, b, c, e, f, g, hh].all one = true) :
    freezeV E.P depth 0 [o0, .cells 30 [a, b, c, .slice (some ⟨2, 0, some (R.length * 20)⟩) R.length R.length, e, f, g, hh] 0, .cells 48 ((R.map Rule.val).flatMap cellsL) 20, o3] (.pointer (some ⟨1, 0, none⟩)) =
      some (cptr (.agg ⟨[a, b, c, lst false (R.map Rule.val), e, f, g, hh]⟩), [o0, .dead, .dead, o3]) := by
  have hn : R.length ≠ 0 := fun e => h0 (List.eq_nil_of_length_eq_zero e)
  have fS : freezeV E.P 7 0 [o0, .dead, .cells 48 ((R.map Rule.val).flatMap cellsL) 20, o3] (.slice (some ⟨2, 0, some (R.length * 20)⟩) R.length R.length) = some (lst false (R.map Rule.val), [o0, .dead, .dead, o3]) := by
    have := frz_agg1 (P := E.P) (lo := 0) (n := 6) (h := [o0, .dead, .cells 48 ((R.map Rule.val).flatMap cellsL) 20, o3]) (b := 2) (k := R.length * 20) (len := R.length) (cap := R.length) (g := 19) (s := 20) (l := R.map Rule.val) rfl s48 a48 (Nat.zero_le _) rfl (rules_flat R).symm (by rw [List.length_map]) (by decide) (rules_agg R) (rules_set R)
    rw [this, if_neg hn]; rfl
  simp only [List.all_cons, List.all_nil, Bool.and_true, Bool.and_eq_true] at h7 h1
  obtain ⟨q1, q2, q3, q4, q5, q6, q7⟩ := h7
  obtain ⟨w1, w2, w3, w4, w5, w6, w7⟩ := h1
  have k1 := fun h => frz_set1 (P := E.P) (lo := 0) (n := 6) (h := h) q1 w1
  have k2 := fun h => frz_set1 (P := E.P) (lo := 0) (n := 6) (h := h) q2 w2
  have k3 := fun h => frz_set1 (P := E.P) (lo := 0) (n := 6) (h := h) q3 w3
  have k4 := fun h => frz_set1 (P := E.P) (lo := 0) (n := 6) (h := h) q4 w4
  have k5 := fun h => frz_set1 (P := E.P) (lo := 0) (n := 6) (h := h) q5 w5
  have k6 := fun h => frz_set1 (P := E.P) (lo := 0) (n := 6) (h := h) q6 w6
  have k7 := fun h => frz_set1 (P := E.P) (lo := 0) (n := 6) (h := h) q7 w7
  rw [frz_ptr8 rfl s30 a30 (Nat.zero_le _), if_neg (by simp [set_slice])]
  simp [List.foldlM_cons, k1, k2, k3, k4, k5, k6, k7, fS]

theorem frz_plan0 (o0 o3 : AObj) (a b c d e f g hh : Value) (h7 : [a, b, c, d, e, f, g, hh].all (settled 8) = true) :
    freezeV E.P depth 0 [o0, .cells 30 [a, b, c, d, e, f, g, hh] 0, o3] (.pointer (some ⟨1, 0, none⟩)) = some (cptr (.agg ⟨[a, b, c, d, e, f, g, hh]⟩), [o0, .dead, o3]) := by
  rw [frz_ptr8 rfl s30 a30 (Nat.zero_le _), if_pos h7]
  rfl

set_option maxHeartbeats 4000000 in
theorem alone_spec (x y : Bool) (p : Plan) (zones : List ByteArray) (day at_ : Int) (hp : PlanOk p) (hz : zones.length ≤ maxLen) :
    ∃ h', L E 7 [p.val x, lst y (zones.map .string), .int .i64 day, .int .i64 at_] [] 0 = some (.bool true, h') := by
  have few := few_spec x y p zones hp.len hp.names hz
  simp only [Plan.val, Plan.cells] at few
  rw [L_fn F7 rfl]
  cases hf : fewB p zones
  · rw [hf] at few
    simp -implicitDefEqProofs [r7, padS, Plan.val, Plan.cells, ret0 m8, small_spec, ret0 m9, few]
  · rw [hf] at few
    have h20 : p.rules.length ≤ 20 := by
      unfold fewB at hf
      simp at hf
      exact hf.1.1
    by_cases h1 : at_ < 0
    · simp -implicitDefEqProofs [r7, padS, Plan.val, Plan.cells, ret0 m8, small_spec, ret0 m9, few, h1]
    · obtain ⟨n, rfl⟩ : ∃ n : Nat, at_ = n := ⟨at_.toNat, by omega⟩
      by_cases h2 : n < p.rules.length
      · have hn : ¬ ((p.rules.length : Int) ≤ n) := by omega
        have hw1 : IntKind.i64.wrap ((n : Int) + 1) = (n : Int) + 1 := wrap64 (by omega) (by omega)
        have sA : ∀ h t g, sliceT (.sl t ⟨g, some 20⟩) h (lst x (p.rules.map Rule.val)) none (some (.int .i64 n)) none = some (lst (x && n == p.rules.length) ((p.rules.take n).map Rule.val)) := fun h t g => by
          rw [slice_take (rules_len _) (by rw [List.length_map]; omega), List.length_map, List.map_take]
        have sB : ∀ h t g, sliceT (.sl t ⟨g, some 20⟩) h (lst x (p.rules.map Rule.val)) (some (.int .i64 ((n : Int) + 1))) none none = some (lst x ((p.rules.drop (n + 1)).map Rule.val)) := fun h t g => by
          rw [slice_drop (n := n + 1) (rules_len _) (by omega) (by rw [List.length_map]; omega), List.map_drop]
        have hwant := fun zones day => want_apply zones day p.rules h2
        have hone : decide (((applyF zones day [p.rules[n]] 0).length : Int) = 1) = memI (applyF zones day p.rules 0) (n : Int) := by
          rw [← one_apply zones day p.rules h2]
          exact decide_eq_decide.2 (by omega)
        have hl : (p.rules.take n ++ p.rules.drop (n + 1)).length ≤ 20 := by simp; omega
        have ap := apply_spec x y p zones day (by omega) hp.names hz
        have ap1 := apply_spec true y { p with rules := [p.rules[n]] } zones day (by simp) (fun r hr => hp.names r (by simp at hr; subst hr; exact List.getElem_mem h2)) hz
        simp only [Plan.val, Plan.cells, Rule.val, Rule.cells, List.map_cons, List.map_nil] at ap ap1
        have il : (applyF zones day p.rules 0).length ≤ maxLen := Nat.le_trans (applyF_len _ _ _ _) hp.len
        have il20 : (applyF zones day p.rules 0).length ≤ 20 := Nat.le_trans (applyF_len _ _ _ _) h20
        have lh := lhas_spec false (applyF zones day p.rules 0) n il
        have hA0 : (p.rules.take n).length ≤ 1000 := by simp; omega
        generalize hA : p.rules.take n = A at *
        generalize hB : p.rules.drop (n + 1) = B at *
        generalize hR : A ++ B = R at *
        have hR1 : R.length ≤ 1000 := by omega
        have hRn : okRules R := by
          intro r hr
          rw [← hR, ← hA, ← hB] at hr
          rcases List.mem_append.1 hr with h | h
          · exact hp.names r (List.mem_of_mem_take h)
          · exact hp.names r (List.mem_of_mem_drop h)
        have apR := fun b => apply_spec b y { p with rules := R } zones day (by simp; omega) hRn hz
        simp only [Plan.val, Plan.cells] at apR
        have intsR := fun b => ints_spec false b (applyF zones day R 0) (applyF zones day R 0) (Nat.le_trans (applyF_len _ _ _ _) (by unfold maxLen; omega))
        by_cases hR0 : R = []
        · have rV : ∀ h, rowV 20 h (R.map Rule.val) = lst true [] := fun h => by rw [hR0]; rfl
          have rH : ∀ h, rowH 20 48 h (R.map Rule.val) = h := fun h => by rw [hR0]; rfl
          simp -implicitDefEqProofs [r7, padS, Plan.val, Plan.cells, ret0 m8, small_spec, ret0 m9, few, h1, h2, hn, hw1, build_none', elemsT_agg, chunk, sA, sB, app1 hA0, app2 (Nat.zero_le _) hR hR1, rowH_get, rV, rH, Rule.val, Rule.cells, build_lit', Value.cells, okPart, litOk_nil, litOk_cons, -append_lst]
          have fz := frz_plan0 (.cells 30 (p.cells x) 0) (.cells 30 (Plan.cells { p with rules := [p.rules[n]] } true) 0) (lst false p.defs) (lst false p.tables) (lst false p.zones) (lst true []) (lst false p.caps) (lst false p.views) (lst false p.sun) (.int .i64 p.hours) rfl
          simp -implicitDefEqProofs [Plan.cells, Rule.val, Rule.cells] at fz
          simp -implicitDefEqProofs [prep1, fz, ret1s m13, ap, s3]
          rw [LL_rec (α := Nat × List Int) (0, []) (fun a => [(12, .slice (some ⟨3, 0, some a.2.length⟩) a.2.length a.2.length), (14, .int .i64 a.1)]) (fun a => [.cells 30 (p.cells x) 0, .dead, .cells 30 (Plan.cells { p with rules := [p.rules[n]] } true) 0, .cells 3 (a.2.map (.int .i64)) 1])
            (fun a => let o := a.2 ++ wantF n ((applyF zones day p.rules 0).drop a.1)
              (.exit 0, [(12, .slice (some ⟨3, 0, some o.length⟩) o.length o.length), (14, undef)], [.cells 30 (p.cells x) 0, .dead, .cells 30 (Plan.cells { p with rules := [p.rules[n]] } true) 0, .cells 3 (o.map (.int .i64)) 1]))
            (fun a => a.1 ≤ (applyF zones day p.rules 0).length ∧ a.2.length ≤ a.1) (fun a => (applyF zones day p.rules 0).length - a.1)]
          · simp only [List.drop_zero, List.nil_append, hwant]
            have he : applyF zones day R 0 = [] := by rw [hR0]; rfl
            have i1 := ints_spec false false [] [] (by simp)
            have apR := apR true
            rw [he, hR0] at apR
            simp at i1 apR
            simp -implicitDefEqProofs [k7_11, Plan.cells, he, ret1s m13, apR, ap1, ret0 m12, i1, ret0 m19, lh, Rule.val, Rule.cells, bin_eql_bool u4c, hone]
          · simp
          · simp -implicitDefEqProofs [k7_11]
          · rfl
          · intro nx a ⟨hi, ho⟩ ih
            obtain ⟨i, out⟩ := a
            simp only at hi ho
            simp only [k7_11] at ih
            generalize hl0 : applyF zones day p.rules 0 = l at *
            by_cases h : i < l.length
            · have hd : l.drop i = l[i] :: l.drop (i + 1) := List.drop_eq_getElem_cons h
              have hb := applyF_bd zones day p.rules 0 l[i] (by rw [hl0]; exact List.getElem_mem h)
              have hw := wrap64 (z := (i : Int) + 1) (by omega) (by omega)
              have hw2 := wrap64 (z := l[i] - 1) (by omega) (by omega)
              have hbd : (out.length + 1) * 8 ≤ 140737488355328 := by omega
              rw [hd]
              by_cases c1 : l[i] < n
              · have c2 : ¬ (n : Int) < l[i] := by omega
                have ih := ih (i + 1, out ++ [l[i]]) (by simp; omega) ⟨by simp; omega, by simp; omega⟩
                simp -implicitDefEqProofs [Plan.cells] at ih
                simp -implicitDefEqProofs [r7_11, k7_11, wantF, h, c1, c2, hw, hbd, trim_cut, bel_rowV, build_one', appS_grown, Value.cells, Plan.cells]
                exact ih
              · by_cases c2 : (n : Int) < l[i]
                · have ih := ih (i + 1, out ++ [l[i] - 1]) (by simp; omega) ⟨by simp; omega, by simp; omega⟩
                  simp -implicitDefEqProofs [Plan.cells] at ih
                  simp -implicitDefEqProofs [r7_11, k7_11, wantF, h, c1, c2, hw, hw2, hbd, trim_cut, bel_rowV, build_one', appS_grown, Value.cells, Plan.cells]
                  exact ih
                · have ih := ih (i + 1, out) (by simp; omega) ⟨by simp; omega, by simp; omega⟩
                  simp -implicitDefEqProofs [Plan.cells] at ih
                  simp -implicitDefEqProofs [r7_11, k7_11, wantF, h, c1, c2, hw, trim_le, Plan.cells]
                  exact ih
            · have hd : l.drop i = [] := List.drop_eq_nil_of_le (by omega)
              simp -implicitDefEqProofs [r7_11, k7_11, h, hd, wantF, trim_le]
        · have rV : ∀ h, rowV 20 h (R.map Rule.val) = .slice (some ⟨h.length, 0, some (R.length * 20)⟩) R.length R.length := fun h => by
            unfold rowV; rw [if_neg (by simpa using hR0), List.length_map]
          have rH : ∀ h, rowH 20 48 h (R.map Rule.val) = h ++ [.cells 48 ((R.map Rule.val).flatMap cellsL) 20] := fun h => by
            unfold rowH; rw [if_neg (by simpa using hR0)]
          simp -implicitDefEqProofs [r7, padS, Plan.val, Plan.cells, ret0 m8, small_spec, ret0 m9, few, h1, h2, hn, hw1, build_none', elemsT_agg, chunk, sA, sB, app1 hA0, app2 (Nat.zero_le _) hR hR1, rowH_get, rV, rH, Rule.val, Rule.cells, build_lit', Value.cells, okPart, litOk_nil, litOk_cons, -append_lst]
          have fz := frz_plan (.cells 30 (p.cells x) 0) (.cells 30 (Plan.cells { p with rules := [p.rules[n]] } true) 0) (lst false p.defs) (lst false p.tables) (lst false p.zones) (lst false p.caps) (lst false p.views) (lst false p.sun) (.int .i64 p.hours) hR0 rfl rfl
          simp -implicitDefEqProofs [Plan.cells, Rule.val, Rule.cells] at fz
          simp -implicitDefEqProofs [prep1, fz, ret1s m13, ap, s3]
          rw [LL_rec (α := Nat × List Int) (0, []) (fun a => [(12, .slice (some ⟨4, 0, some a.2.length⟩) a.2.length a.2.length), (14, .int .i64 a.1)]) (fun a => [.cells 30 (p.cells x) 0, .dead, .dead, .cells 30 (Plan.cells { p with rules := [p.rules[n]] } true) 0, .cells 3 (a.2.map (.int .i64)) 1])
            (fun a => let o := a.2 ++ wantF n ((applyF zones day p.rules 0).drop a.1)
              (.exit 0, [(12, .slice (some ⟨4, 0, some o.length⟩) o.length o.length), (14, undef)], [.cells 30 (p.cells x) 0, .dead, .dead, .cells 30 (Plan.cells { p with rules := [p.rules[n]] } true) 0, .cells 3 (o.map (.int .i64)) 1]))
            (fun a => a.1 ≤ (applyF zones day p.rules 0).length ∧ a.2.length ≤ a.1) (fun a => (applyF zones day p.rules 0).length - a.1)]
          · simp only [List.drop_zero, List.nil_append, hwant]
            by_cases he : applyF zones day R 0 = []
            · have i1 := ints_spec false false [] [] (by simp)
              rw [he] at apR
              simp at i1 apR
              simp -implicitDefEqProofs [k7_11, Plan.cells, he, ret1s m13, apR, ap1, ret0 m12, i1, ret0 m19, lh, Rule.val, Rule.cells, bin_eql_bool u4c, hone]
            · have i1 := intsR false
              simp -implicitDefEqProofs [k7_11, Plan.cells, he, ret1s m13, apR, ap1, ret0 m12, i1, ret0 m19, lh, Rule.val, Rule.cells, bin_eql_bool u4c, hone, s3, row_ints, elems_one a3 s3]
          · simp
          · simp -implicitDefEqProofs [k7_11]
          · rfl
          · intro nx a ⟨hi, ho⟩ ih
            obtain ⟨i, out⟩ := a
            simp only at hi ho
            simp only [k7_11] at ih
            generalize hl0 : applyF zones day p.rules 0 = l at *
            by_cases h : i < l.length
            · have hd : l.drop i = l[i] :: l.drop (i + 1) := List.drop_eq_getElem_cons h
              have hb := applyF_bd zones day p.rules 0 l[i] (by rw [hl0]; exact List.getElem_mem h)
              have hw := wrap64 (z := (i : Int) + 1) (by omega) (by omega)
              have hw2 := wrap64 (z := l[i] - 1) (by omega) (by omega)
              have hbd : (out.length + 1) * 8 ≤ 140737488355328 := by omega
              rw [hd]
              by_cases c1 : l[i] < n
              · have c2 : ¬ (n : Int) < l[i] := by omega
                have ih := ih (i + 1, out ++ [l[i]]) (by simp; omega) ⟨by simp; omega, by simp; omega⟩
                simp -implicitDefEqProofs [Plan.cells] at ih
                simp -implicitDefEqProofs [r7_11, k7_11, wantF, h, c1, c2, hw, hbd, trim_cut, bel_rowV, build_one', appS_grown, Value.cells, Plan.cells]
                exact ih
              · by_cases c2 : (n : Int) < l[i]
                · have ih := ih (i + 1, out ++ [l[i] - 1]) (by simp; omega) ⟨by simp; omega, by simp; omega⟩
                  simp -implicitDefEqProofs [Plan.cells] at ih
                  simp -implicitDefEqProofs [r7_11, k7_11, wantF, h, c1, c2, hw, hw2, hbd, trim_cut, bel_rowV, build_one', appS_grown, Value.cells, Plan.cells]
                  exact ih
                · have ih := ih (i + 1, out) (by simp; omega) ⟨by simp; omega, by simp; omega⟩
                  simp -implicitDefEqProofs [Plan.cells] at ih
                  simp -implicitDefEqProofs [r7_11, k7_11, wantF, h, c1, c2, hw, trim_le, Plan.cells]
                  exact ih
            · have hd : l.drop i = [] := List.drop_eq_nil_of_le (by omega)
              simp -implicitDefEqProofs [r7_11, k7_11, h, hd, wantF, trim_le]
      · have hn : (p.rules.length : Int) ≤ n := by omega
        simp -implicitDefEqProofs [r7, padS, Plan.val, Plan.cells, ret0 m8, small_spec, ret0 m9, few, h1, hn]

end Go.Proofs.Ytippkkkddhnmhaa.Bm
