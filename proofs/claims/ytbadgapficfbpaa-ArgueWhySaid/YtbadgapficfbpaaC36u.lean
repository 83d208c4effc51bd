/-
  Chapter 36: the law on reasons. Conditions: lists that are not too long.
-/
import Derived.Test.YtbadgapficfbpaaC36t
import Derived.Test.YtbadgapficfbpaaC36r
namespace Go.Proofs.Ytbadgapficfbpaa.Bm
open Go Go.RowKit

def wk (l : List Int) : Option Bool := if l = [] then none else some false
theorem whyV_il (l : List Int) : whyV l = ilist (wk l) l := by
  unfold whyV wk
  by_cases h : l = []
  · rw [if_pos h, if_pos h]; rfl
  · rw [if_neg h, if_neg h]; rfl
theorem wk_ok (l : List Int) : IOk (wk l) l := by
  unfold wk IOk
  by_cases h : l = []
  · exact fun _ => h
  · rw [if_neg h]; exact fun e => by cases e
theorem inG_len {Lb : List Int} : ∀ (l : List Int) (i : Nat), (inG' Lb l i).length ≤ l.length
  | [], _ => Nat.le_refl _
  | a :: l, i => by
    have := inG_len (Lb := Lb) l (i + 1)
    unfold inG'
    split <;> simp <;> omega

set_option maxRecDepth 20000 in
theorem whyLaw_spec (x : Bool) (l : List Claim) (at_ : Int) (hc : CaseOk l) (hl : l.length ≤ maxLen) : ∃ h', L E1 6 [lst x (l.map Claim.val), .int .i64 at_] [] 0 = some (.bool true, h') := by
  have sm := small_spec
  have fw : pureCall E1.P (L E1) 9 [lst x (l.map Claim.val), .int .i64 30] = _ := lift (few_spec x l 30 (by decide) hc)
  have rs := lift (right_spec x l hc hl)
  have gs := lift (grounded_spec x l hc hl)
  have n8 : E1.mode 8 = 0 := rfl
  have n9 : E1.mode 9 = 0 := rfl
  have n10 : E1.mode 10 = 4 := rfl
  have n13 : E1.mode 13 = 0 := rfl
  have n17 : E1.mode 17 = 0 := rfl
  have n19 : E1.mode 19 = 0 := rfl
  have n21 : E1.mode 21 = 1 := rfl
  have n24 : E1.mode 24 = 0 := rfl
  have n25 : E1.mode 25 = 0 := rfl
  have rt : ∀ n l h, reify E1.P (n + 1) h (rowT l) = some (rowT l) := fun _ _ _ => rfl
  have lT : ∀ l h, lenT .sl h (rowT l) = some (.int .i64 (l.length : Int)) := fun l h => by unfold rowT; simp
  rw [L_fn (fn1 F6) rfl]
  cases hf : fewB 30 l
  · rw [hf] at fw
    simp -implicitDefEqProofs [r6, p6, ret0 n8, sm, ret0 n9, fw]
  · have hn := few_len hf
    rw [hf] at fw
    cases hr : rightB (atts l)
    · rw [hr] at rs
      simp -implicitDefEqProofs [r6, p6, ret0 n8, sm, ret0 n9, fw, ret0 n13, rs]
    · rw [hr] at rs gs
      simp only [if_true] at gs
      by_cases q0 : l.length = 0
      · simp -implicitDefEqProofs [r6, p6, ret0 n8, sm, ret0 n9, fw, ret0 n13, rs, q0]
      · obtain ⟨hL, hR⟩ := ground_len (A := atts l)
        rw [atts_len] at hL hR
        obtain ⟨m, hm, em⟩ := and_mask (P := E1.P) (t := 3) at_
        have er := rem_nat (P := E1.P) (t := 3) (m := m) (n := l.length) (by omega)
        have hi : m % l.length < l.length := Nat.mod_lt m (by omega)
        generalize m % l.length = c at er hi
        have hcd : dom (atts l).length (c : Int) := ⟨by omega, by rw [atts_len]; omega⟩
        have ws := why_spec x l (c : Int) hc hl
        rw [whyV_il] at ws
        have hwo := wk_ok (whyF (atts l) (c : Int))
        have hwl := why_len hr hcd
        rw [atts_len] at hwl
        have hws := why_shut hr hcd
        have hsort := why_sorted hr hcd
        have hin := inF_shut hr
        have hmem : ∀ z ∈ whyF (atts l) (c : Int), memI (inF (atts l)) z = true := fun z hz => memI_mem.2 (inF_mem.2 (hws.good z hz))
        have hadI := hin.adm hr
        have hadW := hws.adm hr
        have hdef := inF_def hr hcd
        have hyes := why_in hr hcd
        have hhit := why_hit hr hcd
        have hno := why_no (A := atts l) (c := (c : Int))
        have l01 := (ground_cert hr).l01 _ hcd
        have hil : (inF (atts l)).length ≤ l.length := by rw [← hL]; exact inG_len _ 0
        have adS : ∀ k S, IOk k S → S.length ≤ 1000000 → pureCall E1.P (L E1) 19 [lst x (l.map Claim.val), ilist k S] = some (.bool (admB (atts l) S)) := fun k S hk hS => lift (admissible_spec x l k S hc hl hk hS)
        have dfS : ∀ k S z, IOk k S → S.length ≤ 1000000 → pureCall E1.P (L E1) 17 [lst x (l.map Claim.val), ilist k S, .int .i64 z] = some (.bool (defB (atts l) S z)) := fun k S z hk hS => lift (defends_spec x l k S z hc hl hk hS)
        have meS : ∀ k S z, IOk k S → S.length ≤ maxLen → pureCall E1.P (L E1) 24 [ilist k S, .int .i64 z] = some (.bool (memI S z)) := fun k S z hk hS => lift (member_spec k S z hk hS)
        have atS : ∀ z, dom l.length z → pureCall E1.P (L E1) 25 [lst x (l.map Claim.val), .int .i64 z, .int .i64 (c : Int)] = some (.bool (attB (atts l) z c)) := fun z hz => by
          exact lift (attacks_spec x l z (c : Int) hc hz.1 hz.2)
        have ad1 : pureCall E1.P (L E1) 19 [lst x (l.map Claim.val), rowT (inF (atts l))] = _ := adS (some false) _ iok_some (by omega)
        have ad2 := adS _ _ hwo (by omega)
        have df1 : pureCall E1.P (L E1) 17 [lst x (l.map Claim.val), rowT (inF (atts l)), .int .i64 (c : Int)] = _ := dfS (some false) _ (c : Int) iok_some (by omega)
        have df2 := dfS _ _ (c : Int) hwo (by omega)
        have me1 : ∀ z, pureCall E1.P (L E1) 24 [rowT (inF (atts l)), .int .i64 z] = _ := fun z => meS (some false) _ z iok_some (by unfold maxLen; omega)
        have me2 := meS _ _ (c : Int) hwo (by unfold maxLen; omega)
        rw [hadI] at ad1
        rw [hadW] at ad2
        rw [hdef] at df1
        have hinE : inF (atts l) = inG' (groundF (atts l)).1 (groundF (atts l)).1 0 := rfl
        generalize inF (atts l) = I at *
        generalize hwe : whyF (atts l) (c : Int) = w at *
        generalize hke : wk w = k at *
        generalize hLg : (groundF (atts l)).1 = Lg at *
        generalize hRg : (groundF (atts l)).2 = Rg at *
        have hlc := il_len (h := []) hwo
        have hLc := rowT_idxN (e := 3) (l := Lg) (i := c) (by omega)
        have hgc : getI Lg (c : Int) = Lg[c]'(by omega) := getI_nat (by omega)
        simp -implicitDefEqProofs [r6, p6, ret0 n8, sm, ret0 n9, fw, ret0 n13, rs, q0, ret4 n10, frzAll_lst, gs, lT, hL, em, er, ret1s n21, ws, prep_new, newK_nil s3E]
        have hLr := fun i h => rowT_idxN (e := 3) (l := Lg) (i := i) h
        rw [LL_for (γ := List Int) Lg [] (fun j acc => [(11, rowS_ 0 acc), (12, .int .i64 j)]) (fun _ acc => [rowG acc]) (fun j rest acc => (.exit 0, [(11, rowS_ 0 (acc ++ inG' Lg rest j)), (12, undef)], [rowG (acc ++ inG' Lg rest j)])) (fun j acc => acc.length ≤ j) (by omega) (Nat.zero_le _)]
        · rw [List.nil_append, ← hinE]
          obtain ⟨o1, ho1, fz⟩ := frz_int (h := [rowG I]) (b := 0) (W := I) rfl
          rw [show E.P = E1.P from rfl, show lst false (I.map (Value.int .i64)) = rowT I from rfl] at fz
          simp -implicitDefEqProofs at fz
          simp -implicitDefEqProofs [k6_11, rowS_, prep_frz, fz]
          rw [LL_for (γ := Unit) w () (fun j _ => [(13, .int .i64 j)]) (fun _ _ => [o1]) (fun _ _ _ => (.exit 2, [(13, undef)], [o1])) (fun _ _ => True) (by omega) trivial]
          · by_cases h1 : getI Lg (c : Int) = 1
            · obtain ⟨y1, y2⟩ := hyes h1
              rw [y1] at me2
              rw [y2] at df2
              rw [decide_eq_true h1] at df1
              rw [hgc] at h1
              simp -implicitDefEqProofs [k6_16, hLc, h1, ret0 n19, rt, ad1, il_reify, ad2, ret0 n17, df1, bin_neq_bool (P := E1.P) ub, ret0 n24, me2, df2]
            · have hh := hhit h1
              rw [decide_eq_false h1] at df1
              rw [hgc] at h1 hh l01 hno
              have hlw := fun h => il_len (h := h) hwo
              simp -implicitDefEqProofs [k6_16, hLc, h1, ret0 n19, rt, ad1, il_reify, ad2, ret0 n17, df1, bin_neq_bool (P := E1.P) ub]
              rw [LL_for (γ := Bool) w false (fun j b => [(14, .bool b), (15, .int .i64 j)]) (fun _ _ => [o1]) (fun _ rest b => (.exit 4, [(14, .bool (b || rest.any fun z => attB (atts l) z c)), (15, undef)], [o1])) (fun _ _ => True) (by omega) trivial]
              · rw [Bool.false_or, hh]
                rcases l01 with q | q | q
                · have hw0 := hno q
                  subst hw0
                  simp -implicitDefEqProofs [k6_26, hLc, q, bin_eql_bool (P := E1.P) ub, hlw]
                · exact absurd q h1
                · simp -implicitDefEqProofs [k6_26, hLc, q, bin_eql_bool (P := E1.P) ub]
              · simp -implicitDefEqProofs [k6_26]
              · rfl
              · intro nx j b hj _
                simp -implicitDefEqProofs [r6_26, k6_26, hj, hlw, trim_le]
              · intro nx j v rest b hj hv hd hwj _ ih
                have hvd := (hws.good v (hv ▸ List.getElem_mem hj)).1
                rw [atts_len] at hvd
                have hat := atS v hvd
                have hxj := il_idxN (e := 3) (i := j) hwo hj
                rw [List.any_cons]
                cases b
                · have ih := ih (attB (atts l) v c) trivial
                  simp -implicitDefEqProofs [k6_26] at ih
                  simp -implicitDefEqProofs [r6_26, k6_26, hj, hwj, hlw, hxj, hv, ret0 n25, hat, trim_le]
                  exact ih
                · have ih := ih true trivial
                  simp -implicitDefEqProofs [k6_26] at ih
                  simp -implicitDefEqProofs [r6_26, k6_26, hj, hwj, hlw, trim_le]
                  exact ih
          · simp -implicitDefEqProofs [k6_16]
          · rfl
          · intro nx j _ hj _
            have hlw := fun h => il_len (h := h) hwo
            simp -implicitDefEqProofs [r6_16, k6_16, hj, hlw, trim_le]
          · intro nx j v rest _ hj hv hd hwj _ ih
            have ih := ih () trivial
            have hlw := fun h => il_len (h := h) hwo
            have hm1 := me1 v
            rw [hmem v (hv ▸ List.getElem_mem hj)] at hm1
            have hxj := il_idxN (e := 3) (i := j) hwo hj
            simp -implicitDefEqProofs [k6_16] at ih
            by_cases hj0 : j = 0
            · subst hj0
              rw [show ((0 : Nat) : Int) = 0 from rfl] at hxj
              simp -implicitDefEqProofs [r6_16, k6_16, hj, hlw, hxj, hv, ret0 n24, rt, hm1, trim_le]
              exact ih
            · have hp0 : 0 ≤ (j : Int) - 1 := by omega
              have hp1 : ((j : Int) - 1).toNat < w.length := by omega
              have hxp := il_idx (e := 3) (z := (j : Int) - 1) hwo hp0 hp1
              have hlt : getI w ((j : Int) - 1) < v := by
                rw [← hv, show (j : Int) - 1 = ((j - 1 : Nat) : Int) by omega, getI_nat (by omega)]
                exact List.pairwise_iff_getElem.1 hsort (j - 1) j (by omega) hj (by omega)
              have hnle : ¬ v ≤ getI w ((j : Int) - 1) := by omega
              have hwp : IntKind.i64.wrap ((j : Int) - 1) = (j : Int) - 1 := wrap64 (by omega) (by omega)
              have hj0' : 0 < j := by omega
              simp -implicitDefEqProofs [r6_16, k6_16, hj, hlw, hxj, hv, hwj, ret0 n24, rt, hm1, hj0', hwp, hxp, hnle, trim_le]
              exact ih
        · simp -implicitDefEqProofs [k6_11, rowS_]
        · simp -implicitDefEqProofs [rowG]
        · intro nx j acc hj hlen
          have hj' : ¬ j < l.length := by omega
          simp -implicitDefEqProofs [r6_11, k6_11, hj', trim_le, rowS_, inG']
        · intro nx j v rest acc hj hv hd hwj hlen ih
          have hjl : j < l.length := by omega
          have hxj := hLr j hj
          have hbd : (acc.length + 1) * 8 ≤ 140737488355328 := by omega
          by_cases h1 : v = 1
          · have ih := ih (acc ++ [(j : Int)]) (by simp; omega)
            have e : acc ++ [(j : Int)] ++ inG' Lg rest (j + 1) = acc ++ inG' Lg (v :: rest) j := by
              rw [inG', if_pos h1, List.append_assoc]; rfl
            rw [e] at ih
            rw [h1] at hv
            simp -implicitDefEqProofs [k6_11, rowS_, rowG] at ih
            simp -implicitDefEqProofs [r6_11, k6_11, hjl, hwj, hxj, hv, build_one', Value.cells, appS_grown, hbd, rowS_, rowG, rT_bel, trim_cut, -List.all_eq_true, -List.all_map, map_below]
            exact ih
          · have ih := ih acc (by omega)
            have e : inG' Lg (v :: rest) j = inG' Lg rest (j + 1) := by rw [inG', if_neg h1]
            rw [e]
            simp -implicitDefEqProofs [k6_11, rowS_, rowG] at ih
            simp -implicitDefEqProofs [r6_11, k6_11, hjl, hwj, hxj, hv, h1, rowS_, rowG, trim_le]
            exact ih

end Go.Proofs.Ytbadgapficfbpaa.Bm
