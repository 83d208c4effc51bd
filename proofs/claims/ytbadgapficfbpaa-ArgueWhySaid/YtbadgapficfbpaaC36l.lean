/-
  Chapter 36: the law on complete labellings: the grounded one is the least. Conditions: lists that are not too long.
-/
import Derived.Test.YtbadgapficfbpaaC36s
namespace Go.Proofs.Ytbadgapficfbpaa.Bm
open Go Go.RowKit

theorem few_len {n : Nat} {l : List Claim} (h : fewB n l = true) : l.length ≤ n := by
  unfold fewB at h
  simp only [Bool.and_eq_true, decide_eq_true_eq] at h
  exact h.2

def pw3 : Nat → Int
  | 0 => 1
  | n + 1 => 3 * pw3 n
theorem pw3_le : ∀ {n : Nat}, 1 ≤ pw3 n
  | 0 => by decide
  | n + 1 => by have := @pw3_le n; unfold pw3; omega
theorem pw3_mono : ∀ {n m : Nat}, n ≤ m → pw3 n ≤ pw3 m
  | n, 0, h => by rw [Nat.le_zero.1 h]; exact Int.le_refl _
  | n, m + 1, h => by
    by_cases e : n = m + 1
    · rw [e]; exact Int.le_refl _
    · have h1 := @pw3_mono n m (by omega)
      have h2 := @pw3_le m
      show pw3 n ≤ 3 * pw3 m
      omega
/-- A number's digits to the base of three. -/
def digS (s : List Int × Int) : List Int × Int := (s.1 ++ [s.2.tmod 3], s.2.tdiv 3)
def digF : Nat → List Int × Int → List Int × Int
  | 0, s => s
  | n + 1, s => digF n (digS s)
theorem digF_len : ∀ {n : Nat} {s : List Int × Int}, (digF n s).1.length = s.1.length + n
  | 0, _ => rfl
  | n + 1, s => by
    show (digF n (digS s)).1.length = _
    rw [digF_len]; simp [digS]; omega
theorem tree_row {h : Heap} {b : Nat} {l : List Int} (hob : h[b]? = some (rowG l)) : reify E1.P 8 h (rowS_ b l) = some (rowT l) := by
  show reify E.P 8 h (.slice (some ⟨b, 0, some l.length⟩) l.length l.length) = some (lst false (l.map (.int .i64)))
  rw [reify_slice]
  by_cases h0 : l.length = 0
  · have : l = [] := List.eq_nil_of_length_eq_zero h0
    subst this; rfl
  · rw [if_neg h0, hob]
    show reifyS E.P 7 h (some (.cells 3 (l.map (.int .i64)) 1)) _ _ = _
    rw [reifyS_cells, s3, Option.bind_some, if_pos ⟨by simp [stampOk], Nat.one_pos, by simp⟩]
    have e : ((l.map (Value.int .i64)).drop 0).take (l.length * 1) = l.map (.int .i64) := by rw [List.drop_zero, Nat.mul_one, List.take_of_length_le (by simp)]
    rw [e, reifyC_set (by simp [List.all_eq_true]), Option.bind_some, elems_one a3 s3]; rfl
def K3 : AObj := .cells 3 [.int .i64 0, .int .i64 1, .int .i64 2] 1
theorem K3_bel {n : Nat} : belowO n K3 = true := rfl
theorem rT_bel {d n : Nat} {l : List Int} : below (d + 1) n (rowT l) = true := rfl
theorem rowS_bel {d n b : Nat} {l : List Int} (h : b < n) : below (d + 1) n (rowS_ b l) = true := by simp [rowS_, h]

set_option maxRecDepth 20000 in
theorem least_spec (x : Bool) (l : List Claim) (hc : CaseOk l) (hl : l.length ≤ maxLen) : ∃ h', L E1 4 [lst x (l.map Claim.val)] [] 0 = some (.bool true, h') := by
  have sm := small_spec
  have fw : pureCall E1.P (L E1) 9 [lst x (l.map Claim.val), .int .i64 6] = _ := lift (few_spec x l 6 (by decide) hc)
  have rs := lift (right_spec x l hc hl)
  have gs := lift (grounded_spec x l hc hl)
  have n8 : E1.mode 8 = 0 := rfl
  have n9 : E1.mode 9 = 0 := rfl
  have n10 : E1.mode 10 = 4 := rfl
  have n13 : E1.mode 13 = 0 := rfl
  have n23 : E1.mode 23 = 0 := rfl
  rw [L_fn (fn1 F4) rfl]
  cases hf : fewB 6 l
  · rw [hf] at fw
    simp -implicitDefEqProofs [r4, p4, ret0 n8, sm, ret0 n9, fw]
  · have hn := few_len hf
    rw [hf] at fw
    cases hr : rightB (atts l)
    · rw [hr] at rs
      simp -implicitDefEqProofs [r4, p4, ret0 n8, sm, ret0 n9, fw, ret0 n13, rs]
    · rw [hr] at rs gs
      simp only [if_true] at gs
      obtain ⟨hL, hR⟩ := ground_len (A := atts l)
      rw [atts_len] at hL hR
      have cert := ground_cert hr
      have cp := fun k (Lb : List Int) (hk : IOk k Lb) (h : Lb.length = l.length) => lift (complete_spec x l k Lb hc (by omega) hk h)
      have cg : pureCall E1.P (L E1) 23 [lst x (l.map Claim.val), rowT (groundF (atts l)).1] = some (.bool true) := (cp (some false) _ iok_some hL).trans (by rw [compl_iff.2 cert.compl])
      have rt : ∀ n l h, reify E1.P (n + 1) h (rowT l) = some (rowT l) := fun _ _ _ => rfl
      have lT : ∀ l h, lenT .sl h (rowT l) = some (.int .i64 (l.length : Int)) := fun l h => by unfold rowT; simp
      have d3 := i3
      simp only [elI] at d3
      generalize (groundF (atts l)).1 = Lb at *
      generalize (groundF (atts l)).2 = Rk at *
      simp -implicitDefEqProofs [r4, p4, ret0 n8, sm, ret0 n9, fw, ret0 n13, rs, ret4 n10, frzAll_lst, gs, lT, hL, hR, ret0 n23, rt, cg, d3]
      rw [LL_for (γ := Unit) l () (fun i _ => [(8, .int .i64 (pw3 i)), (9, .int .i64 i)]) (fun _ _ => [K3]) (fun _ _ _ => (.exit 0, [(8, .int .i64 (pw3 l.length)), (9, undef)], [K3])) (fun _ _ => True) (by omega) trivial]
      · simp -implicitDefEqProofs [k4_10]
        have hm1 := @pw3_le l.length
        have hm2 : pw3 l.length ≤ 729 := pw3_mono (m := 6) hn
        obtain ⟨m, hm⟩ : ∃ m : Nat, pw3 l.length = (m : Int) := ⟨(pw3 l.length).toNat, by omega⟩
        rw [hm] at hm1 hm2 ⊢
        rw [LL_for (γ := Unit) (List.range m) () (fun i _ => [(10, .int .i64 i)]) (fun _ _ => [K3]) (fun _ _ _ => (.exit 2, [(10, undef)], [K3])) (fun _ _ => True) (by simp; omega) trivial]
        · simp -implicitDefEqProofs [k4_14]
        · simp -implicitDefEqProofs [k4_14]
        · rfl
        · intro nx i _ hi _
          rw [List.length_range] at hi
          simp -implicitDefEqProofs [r4_14, k4_14, hi, trim_le]
        · intro nx i v rest _ hi _ _ hw _ ih
          rw [List.length_range] at hi
          have ih := ih () trivial
          simp -implicitDefEqProofs [r4_14, k4_14, hi, prep_new, newK_nil s3E]
          rw [LL_for (γ := List Int × Int) l ([], (i : Int)) (fun j s => [(11, rowS_ 1 s.1), (12, .int .i64 s.2), (13, .int .i64 j)]) (fun _ s => [K3, rowG s.1]) (fun _ rest s => (.exit 4, [(11, rowS_ 1 (digF rest.length s).1), (12, undef), (13, undef)], [K3, rowG (digF rest.length s).1]))
            (fun j s => s.1.length = j ∧ 0 ≤ s.2 ∧ s.2 ≤ 729) (by omega) ⟨rfl, by omega, by omega⟩]
          · have hdl := digF_len (n := l.length) (s := ([], (i : Int)))
            simp only [List.length_nil, Nat.zero_add] at hdl
            generalize (digF l.length ([], (i : Int))).1 = o at *
            have ro := tree_row (h := [K3, rowG o]) (b := 1) (l := o) rfl
            have co := cp (some false) o iok_some hdl
            rw [show ilist (some false) o = rowT o from rfl] at co
            simp -implicitDefEqProofs [k4_14] at ih
            cases hcb : complB (atts l) o
            · rw [hcb] at co
              simp -implicitDefEqProofs [k4_19, ret0 n23, ro, co, hw, trim_cut, K3_bel, rT_bel]
              exact ih
            · rw [hcb] at co
              simp -implicitDefEqProofs [k4_19, ret0 n23, ro, co]
              have hle := cert.least (compl_iff.1 hcb)
              rw [LL_for (γ := Unit) l () (fun j _ => [(14, .int .i64 j)]) (fun _ _ => [K3, rowG o]) (fun _ _ _ => (.exit 6, [(14, undef)], [K3, rowG o])) (fun _ _ => True) (by omega) trivial]
              · simp -implicitDefEqProofs [k4_25, hw, trim_cut, K3_bel, rT_bel]
                exact ih
              · simp -implicitDefEqProofs [k4_25]
              · rfl
              · intro nx3 j _ hj _
                simp -implicitDefEqProofs [r4_25, k4_25, hj, trim_le]
              · intro nx3 j v3 rest3 _ hj _ _ hwj _ ihj
                have ihj := ihj () trivial
                have hjd : dom (atts l).length (j : Int) := ⟨by omega, by rw [atts_len]; omega⟩
                have l01 := cert.l01 j hjd
                have hLj := rowT_idxN (e := 3) (l := Lb) (i := j) (by omega)
                have hgj : getI Lb (j : Int) = Lb[j]'(by omega) := getI_nat (by omega)
                have hoj : getI o (j : Int) = o[j]'(by omega) := getI_nat (by omega)
                rw [hgj] at l01
                simp -implicitDefEqProofs [k4_25] at ihj
                by_cases q : Lb[j]'(by omega) = 0
                · simp -implicitDefEqProofs [r4_25, k4_25, hj, hwj, hLj, q, trim_le]
                  exact ihj
                · have e := hle _ j hjd (Nat.le_refl _) (by rw [hgj]; exact l01.resolve_left q)
                  rw [hgj, hoj] at e
                  have hj1 : j < o.length := by omega
                  have hdec : decide (Lb[j]'(by omega) = o[j]) = true := decide_eq_true e.symm
                  simp only [rowS_, rowG] at ihj
                  simp -implicitDefEqProofs [r4_25, k4_25, hj, hwj, hLj, q, index_slice, rowS_, hj1, rowG, hdec, trim_le]
                  exact ihj
          · simp -implicitDefEqProofs [k4_19, rowS_]
          · simp -implicitDefEqProofs [rowG]
          · intro nx2 j s hj _
            simp -implicitDefEqProofs [r4_19, k4_19, hj, trim_le, digF, rowS_]
          · intro nx2 j v2 rest2 s hj _ _ hwj ⟨hs1, hs2, hs3⟩ ihj
            have t1 := Int.tmod_nonneg 3 hs2
            have t2 : s.2.tmod 3 < 3 := Int.tmod_lt_of_pos _ (by decide)
            have t3 : 0 ≤ s.2.tdiv 3 ∧ s.2.tdiv 3 ≤ 729 := by rw [Int.tdiv_eq_ediv_of_nonneg hs2]; omega
            have ihj := ihj (digS s) ⟨by simp [digS, hs1], t3.1, t3.2⟩
            have hwd : IntKind.i64.wrap (s.2.tdiv 3) = s.2.tdiv 3 := wrap64 (by omega) (by omega)
            have hbd : (s.1.length + 1) * 8 ≤ 140737488355328 := by omega
            have hv : ∀ h, [Value.int .i64 0, .int .i64 1, .int .i64 2][(s.2.tmod 3).toNat]'h = .int .i64 (s.2.tmod 3) := by
              rcases (by omega : s.2.tmod 3 = 0 ∨ s.2.tmod 3 = 1 ∨ s.2.tmod 3 = 2) with e | e | e <;> rw [e] <;> intro _ <;> rfl
            have hrem : ∀ a, aBin E1.P .rem 3 (.int .i64 a) (.int .i64 3) = some (.int .i64 (a.tmod 3)) := fun _ => rfl
            have hquo : ∀ a, aBin E1.P .quo 3 (.int .i64 a) (.int .i64 3) = some (.int .i64 (IntKind.i64.wrap (a.tdiv 3))) := fun _ => rfl
            simp only [List.length_cons, digF]
            simp -implicitDefEqProofs [k4_19, digS, rowS_, rowG, K3] at ihj
            simp -implicitDefEqProofs [r4_19, k4_19, hj, hwj, hwd, hrem, hquo, hbd, index_slice, t1, t2, hv, digS, build_one', Value.cells, appS_grown, K3, rowS_, rowG, rT_bel, trim_cut, -List.all_eq_true, -List.all_map, map_below]
            exact ihj
      · simp -implicitDefEqProofs [k4_10, pw3]
      · rfl
      · intro nx i _ hi _
        simp -implicitDefEqProofs [r4_10, k4_10, hi, trim_le]
      · intro nx i v rest _ hi _ _ hw _ ih
        have ih := ih () trivial
        have hp : IntKind.i64.wrap (3 * pw3 i) = pw3 (i + 1) := by
          have h1 := @pw3_le i
          have h2 : pw3 i ≤ 729 := pw3_mono (m := 6) (by omega)
          exact wrap64 (by omega) (by omega)
        simp -implicitDefEqProofs [k4_10] at ih
        simp -implicitDefEqProofs [r4_10, k4_10, hi, hw, hp, trim_le]
        exact ih

end Go.Proofs.Ytbadgapficfbpaa.Bm
