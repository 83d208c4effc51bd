/-
  Chapter 36: certificates, and sets that defend. Conditions: lists that are not too long.
-/
import Derived.Test.YtbadgapficfbpaaC36g
namespace Go.Proofs.Ytbadgapficfbpaa.Bm
open Go Go.RowKit

/-! ### Check -/

structure Chk where
  a : Bool
  b : Bool
  c : Bool
  d : Bool
def chkS (L R : List Int) (i : Int) (s : Chk) (k : Int) : Chk :=
  ⟨s.a || decide (getI L k = 1), s.b || decide (getI L k = 0), s.c || (decide (getI L k = 1) && decide (1 ≤ getI R k) && decide (getI R k < getI R i)), s.d && decide (getI L k = 2) && decide (getI R k < getI R i)⟩
def chkAt (L R : List Int) (i : Int) (g : List Int) : Bool :=
  let s := g.foldl (chkS L R i) ⟨false, false, false, true⟩
  if getI L i = 1 then decide (1 ≤ getI R i) && s.d else if getI L i = 2 then s.c else if getI L i = 0 then decide (getI R i = 0) && !s.a && s.b else false
def chkG (L R : List Int) : List (List Int) → Nat → Bool
  | [], _ => true
  | g :: G, i => chkAt L R (i : Int) g && chkG L R G (i + 1)
def checkF (A : List (List Int)) (L R : List Int) : Int :=
  if rightB A then if L.length = A.length ∧ R.length = A.length then if chkG L R (graphF A) 0 then 0 else 19 else 19 else 1

set_option maxRecDepth 20000 in
set_option maxHeartbeats 8000000 in
theorem check_spec (x : Bool) (l : List Claim) (k1 k2 : Option Bool) (Lb Rk : List Int) (hc : CaseOk l) (hl : l.length ≤ maxLen) (h1 : IOk k1 Lb) (h2 : IOk k2 Rk) :
    pureCall E.P (L E) 15 [lst x (l.map Claim.val), ilist k1 Lb, ilist k2 Rk] = some (.int .i64 (checkF (atts l) Lb Rk)) := by
  have rs := right_spec x l hc hl
  unfold checkF
  rw [pureCall_fn F15 rfl, atts_len]
  cases hr : rightB (atts l)
  · rw [hr] at rs
    simp -implicitDefEqProofs [r15, p15, ret0 m13, rs]
  · rw [hr] at rs
    by_cases q1 : Lb.length = l.length
    · by_cases q2 : Rk.length = l.length
      · have gs := graph_spec x l hc hr
        obtain ⟨hn, _⟩ := right_at hr
        have hgi := graphF_in (atts l)
        have hgb := graphF_bound hr
        have hG : (graphF (atts l)).length = l.length := by rw [graphF_len, atts_len]
        rw [atts_len] at hgi hn
        generalize graphF (atts l) = G at *
        simp -implicitDefEqProofs [r15, p15, ret0 m13, rs, il_len h1, il_len h2, q1, q2, ret1s m27, gs]
        rw [LL_for (γ := Unit) G () (fun i _ => [(34, .int .i64 i)]) (fun _ _ => []) (fun i rest _ => if chkG Lb Rk rest i then (.exit 0, [(34, undef)], []) else (.ret, [(6, .int .i64 19), (34, undef)], [])) (fun _ _ => True) (by omega) trivial]
        · cases h : chkG Lb Rk G 0 <;> simp -implicitDefEqProofs [k15_6]
        · simp -implicitDefEqProofs [k15_6]
        · rfl
        · intro nx i _ hi _
          simp -implicitDefEqProofs [r15_6, k15_6, hi, chkG, trim_le]
        · intro nx i g rest _ hi hv hd hw _ ih
          have ih := ih () trivial
          have hgm : g ∈ G := hv ▸ List.getElem_mem hi
          have hgi := hgi g hgm
          have hgb := hgb g hgm
          have hiL : i < Lb.length := by omega
          have hiR : i < Rk.length := by omega
          have xL := il_idxN (e := 3) h1 hiL
          have xR := il_idxN (e := 3) h2 hiR
          have gL := getI_nat hiL
          have gR := getI_nat hiR
          rw [← gL] at xL
          rw [← gR] at xR
          have hm : chkG Lb Rk (g :: rest) i = (chkAt Lb Rk (i : Int) g && chkG Lb Rk rest (i + 1)) := rfl
          simp -implicitDefEqProofs [k15_6] at ih
          rw [hm]
          simp -implicitDefEqProofs [r15_6, k15_6, hi, hv, rowT]
          rw [LL_for (γ := Chk) g ⟨false, false, false, true⟩ (fun j s => [(9, .bool s.a), (10, .bool s.b), (11, .bool s.c), (12, .bool s.d), (41, .int .i64 j)]) (fun _ _ => [])
            (fun _ rest s => let o := rest.foldl (chkS Lb Rk (i : Int)) s; (.exit 2, [(9, .bool o.a), (10, .bool o.b), (11, .bool o.c), (12, .bool o.d), (41, undef)], [])) (fun _ _ => True) (by omega) trivial]
          · unfold chkAt
            generalize g.foldl (chkS Lb Rk (i : Int)) ⟨false, false, false, true⟩ = o at *
            obtain ⟨a, b, c, d⟩ := o
            by_cases z1 : getI Lb (i : Int) = 1
            · by_cases z2 : 1 ≤ getI Rk (i : Int)
              · cases d <;> simp -implicitDefEqProofs [k15_11, xL, xR, z1, z2, hw, trim_le] <;> exact ih
              · simp -implicitDefEqProofs [k15_11, xL, xR, z1, z2, trim_le]
            · by_cases z2 : getI Lb (i : Int) = 2
              · cases c <;> simp -implicitDefEqProofs [k15_11, xL, z2, hw, trim_le] <;> exact ih
              · by_cases z3 : getI Lb (i : Int) = 0
                · by_cases z4 : getI Rk (i : Int) = 0
                  · cases a <;> cases b <;> simp -implicitDefEqProofs [k15_11, xL, xR, z3, z4, hw, trim_le] <;> exact ih
                  · simp -implicitDefEqProofs [k15_11, xL, xR, z3, z4, trim_le]
                · simp -implicitDefEqProofs [k15_11, xL, z1, z2, z3, trim_le]
          · simp -implicitDefEqProofs [k15_11]
          · rfl
          · intro nx2 j s hj _
            simp -implicitDefEqProofs [r15_11, k15_11, hj, trim_le]
          · intro nx2 j v rest2 s hj hvj hdj hwj _ ihj
            obtain ⟨u1, u2⟩ := hgi v (hvj ▸ List.getElem_mem hj)
            have yL := il_idx (e := 3) h1 u1 (by omega : v.toNat < Lb.length)
            have yR := il_idx (e := 3) h2 u1 (by omega : v.toNat < Rk.length)
            have ihj := ihj (chkS Lb Rk (i : Int) s v) trivial
            simp only [List.foldl_cons]
            obtain ⟨a, b, c, d⟩ := s
            unfold chkS at ihj ⊢
            generalize getI Lb v = lv at *
            generalize getI Rk v = rv at *
            generalize getI Rk (i : Int) = ri at *
            have n1 : (1 : Int) ≠ 0 := by decide
            have n2 : (1 : Int) ≠ 2 := by decide
            by_cases z1 : lv = 1
            · subst z1
              by_cases z2 : 1 ≤ rv
              · by_cases z3 : rv < ri
                · cases a <;> cases b <;> cases c <;> cases d <;> simp -implicitDefEqProofs [k15_11, z2, z3] at ihj <;> simp -implicitDefEqProofs [r15_11, k15_11, hj, hvj, yL, yR, xR, z2, z3, hwj, trim_le] <;> exact ihj
                · cases a <;> cases b <;> cases c <;> cases d <;> simp -implicitDefEqProofs [k15_11, z2, z3] at ihj <;> simp -implicitDefEqProofs [r15_11, k15_11, hj, hvj, yL, yR, xR, z2, z3, hwj, trim_le] <;> exact ihj
              · cases a <;> cases b <;> cases c <;> cases d <;> simp -implicitDefEqProofs [k15_11, z2] at ihj <;> simp -implicitDefEqProofs [r15_11, k15_11, hj, hvj, yL, yR, z2, hwj, trim_le] <;> exact ihj
            · by_cases z2 : lv = 2
              · subst z2
                by_cases z3 : rv < ri
                · cases a <;> cases b <;> cases c <;> cases d <;> simp -implicitDefEqProofs [k15_11, z3] at ihj <;> simp -implicitDefEqProofs [r15_11, k15_11, hj, hvj, yL, yR, xR, z3, hwj, trim_le] <;> exact ihj
                · cases a <;> cases b <;> cases c <;> cases d <;> simp -implicitDefEqProofs [k15_11, z3] at ihj <;> simp -implicitDefEqProofs [r15_11, k15_11, hj, hvj, yL, yR, xR, z3, hwj, trim_le] <;> exact ihj
              · by_cases z3 : lv = 0
                · subst z3
                  cases a <;> cases b <;> cases c <;> cases d <;> simp -implicitDefEqProofs [k15_11] at ihj <;> simp -implicitDefEqProofs [r15_11, k15_11, hj, hvj, yL, hwj, trim_le] <;> exact ihj
                · cases a <;> cases b <;> cases c <;> cases d <;> simp -implicitDefEqProofs [k15_11, z1, z2, z3] at ihj <;> simp -implicitDefEqProofs [r15_11, k15_11, hj, hvj, yL, z1, z2, z3, hwj, trim_le] <;> exact ihj
      · have q2' : ¬ ((Rk.length : Int) = l.length) := by omega
        simp -implicitDefEqProofs [r15, p15, ret0 m13, rs, il_len h1, il_len h2, q1, q2', q2]
    · have q1' : ¬ ((Lb.length : Int) = l.length) := by omega
      simp -implicitDefEqProofs [r15, p15, ret0 m13, rs, il_len h1, q1', q1]

end Go.Proofs.Ytbadgapficfbpaa.Bm
