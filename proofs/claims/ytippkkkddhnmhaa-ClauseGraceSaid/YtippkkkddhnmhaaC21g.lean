/-
  Chapter 21: the days that may be chosen, as the program finds them. Conditions: lists that are not too long, integers within their kinds.
-/
import Derived.Test.YtippkkkddhnmhaaC21e
import Derived.Test.YtippkkkddhnmhaaC21p
namespace Go.Proofs.Ytippkkkddhnmhaa.Bm
open Go Go.RowKit

def newF (day : Int) (l : List Rule) : List Int := (l.filter (newB day)).map fun r => r.fr - 1
theorem newF_cons (day : Int) (r : Rule) (l : List Rule) : newF day (r :: l) = if newB day r then (r.fr - 1) :: newF day l else newF day l := by
  unfold newF
  cases h : newB day r <;> simp [h]
def daysL (p : Plan) (day : Int) : List Int := (compI (sortI (day :: newF day p.rules))).reverse

theorem m25 : E.mode 25 = 2 := rfl
theorem m26 : E.mode 26 = 2 := rfl
theorem m27 : E.mode 27 = 2 := rfl
theorem comp_pos {S : List Int} (h : S.length ≠ 0) : (compI S).length ≠ 0 := by
  cases S with
  | nil => exact absurd rfl h
  | cons a l => simp [compI, compG]
theorem sort_row (o0 : AObj) (zs : List Int) {n : Nat} (hn : n = zs.length) (h0 : n ≠ 0) (hb : n < 4611686018427387904) :
    L E 25 [.slice (some ⟨1, 0, some n⟩) n n] [o0, .cells 3 (zs.map (.int .i64)) 1] 0 = some (.tuple #[], [o0, .cells 3 ((sortI zs).map (.int .i64)) 1]) := by
  rw [L_orc (g := inG sortI none) rfl]
  have := inG_ints (F := sortI) (N := none) (h := [o0, .cells 3 (zs.map (.int .i64)) 1]) (lo := 0) (b := 1) (k := n) (n := n) (c := n) (g := 0) (t := 3) (zs := zs) (ys := []) (by simp) (Nat.zero_le _) (by simpa using hn) hn h0 hb
  rw [this]; simp [retI]
theorem comp_row (o0 : AObj) (zs : List Int) {n : Nat} (hn : n = zs.length) (h0 : n ≠ 0) (hb : n < 4611686018427387904) :
    L E 26 [.slice (some ⟨1, 0, some n⟩) n n] [o0, .cells 3 (zs.map (.int .i64)) 1] 0 = some (.slice (some ⟨1, 0, some n⟩) (compI zs).length n, [o0, .cells 3 ((compF zs).map (.int .i64)) 1]) := by
  rw [L_orc (g := inG compF (some compN)) rfl]
  have := inG_ints (F := compF) (N := some compN) (h := [o0, .cells 3 (zs.map (.int .i64)) 1]) (lo := 0) (b := 1) (k := n) (n := n) (c := n) (g := 0) (t := 3) (zs := zs) (ys := []) (by simp) (Nat.zero_le _) (by simpa using hn) hn h0 hb
  rw [this]; simp [retI, compN]
theorem rev_row (o0 : AObj) (zs ys : List Int) {n k c : Nat} (hk : k = (zs ++ ys).length) (hn : n = zs.length) (h0 : n ≠ 0) (hb : n < 4611686018427387904) :
    L E 27 [.slice (some ⟨1, 0, some k⟩) n c] [o0, .cells 3 ((zs ++ ys).map (.int .i64)) 1] 0 = some (.tuple #[], [o0, .cells 3 ((zs.reverse ++ ys).map (.int .i64)) 1]) := by
  rw [L_orc (g := inG List.reverse none) rfl]
  have := inG_ints (F := List.reverse) (N := none) (h := [o0, .cells 3 ((zs ++ ys).map (.int .i64)) 1]) (lo := 0) (b := 1) (k := k) (n := n) (c := c) (g := 0) (t := 3) (zs := zs) (ys := ys) rfl (Nat.zero_le _) hk hn h0 hb
  rw [this]; rfl

theorem bel_row {zs : List Int} : (zs.map (Value.int .i64)).all (below 8 2) = true := by simp [List.all_eq_true]

theorem days_spec (x : Bool) (p : Plan) (day : Int) (hp : p.rules.length ≤ 1000000) (hd : day ≤ 9223372036854775807) :
    pureCall E.P (L E) 15 [p.val x, .int .i64 day] = some (lst false ((daysL p day).map (.int .i64))) := by
  rw [pureCall_fn F15 rfl]
  simp -implicitDefEqProofs [r15, padS, Plan.val, Plan.cells, build_one', Value.cells]
  rw [LL_rec (α := Nat × List Int) (0, [day]) (fun a => [(5, .slice (some ⟨1, 0, some a.2.length⟩) a.2.length a.2.length), (13, .int .i64 a.1)]) (fun a => [.cells 30 (p.cells x) 0, .cells 3 (a.2.map (.int .i64)) 1])
    (fun a => let o := a.2 ++ newF day (p.rules.drop a.1)
      (.exit 0, [(5, .slice (some ⟨1, 0, some o.length⟩) o.length o.length), (13, undef)], [.cells 30 (p.cells x) 0, .cells 3 (o.map (.int .i64)) 1]))
    (fun a => a.1 ≤ p.rules.length ∧ a.2.length ≤ a.1 + 1) (fun a => p.rules.length - a.1)]
  · simp -implicitDefEqProofs [k15_3]
    have hnl : (newF day p.rules).length ≤ p.rules.length := by
      unfold newF; rw [List.length_map]; exact List.length_filter_le _ _
    have hda : daysL p day = (compI (sortI (day :: newF day p.rules))).reverse := rfl
    have hSl : (sortI (day :: newF day p.rules)).length = (newF day p.rules).length + 1 := sortI_len _
    have c25 := sort_row (.cells 30 (p.cells x) 0) (day :: newF day p.rules) (n := (newF day p.rules).length + 1) rfl (by omega) (by omega)
    rw [hda]
    generalize newF day p.rules = nw at *
    simp only [List.map_cons] at c25
    generalize sortI (day :: nw) = S at *
    have c26 := comp_row (.cells 30 (p.cells x) 0) S (n := nw.length + 1) hSl.symm (by omega) (by omega)
    have hpos := comp_pos (S := S) (by omega)
    have hle : (compI S).length ≤ S.length := compG_len S none
    have c27 := rev_row (.cells 30 (p.cells x) 0) (compI S) (List.replicate (S.length - (compI S).length) 0) (n := (compI S).length) (k := nw.length + 1) (c := nw.length + 1) (by rw [List.length_append, List.length_replicate]; omega) rfl hpos (by omega)
    have hcF : compF S = compI S ++ List.replicate (S.length - (compI S).length) 0 := rfl
    rw [← hcF] at c27
    generalize compF S = CF at *
    generalize hzz : List.replicate (S.length - (compI S).length) (0 : Int) = zz at *
    have hzl : zz.length = S.length - (compI S).length := by rw [← hzz, List.length_replicate]
    generalize compI S = C at *
    have hC0 : ¬ C = [] := fun e => hpos (by rw [e]; rfl)
    have hk : nw.length + 1 = C.length + zz.length := by omega
    simp -implicitDefEqProofs [ret2 m25, c25, ret2 m26, c26, ret2 m27, c27]
    rw [if_neg hC0, s3, Option.bind_some, if_pos ⟨hk, Nat.one_pos, by omega⟩, Nat.mul_one, List.take_left' (by simp), reifyC_set (by simp [List.all_eq_true]), Option.bind_some, elems_one a3 s3]
    rfl
  · simp
  · simp -implicitDefEqProofs [k15_3]
  · rfl
  · intro nx a ⟨hi, ho⟩ ih
    obtain ⟨i, out⟩ := a
    simp only at hi ho
    simp only [k15_3] at ih
    simp -implicitDefEqProofs [r15_3, k15_3, Plan.cells]
    by_cases h : i < p.rules.length
    · have hdr : p.rules.drop i = p.rules[i] :: p.rules.drop (i + 1) := List.drop_eq_getElem_cons h
      have hw := wrap64 (z := (i : Int) + 1) (by omega) (by omega)
      have hnf := newF_cons day p.rules[i] (p.rules.drop (i + 1))
      rw [← hdr] at hnf
      have ih1 := ih (i + 1, out) (by simp; omega) ⟨by simp; omega, by simp; omega⟩
      have ih2 := ih (i + 1, out ++ [p.rules[i].fr - 1]) (by simp; omega) ⟨by simp; omega, by simp; omega⟩
      simp -implicitDefEqProofs [Plan.cells] at ih1 ih2
      clear ih
      simp -implicitDefEqProofs [h]
      generalize p.rules[i] = r at *
      have hbd : (out.length + 1) * 8 ≤ 140737488355328 := by omega
      by_cases h1 : 1 ≤ r.fr
      · by_cases h2 : r.fr ≤ day
        · have hw2 := wrap64 (z := day - r.fr) (by omega) (by omega)
          have hw3 := wrap64 (z := r.fr - 1) (by omega) (by omega)
          by_cases h3 : day - r.fr < r.gr
          · have hn : newB day r = true := by simp [newB, h1, h2, h3]
            rw [hn] at hnf
            simp -implicitDefEqProofs at hnf
            rw [hnf]
            simp -implicitDefEqProofs [Rule.val, Rule.cells, h1, h2, h3, hw, hw2, hw3, trim_cut, build_one', appS_grown, Value.cells, hbd]
            exact ih2
          · have hn : newB day r = false := by simp [newB, h3]
            rw [hn] at hnf
            simp -implicitDefEqProofs at hnf
            rw [hnf]
            simp -implicitDefEqProofs [Rule.val, Rule.cells, h1, h2, h3, hw, hw2, trim_cut]
            exact ih1
        · have hn : newB day r = false := by simp [newB, h2]
          rw [hn] at hnf
          simp -implicitDefEqProofs at hnf
          rw [hnf]
          simp -implicitDefEqProofs [Rule.val, Rule.cells, h1, h2, hw, trim_cut]
          exact ih1
      · have hn : newB day r = false := by simp [newB, h1]
        rw [hn] at hnf
        simp -implicitDefEqProofs at hnf
        rw [hnf]
        simp -implicitDefEqProofs [Rule.val, Rule.cells, h1, hw, trim_cut]
        exact ih1
    · have hd : p.rules.drop i = [] := List.drop_eq_nil_of_le (by omega)
      simp -implicitDefEqProofs [h, hd, newF, trim_le]

end Go.Proofs.Ytippkkkddhnmhaa.Bm
