/-
  Chapter 36: the case the other way round, as the law makes it. Conditions: the case is right.
-/
import Derived.Test.YtbadgapficfbpaaC36B
import Derived.Test.YtbadgapficfbpaaC36s
namespace Go.Proofs.Ytbadgapficfbpaa.Bm
open Go Go.RowKit

def revC (n : Nat) (c : Claim) : Claim := clm (revA n c.att) (some false)
def revL (l : List Claim) : List Claim := l.reverse.map (revC l.length)
theorem atts_revL (l : List Claim) : atts (revL l) = revM (atts l) := by
  unfold atts revL revM
  rw [List.map_map, List.map_reverse, List.map_reverse, List.map_map, List.length_map]
  rfl
theorem s40 : szOf E.P 40 = some 6 := by kernel_rfl
theorem a40 : aggT E.P 40 = some true := by kernel_rfl
theorem vals_len (l : List Claim) : (l.map Claim.val).all (fun v => (cellsL v).length == 6) = true := by
  simp [List.all_eq_true, Claim.val, Claim.cells]
theorem vals_agg (l : List Claim) : ∀ v ∈ l.map Claim.val, ∃ cs, v = .agg ⟨cs⟩ ∧ cs.length = 6 := by
  intro v hv
  obtain ⟨r, _, rfl⟩ := List.mem_map.1 hv
  exact ⟨r.cells, rfl, rfl⟩
theorem vals_flat (l : List Claim) : ((l.map Claim.val).flatMap cellsL).length = l.length * 6 := by
  rw [flat_len' (vals_len l), List.length_map]
theorem vals_set (l : List Claim) : ((l.map Claim.val).flatMap cellsL).all (settled 8) = true := by
  induction l with
  | nil => rfl
  | cons r l ih =>
    rw [List.map_cons, List.flatMap_cons, List.all_append, ih]
    obtain ⟨a, b, k, at_, d, e, f⟩ := r
    cases k <;> rfl
/-- A row of claims. -/
def rowP (l : List Claim) : AObj := .cells 40 ((l.map Claim.val).flatMap cellsL) 6
theorem vals_bel {n : Nat} (l : List Claim) : belowO n (rowP l) = true := by
  show ((l.map Claim.val).flatMap cellsL).all (below 8 n) = true
  induction l with
  | nil => rfl
  | cons r l ih =>
    rw [List.map_cons, List.flatMap_cons, List.all_append, ih]
    obtain ⟨a, b, k, at_, d, e, f⟩ := r
    cases k <;> rfl
theorem elems_vals (l : List Claim) : elemsOf E.P 40 l.length ((l.map Claim.val).flatMap cellsL) = some (l.map Claim.val) := by
  unfold elemsOf
  rw [a40, s40]
  have := chunk_flat (vals_agg l)
  rw [List.length_map] at this
  show some (chunk 6 l.length _) = _
  rw [this]
theorem row_vals {h : Heap} {b : Nat} {l : List Claim} (hob : h[b]? = some (rowP l)) : reify E.P 8 h (.slice (some ⟨b, 0, some (l.length * 6)⟩) l.length l.length) = some (lst false (l.map Claim.val)) := by
  rw [reify_slice]
  by_cases h0 : l.length = 0
  · have : l = [] := List.eq_nil_of_length_eq_zero h0
    subst this; rfl
  · rw [if_neg h0, hob]
    show reifyS E.P 7 h (some (.cells 40 ((l.map Claim.val).flatMap cellsL) 6)) _ _ = _
    rw [reifyS_cells, s40, Option.bind_some, if_pos ⟨by unfold stampOk; rw [vals_flat]; simp, by decide, by rw [vals_flat]; simp⟩]
    have e : (((l.map Claim.val).flatMap cellsL).drop 0).take (l.length * 6) = (l.map Claim.val).flatMap cellsL := by rw [List.drop_zero, List.take_of_length_le (by rw [vals_flat]; exact Nat.le_refl _)]
    rw [e, reifyC_set (vals_set l), Option.bind_some, elems_vals]; rfl

theorem bL (b : Bool) (l : List Value) : buildT (Bl.fs ⟨zC⟩ ⟨[(0, 1), (1, 1), (2, 1), (3, 1), (4, 1), (5, 1)]⟩) #[(2, lst b l)] = some (.agg ⟨cC (lst b l)⟩) := rfl
theorem lL (h : Heap) (b : Bool) (l : List Value) : buildSliceT (some elC) false h 1 #[(0, .agg ⟨cC (lst b l)⟩)] = some (lst true [.agg ⟨cC (lst b l)⟩], h) :=
  (build_lit' (n := 1) (l := [(0, .agg ⟨cC (lst b l)⟩)]) rfl rfl (by decide) (by decide) (by decide)).trans rfl
theorem app_claim {h : Heap} {b lo : Nat} {acc : List Claim} {y : Bool} (c : Claim) (hob : h[b]? = some (rowP acc)) (hlo : lo ≤ b) (hb : acc.length ≤ 1000) :
    appendT (some elC) h lo false (.slice (some ⟨b, 0, some (acc.length * 6)⟩) acc.length acc.length) (lst y [c.val]) = some (.slice (some ⟨b, 0, some ((acc.length + 1) * 6)⟩) (acc.length + 1) (acc.length + 1), h.set b (rowP (acc ++ [c]))) := by
  have hob' : h[b]? = some (.cells 40 ((acc.map Claim.val).flatMap cellsL) (5 + 1)) := hob
  rw [append_slice, cells_lst (s := elC.size) (by simp [elC, Claim.val, Claim.cells])]
  show appS elC h lo false _ _ _ h[b]? _ = _
  rw [hob']
  have key := appS_grown (el := elC) (h := h) (lo := lo) (b := b) (k := acc.length * 6) (n := acc.length) (c := acc.length) (g := 5) (m := 1) (t := 40) (row := (acc.map Claim.val).flatMap cellsL) (new := c.cells) (by decide) (vals_flat acc).symm rfl rfl (vals_flat acc).symm hlo (by show (acc.length + 1) * 72 ≤ 2 ^ 47; omega)
  have e1 : [c.val].flatMap cellsL = c.cells := by simp [Claim.val]
  rw [e1]
  refine key.trans ?_
  have e2 : ((acc ++ [c]).map Claim.val).flatMap cellsL = (acc.map Claim.val).flatMap cellsL ++ c.cells := by
    rw [List.map_append, List.flatMap_append]; simp [Claim.val]
  have e3 : ((acc.map Claim.val).flatMap cellsL ++ c.cells).length = (acc.length + 1) * 6 := by
    rw [List.length_append, vals_flat]; simp [Claim.cells]; omega
  unfold rowP
  rw [e2, e3]
theorem rowI_sub {n k : Nat} (h : k < n) (hn : n ≤ 1000) : IntKind.i64.wrap ((n : Int) - 1) = (n : Int) - 1 ∧ IntKind.i64.wrap ((n : Int) - 1 - k) = (n : Int) - 1 - k :=
  ⟨wrap64 (by omega) (by omega), wrap64 (by omega) (by omega)⟩

set_option maxRecDepth 20000 in
theorem reversed_spec (x : Bool) (l : List Claim) (hc : CaseOk l) (hr : rightB (atts l) = true) : pureCall E.P (L E) 26 [lst x (l.map Claim.val)] = some (lst false ((revL l).map Claim.val)) := by
  obtain ⟨hat, hn⟩ := right_iff.1 hr
  rw [atts_len] at hn hat
  have hl8 : ∀ a ∈ atts l, a.length ≤ 300 := fun a ha => ((right_at hr).2 a ha).2
  rw [pureCall_fn F26 rfl]
  simp -implicitDefEqProofs [r26, p26, prep_new, newK_nil s40]
  rw [LL_for (γ := List Claim) l.reverse [] (fun i acc => [(3, .slice (some ⟨0, 0, some (acc.length * 6)⟩) acc.length acc.length), (5, .int .i64 i)]) (fun _ acc => [rowP acc])
    (fun i rest acc => (.exit 0, [(3, .slice (some ⟨0, 0, some ((acc ++ rest.map (revC l.length)).length * 6)⟩) (acc ++ rest.map (revC l.length)).length (acc ++ rest.map (revC l.length)).length), (5, undef)], [rowP (acc ++ rest.map (revC l.length))])) (fun i acc => acc.length = i) (by simp; omega) rfl]
  · rw [List.nil_append]
    have e : l.reverse.map (revC l.length) = revL l := rfl
    rw [e]
    have rv := row_vals (h := [rowP (revL l)]) (b := 0) (l := revL l) rfl
    simp -implicitDefEqProofs [k26_4, -reify_slice, rv]
  · simp -implicitDefEqProofs [k26_4]
  · rfl
  · intro nx i acc hi hacc
    rw [List.length_reverse] at hi
    simp -implicitDefEqProofs [r26_4, k26_4, hi, trim_le]
  · intro nx i v rest acc hi hv hd hw hacc ih
    rw [List.length_reverse] at hi
    have hz1 := (rowI_sub (k := i) hi (by omega)).1
    have hz2 := (rowI_sub (k := i) hi (by omega)).2
    have hp0 : 0 ≤ (l.length : Int) - 1 - i := by omega
    have hp1 : ((l.length : Int) - 1 - i).toNat < l.length := by omega
    have hci := case_idx (x := x) (l := l) (z := (l.length : Int) - 1 - i) hp0 hp1
    have hvl : l[((l.length : Int) - 1 - i).toNat] = v := by
      rw [← hv, List.getElem_reverse]
      congr 1
      omega
    rw [hvl] at hci
    have hvm : v ∈ l := hvl ▸ List.getElem_mem hp1
    obtain ⟨hk, ha⟩ := hc v hvm
    have hva : v.att ∈ atts l := List.mem_map.2 ⟨v, hvm, rfl⟩
    have hv1 := (hat _ hva).2
    have hv2 := hl8 _ hva
    have hlv := fun h => il_len (h := h) hk
    have ih := ih (acc ++ [revC l.length v]) (by simp [hacc])
    rw [List.map_cons]
    rw [List.append_assoc] at ih
    simp -implicitDefEqProofs [k26_4] at ih
    simp -implicitDefEqProofs [r26_4, k26_4, hi, prep_new, newK_nil s3]
    rw [LL_for (γ := List Int) v.att.reverse [] (fun j a => [(6, rowS_ 1 a), (7, .int .i64 j), (8, undef)]) (fun _ a => [rowP acc, rowG a]) (fun _ rest a => (.exit 2, [(6, rowS_ 1 (a ++ rest.map fun k => (l.length : Int) - 1 - k)), (7, undef), (8, undef)], [rowP acc, rowG (a ++ rest.map fun k => (l.length : Int) - 1 - k)])) (fun j a => a.length = j) (by simp; omega) rfl]
    · rw [List.nil_append]
      have e : v.att.reverse.map (fun k => (l.length : Int) - 1 - k) = revA l.length v.att := rfl
      rw [e]
      obtain ⟨o1, ho1, fz⟩ := frz_int (h := [rowP acc, rowG (revA l.length v.att)]) (b := 1) (W := revA l.length v.att) rfl
      have ap := app_claim (h := [rowP acc, o1]) (b := 0) (lo := 0) (acc := acc) (y := true) (revC l.length v) rfl (Nat.le_refl 0) (by omega)
      have hval : (revC l.length v).val = .agg ⟨cC (rowT (revA l.length v.att))⟩ := rfl
      rw [hval] at ap
      have b1 := fun l => bL false l
      have b2 := fun h l => lL h false l
      rw [show lst false ((revA l.length v.att).map (Value.int .i64)) = rowT (revA l.length v.att) from rfl] at fz
      have b1 : _ = _ := b1 ((revA l.length v.att).map (Value.int .i64))
      have b2 := fun h => b2 h ((revA l.length v.att).map (Value.int .i64))
      rw [show lst false ((revA l.length v.att).map (Value.int .i64)) = rowT (revA l.length v.att) from rfl] at b1 b2
      simp only [elC, cC, zC] at ap b1 b2
      simp -implicitDefEqProofs at fz ap
      simp -implicitDefEqProofs [k26_8, rowS_, prep_frz, fz, b1, b2, ap, hw, trim_cut, vals_bel]
      exact ih
    · simp -implicitDefEqProofs [k26_8, rowS_]
    · simp -implicitDefEqProofs [rowG]
    · intro nx2 j a hj ha
      rw [List.length_reverse] at hj
      simp -implicitDefEqProofs [r26_8, k26_8, hz1, hz2, hci, Claim.val, Claim.cells, hlv, hj, trim_le, rowS_]
    · intro nx2 j u rest2 a hj hu hd2 hw2 ha2 ih2
      rw [List.length_reverse] at hj
      have hy1 := (rowI_sub (k := j) hj (by omega)).1
      have hy2 := (rowI_sub (k := j) hj (by omega)).2
      have hq0 : 0 ≤ (v.att.length : Int) - 1 - j := by omega
      have hq1 : ((v.att.length : Int) - 1 - j).toNat < v.att.length := by omega
      have hxi := il_idx (e := 3) (z := (v.att.length : Int) - 1 - j) hk hq0 hq1
      have hgu : getI v.att ((v.att.length : Int) - 1 - j) = u := by
        rw [← getI_eq hq1, ← hu, List.getElem_reverse]
        congr 1
        omega
      rw [hgu] at hxi
      have hum : u ∈ v.att := List.mem_reverse.1 (hu ▸ List.getElem_mem (by rw [List.length_reverse]; exact hj))
      have hub := hv1 u hum
      have hwu : IntKind.i64.wrap ((l.length : Int) - 1 - u) = (l.length : Int) - 1 - u := wrap64 (by omega) (by omega)
      have hbd : (a.length + 1) * 8 ≤ 140737488355328 := by omega
      have ih2 := ih2 (a ++ [(l.length : Int) - 1 - u]) (by simp [ha2])
      rw [List.append_assoc] at ih2
      rw [List.map_cons]
      simp -implicitDefEqProofs [k26_8, rowS_, rowG] at ih2
      simp -implicitDefEqProofs [r26_8, k26_8, hz1, hz2, hci, Claim.val, Claim.cells, hlv, hj, hw2, hy1, hy2, hxi, hwu, il_fits, build_one', Value.cells, appS_grown, hbd, rowS_, rowG, trim_cut, vals_bel, -List.all_eq_true, -List.all_map, map_below]
      exact ih2

end Go.Proofs.Ytbadgapficfbpaa.Bm
