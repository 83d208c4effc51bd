/-
  Chapter 18: maps by the reference, and the statement that compares with it, walked. Conditions: a plan that fits in memory.
-/
import Derived.Test.YtimjfondgdhfcaaQD26
namespace Go.Proofs.Ytimjfondgdhfcaa.Bm
open Go Go.RowKit
open Rg (Rect Pt Zn rightP polyL comA comP ovR ovF)
theorem bel_skip {d n : Nat} : below (d + 1) n skipV = true := rfl
def zc (z : Zn) : List Rect := if z.ov then [] else cellsZ z
theorem hd_0 {r : Rect} {l : List Rect} {b : Nat} : indexAddrT (.sl 55 ⟨some true, some 4⟩) (rectR.sl b (r :: l)) (.int .i64 0) = some (rectR.at_ b (r :: l) 0 0) := Rec.index_row (R := rectR) rfl (Nat.zero_lt_succ _)
theorem hd_x {r : Rect} {l : List Rect} {b : Nat} {h : Heap} (hob : h[b]? = some (rectR.row 55 (r :: l))) : loadT ⟨some false, some 1⟩ h (rectR.at_ b (r :: l) 0 0) = some (.int .i64 r.x0) := Rec.load_cell (R := rectR) (j := 0) hob (Nat.zero_lt_succ _) (by decide)
theorem hd_y {r : Rect} {l : List Rect} {b : Nat} {h : Heap} (hob : h[b]? = some (rectR.row 55 (r :: l))) : loadT ⟨some false, some 1⟩ h (rectR.at_ b (r :: l) 0 1) = some (.int .i64 r.y0) := Rec.load_cell (R := rectR) (j := 1) hob (Nat.zero_lt_succ _) (by decide)
set_option maxHeartbeats 4000000 in
theorem roverlap_spec (p : Pl) (hp : PlOk p) : pureCall E.P (L E) 11 [p.val] = some (.tuple ⟨ovT (ovF 0 (allL p.zs))⟩) := by
  have lz : ∀ h, lenT .sl h p.zv = some (.int .i64 p.zs.length) := fun h => Rec.tree_len
  have iz : ∀ (j : Nat) (hj : j < p.zs.length), indexAddrT (.sl 49 ⟨some true, some 3⟩) p.zv (.int .i64 (j : Int)) = some (cptr ((znR p.y).val p.zs[j])) := fun j hj => Rec.index_tree rfl hj
  have blz : ∀ d n, below (d + 1) n p.zv = true := fun d n => rfl
  have op0 := @op_bel
  have hl6 := hp.len
  have hcz := hp.cor
  rw [pureCall_fn F11 rfl]
  unfold Pl.val Pl.cells
  generalize p.zv = ZV at *
  simp -implicitDefEqProofs [r11, p11]
  rw [LL_for (γ := Unit) p.zs () (fun i _ => [(5, .int .i64 i)]) (fun i _ => [plO p ZV, ptO (0, 0)])
    (fun i rest _ => match ovF i (allL rest) with
      | none => (.exit 0, [(5, undef)], [plO p ZV, ptO (0, 0)])
      | some (a, b, q) => (.ret, [(2, lst true [.int .i64 (a : Int), .int .i64 (b : Int)]), (4, .bool true), (5, undef)], [plO p ZV, ptO q])) (fun i _ => True) (by omega) trivial]
  · cases hov : ovF 0 (allL p.zs) with
    | none => simp -implicitDefEqProofs [k11_2, plO, ptO, ovT, b2_none]
    | some abq =>
      obtain ⟨a, b, q⟩ := abq
      simp -implicitDefEqProofs [k11_2, plO, ptO, ovT]
  · simp -implicitDefEqProofs [k11_2]
  · rfl
  · intro nx i c hi _
    have e1 : ∀ i, ovF i (allL []) = none := fun i => rfl
    simp -implicitDefEqProofs [r11_2, k11_2, hi, lz, trim_le, e1, plO, ptO]
  · intro nx i z rest _ hi hv hd hw _ ih
    have hi' : (i : Int) < (p.zs.length : Int) := by omega
    have ih := ih () trivial
    have xi := iz i hi
    rw [hv] at xi
    have czl := hcz z (hv ▸ List.getElem_mem hi)
    have rcz := rcells_spec p.y z czl
    have sz : settled depth ((znR p.y).val z) = true := rfl
    rw [zn_val] at xi rcz sz
    have wi : IntKind.i64.wrap ((i : Int) + 1) = ((i + 1 : Nat) : Int) := (wrap64 (by omega) (by omega)).trans (by omega)
    have ee : ovF i (allL (z :: rest)) = match ovR (zc z) (i + 1) (allL rest) with
      | some (k, p) => some (i, k, p)
      | none => ovF (i + 1) (allL rest) := rfl
    have hrl : rest.length = p.zs.length - (i + 1) := by
      have := congrArg List.length hd
      rw [List.length_drop, List.length_cons] at this; omega
    have hrg : ∀ (j : Nat) (h : j < rest.length), ∃ h' : i + 1 + j < p.zs.length, rest[j] = p.zs[i + 1 + j] := fun j h => by
      have h' : i + 1 + j < p.zs.length := by omega
      refine ⟨h', ?_⟩
      have e2 : (p.zs.drop i)[j + 1]? = rest[j]? := by rw [hd]; rfl
      rw [List.getElem?_drop, show i + (j + 1) = i + 1 + j by omega, List.getElem?_eq_getElem h', List.getElem?_eq_getElem h] at e2
      exact (Option.some.inj e2).symm
    rw [ee]
    simp -implicitDefEqProofs [k11_2, plO, ptO, -Int.natCast_add] at ih
    simp -implicitDefEqProofs [r11_2, k11_2, hi, hi', lz, wi, plO, ptO, -Int.natCast_add]
    rw [LL_for (γ := Unit) rest () (fun j _ => [(6, .int .i64 ((i + 1 + j : Nat) : Int))]) (fun _ _ => [plO p ZV, ptO (0, 0)])
      (fun j rest2 _ => match ovR (zc z) (i + 1 + j) (allL rest2) with
        | none => (.exit 2, [(6, undef)], [plO p ZV, ptO (0, 0)])
        | some (b, q) => (.ret, [(2, lst true [.int .i64 (i : Int), .int .i64 (b : Int)]), (4, .bool true), (6, undef)], [plO p ZV, ptO q])) (fun _ _ => True) (by omega) trivial]
    · rw [Nat.add_zero]
      cases hov : ovR (zc z) (i + 1) (allL rest) with
      | none =>
        simp -implicitDefEqProofs [k11_5, plO, ptO, wi, trim_le, -Int.natCast_add]
        exact ih
      | some bq =>
        obtain ⟨b, q⟩ := bq
        simp -implicitDefEqProofs [k11_5, plO, ptO, trim_le, -Int.natCast_add]
    · simp -implicitDefEqProofs [k11_5, -Int.natCast_add]
    · rfl
    · intro nx2 j _ hj _
      have hjn : ¬ (((i + 1 + j : Nat) : Int) < (p.zs.length : Int)) := by omega
      have hjn' : ¬ (i + 1 + j < p.zs.length) := by omega
      have e1 : ovR (zc z) (i + 1 + j) (allL []) = none := rfl
      simp -implicitDefEqProofs [r11_5, k11_5, lz, hjn, hjn', trim_le, e1, plO, ptO, -Int.natCast_add]
    · intro nx2 j w rest2 _ hj hv2 hd2 hw2 _ ih2
      obtain ⟨hjn, ew⟩ := hrg j hj
      rw [hv2] at ew
      have hjn' : ((i + 1 + j : Nat) : Int) < (p.zs.length : Int) := by omega
      have ih2 := ih2 () trivial
      have wk : IntKind.i64.wrap (((i + 1 + j : Nat) : Int) + 1) = ((i + 1 + (j + 1) : Nat) : Int) := (wrap64 (by omega) (by omega)).trans (by omega)
      have xw := iz (i + 1 + j) hjn
      have cwl := hcz (p.zs[i + 1 + j]) (List.getElem_mem _)
      rw [← ew] at xw cwl
      have rcw := rcells_spec p.y w cwl
      have sw : settled depth ((znR p.y).val w) = true := rfl
      rw [zn_val] at xw rcw sw
      have fp := fun h => form_pair z w h 0 (Nat.zero_le _)
      have e3 : ovR (zc z) (i + 1 + j) (allL (w :: rest2)) = if 0 < comA (zc z) (zc w) then some (i + 1 + j, comP (zc z) (zc w) (1048576, 0)) else ovR (zc z) (i + 1 + j + 1) (allL rest2) := rfl
      rw [e3]
      rw [show i + 1 + (j + 1) = i + 1 + j + 1 by omega] at ih2 wk
      simp -implicitDefEqProofs [k11_5, plO, ptO, -Int.natCast_add] at ih2
      by_cases hzo : z.ov = true
      · have e0 : zc z = [] := by unfold zc; rw [hzo]; rfl
        rw [e0] at ih2 ⊢
        rw [if_neg (show ¬ 0 < comA [] (zc w) by show ¬ (0 : Int) < 0; decide)]
        rw [hzo] at xi
        simp -implicitDefEqProofs [r11_5, k11_5, lz, hi, hi', hjn, hjn', xi, wk, plO, ptO, trim_le, -Int.natCast_add]
        exact ih2
      have hzf : z.ov = false := by simpa using hzo
      by_cases hwo : w.ov = true
      · have e0 : zc w = [] := by unfold zc; rw [hwo]; rfl
        rw [e0, Rg.comA_nil_r, if_neg (by decide)]
        rw [hzf] at xi
        rw [hwo] at xw
        simp -implicitDefEqProofs [r11_5, k11_5, lz, hi, hi', hjn, hjn', xi, xw, wk, plO, ptO, trim_le, -Int.natCast_add]
        exact ih2
      have hwf : w.ov = false := by simpa using hwo
      have e0 : zc z = cellsZ z := by unfold zc; rw [hzf]; rfl
      have e1 : zc w = cellsZ w := by unfold zc; rw [hwf]; rfl
      rw [e0] at ih2 ⊢
      rw [e1]
      rw [hzf] at xi rcz sz
      rw [hwf] at xw rcw sw
      rcases form_head (cellsZ_reg z) (cellsZ_reg w) with ⟨hF, hc⟩ | ⟨r, l, hF, hc, hcor⟩
      · rw [hF] at fp
        rw [if_neg hc]
        simp -implicitDefEqProofs [r11_5, k11_5, lz, hi, hi', hjn, hjn', xi, xw, ret1 m23, sz, sw, rcz, rcw, fp, Rec.sl_len, wk, plO, ptO, trim_cut, op0, blz, bel_skip, -Int.natCast_add]
        exact ih2
      · rw [hF] at fp
        rw [if_pos hc, ← hcor]
        have ll1 : (0 : Int) < (l.length : Int) + 1 := by omega
        have hfld : ∀ k f, fieldAddrT k (some (f, ⟨some false, some 1⟩)) (rectR.at_ 2 (r :: l) 0 0) = some (rectR.at_ 2 (r :: l) 0 f) := fun k f => Rec.field_row
        have hx := fun h (hob : h[2]? = some (rectR.row 55 (r :: l))) => hd_x hob
        have hy := fun h (hob : h[2]? = some (rectR.row 55 (r :: l))) => hd_y hob
        have h0 := hd_0 (r := r) (l := l) (b := 2)
        simp -implicitDefEqProofs [r11_5, k11_5, lz, hi, hi', hjn, hjn', xi, xw, ret1 m23, sz, sw, rcz, rcw, fp, Rec.sl_len, ll1, h0, hfld, hx, hy, b2_all, lit_ints2, plO, ptO, trim_cut, op0, blz, bel_skip, -Int.natCast_add]
end Go.Proofs.Ytimjfondgdhfcaa.Bm
namespace Go.Proofs.Ytimjfondgdhfcaa.Bm
open Go Go.RowKit
open Rg (Rect Pt Zn rightP polyL comA comP ovR ovF bestW namesF)
set_option maxHeartbeats 4000000 in
theorem rmap_spec (p : Pl) (hp : PlOk p) : pureCall E.P (L E) 13 [p.val] = some (.int .i64 (mapI p.zs)) := by
  have lz : ∀ h, lenT .sl h p.zv = some (.int .i64 p.zs.length) := fun h => Rec.tree_len
  have iz : ∀ (j : Nat) (hj : j < p.zs.length), indexAddrT (.sl 49 ⟨some true, some 3⟩) p.zv (.int .i64 (j : Int)) = some (cptr ((znR p.y).val p.zs[j])) := fun j hj => Rec.index_tree rfl hj
  have blz : ∀ d n, below (d + 1) n p.zv = true := fun d n => rfl
  have op0 := @op_bel
  have hl6 := hp.len
  have hcz := hp.cor
  have ov := roverlap_spec p hp
  have sp := p.set
  rw [pureCall_fn F13 rfl]
  unfold Pl.val Pl.cells at *
  generalize p.zv = ZV at *
  unfold mapI
  simp -implicitDefEqProofs [r13, p13]
  rw [LL_for (γ := Unit) p.zs () (fun i _ => [(3, .int .i64 i)]) (fun i _ => [plO p ZV])
    (fun i rest _ => if anyZ rest then (.ret, [(2, .int .i64 10), (3, undef)], [plO p ZV]) else (.exit 0, [(3, undef)], [plO p ZV])) (fun i _ => True) (by omega) trivial]
  · cases hb : anyZ p.zs
    · simp -implicitDefEqProofs [k13_2, plO, hb]
      rw [LL_for (γ := Unit) p.zs () (fun i _ => [(6, .int .i64 i)]) (fun i _ => [plO p ZV])
        (fun i rest _ => if dupZ ((p.zs.take i).map (·.nm)) rest then (.ret, [(2, .int .i64 5), (6, undef)], [plO p ZV]) else (.exit 2, [(6, undef)], [plO p ZV])) (fun i _ => True) (by omega) trivial]
      · rw [List.take_zero, List.map_nil]
        cases hd : dupZ [] p.zs
        · cases ho : ovF 0 (allL p.zs) with
          | none =>
            rw [ho] at ov
            unfold ovT at ov
            simp -implicitDefEqProofs [k13_8, plO, ret1 m11, sp, ov]
          | some ikp =>
            obtain ⟨i, k, q⟩ := ikp
            rw [ho] at ov
            unfold ovT at ov
            simp -implicitDefEqProofs [k13_8, plO, ret1 m11, sp, ov]
        · simp -implicitDefEqProofs [k13_8, plO]
      · simp -implicitDefEqProofs [k13_8]
      · rfl
      · intro nx i _ hi _
        have e1 : ∀ S, dupZ S [] = false := fun _ => rfl
        simp -implicitDefEqProofs [r13_8, k13_8, hi, lz, trim_le, e1, plO]
      · intro nx i z rest _ hi hv hd hw _ ih
        have hi' : (i : Int) < (p.zs.length : Int) := by omega
        have xi := iz i hi
        rw [hv, zn_val] at xi
        have ih := ih () trivial
        have htl : (p.zs.take i).length = i := by rw [List.length_take]; omega
        have htk : (p.zs.take (i + 1)).map (·.nm) = (p.zs.take i).map (·.nm) ++ [z.nm] := by
          rw [List.take_succ_eq_append_getElem hi, hv, List.map_append]; rfl
        have e1 : dupZ ((p.zs.take i).map (·.nm)) (z :: rest) = (memS ((p.zs.take i).map (·.nm)) z.nm || dupZ ((p.zs.take (i + 1)).map (·.nm)) rest) := by rw [htk]; rfl
        rw [e1]
        simp -implicitDefEqProofs [k13_8, plO, -List.map_take] at ih
        simp -implicitDefEqProofs [r13_8, k13_8, hi, hi', lz, plO, -List.map_take]
        rw [LL_for (γ := Unit) (p.zs.take i) () (fun k _ => [(7, .int .i64 k)]) (fun _ _ => [plO p ZV])
          (fun k rest2 _ => if memS (rest2.map (·.nm)) z.nm then (.ret, [(2, .int .i64 5), (7, undef)], [plO p ZV]) else (.exit 4, [(7, undef)], [plO p ZV])) (fun _ _ => True) (by omega) trivial]
        · cases hm : memS ((p.zs.take i).map (·.nm)) z.nm
          · simp -implicitDefEqProofs [k13_11, plO, hw, trim_le, -List.map_take]
            exact ih
          · simp -implicitDefEqProofs [k13_11, plO, trim_le, -List.map_take]
        · simp -implicitDefEqProofs [k13_11]
        · rfl
        · intro nx2 k _ hk _
          rw [htl] at hk
          have e2 : memS (([] : List Zn).map (·.nm)) z.nm = false := rfl
          have hk' : ¬ ((k : Int) < (i : Int)) := by omega
          have hk'' : ¬ (k < i) := by omega
          rw [e2]
          simp -implicitDefEqProofs [r13_11, k13_11, hk', hk'', trim_le, plO]
        · intro nx2 k w rest2 _ hk hv2 hd2 hw2 _ ih2
          rw [htl] at hk
          have hkz : k < p.zs.length := by omega
          have ew : w = p.zs[k] := by rw [← hv2, List.getElem_take]
          have hk' : (k : Int) < (i : Int) := by omega
          have hkz' : (k : Int) < (p.zs.length : Int) := by omega
          have xk := iz k hkz
          rw [← ew, zn_val] at xk
          have ih2 := ih2 () trivial
          have e2 : memS ((w :: rest2).map (·.nm)) z.nm = (decide (w.nm = z.nm) || memS (rest2.map (·.nm)) z.nm) := rfl
          rw [e2]
          simp -implicitDefEqProofs [k13_11, plO] at ih2
          by_cases hn : w.nm = z.nm
          · rw [decide_eq_true hn, Bool.true_or]
            rw [hn] at xk
            simp -implicitDefEqProofs [r13_11, k13_11, hk, hk', lz, xi, xk, plO, trim_le]
          · rw [decide_eq_false hn, Bool.false_or]
            simp -implicitDefEqProofs [r13_11, k13_11, hk, hk', lz, xi, xk, hn, plO, hw2, trim_le]
            exact ih2
    · simp -implicitDefEqProofs [k13_2, plO, hb]
  · simp -implicitDefEqProofs [k13_2]
  · rfl
  · intro nx i _ hi _
    have e1 : anyZ [] = false := rfl
    simp -implicitDefEqProofs [r13_2, k13_2, hi, lz, trim_le, e1, plO]
  · intro nx i z rest _ hi hv hd hw _ ih
    have hi' : (i : Int) < (p.zs.length : Int) := by omega
    have xi := iz i hi
    rw [hv, zn_val] at xi
    have hz := region7_o p.y z.cs (by have := hcz z (hv ▸ List.getElem_mem hi); omega)
    have sv : settled depth (lst p.y (spanR.vals z.cs)) = true := rfl
    have ih := ih () trivial
    have e1 : anyZ (z :: rest) = (badZ z || anyZ rest) := rfl
    rw [e1]
    have fv : fitsTT ⟨some false, some 1⟩ (lst p.y (spanR.vals z.cs)) = true := rfl
    generalize lst p.y (spanR.vals z.cs) = CV at *
    simp -implicitDefEqProofs [k13_2, plO] at ih
    by_cases he : eR (polyX z.cs) = 0
    · rw [show badZ z = false by unfold badZ; rw [decide_eq_true he]; rfl, Bool.false_or]
      rw [he] at hz
      simp -implicitDefEqProofs [r13_2, k13_2, hi, hi', lz, xi, fv, plO, ret1 m33, sv, hz, hw, trim_le]
      exact ih
    · rw [show badZ z = true by unfold badZ; rw [decide_eq_false he]; rfl, Bool.true_or]
      simp -implicitDefEqProofs [r13_2, k13_2, hi, hi', lz, xi, fv, plO, ret1 m33, sv, hz, he, hw, trim_le]
theorem ints_same (V : Value) (l : List Int) (l1 : ∀ h, lenT .sl h V = some (.int .i64 l.length)) (i1 : ∀ (i : Nat) (hi : i < l.length), indexAddrT (.sl 3 ⟨some false, some 1⟩) V (.int .i64 (i : Int)) = some (cptr (.int .i64 l[i]))) (hl : l.length ≤ 1000) :
    pureCall E.P (L E) 14 [V, V] = some (.bool true) :=
  (ints18_spec V V l l l1 l1 i1 i1 hl).trans (by rw [decide_eq_true rfl])
theorem ints_shares (zs : List Zn) (a : List Rect) (hz : zs.length ≤ 6) : pureCall E.P (L E) 14 [sharesV zs a, sharesV zs a] = some (.bool true) := by
  cases ra : regB a
  · have e : sharesV zs a = .slice none 0 0 := by unfold sharesV; rw [ra]; rfl
    rw [e]
    exact ints_same _ [] (fun _ => rfl) (fun i hi => absurd hi (Nat.not_lt_zero _)) (by decide)
  · have e : sharesV zs a = lst false ((sharesL zs a).map (.int .i64)) := by unfold sharesV; rw [ra, if_pos rfl]
    rw [e]
    exact ints_same _ (sharesL zs a) (fun _ => iL_len) (fun _ hi => iL_index hi) (by rw [sharesL_len]; omega)
theorem ovT_cases (o : Option (Nat × Nat × Pt)) : ∃ (V : Value) (x y : Int) (b : Bool), ovT o = [V, .agg ⟨[.int .i64 x, .int .i64 y]⟩, .bool b] ∧ pureCall E.P (L E) 14 [V, V] = some (.bool true) ∧ ∀ h, reify E.P 8 h V = some V := by
  cases o with
  | none => exact ⟨_, _, _, _, rfl, ints_same _ [] (fun _ => rfl) (fun i hi => absurd hi (Nat.not_lt_zero _)) (by decide), fun _ => rfl⟩
  | some q =>
    obtain ⟨i, k, pt⟩ := q
    exact ⟨_, _, _, _, rfl, ints_same (lst true [.int .i64 (i : Int), .int .i64 (k : Int)]) [(i : Int), (k : Int)] (fun _ => rfl) (fun j hj => iL_index (x := true) (l := [(i : Int), (k : Int)]) hj) (by show 2 ≤ 1000; omega), fun _ => rfl⟩
set_option maxHeartbeats 4000000 in
theorem tells_law (p : Pl) (a : List Rect) (hl : p.zs.length ≤ 9223372036854775807) : ∃ h', L E 3 [p.val, lst false (rectR.vals a)] [] 0 = some (.bool true, h') := by
  have eo : ∀ l, lst false (rectR.vals l) = rectR.o (some false) l := fun _ => rfl
  rw [eo]
  have sm := small_spec
  have fa := few_spec p (rectR.o (some false) a) a.length (fun h => Rec.o_len Rec.ok_some) (fun _ _ => Rec.o_bel) hl
  have rp := fun h => p.reify h
  have sp := p.set
  have ro : ∀ h k l, reify E.P 8 h (rectR.o k l) = some (rectR.o k l) := fun _ _ _ => Rec.o_reify
  have so : ∀ k l, settled depth (rectR.o k l) = true := fun _ _ => Rec.o_set
  have all := fun hp (hc : a.length ≤ 200) => And.intro (shares_spec p hp (some false) a Rec.ok_some (by omega)) (And.intro (rshares_spec p hp (some false) a Rec.ok_some (by omega)) (And.intro (zof_spec p hp (some false) a Rec.ok_some hc) (And.intro (rnames_spec p hp (some false) a Rec.ok_some hc) (And.intro (overlap_spec p hp) (And.intro (roverlap_spec p hp) (And.intro (zmap_spec p hp) (rmap_spec p hp)))))))
  rw [L_fn F3 rfl]
  unfold Pl.val Pl.cells at *
  generalize hZV : p.zv = ZV at *
  cases ha : fewB p.zs a.length
  · rw [ha] at fa
    refine ⟨[plO p ZV], ?_⟩
    simp -implicitDefEqProofs [r3, p3, ret0 m8, sm, ret0 m9, rp, ro, fa, plO]
  rw [ha] at fa
  obtain ⟨hp, ha24⟩ := fewB_ok ha
  obtain ⟨g1, g2, g3, g4, g5, g6, g7, g8⟩ := all hp (by omega)
  obtain ⟨V, x, y, b, e, iv, rv⟩ := ovT_cases (ovF 0 (allL p.zs))
  rw [e] at g5 g6
  have is := ints_shares p.zs a hp.len
  have rs : ∀ h, reify E.P 8 h (sharesV p.zs a) = some (sharesV p.zs a) := fun h => by unfold sharesV; cases regB a <;> rfl
  have it := texts_spec false false (namesZ p.zs a) (namesZ p.zs a) (by have := Rg.namesF_len (bestW 0 none (wZ p.zs a)) (wZ p.zs a) 0; have := wZ_len p.zs a; have := hp.len; show (namesF _ 0 _).length ≤ 1000; omega)
  rw [decide_eq_true rfl] at it
  have rt : ∀ h, reify E.P 8 h (sT false (namesZ p.zs a)) = some (sT false (namesZ p.zs a)) := fun h => rfl
  have eN : lst false ((namesZ p.zs a).map .string) = sT false (namesZ p.zs a) := rfl
  rw [eN] at g3 g4
  generalize sT false (namesZ p.zs a) = NV at *
  generalize sharesV p.zs a = SV at *
  generalize mapI p.zs = MI at *
  refine ⟨[plO p ZV, ptO (x, y), ptO (x, y)], ?_⟩
  cases b
  all_goals simp -implicitDefEqProofs [r3, p3, ret0 m8, sm, ret0 m9, rp, ro, fa, ret1 m10, sp, g5, ret1 m11, g6, ret0 m12, g7, ret0 m13, g8, ret1 m15, so, g1, ret1 m16, g2, ret0 m14, rs, is, ret1 m18, g3, ret1 m19, g4, ret0 m17, rt, it, rv, iv, eql_pt, beq, plO, ptO]
end Go.Proofs.Ytimjfondgdhfcaa.Bm
