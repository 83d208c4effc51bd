/-
  The reference of regions: a column. Conditions: lists that are not too long.
-/
import Derived.Test.YtimjfondgdhfcaaQE22
import Derived.Test.YtimjfondgdhfcaaQE21
namespace Go.Proofs.Ytimjfondgdhfcaa.Bm
open Go Go.RowKit
open Rg (Rect Pt Zn rightP polyL comA comP ovR ovF)
theorem uStr : E.P.underlying 9 = some .string := by kernel_rfl
theorem ba_beq (a b : ByteArray) : (a == b) = decide (a = b) := by
  rw [Bool.eq_iff_iff, decide_eq_true_iff]
  obtain ⟨x⟩ := a
  obtain ⟨y⟩ := b
  show (x == y) = true ↔ _
  rw [beq_iff_eq, ByteArray.mk.injEq]
theorem strK : KeyEnc E.P 9 Value.string where
  flat _ := rfl
  ok s := by unfold keyOk; rw [uStr]
  eq a b := by
    unfold aKeyEq
    rw [uStr]
    show some (a == b) = _
    rw [ba_beq]
  bits s := by
    show (s == s) = true
    rw [ba_beq, decide_eq_true rfl]
def memS : List ByteArray → ByteArray → Bool
  | [], _ => false
  | a :: l, s => decide (a = s) || memS l s
def dupZ : List ByteArray → List Zn → Bool
  | _, [] => false
  | S, z :: r => memS S z.nm || dupZ (S ++ [z.nm]) r
def dupS : List ByteArray → List Zn → List ByteArray
  | S, [] => S
  | S, z :: r => if memS S z.nm then S else dupS (S ++ [z.nm]) r
def badZ (z : Zn) : Bool := !decide (eR (polyX z.cs) = 0)
def anyZ : List Zn → Bool
  | [] => false
  | z :: r => badZ z || anyZ r
def seenM (S : List ByteArray) : List (ByteArray × Value) := S.map fun s => (s, .bool true)
theorem seen_get : ∀ (S : List ByteArray) (s : ByteArray), aget (seenM S) s = if memS S s then some (.bool true) else none
  | [], _ => rfl
  | a :: S, s => by
    have ih := seen_get S s
    show (if a = s then _ else aget (seenM S) s) = _
    rw [ih, show memS (a :: S) s = (decide (a = s) || memS S s) from rfl]
    by_cases h : a = s
    · rw [if_pos h, decide_eq_true h]; rfl
    · rw [if_neg h, decide_eq_false h, Bool.false_or]
theorem seen_app (S : List ByteArray) (s : ByteArray) : seenM (S ++ [s]) = seenM S ++ [(s, .bool true)] := List.map_append
def mapI (zs : List Zn) : Int := if anyZ zs then 10 else if dupZ [] zs then 5 else if (ovF 0 (allL zs)).isSome then 11 else 0
set_option maxHeartbeats 2000000 in
theorem zmap_spec (p : Pl) (hp : PlOk p) : pureCall E.P (L E) 12 [p.val] = some (.int .i64 (mapI p.zs)) := by
  have lz : ∀ h, lenT .sl h p.zv = some (.int .i64 p.zs.length) := fun h => Rec.tree_len
  have iz : ∀ (j : Nat) (hj : j < p.zs.length), indexAddrT (.sl 49 ⟨some true, some 3⟩) p.zv (.int .i64 (j : Int)) = some (cptr ((znR p.y).val p.zs[j])) := fun j hj => Rec.index_tree rfl hj
  have blz : ∀ d n, below (d + 1) n p.zv = true := fun d n => rfl
  have op0 := @op_bel
  have hl6 := hp.len
  have hcz := hp.cor
  have ov := overlap_spec p hp
  have sp := p.set
  rw [pureCall_fn F12 rfl]
  unfold Pl.val Pl.cells at *
  generalize p.zv = ZV at *
  unfold mapI
  simp -implicitDefEqProofs [r12, p12, lz]
  rw [LL_for (γ := Unit) p.zs () (fun i _ => [(16, .int .i64 i)]) (fun i _ => [plO p ZV])
    (fun i rest _ => if anyZ rest then (.ret, [(2, .int .i64 10), (16, undef)], [plO p ZV]) else (.exit 0, [(16, undef)], [plO p ZV])) (fun i _ => True) (by omega) trivial]
  · cases hb : anyZ p.zs
    · simp -implicitDefEqProofs [k12_2, plO, lz]
      rw [LL_for (γ := List ByteArray) p.zs [] (fun i _ => [(33, .int .i64 i)]) (fun i S => [plO p ZV, mapB Value.string (seenM S)])
        (fun i rest S => if dupZ S rest then (.ret, [(2, .int .i64 5), (33, undef)], [plO p ZV, mapB Value.string (seenM (dupS S rest))]) else (.exit 2, [(33, undef)], [plO p ZV, mapB Value.string (seenM (S ++ rest.map (·.nm)))])) (fun i S => True) (by omega) trivial]
      · cases hd : dupZ [] p.zs
        · rw [List.nil_append]
          cases ho : ovF 0 (allL p.zs) with
          | none =>
            rw [ho] at ov
            unfold ovT at ov
            simp -implicitDefEqProofs [k12_10, plO, ret1 m10, sp, ov]
          | some ikp =>
            obtain ⟨i, k, q⟩ := ikp
            rw [ho] at ov
            unfold ovT at ov
            simp -implicitDefEqProofs [k12_10, plO, ret1 m10, sp, ov]
        · simp -implicitDefEqProofs [k12_10, plO]
      · simp -implicitDefEqProofs [k12_10]
      · rfl
      · intro nx i S hi _
        have e1 : dupZ S [] = false := rfl
        simp -implicitDefEqProofs [r12_10, k12_10, hi, trim_le, e1, plO]
      · intro nx i z rest S hi hv hd hw _ ih
        have xi := iz i hi
        rw [hv, zn_val] at xi
        have ih := ih (S ++ [z.nm]) trivial
        have e1 : dupZ S (z :: rest) = (memS S z.nm || dupZ (S ++ [z.nm]) rest) := rfl
        have e2 : S ++ (z :: rest).map (·.nm) = S ++ [z.nm] ++ rest.map (·.nm) := by rw [List.append_assoc]; rfl
        have blm : ∀ n S, belowO n (mapB Value.string (seenM S)) = true := fun n S => belO_map strK fun q hq => by
          obtain ⟨s, _, rfl⟩ := List.mem_map.1 hq; rfl
        have e3 : dupS S (z :: rest) = if memS S z.nm then S else dupS (S ++ [z.nm]) rest := rfl
        rw [e1, e2, e3]
        have sg := seen_get S z.nm
        have bmp : ∀ d, below (d + 1) 2 (.map (some 1)) = true := fun _ => rfl
        simp -implicitDefEqProofs [k12_10, plO, -List.append_assoc] at ih
        cases hm : memS S z.nm
        · rw [hm] at sg
          have sg : aget (seenM S) z.nm = none := sg
          have lk := fun h (hob : h[1]? = some (mapB Value.string (seenM S))) => lookup_none (P := E.P) (kt := 9) (enc := Value.string) (ok := false) (k := z.nm) (zv := .bool false) strK rfl hob sg
          have pt := fun h (hob : h[1]? = some (mapB Value.string (seenM S))) => put_map (P := E.P) (kt := 9) (enc := Value.string) (z := some (.bool false)) (lo := 0) (k := z.nm) (x := .bool true) strK hob (Nat.zero_le _)
          rw [aset_new sg, ← seen_app] at pt
          simp -implicitDefEqProofs [r12_10, k12_10, hi, xi, plO, lk, pt, hw, trim_cut, op0, blz, bmp, blm, -List.append_assoc]
          exact ih
        · rw [hm] at sg
          have sg : aget (seenM S) z.nm = some (.bool true) := sg
          have lk := fun h (hob : h[1]? = some (mapB Value.string (seenM S))) => lookup_some (P := E.P) (kt := 9) (enc := Value.string) (ok := false) (k := z.nm) (z := some (.bool false)) strK rfl hob sg
          simp -implicitDefEqProofs [r12_10, k12_10, hi, xi, plO, lk, trim_cut, op0, blz, bmp, blm, -List.append_assoc]
    · simp -implicitDefEqProofs [k12_2, plO]
  · simp -implicitDefEqProofs [k12_2]
  · rfl
  · intro nx i _ hi _
    have e1 : anyZ [] = false := rfl
    simp -implicitDefEqProofs [r12_2, k12_2, hi, trim_le, e1, plO]
  · intro nx i z rest _ hi hv hd hw _ ih
    have xi := iz i hi
    rw [hv, zn_val] at xi
    have hz := pregion_o p.y z.cs (by have := hcz z (hv ▸ List.getElem_mem hi); omega)
    have sv : settled depth (lst p.y (spanR.vals z.cs)) = true := rfl
    have blv : ∀ d n, below (d + 1) n (lst p.y (spanR.vals z.cs)) = true := fun _ _ => rfl
    have ih := ih () trivial
    have e1 : anyZ (z :: rest) = (badZ z || anyZ rest) := rfl
    rw [e1]
    generalize lst p.y (spanR.vals z.cs) = CV at *
    simp -implicitDefEqProofs [k12_2, plO] at ih
    by_cases he : eR (polyX z.cs) = 0
    · rw [show badZ z = false by unfold badZ; rw [decide_eq_true he]; rfl, Bool.false_or]
      rw [he] at hz
      simp -implicitDefEqProofs [r12_2, k12_2, hi, xi, plO, ret1 m21, sv, hz, hw, trim_cut, op0, blz]
      exact ih
    · rw [show badZ z = true by unfold badZ; rw [decide_eq_false he]; rfl, Bool.true_or]
      simp -implicitDefEqProofs [r12_2, k12_2, hi, xi, plO, ret1 m21, sv, hz, he, trim_cut, op0, blz]
end Go.Proofs.Ytimjfondgdhfcaa.Bm
namespace Go.Proofs.Ytimjfondgdhfcaa.Bm
open Go Go.RowKit
open Rg (Rect Pt Zn rightP polyL comA comP ovR ovF)
def fewC : List Zn → Bool
  | [] => true
  | z :: r => decide (z.cs.length ≤ 64) && fewC r
def fewB (zs : List Zn) (n : Nat) : Bool := fewC zs && decide (zs.length ≤ 6) && decide (n ≤ 24)
theorem fewC_iff : ∀ {zs : List Zn}, fewC zs = true → ∀ z ∈ zs, z.cs.length ≤ 64
  | [], _, z, hz => absurd hz List.not_mem_nil
  | a :: r, h, z, hz => by
    unfold fewC at h
    rw [Bool.and_eq_true, decide_eq_true_eq] at h
    rcases List.mem_cons.1 hz with rfl | hz
    · exact h.1
    · exact fewC_iff h.2 z hz
theorem fewB_ok {p : Pl} {n : Nat} (h : fewB p.zs n = true) : PlOk p ∧ n ≤ 24 := by
  unfold fewB at h
  rw [Bool.and_eq_true, Bool.and_eq_true, decide_eq_true_eq, decide_eq_true_eq] at h
  exact ⟨⟨h.1.2, fewC_iff h.1.1⟩, h.2⟩
theorem few_spec (p : Pl) (v : Value) (n : Nat) (hn : ∀ h, lenT .sl h v = some (.int .i64 n)) (_hv : ∀ d m, below (d + 1) m v = true) (hl : p.zs.length ≤ 9223372036854775807) : pureCall E.P (L E) 9 [p.val, v] = some (.bool (fewB p.zs n)) := by
  have lz : ∀ h, lenT .sl h p.zv = some (.int .i64 p.zs.length) := fun h => Rec.tree_len
  have iz : ∀ (j : Nat) (hj : j < p.zs.length), indexAddrT (.sl 49 ⟨some true, some 3⟩) p.zv (.int .i64 (j : Int)) = some (cptr ((znR p.y).val p.zs[j])) := fun j hj => Rec.index_tree rfl hj
  have blz : ∀ d n, below (d + 1) n p.zv = true := fun d n => rfl
  have op0 := @op_bel
  rw [pureCall_fn F9 rfl]
  unfold Pl.val Pl.cells
  generalize p.zv = ZV at *
  unfold fewB
  simp -implicitDefEqProofs [r9, p9]
  rw [LL_for (γ := Unit) p.zs () (fun i _ => [(5, .int .i64 i)]) (fun i _ => [plO p ZV])
    (fun i rest _ => if fewC rest then (.exit 0, [(5, undef)], [plO p ZV]) else (.ret, [(4, .bool false), (5, undef)], [plO p ZV])) (fun i _ => True) hl trivial]
  · cases hc : fewC p.zs
    · simp -implicitDefEqProofs [k9_2, plO]
    · by_cases h6 : p.zs.length ≤ 6
      · have h6' : (p.zs.length : Int) ≤ 6 := by omega
        by_cases hn24 : n ≤ 24
        · have hn' : (n : Int) ≤ 24 := by omega
          simp -implicitDefEqProofs [k9_2, plO, lz, hn, h6, h6', hn24, hn']
        · have hn' : ¬ ((n : Int) ≤ 24) := by omega
          simp -implicitDefEqProofs [k9_2, plO, lz, hn, h6, h6', hn24, hn']
      · have h6' : ¬ ((p.zs.length : Int) ≤ 6) := by omega
        simp -implicitDefEqProofs [k9_2, plO, lz, h6, h6']
  · simp -implicitDefEqProofs [k9_2]
  · rfl
  · intro nx i _ hi _
    have e1 : fewC [] = true := rfl
    simp -implicitDefEqProofs [r9_2, k9_2, hi, lz, trim_le, e1, plO]
  · intro nx i z rest _ hi hv2 hd hw _ ih
    have xi := iz i hi
    rw [hv2, zn_val] at xi
    have hi' : (i : Int) < (p.zs.length : Int) := by omega
    have lc : ∀ h, lenT .sl h (lst p.y (spanR.vals z.cs)) = some (.int .i64 z.cs.length) := fun h => Rec.tree_len
    have ih := ih () trivial
    have e1 : fewC (z :: rest) = (decide (z.cs.length ≤ 64) && fewC rest) := rfl
    rw [e1]
    simp -implicitDefEqProofs [k9_2, plO] at ih
    by_cases hc : z.cs.length ≤ 64
    · have hc' : ¬ (64 < (z.cs.length : Int)) := by omega
      have hc'' : ¬ (64 < z.cs.length) := by omega
      rw [decide_eq_true hc, Bool.true_and]
      simp -implicitDefEqProofs [r9_2, k9_2, hi', lz, xi, lc, hc', plO, hw, trim_le]
      exact ih
    · have hc' : 64 < (z.cs.length : Int) := by omega
      have hc'' : 64 < z.cs.length := by omega
      rw [decide_eq_false hc, Bool.false_and]
      simp -implicitDefEqProofs [r9_2, k9_2, hi', lz, xi, lc, hc', plO, trim_le]
def sT (x : Bool) (l : List ByteArray) : Value := lst x (l.map .string)
theorem sT_index {x : Bool} {l : List ByteArray} {i : Nat} (hi : i < l.length) : indexAddrT (.sl 9 ⟨some false, some 1⟩) (sT x l) (.int .i64 (i : Int)) = some (cptr (.string l[i])) := by
  unfold sT
  have e : (l.map (Value.string))[i]? = some (.string l[i]) := by simp [hi]
  rw [index_lst, if_pos (by omega), show ((i : Int)).toNat = i by omega, e, Option.bind_some, if_pos (by rfl)]
theorem sT_len {h : Heap} {x : Bool} {l : List ByteArray} : lenT .sl h (sT x l) = some (.int .i64 l.length) := by unfold sT; rw [len_lst]; simp
theorem drop_eq_cons {α : Type} {m : List α} {i : Nat} {a : α} {rest : List α} (hi : i < m.length) : (a :: rest = m.drop i) ↔ (a = m[i] ∧ rest = m.drop (i + 1)) := by
  rw [List.drop_eq_getElem_cons hi, List.cons.injEq]
theorem texts_spec (x y : Bool) (l m : List ByteArray) (hl : l.length ≤ 1000) : pureCall E.P (L E) 17 [sT x l, sT y m] = some (.bool (decide (l = m))) := by
  have l1 := fun h => sT_len (h := h) (x := x) (l := l)
  have l2 := fun h => sT_len (h := h) (x := y) (l := m)
  have i1 := fun (i : Nat) (hi : i < l.length) => sT_index (x := x) hi
  have i2 := fun (i : Nat) (hi : i < m.length) => sT_index (x := y) hi
  rw [pureCall_fn F17 rfl]
  generalize sT x l = X at *
  generalize sT y m = Y at *
  by_cases hlm : l.length = m.length
  case neg =>
    have hlm' : ¬ ((l.length : Int) = (m.length : Int)) := by omega
    rw [decide_eq_false fun e => hlm (by rw [e])]
    simp -implicitDefEqProofs [r17, p17, l1, l2, hlm']
  simp -implicitDefEqProofs [r17, p17, l1, l2, hlm]
  rw [LL_for (γ := Unit) l () (fun i _ => [(5, .int .i64 i)]) (fun _ _ => []) (fun i rest _ => if rest = m.drop i then (.exit 0, [(5, undef)], []) else (.ret, [(4, .bool false), (5, undef)], [])) (fun _ _ => True) (by omega) trivial]
  · rw [List.drop_zero]
    by_cases h : l = m
    · simp -implicitDefEqProofs [k17_4, h]
    · simp -implicitDefEqProofs [k17_4, h]
  · simp -implicitDefEqProofs [k17_4]
  · rfl
  · intro nx i _ hi _
    have e1 : ([] : List ByteArray) = m.drop i := (List.drop_eq_nil_of_le (by omega)).symm
    rw [if_pos e1]
    simp -implicitDefEqProofs [r17_4, k17_4, hi, l1, hlm, trim_le]
  · intro nx i s rest _ hi hv hd hw _ ih
    have ih := ih () trivial
    have hm : i < m.length := by omega
    have hm' : (i : Int) < (m.length : Int) := by omega
    have x1 := i1 i hi
    rw [hv] at x1
    have x2 := i2 i hm
    have e1 := drop_eq_cons (a := s) (rest := rest) hm
    simp -implicitDefEqProofs [k17_4] at ih
    by_cases hs : s = m[i]
    · have e2 : (s :: rest = m.drop i) = (rest = m.drop (i + 1)) := propext (e1.trans ⟨fun h => h.2, fun h => ⟨hs, h⟩⟩)
      simp only [e2]
      simp -implicitDefEqProofs [r17_4, k17_4, hm', l1, hlm, x1, x2, hs, hw, trim_le]
      exact ih
    · have e2 : ¬ (s :: rest = m.drop i) := fun h => hs (e1.1 h).1
      rw [if_neg e2]
      simp -implicitDefEqProofs [r17_4, k17_4, hm', l1, hlm, x1, x2, hs, trim_le]
end Go.Proofs.Ytimjfondgdhfcaa.Bm
namespace Go.Proofs.Ytimjfondgdhfcaa.Bm
open Go Go.RowKit
open Rg (Rect Pt Zn rightP polyL comA comP ovR ovF)
theorem ints18_spec (X Y : Value) (l m : List Int) (l1 : ∀ h, lenT .sl h X = some (.int .i64 l.length)) (l2 : ∀ h, lenT .sl h Y = some (.int .i64 m.length)) (i1 : ∀ (i : Nat) (hi : i < l.length), indexAddrT (.sl 3 ⟨some false, some 1⟩) X (.int .i64 (i : Int)) = some (cptr (.int .i64 l[i]))) (i2 : ∀ (i : Nat) (hi : i < m.length), indexAddrT (.sl 3 ⟨some false, some 1⟩) Y (.int .i64 (i : Int)) = some (cptr (.int .i64 m[i]))) (hl : l.length ≤ 1000) : pureCall E.P (L E) 14 [X, Y] = some (.bool (decide (l = m))) := by
  rw [pureCall_fn F14 rfl]
  by_cases hlm : l.length = m.length
  case neg =>
    have hlm' : ¬ ((l.length : Int) = (m.length : Int)) := by omega
    rw [decide_eq_false fun e => hlm (by rw [e])]
    simp -implicitDefEqProofs [r14, p14, l1, l2, hlm']
  simp -implicitDefEqProofs [r14, p14, l1, l2, hlm]
  rw [LL_for (γ := Unit) l () (fun i _ => [(5, .int .i64 i)]) (fun _ _ => []) (fun i rest _ => if rest = m.drop i then (.exit 0, [(5, undef)], []) else (.ret, [(4, .bool false), (5, undef)], [])) (fun _ _ => True) (by omega) trivial]
  · rw [List.drop_zero]
    by_cases h : l = m
    · simp -implicitDefEqProofs [k14_4, h]
    · simp -implicitDefEqProofs [k14_4, h]
  · simp -implicitDefEqProofs [k14_4]
  · rfl
  · intro nx i _ hi _
    have e1 : ([] : List Int) = m.drop i := (List.drop_eq_nil_of_le (by omega)).symm
    rw [if_pos e1]
    simp -implicitDefEqProofs [r14_4, k14_4, hi, l1, hlm, trim_le]
  · intro nx i s rest _ hi hv hd hw _ ih
    have ih := ih () trivial
    have hm : i < m.length := by omega
    have hm' : (i : Int) < (m.length : Int) := by omega
    have x1 := i1 i hi
    rw [hv] at x1
    have x2 := i2 i hm
    have e1 := drop_eq_cons (a := s) (rest := rest) hm
    simp -implicitDefEqProofs [k14_4] at ih
    by_cases hs : s = m[i]
    · have e2 : (s :: rest = m.drop i) = (rest = m.drop (i + 1)) := propext (e1.trans ⟨fun h => h.2, fun h => ⟨hs, h⟩⟩)
      simp only [e2]
      simp -implicitDefEqProofs [r14_4, k14_4, hm', l1, hlm, x1, x2, hs, hw, trim_le]
      exact ih
    · have e2 : ¬ (s :: rest = m.drop i) := fun h => hs (e1.1 h).1
      rw [if_neg e2]
      simp -implicitDefEqProofs [r14_4, k14_4, hm', l1, hlm, x1, x2, hs, trim_le]
def sq (x0 y0 x1 y1 : Int) : List Pt := [(x0, y0), (x1, y0), (x1, y1), (x0, y1)]
def nCore : ByteArray := ⟨⟨[99, 111, 114, 101]⟩⟩
def nRim : ByteArray := ⟨⟨[114, 105, 109]⟩⟩
def nRiver : ByteArray := ⟨⟨[114, 105, 118, 101, 114]⟩⟩
def smp (a : Int) : Pl := ⟨none, none, none, none, none, none, 0, true, true, [⟨nCore, false, sq 0 0 10 8⟩, ⟨nRim, false, sq a 0 20 8⟩, ⟨nRiver, true, sq 4 0 6 8⟩]⟩
theorem smp_ok (a : Int) : PlOk (smp a) := ⟨by show 3 ≤ 6; omega, fun z hz => by
  simp only [smp, List.mem_cons, List.not_mem_nil, or_false] at hz
  rcases hz with rfl | rfl | rfl <;> exact (by decide : 4 ≤ 64)⟩
set_option maxRecDepth 100000 in
theorem xm9 : pureCall E.P (L E) 29 [.int .i64 9] = some (smp 9).val := pureCall_le (evF_L 60) (by kernel_rfl)
set_option maxRecDepth 100000 in
theorem xm10 : pureCall E.P (L E) 29 [.int .i64 10] = some (smp 10).val := pureCall_le (evF_L 60) (by kernel_rfl)
set_option maxRecDepth 100000 in
theorem xm30 : pureCall E.P (L E) 29 [.int .i64 30] = some (smp 30).val := pureCall_le (evF_L 60) (by kernel_rfl)
set_option maxRecDepth 100000 in
theorem xs0 : pureCall E.P (L E) 30 [.int .i64 8, .int .i64 13] = some (rectR.o (some true) [⟨8, 0, 13, 1⟩]) := pureCall_le (evF_L 60) (by kernel_rfl)
set_option maxRecDepth 100000 in
theorem xs1 : pureCall E.P (L E) 30 [.int .i64 0, .int .i64 5] = some (rectR.o (some true) [⟨0, 0, 5, 1⟩]) := pureCall_le (evF_L 60) (by kernel_rfl)
set_option maxRecDepth 100000 in
theorem xs2 : pureCall E.P (L E) 30 [.int .i64 30, .int .i64 31] = some (rectR.o (some true) [⟨30, 0, 31, 1⟩]) := pureCall_le (evF_L 60) (by kernel_rfl)
set_option maxRecDepth 100000 in
theorem xs3 : pureCall E.P (L E) 30 [.int .i64 8, .int .i64 12] = some (rectR.o (some true) [⟨8, 0, 12, 1⟩]) := pureCall_le (evF_L 60) (by kernel_rfl)
set_option maxRecDepth 100000 in
theorem xs4 : pureCall E.P (L E) 30 [.int .i64 0, .int .i64 12] = some (rectR.o (some true) [⟨0, 0, 12, 1⟩]) := pureCall_le (evF_L 60) (by kernel_rfl)
theorem xn0 : namesZ (smp 10).zs [⟨8, 0, 13, 1⟩] = [nRim] := by kernel_rfl
theorem xn1 : namesZ (smp 10).zs [⟨0, 0, 5, 1⟩] = [nCore, nRiver] := by kernel_rfl
theorem xn2 : namesZ (smp 10).zs [⟨30, 0, 31, 1⟩] = [] := by kernel_rfl
theorem xn3 : namesZ (smp 10).zs [⟨8, 0, 12, 1⟩] = [nCore] := by kernel_rfl
theorem xh0 : sharesV (smp 10).zs [⟨0, 0, 12, 1⟩] = lst false [.int .i64 10, .int .i64 2, .int .i64 2] := by kernel_rfl
theorem xv9 : ovF 0 (allL (smp 9).zs) = some (0, 1, (9, 0)) := by kernel_rfl
theorem xv10 : ovF 0 (allL (smp 10).zs) = none := by kernel_rfl
theorem xi9 : mapI (smp 9).zs = 11 := by kernel_rfl
theorem xi10 : mapI (smp 10).zs = 0 := by kernel_rfl
theorem xi30 : mapI (smp 30).zs = 10 := by kernel_rfl
end Go.Proofs.Ytimjfondgdhfcaa.Bm
namespace Go.Proofs.Ytimjfondgdhfcaa.Bm
open Go Go.RowKit
open Rg (Rect Pt Zn rightP polyL comA comP ovR ovF)
abbrev bCore : Value := .string ⟨⟨[99, 111, 114, 101]⟩⟩
abbrev bRim : Value := .string ⟨⟨[114, 105, 109]⟩⟩
abbrev bRiver : Value := .string ⟨⟨[114, 105, 118, 101, 114]⟩⟩
theorem lit_str2 (h : Heap) (s r : ByteArray) : buildSliceT (some ⟨9, 1, 16, .string ⟨⟨[]⟩⟩, ⟨some false, some 1⟩⟩) false h 2 #[(0, .string s), (1, .string r)] = some (lst true [.string s, .string r], h) :=
  (build_lit' (n := 2) (l := [(0, .string s), (1, .string r)]) rfl rfl (by decide) (by decide) (by decide)).trans rfl
theorem lit_ints3 (h : Heap) (a b c : Int) : buildSliceT (some ⟨3, 1, 8, .int .i64 0, ⟨some false, some 1⟩⟩) false h 3 #[(0, .int .i64 a), (1, .int .i64 b), (2, .int .i64 c)] = some (lst true [.int .i64 a, .int .i64 b, .int .i64 c], h) :=
  (build_lit' (n := 3) (l := [(0, .int .i64 a), (1, .int .i64 b), (2, .int .i64 c)]) rfl rfl (by decide) (by decide) (by decide)).trans rfl
theorem iL_len {h : Heap} {x : Bool} {l : List Int} : lenT .sl h (lst x (l.map (.int .i64))) = some (.int .i64 l.length) := by rw [len_lst]; simp
theorem iL_index {x : Bool} {l : List Int} {i : Nat} (hi : i < l.length) : indexAddrT (.sl 3 ⟨some false, some 1⟩) (lst x (l.map (.int .i64))) (.int .i64 (i : Int)) = some (cptr (.int .i64 l[i])) := by
  have e : (l.map (Value.int .i64))[i]? = some (.int .i64 l[i]) := by simp [hi]
  rw [index_lst, if_pos (by omega), show ((i : Int)).toNat = i by omega, e, Option.bind_some, if_pos (by rfl)]
theorem ints_list (x y : Bool) (l m : List Int) (hl : l.length ≤ 1000) : pureCall E.P (L E) 14 [lst x (l.map (.int .i64)), lst y (m.map (.int .i64))] = some (.bool (decide (l = m))) :=
  ints18_spec _ _ l m (fun _ => iL_len) (fun _ => iL_len) (fun _ hi => iL_index hi) (fun _ hi => iL_index hi) hl
theorem xt0 : pureCall E.P (L E) 17 [lst false [bRim], lst true [bRim]] = some (.bool true) := (texts_spec false true [nRim] [nRim] (by decide)).trans (by rw [decide_eq_true rfl])
theorem xt1 : pureCall E.P (L E) 17 [lst false [bCore, bRiver], lst true [bCore, bRiver]] = some (.bool true) := (texts_spec false true [nCore, nRiver] [nCore, nRiver] (by decide)).trans (by rw [decide_eq_true rfl])
theorem xt3 : pureCall E.P (L E) 17 [lst false [bCore], lst true [bCore]] = some (.bool true) := (texts_spec false true [nCore] [nCore] (by decide)).trans (by rw [decide_eq_true rfl])
theorem xj0 : pureCall E.P (L E) 14 [lst false [.int .i64 10, .int .i64 2, .int .i64 2], lst true [.int .i64 10, .int .i64 2, .int .i64 2]] = some (.bool true) := (ints_list false true [10, 2, 2] [10, 2, 2] (by decide)).trans (by rw [decide_eq_true rfl])
theorem xj1 : pureCall E.P (L E) 14 [lst true [.int .i64 0, .int .i64 1], lst true [.int .i64 0, .int .i64 1]] = some (.bool true) := (ints_list true true [0, 1] [0, 1] (by decide)).trans (by rw [decide_eq_true rfl])
theorem b2_fst {a : Int} : buildT (Bl.fs ⟨[.int .i64 0, .int .i64 0]⟩ ⟨[(0, 1), (1, 1)]⟩) #[(0, .int .i64 a)] = some (.agg ⟨[.int .i64 a, .int .i64 0]⟩) := rfl
theorem neqp (a b c d : Int) : aBin E.P .neq 36 (.agg ⟨[.int .i64 a, .int .i64 b]⟩) (.agg ⟨[.int .i64 c, .int .i64 d]⟩) = (allOf [some (a == c), some (b == d)]).map fun b => .bool (!b) := by kernel_rfl
theorem eqlp (a b c d : Int) : aBin E.P .eql 36 (.agg ⟨[.int .i64 a, .int .i64 b]⟩) (.agg ⟨[.int .i64 c, .int .i64 d]⟩) = (allOf [some (a == c), some (b == d)]).map .bool := by kernel_rfl
theorem neq_pt (a b c d : Int) : aBin E.P .neq 36 (.agg ⟨[.int .i64 a, .int .i64 b]⟩) (.agg ⟨[.int .i64 c, .int .i64 d]⟩) = some (.bool (!decide ((a, b) = (c, d)))) := by
  rw [neqp]
  by_cases h1 : a = c <;> by_cases h2 : b = d <;> simp [allOf_two, h1, h2]
theorem eql_pt (a b c d : Int) : aBin E.P .eql 36 (.agg ⟨[.int .i64 a, .int .i64 b]⟩) (.agg ⟨[.int .i64 c, .int .i64 d]⟩) = some (.bool (decide ((a, b) = (c, d)))) := by
  rw [eqlp]
  by_cases h1 : a = c <;> by_cases h2 : b = d <;> simp [allOf_two, h1, h2]
set_option maxHeartbeats 1000000 in
theorem small_spec : pureCall E.P (L E) 8 [] = some (.bool true) := by
  have o0 := zof_spec (smp 10) (smp_ok 10) (some true) [⟨8, 0, 13, 1⟩] Rec.ok_some (by decide)
  have o1 := zof_spec (smp 10) (smp_ok 10) (some true) [⟨0, 0, 5, 1⟩] Rec.ok_some (by decide)
  have o2 := zof_spec (smp 10) (smp_ok 10) (some true) [⟨30, 0, 31, 1⟩] Rec.ok_some (by decide)
  have o3 := zof_spec (smp 10) (smp_ok 10) (some true) [⟨8, 0, 12, 1⟩] Rec.ok_some (by decide)
  have h0 := shares_spec (smp 10) (smp_ok 10) (some true) [⟨0, 0, 12, 1⟩] Rec.ok_some (by decide)
  have v9 := overlap_spec (smp 9) (smp_ok 9)
  have v10 := overlap_spec (smp 10) (smp_ok 10)
  have mp9 := zmap_spec (smp 9) (smp_ok 9)
  have mp10 := zmap_spec (smp 10) (smp_ok 10)
  have mp30 := zmap_spec (smp 30) (smp_ok 30)
  have sp9 := xm9
  have sp10 := xm10
  have sp30 := xm30
  have tp9 := (smp 9).set
  have tp10 := (smp 10).set
  have tp30 := (smp 30).set
  have rf9 := fun h => (smp 9).reify h
  have rf10 := fun h => (smp 10).reify h
  have rf30 := fun h => (smp 30).reify h
  have e0 := xs0
  have e1 := xs1
  have e2 := xs2
  have e3 := xs3
  have e4 := xs4
  rw [xn0] at o0
  rw [xn1] at o1
  rw [xn2] at o2
  rw [xn3] at o3
  rw [xh0] at h0
  rw [xv9] at v9
  rw [xv10] at v10
  rw [xi9] at mp9
  rw [xi10] at mp10
  rw [xi30] at mp30
  unfold ovT at v9 v10
  simp only [List.map_cons, List.map_nil] at o0 o1 o2 o3
  have u0 := xt0
  have u1 := xt1
  have u3 := xt3
  have w0 := xj0
  have w1 := xj1
  have so : ∀ r, settled depth (rectR.o (some true) [r]) = true := fun _ => Rec.o_set
  have rl : ∀ h b l, reify E.P 8 h (lst b l) = some (lst b l) := fun _ _ _ => rfl
  unfold nRim nCore nRiver at *
  unfold Pl.val Pl.cells at *
  generalize (smp 9).zv = Z9 at *
  generalize (smp 10).zv = Z10 at *
  generalize (smp 30).zv = Z30 at *
  rw [pureCall_fn F8 rfl]
  simp -implicitDefEqProofs [r8, p8, ret1 m29, sp9, sp10, sp30, ret1 m10, tp9, tp10, v9, v10, ret1 m30, e0, e1, e2, e3, e4, ret1 m18, so, o0, o1, o2, o3, lit_str, lit_str2, ret0 m17, rl, u0, u1, u3, ret1 m15, h0, lit_ints3, lit_ints2, ret0 m14, w0, w1, ret0 m12, rf9, rf10, rf30, mp9, mp10, mp30, sett, b2_fst, eql_pt]
end Go.Proofs.Ytimjfondgdhfcaa.Bm
namespace Go.Proofs.Ytimjfondgdhfcaa.Bm
open Go Go.RowKit
open Rg (Rect scan scan_le putAt sortU edgesX own colC colF gstep ends)
theorem xsL_app (a b : List Rect) : xsL a ++ xsL b = xsL (a ++ b) := List.flatMap_append.symm
theorem edges_spec (k m : Option Bool) (a b : List Rect) (hk : Rec.Ok k a) (hm : Rec.Ok m b) (ha : a.length ≤ 1000) (hb : b.length ≤ 1000) : pureCall E.P (L E) 43 [rectR.o k a, rectR.o m b] = some (iT (edgesX (a ++ b))) := by
  have sp := sorted_spec (xsL (a ++ b)) (by rw [xsL_len, List.length_append]; omega)
  rw [pureCall_fn F43 rfl]
  simp -implicitDefEqProofs [r43, p43, prep_new, newK_nil s3]
  rw [LL_for (γ := List Int) a [] (fun i c => [(5, intR.sl 0 c), (6, .int .i64 i)]) (fun _ c => [intR.row 3 c])
    (fun _ rest c => (.exit 0, [(5, intR.sl 0 (c ++ xsL rest)), (6, undef)], [intR.row 3 (c ++ xsL rest)])) (fun i c => c.length = 2 * i) (by omega) rfl]
  · rw [List.nil_append]
    simp -implicitDefEqProofs [k43_3]
    rw [LL_for (γ := List Int) b (xsL a) (fun i c => [(5, intR.sl 0 c), (7, .int .i64 i)]) (fun _ c => [intR.row 3 c])
      (fun _ rest c => (.exit 2, [(5, intR.sl 0 (c ++ xsL rest)), (7, undef)], [intR.row 3 (c ++ xsL rest)])) (fun i c => c.length = 2 * a.length + 2 * i) (by omega) (xsL_len a)]
    · obtain ⟨g, fz⟩ := int_freeze (h := [intR.row 3 (xsL (a ++ b))]) (b := 0) (lo := 0) (l := xsL (a ++ b)) rfl (Nat.le_refl _)
      have e : iT (sortU (xsL (a ++ b))) = iT (edgesX (a ++ b)) := rfl
      rw [xsL_app]
      simp -implicitDefEqProofs [k43_7, prep_frz, fz, ret1 m68, iT_set, sp, e]
      rfl
    · simp -implicitDefEqProofs [k43_7]
    · rfl
    · intro nx i c hi _
      simp -implicitDefEqProofs [r43_7, k43_7, hi, Rec.o_len hm, trim_le, xsL]
    · intro nx i r rest c hi hv hd hw hc ih
      have ixi := Rec.o_index (R := rectR) (t := 55) (kk := .i64) (s := 4) rfl hm hi
      rw [hv] at ixi
      have ap := app_two' (h := [intR.row 3 c]) (b := 0) (lo := 0) (c := c) r.x0 r.x1 rfl (Nat.le_refl _) (by omega)
      have ih := ih (c ++ [r.x0, r.x1]) (by simp; omega)
      rw [xsL_cons, ← List.append_assoc]
      simp -implicitDefEqProofs [k43_7, -List.append_assoc] at ih
      simp -implicitDefEqProofs [r43_7, k43_7, hi, ixi, Rec.o_len hm, rect_val, lit_two, ap, hw, trim_le, -List.append_assoc]
      exact ih
  · simp -implicitDefEqProofs [k43_3, Rec.sl_nil]
  · rfl
  · intro nx i c hi _
    simp -implicitDefEqProofs [r43_3, k43_3, hi, Rec.o_len hk, trim_le, xsL]
  · intro nx i r rest c hi hv hd hw hc ih
    have ixi := Rec.o_index (R := rectR) (t := 55) (kk := .i64) (s := 4) rfl hk hi
    rw [hv] at ixi
    have ap := app_two' (h := [intR.row 3 c]) (b := 0) (lo := 0) (c := c) r.x0 r.x1 rfl (Nat.le_refl _) (by omega)
    have ih := ih (c ++ [r.x0, r.x1]) (by simp; omega)
    rw [xsL_cons, ← List.append_assoc]
    simp -implicitDefEqProofs [k43_3, -List.append_assoc] at ih
    simp -implicitDefEqProofs [r43_3, k43_3, hi, ixi, Rec.o_len hk, rect_val, lit_two, ap, hw, trim_le, -List.append_assoc]
    exact ih
theorem ints_spec (l r : List Int) (hl : l.length ≤ 1000000) : pureCall E.P (L E) 46 [iT l, iT r] = some (.bool (decide (l = r))) := by
  rw [pureCall_fn F46 rfl]
  simp -implicitDefEqProofs [r46, padS, iT_len]
  by_cases hlen : l.length = r.length
  · simp -implicitDefEqProofs [hlen]
    rw [LL_for (γ := Unit) l () (fun i _ => [(5, .int .i64 i)]) (fun _ _ => []) (fun i rest _ => if eqL rest (r.drop i) then (.exit 0, [(5, undef)], []) else (.ret, [(4, .bool false), (5, undef)], [])) (fun _ _ => True) (by omega) trivial]
    · cases h : eqL l r
      · have : ¬ l = r := of_decide_eq_false h
        simp -implicitDefEqProofs [this, k46_4, h]
      · have : l = r := of_decide_eq_true h
        simp -implicitDefEqProofs [this, k46_4, eqL]
    · simp -implicitDefEqProofs [k46_4]
    · rfl
    · intro nx i c hi _
      have hd0 : eqL [] (r.drop i) = true := by rw [List.drop_eq_nil_of_le (by omega)]; rfl
      rw [hd0]
      simp -implicitDefEqProofs [r46_4, k46_4, iT_len, hi, hlen, trim_le]
    · intro nx i v rest c hi hv hd hw _ ih
      have ih := ih () trivial
      have hi' : i < r.length := by omega
      have hrd : r.drop i = r[i] :: r.drop (i + 1) := List.drop_eq_getElem_cons hi'
      have ixl := iT_index hi
      have ixr := iT_index hi'
      rw [hv] at ixl
      rw [hrd, eqL_cons]
      simp -implicitDefEqProofs [k46_4] at ih
      by_cases he : v = r[i]
      · rw [he] at ixl
        simp -implicitDefEqProofs [r46_4, k46_4, iT_len, hi', hlen, ixl, ixr, hw, he, trim_le]
        exact ih
      · simp -implicitDefEqProofs [r46_4, k46_4, iT_len, hi', hlen, ixl, ixr, he, trim_le]
  · have : ¬ l = r := fun e => hlen (by rw [e])
    have hlen' : ¬ ((l.length : Int) = r.length) := by omega
    simp -implicitDefEqProofs [hlen', this]
end Go.Proofs.Ytimjfondgdhfcaa.Bm
namespace Go.Proofs.Ytimjfondgdhfcaa.Bm
open Go Go.RowKit
open Rg (Rect scan scan_le putAt sortU edgesX own own_cons colC colF gstep ends)
def insC (c : List (Int × Int)) (s : Int × Int) : List (Int × Int) := putAt c (scan (fun j => decide (s.1 < (c.map (·.1)).getD j 0)) c.length) s
theorem insC_fold : ∀ (l c : List (Int × Int)), c.Pairwise (fun a b => a.1 ≤ b.1) → (l.foldl insC c).Pairwise (fun a b => a.1 ≤ b.1) ∧ (l.foldl insC c).Perm (l ++ c)
  | [], c, h => ⟨h, .refl _⟩
  | s :: l, c, h => by
    obtain ⟨h1, h2⟩ := insC_fold l (insC c s) (Rg.putAt_sorted (key := fun p : Int × Int => p.1) h)
    refine ⟨h1, h2.trans ?_⟩
    exact ((Rg.putAt_perm c _ s).append_left l).trans List.perm_middle
theorem insC_len (c : List (Int × Int)) (s : Int × Int) : (insC c s).length = c.length + 1 := Rg.putAt_len _ _ _
theorem putAt_map {α β : Type} (f : α → β) (c : List α) (k : Nat) (s : α) : (putAt c k s).map f = putAt (c.map f) k (f s) := by
  unfold putAt
  rw [List.map_append, List.map_take, List.map_cons, List.map_drop]
theorem ref_col {l : List Rect} (hl : ∀ r ∈ l, r.y0 < r.y1) (x : Int) : ((own l x).foldl insC []).foldl gstep [] = colC l x := by
  obtain ⟨h1, h2⟩ := insC_fold (own l x) [] .nil
  rw [List.append_nil] at h2
  have hs : ∀ u ∈ (own l x).foldl insC [], u.1 < u.2 := fun u hu => by
    have hu := h2.mem_iff.1 hu
    unfold own at hu
    obtain ⟨r, hr, rfl⟩ := List.mem_map.1 hu
    exact hl r (List.mem_filter.1 hr).1
  rw [Rg.gstep_col]
  refine (Rg.colF_can h1 hs).unique (Rg.colC_ok hl x).1 fun y => ?_
  rw [Rg.colF_has h1 hs, Rg.hasS_perm h2, Rg.own_has, (Rg.colC_ok hl x).2]
theorem ends_snoc (d : List (Int × Int)) (u : Int × Int) : ends (d ++ [u]) = ends d ++ [u.1, u.2] := by
  unfold ends; rw [List.flatMap_append]; rfl
theorem ends_last {d : List (Int × Int)} {u : Int × Int} (z : Int) : (ends (d ++ [u])).set (2 * d.length + 1) z = ends (d ++ [(u.1, z)]) := by
  rw [ends_snoc, ends_snoc, List.set_append_right _ _ (by rw [Rg.ends_len]; omega), Rg.ends_len]
  rw [show 2 * d.length + 1 - 2 * d.length = 1 by omega]; rfl
theorem ends_get {d : List (Int × Int)} {u : Int × Int} (h : 2 * d.length + 1 < (ends (d ++ [u])).length) : (ends (d ++ [u]))[2 * d.length + 1] = u.2 := by
  have e := ends_snoc d u
  have : (ends (d ++ [u]))[2 * d.length + 1]? = some u.2 := by
    rw [e, List.getElem?_append_right (by rw [Rg.ends_len]; omega), Rg.ends_len, show 2 * d.length + 1 - 2 * d.length = 1 by omega]; rfl
  rw [List.getElem?_eq_getElem h] at this
  exact Option.some.inj this
theorem rcolumn_spec (k : Option Bool) (l : List Rect) (x : Int) (hk : Rec.Ok k l) (hl : l.length ≤ 1000) : pureCall E.P (L E) 45 [rectR.o k l, .int .i64 x] = some (iT (ends (((own l x).foldl insC []).foldl gstep []))) := by
  rw [pureCall_fn F45 rfl]
  simp -implicitDefEqProofs [r45, p45, prep_new, newK_nil s3]
  rw [LL_for (γ := List (Int × Int)) l [] (fun i c => [(5, intR.sl 0 (c.map (·.1))), (6, intR.sl 1 (c.map (·.2))), (7, .int .i64 i)]) (fun _ c => [intR.row 3 (c.map (·.1)), intR.row 3 (c.map (·.2))])
    (fun _ rest c => (.exit 0, [(5, intR.sl 0 (((own rest x).foldl insC c).map (·.1))), (6, intR.sl 1 (((own rest x).foldl insC c).map (·.2))), (7, undef)], [intR.row 3 (((own rest x).foldl insC c).map (·.1)), intR.row 3 (((own rest x).foldl insC c).map (·.2))])) (fun i c => c.length ≤ i) (by omega) (Nat.le_refl _)]
  · have hcl : ((own l x).foldl insC []).length ≤ 1000 := by
      rw [(insC_fold (own l x) [] .nil).2.length_eq, List.append_nil]
      have := own_len l x; omega
    generalize (own l x).foldl insC [] = c at hcl ⊢
    simp -implicitDefEqProofs [k45_4, prep_new, newK_nil s3]
    rw [LL_for (γ := List (Int × Int)) c [] (fun i d => [(9, intR.sl 2 (ends d)), (10, .int .i64 i)]) (fun _ d => [intR.row 3 (c.map (·.1)), intR.row 3 (c.map (·.2)), intR.row 3 (ends d)])
      (fun _ rest d => (.exit 4, [(9, intR.sl 2 (ends (rest.foldl gstep d))), (10, undef)], [intR.row 3 (c.map (·.1)), intR.row 3 (c.map (·.2)), intR.row 3 (ends (rest.foldl gstep d))])) (fun i d => d.length ≤ i) (by omega) (Nat.le_refl _)]
    · have rr := int_reifyR (h := [intR.row 3 (c.map (·.1)), intR.row 3 (c.map (·.2)), intR.row 3 (ends (c.foldl gstep []))]) (b := 2) (l := ends (c.foldl gstep [])) rfl
      simp -implicitDefEqProofs [k45_18, rr]
    · simp -implicitDefEqProofs [k45_18, ends, Rec.sl_nil]
    · rfl
    · intro nx i d hi _
      simp -implicitDefEqProofs [r45_18, k45_18, hi, Rec.sl_len, trim_le]
    · intro nx i s rest d hi hv hd hw hdl ih
      have ih := ih (gstep d s) (by have := gstep_len d s; omega)
      simp -implicitDefEqProofs [k45_18] at ih
      rw [List.foldl_cons]
      have hi1 : i < (c.map (·.1)).length := by simpa using hi
      have hi2 : i < (c.map (·.2)).length := by simpa using hi
      have e1 : (c.map (·.1))[i] = s.1 := by rw [List.getElem_map, hv]
      have e2 : (c.map (·.2))[i] = s.2 := by rw [List.getElem_map, hv]
      have ix1 := int_index (g := some false) (b := 0) (l := c.map (·.1)) hi1
      have ix2 := int_index (g := some false) (b := 1) (l := c.map (·.2)) hi2
      have ld1 := int_load (h := [intR.row 3 (c.map (·.1)), intR.row 3 (c.map (·.2)), intR.row 3 (ends d)]) (b := 0) (l := c.map (·.1)) (sz := some 1) rfl hi1
      have ld2 := int_load (h := [intR.row 3 (c.map (·.1)), intR.row 3 (c.map (·.2)), intR.row 3 (ends d)]) (b := 1) (l := c.map (·.2)) (sz := some 1) rfl hi2
      rw [e1] at ld1
      rw [e2] at ld2
      have ap := app_two' (h := [intR.row 3 (c.map (·.1)), intR.row 3 (c.map (·.2)), intR.row 3 (ends d)]) (b := 2) (lo := 0) (c := ends d) s.1 s.2 rfl (Nat.zero_le _) (by rw [Rg.ends_len]; omega)
      rcases List.eq_nil_or_concat d with h0 | ⟨d', u, h0⟩
      · subst h0
        have e : gstep [] s = [(s.1, s.2)] := rfl
        have en : ends [(s.1, s.2)] = [s.1, s.2] := rfl
        have e0 : ends ([] : List (Int × Int)) = [] := rfl
        rw [e, en] at ih
        rw [e]
        rw [e0] at ap ld1 ld2
        simp -implicitDefEqProofs [r45_18, k45_18, hi, ix1, ix2, ld1, ld2, e0, Rec.sl_len, lit_two, ap, hw, trim_le]
        exact ih
      · rw [List.concat_eq_append] at h0
        subst h0
        have hel : (ends (d' ++ [u])).length = 2 * d'.length + 2 := by rw [Rg.ends_len, List.length_append]; show 2 * (d'.length + 1) = _; omega
        have hn : 2 * d'.length + 1 < (ends (d' ++ [u])).length := by omega
        have wl : IntKind.i64.wrap (((ends (d' ++ [u])).length : Int) - 1) = ((2 * d'.length + 1 : Nat) : Int) := by
          rw [hel]; exact (wrap64 (by rw [List.length_append] at hdl; omega) (by rw [List.length_append] at hdl; omega)).trans (by omega)
        have hpos : (0 : Int) < ((ends (d' ++ [u])).length : Int) := by omega
        have hposN : 0 < (ends (d' ++ [u])).length := by omega
        have ix3 := int_index (g := some false) (b := 2) (l := ends (d' ++ [u])) hn
        have ld3 := int_load (h := [intR.row 3 (c.map (·.1)), intR.row 3 (c.map (·.2)), intR.row 3 (ends (d' ++ [u]))]) (b := 2) (l := ends (d' ++ [u])) (sz := some 1) rfl hn
        rw [ends_get hn] at ld3
        have st3 := int_store (h := [intR.row 3 (c.map (·.1)), intR.row 3 (c.map (·.2)), intR.row 3 (ends (d' ++ [u]))]) (b := 2) (lo := 0) (l := ends (d' ++ [u])) (max u.2 s.2) rfl (Nat.zero_le _) hn
        rw [ends_last] at st3
        generalize hpn : ((2 * d'.length + 1 : Nat) : Int) = pn at *
        rw [Rg.gstep_snoc] at ih ⊢
        by_cases hs : s.1 ≤ u.2
        · rw [if_pos hs] at ih ⊢
          have esl : intR.sl 2 (ends (d' ++ [(u.1, max u.2 s.2)])) = intR.sl 2 (ends (d' ++ [u])) := int_sl (by rw [Rg.ends_len, Rg.ends_len]; simp)
          rw [esl] at ih
          simp -implicitDefEqProofs [r45_18, k45_18, hi, ix1, ix2, ld1, ld2, Rec.sl_len, hposN, wl, ix3, ld3, hs, max_int, st3, hw, trim_le]
          exact ih
        · rw [if_neg hs] at ih ⊢
          have ea : d' ++ [u, s] = (d' ++ [u]) ++ [s] := by rw [List.append_assoc]; rfl
          rw [ea, ends_snoc (d' ++ [u]) s] at ih
          rw [ea]
          simp -implicitDefEqProofs [r45_18, k45_18, hi, ix1, ix2, ld1, ld2, Rec.sl_len, hposN, wl, ix3, ld3, hs, lit_two, ap, hw, trim_le, -List.append_assoc]
          exact ih
  · simp -implicitDefEqProofs [k45_4, Rec.sl_nil]
  · rfl
  · intro nx i c hi _
    simp -implicitDefEqProofs [r45_4, k45_4, hi, Rec.o_len hk, trim_le, own]
  · intro nx i r rest c hi hv hd hw hc ih
    have ixi := Rec.o_index (R := rectR) (t := 55) (kk := .i64) (s := 4) rfl hk hi
    rw [hv] at ixi
    rw [own_cons]
    by_cases h1 : r.x0 ≤ x
    case neg =>
      have h1' : x < r.x0 := by omega
      have ih := ih c (by omega)
      rw [if_neg (fun e => h1 e.1), List.nil_append]
      simp -implicitDefEqProofs [k45_4] at ih
      simp -implicitDefEqProofs [r45_4, k45_4, hi, ixi, Rec.o_len hk, rect_val, h1', hw, trim_le]
      exact ih
    have h1' : ¬ (x < r.x0) := by omega
    by_cases h2 : x < r.x1
    case neg =>
      have h2' : r.x1 ≤ x := by omega
      have ih := ih c (by omega)
      rw [if_neg (fun e => h2 e.2), List.nil_append]
      simp -implicitDefEqProofs [k45_4] at ih
      simp -implicitDefEqProofs [r45_4, k45_4, hi, ixi, Rec.o_len hk, rect_val, h1', h2', hw, trim_le]
      exact ih
    have h2' : ¬ (r.x1 ≤ x) := by omega
    rw [if_pos ⟨h1, h2⟩]
    have ih := ih (insC c (r.y0, r.y1)) (by rw [insC_len]; omega)
    simp -implicitDefEqProofs [k45_4] at ih
    have ap1 := app_num (h := [intR.row 3 (c.map (·.1)), intR.row 3 (c.map (·.2))]) (b := 0) (lo := 0) (c := c.map (·.1)) 0 rfl (Nat.le_refl _) (by simp; omega)
    have ap2 := app_num (h := [intR.row 3 (c.map (·.1) ++ [0]), intR.row 3 (c.map (·.2))]) (b := 1) (lo := 0) (c := c.map (·.2)) 0 rfl (Nat.zero_le _) (by simp; omega)
    have hf : (c.map (·.1)).length = c.length := List.length_map _
    have ht : (c.map (·.2)).length = c.length := List.length_map _
    have ec1 : (insC c (r.y0, r.y1)).map (·.1) = putAt (c.map (·.1)) (scan (fun j => decide (r.y0 < (c.map (·.1)).getD j 0)) c.length) r.y0 := putAt_map _ _ _ _
    have ec2 : (insC c (r.y0, r.y1)).map (·.2) = putAt (c.map (·.2)) (scan (fun j => decide (r.y0 < (c.map (·.1)).getD j 0)) c.length) r.y1 := putAt_map _ _ _ _
    rw [ec1, ec2] at ih
    rw [List.singleton_append, List.foldl_cons]
    generalize (own rest x).foldl insC (insC c (r.y0, r.y1)) = C at ih ⊢
    clear ec1 ec2
    have hcl : c.length ≤ 1000 := by omega
    generalize c.map (·.1) = f at *
    generalize c.map (·.2) = t at *
    generalize c.length = n at *
    have gd : ∀ j (hj : j < f.length), f.getD j 0 = f[j] := fun j hj => by rw [List.getD_eq_getElem?_getD, List.getElem?_eq_getElem hj]; rfl
    have hsc := scan_le (fun j => decide (r.y0 < f.getD j 0)) n
    have esf : ∀ m, m ≤ n → intR.sl 0 (shiftRow f m) = intR.sl 0 (f ++ [0]) := fun m hm => int_sl (by rw [shiftRow_len (by omega)]; simp)
    have est : ∀ m, m ≤ n → intR.sl 1 (shiftRow t m) = intR.sl 1 (t ++ [0]) := fun m hm => int_sl (by rw [shiftRow_len (by omega)]; simp)
    have ixf := fun (m : Nat) (hm : m ≤ n) (j : Nat) (hj : j < n + 1) => (esf m hm) ▸ int_index (g := some false) (b := 0) (l := shiftRow f m) (i := j) (by rw [shiftRow_len (by omega)]; omega)
    have ixt := fun (m : Nat) (hm : m ≤ n) (j : Nat) (hj : j < n + 1) => (est m hm) ▸ int_index (g := some false) (b := 1) (l := shiftRow t m) (i := j) (by rw [shiftRow_len (by omega)]; omega)
    have top1 : shiftRow f n = f ++ [0] := by rw [← hf]; exact shiftRow_top f
    have top2 : shiftRow t n = t ++ [0] := by rw [← ht]; exact shiftRow_top t
    simp -implicitDefEqProofs [r45_4, k45_4, hi, ixi, Rec.o_len hk, rect_val, h1', h2', Rec.sl_len, hf, lit_num, ap1, ap2]
    rw [LL_rec (α := Nat) n (fun m => [(8, .int .i64 (m : Int))]) (fun m => [intR.row 3 (shiftRow f m), intR.row 3 (shiftRow t m)])
      (fun m => (.exit 2, [(8, .int .i64 ((scan (fun j => decide (r.y0 < f.getD j 0)) m : Nat) : Int))], [intR.row 3 (shiftRow f (scan (fun j => decide (r.y0 < f.getD j 0)) m)), intR.row 3 (shiftRow t (scan (fun j => decide (r.y0 < f.getD j 0)) m))])) (fun m => m ≤ n) (fun m => m)]
    · generalize scan (fun j => decide (r.y0 < f.getD j 0)) n = k at hsc ih ⊢
      have sp1 : intR.sl 0 (putAt f k r.y0) = intR.sl 0 (f ++ [0]) := int_sl (by rw [Rg.putAt_len]; simp)
      have sp2 : intR.sl 1 (putAt t k r.y1) = intR.sl 1 (t ++ [0]) := int_sl (by rw [Rg.putAt_len]; simp)
      rw [sp1, sp2] at ih
      have ix1 := ixf k hsc k (by omega)
      have ix2 := ixt k hsc k (by omega)
      have st1 := int_store (h := [intR.row 3 (shiftRow f k), intR.row 3 (shiftRow t k)]) (b := 0) (lo := 0) (l := shiftRow f k) (i := k) r.y0 rfl (Nat.le_refl _) (by rw [shiftRow_len (by omega)]; omega)
      rw [shiftRow_set (by omega)] at st1
      have st2 := int_store (h := [intR.row 3 (putAt f k r.y0), intR.row 3 (shiftRow t k)]) (b := 1) (lo := 0) (l := shiftRow t k) (i := k) r.y1 rfl (Nat.zero_le _) (by rw [shiftRow_len (by omega)]; omega)
      rw [shiftRow_set (by omega)] at st2
      simp -implicitDefEqProofs [k45_10, ix1, ix2, ixi, rect_val, st1, st2, hw, trim_le]
      exact ih
    · exact Nat.le_refl _
    · simp -implicitDefEqProofs [k45_10]
    · simp only [top1, top2]
    · intro nx m hm ih
      cases m with
      | zero => simp -implicitDefEqProofs [r45_10, k45_10, scan, trim_le]
      | succ m =>
        have hmf : m < f.length := by omega
        have hmt : m < t.length := by omega
        have w3 : IntKind.i64.wrap ((m : Int) + 1 - 1) = (m : Int) := (wrap64 (by omega) (by omega)).trans (by omega)
        have w4 : IntKind.i64.wrap (m : Int) = (m : Int) := wrap64 (by omega) (by omega)
        have hpos : (0 : Int) < (m : Int) + 1 := by omega
        have e : scan (fun j => decide (r.y0 < f.getD j 0)) (m + 1) = if decide (r.y0 < f.getD m 0) then scan (fun j => decide (r.y0 < f.getD j 0)) m else m + 1 := rfl
        rw [e, gd m hmf]
        have ixa := ixf (m + 1) (by omega) m (by omega)
        have ixb := ixf (m + 1) (by omega) (m + 1) (by omega)
        have iya := ixt (m + 1) (by omega) m (by omega)
        have iyb := ixt (m + 1) (by omega) (m + 1) (by omega)
        have lda := int_load (h := [intR.row 3 (shiftRow f (m + 1)), intR.row 3 (shiftRow t (m + 1))]) (b := 0) (l := shiftRow f (m + 1)) (i := m) (sz := some 1) rfl (by rw [shiftRow_len (by omega)]; omega)
        rw [shiftRow_get (by omega) (by omega)] at lda
        have sta := int_store (h := [intR.row 3 (shiftRow f (m + 1)), intR.row 3 (shiftRow t (m + 1))]) (b := 0) (lo := 0) (l := shiftRow f (m + 1)) (i := m + 1) f[m] rfl (Nat.le_refl _) (by rw [shiftRow_len (by omega)]; omega)
        rw [shiftRow_down (by omega)] at sta
        have ldb := int_load (h := [intR.row 3 (shiftRow f m), intR.row 3 (shiftRow t (m + 1))]) (b := 1) (l := shiftRow t (m + 1)) (i := m) (sz := some 1) rfl (by rw [shiftRow_len (by omega)]; omega)
        rw [shiftRow_get (by omega) (by omega)] at ldb
        have stb := int_store (h := [intR.row 3 (shiftRow f m), intR.row 3 (shiftRow t (m + 1))]) (b := 1) (lo := 0) (l := shiftRow t (m + 1)) (i := m + 1) t[m] rfl (Nat.zero_le _) (by rw [shiftRow_len (by omega)]; omega)
        rw [shiftRow_down (by omega)] at stb
        push_cast at ixb iyb
        have ih := ih m (by omega) (by omega)
        simp -implicitDefEqProofs [k45_10] at ih
        by_cases hz : r.y0 < f[m]
        · simp -implicitDefEqProofs [r45_10, k45_10, hpos, w4, ixa, ixb, iya, iyb, lda, ldb, sta, stb, ixi, rect_val, hz, trim_le]
          exact ih
        · simp -implicitDefEqProofs [r45_10, k45_10, hpos, w4, ixa, lda, ixi, rect_val, hz, trim_le]
end Go.Proofs.Ytimjfondgdhfcaa.Bm
