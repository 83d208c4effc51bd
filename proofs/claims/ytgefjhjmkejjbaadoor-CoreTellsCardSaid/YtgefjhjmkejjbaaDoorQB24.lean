/-
 Chapter 27: comparing names and proofs, and the laws' limits. Conditions: lists that are not too long for an index.
-/
import Derived.Test.YtgefjhjmkejjbaaDoorQB23
namespace Go.Proofs.YtgefjhjmkejjbaaDoor.Bm
open Go Go.RowKit
open Co (ltB ascB rem maskF allF Gath)
def npH (B : Nat) (VA : Value) (tb : List (ByteArray × Value)) (ns : List ByteArray) : Heap := [mapB Value.string tb, AObj.cells 63 [VA, Enc.sl (B + 2) ns, .map (some B)] 0, strE.row 9 ns]
theorem npH_len {B : Nat} {VA : Value} {tb : List (ByteArray × Value)} {ns : List ByteArray} : (npH B VA tb ns).length = 3 := rfl
structure UB where
 b : Bool
structure NpO (L : List (List ByteArray)) (tb : List (ByteArray × Value)) (ns : List ByteArray) : Prop where
 ts : ∀ s, (aget tb s).getD (setV 0) = setV (maskF L s)
 fl : ∀ q ∈ tb, flat q.2 = true
 g : Gath L ns
theorem tb_look {L : List (List ByteArray)} {tb : List (ByteArray × Value)} {H : Heap} {m : Nat} (hm : H[m]? = some (mapB Value.string tb)) (ht : ∀ s, (aget tb s).getD (setV 0) = setV (maskF L s)) (s : ByteArray) : lookupT E.P (some ⟨9, some (.int .u64 0)⟩) H (.map (some m)) (.string s) false = some (setV (maskF L s)) := by
 have h2 := ht s
 cases hg : aget tb s with
 | none =>
  rw [hg] at h2
  rw [lookup_none (zv := .int .u64 0) strK rfl hm hg, ← h2]; rfl
 | some v =>
  rw [hg] at h2
  have h2 : v = setV (maskF L s) := h2
  rw [lookup_some (z := some (.int .u64 0)) strK rfl hm hg, h2]; rfl
theorem mask_lt64 {L : List (List ByteArray)} (hL : L.length ≤ 64) (s : ByteArray) : maskF L s < 2 ^ 64 := by
 refine lt_of_bits fun i hi => ?_
 cases q : (maskF L s).testBit i
 ·rfl
 ·have := Co.mask_lt _ _ q
  omega
theorem NpO.row {L : List (List ByteArray)} {tb : List (ByteArray × Value)} {ns : List ByteArray} (o : NpO L tb ns) : NpO (L ++ [[]]) tb ns := ⟨fun s => by rw [o.ts, Co.mask_snoc_nil], o.fl, o.g.row⟩
theorem NpO.step {L : List (List ByteArray)} {a : List ByteArray} {tb : List (ByteArray × Value)} {ns : List ByteArray} {x : ByteArray} (o : NpO (L ++ [a]) tb ns) :
  NpO (L ++ [a ++ [x]]) (aset tb x (setV (maskF (L ++ [a]) x ||| 2 ^ L.length))) (if maskF (L ++ [a]) x = 0 then ns ++ [x] else ns) := ⟨fun s => by
  rw [aget_set, Co.mask_more]
  by_cases h : x = s
  ·subst h
   rw [if_pos rfl, if_pos rfl]; rfl
  ·rw [if_neg h, if_neg (fun q => h q.symm), o.ts], fun q hq => by
  rcases aset_mem hq with hq | hq
  ·exact o.fl q hq
  ·rw [hq]; rfl, by
  split
  ·rename_i h; exact o.g.new h
  ·rename_i h; exact o.g.old h⟩
def gth (L : List (List ByteArray)) : List ByteArray → List ByteArray → List (ByteArray × Value) → List ByteArray → List (ByteArray × Value) × List ByteArray
 | [], _, tb, ns => (tb, ns)
 | s :: r, pre, tb, ns => gth L r (pre ++ [s]) (aset tb s (setV (maskF (L ++ [pre]) s ||| 2 ^ L.length))) (if maskF (L ++ [pre]) s = 0 then ns ++ [s] else ns)
theorem gth_ok {L : List (List ByteArray)} : ∀ {r pre : List ByteArray} {tb : List (ByteArray × Value)} {ns : List ByteArray}, NpO (L ++ [pre]) tb ns → NpO (L ++ [pre ++ r]) (gth L r pre tb ns).1 (gth L r pre tb ns).2 ∧ (gth L r pre tb ns).2.length ≤ ns.length + r.length
 | [], pre, tb, ns, o => ⟨by rw [List.append_nil]; exact o, by show ns.length ≤ ns.length + 0; omega⟩
 | s :: r, pre, tb, ns, o => by
  obtain ⟨h1, h2⟩ := gth_ok (r := r) o.step
  rw [List.append_assoc] at h1
  refine ⟨h1, ?_⟩
  rw [List.length_cons]
  show (gth L r (pre ++ [s]) _ _).2.length ≤ _
  split at h2 <;> rename_i q
  ·rw [List.length_append, List.length_singleton] at h2
   simp only [q, if_true] at h2 ⊢
   omega
  ·simp only [q, if_false] at h2 ⊢
   omega
section
variable {h : Heap}
set_option maxHeartbeats 4000000 in
theorem gath_loop {lo i : Nat} {VA VS : Value} {aa : List ByteArray} {L : List (List ByteArray)} {tb : List (ByteArray × Value)} {ns : List ByteArray} (hlo : lo ≤ h.length) (hi : i < 64) (hL : L.length = i) (hla : aa.length ≤ 1000) (hns : ns.length ≤ 1000) (o : NpO (L ++ [[]]) tb ns)
  (ia : ∀ (j : Nat) (hj : j < aa.length), indexAddrT (.sl 9 ⟨some false, some 1⟩) VS (.int .i64 (j : Int)) = some (cptr (.string aa[j])))
  (y0 y1 y2 y3 y5 y7 y8 y9 y10 y11 y12 y13 y14 y15 y16 y17 y18 y19 y20 y21 y22 y23 y24 y25 y26 y27 y28 y29 y30 y31 y32 y33 y34 y35 y36 y37 y38 y39 y40 y41 y42 y46 y47 y48 y49 y50 y51 y52 y53 y54 y55 y56 y57 y58 y59 y60 y61 y62 y63 y64 y65 y66 y67 y68 y69 y70 y71 y72 y73 y74 y75 y76 y77 y78 y79 y80 y81 y82 y83 : Value) :
  LL k23_12 (evR E (Bm.L E) LL lo r23_12) (blk y0 y1 y2 y3 (ptr (h.length + 1)) y5 (.int .i64 (i : Int)) y7 y8 y9 y10 y11 y12 y13 y14 y15 (blk y16 y17 y18 y19 y20 y21 y22 y23 y24 y25 y26 y27 y28 y29 y30 y31 (blk y32 y33 y34 y35 y36 y37 y38 y39 y40 y41 y42 VS (.int .i64 (aa.length : Int)) (.int .i64 0) y46 y47 (blk y48 y49 y50 y51 y52 y53 y54 y55 y56 y57 y58 y59 y60 y61 y62 y63 (blk y64 y65 y66 y67 y68 y69 y70 y71 y72 y73 y74 y75 y76 y77 y78 y79 ([y80, y81, y82, y83])))))) (h ++ npH h.length VA tb ns) = fin (forget k23_12.1 (blk y0 y1 y2 y3 (ptr (h.length + 1)) y5 (.int .i64 (i : Int)) y7 y8 y9 y10 y11 y12 y13 y14 y15 (blk y16 y17 y18 y19 y20 y21 y22 y23 y24 y25 y26 y27 y28 y29 y30 y31 (blk y32 y33 y34 y35 y36 y37 y38 y39 y40 y41 y42 VS (.int .i64 (aa.length : Int)) (.int .i64 0) y46 y47 (blk y48 y49 y50 y51 y52 y53 y54 y55 y56 y57 y58 y59 y60 y61 y62 y63 (blk y64 y65 y66 y67 y68 y69 y70 y71 y72 y73 y74 y75 y76 y77 y78 y79 ([y80, y81, y82, y83]))))))) (.exit 2, [(45, undef)], h ++ npH h.length VA (gth L aa [] tb ns).1 (gth L aa [] tb ns).2) := by
 have g1 : ∀ tb ns sz, loadT ⟨some false, sz⟩ (h ++ npH h.length VA tb ns) (.pointer (some ⟨h.length + 1, 1, none⟩)) = some (Enc.sl (h.length + 2) ns) := fun tb ns sz => obj_load (get_at (k := 1) rfl) rfl
 have g2 : ∀ tb ns sz, loadT ⟨some false, sz⟩ (h ++ npH h.length VA tb ns) (.pointer (some ⟨h.length + 1, 2, none⟩)) = some (.map (some h.length)) := fun tb ns sz => obj_load (get_at (k := 1) rfl) rfl
 have hm : ∀ tb ns, (h ++ npH h.length VA tb ns)[h.length]? = some (mapB Value.string tb) := fun tb ns => get_at (k := 0) rfl
 have bsh := bin_shlU (P := E.P) (t := 58) (n := i) hi
 rw [show setV 1 = .int .u64 1 from rfl] at bsh
 have h2i : 2 ^ i < 2 ^ 64 := Nat.pow_lt_pow_right (by omega) hi
 rw [LL_for (γ := List (ByteArray × Value) × List ByteArray) aa (tb, ns) (fun j _ => [(45, .int .i64 (j : Int))]) (fun _ c => h ++ npH h.length VA c.1 c.2) (fun j rest c => (.exit 2, [(45, undef)], h ++ npH h.length VA (gth L rest (aa.take j) c.1 c.2).1 (gth L rest (aa.take j) c.1 c.2).2))
  (fun j c => NpO (L ++ [aa.take j]) c.1 c.2 ∧ c.2.length ≤ 1000 + j) (by omega) ⟨o, by show ns.length ≤ 1000 + 0; omega⟩]
 ·rw [List.take_zero]
 ·simp -implicitDefEqProofs [k23_12]
 ·rfl
 ·intro nx j c hj _
  simp -implicitDefEqProofs [r23_12, k23_12, hj, gth, trim_le]
 ·intro nx j v rest c hj hv hd hw1 hc ih
  obtain ⟨tb, ns⟩ := c
  obtain ⟨hO, hl⟩ := hc
  have hl : ns.length ≤ 1000 + j := hl
  have hO : NpO (L ++ [aa.take j]) tb ns := hO
  have hj2 : ((j : Int) < aa.length) := by omega
  have x1 := ia j hj
  rw [hv] at x1
  have htk : aa.take (j + 1) = aa.take j ++ [v] := by rw [← hv]; exact List.take_succ_eq_append_getElem hj
  have lk := fun tb ns (ts : ∀ s, (aget tb s).getD (setV 0) = setV (maskF (L ++ [aa.take j]) s)) => tb_look (hm tb ns) ts v
  have lk1 := lk tb ns hO.ts
  have hM : maskF (L ++ [aa.take j]) v < 2 ^ 64 := mask_lt64 (by rw [List.length_append, List.length_singleton]; omega) v
  have bo := bin_orU (P := E.P) (t := 58) hM h2i
  have be := mk_eq (P := E.P) (t := 58) (a := maskF (L ++ [aa.take j]) v) (b := 0)
  rw [show setV 0 = .int .u64 0 from rfl] at be
  have pt : ∀ tb ns x, mapPutT E.P (some ⟨9, some (.int .u64 0)⟩) (h ++ npH h.length VA tb ns) lo (.map (some h.length)) (.string v) x = some (h ++ npH h.length VA (aset tb v x) ns) := fun tb ns x => by
   rw [put_map strK (hm tb ns) hlo]
   have := set_at (h := h) (L := npH h.length VA tb ns) (k := 0) (x := mapB Value.string (aset tb v x))
   rw [Nat.add_zero] at this
   rw [this]; rfl
  have st := hO.step (x := v)
  rw [hL] at st
  have ec : (((j + 1 : Nat) : Int)) = (j : Int) + 1 := by omega
  have ih := fun c' hc' => ih c' hc'
  rw [ec] at ih
  simp -implicitDefEqProofs [k23_12] at ih
  rw [show gth L (v :: rest) (aa.take j) tb ns = gth L rest (aa.take j ++ [v]) (aset tb v (setV (maskF (L ++ [aa.take j]) v ||| 2 ^ L.length))) (if maskF (L ++ [aa.take j]) v = 0 then ns ++ [v] else ns) from rfl, hL, ← htk]
  have li : ∀ H, buildSliceT (some elStr) false H 1 #[(0, .string v)] = some (lst true (strE.vals [v]), H) := fun H => Enc.lit (O := strE) v rfl rfl rfl
  rw [← htk] at st
  generalize maskF (L ++ [aa.take j]) v = M at *
  by_cases hz : M = 0
  ·subst hz
   rw [decide_eq_true rfl] at be
   rw [if_pos rfl] at st ⊢
   rw [Nat.zero_or] at st bo ⊢
   have ih := ih _ _ st (by rw [List.length_append, List.length_singleton]; omega)
   obtain ⟨H, ap, s3⟩ : ∃ H, appendT (some elStr) (h ++ npH h.length VA tb ns) lo false (Enc.sl (h.length + 2) ns) (lst true (strE.vals [v])) = some (Enc.sl (h.length + 2) (ns ++ [v]), H) ∧ storeT (some 1) H lo (Enc.sl (h.length + 2) (ns ++ [v])) (.pointer (some ⟨h.length + 1, 1, none⟩)) = some (h ++ npH h.length VA tb (ns ++ [v])) := by
    have e1 := Enc.app (O := strE) (el := elStr) (lo := lo) (m := [v]) (h := h ++ npH h.length VA tb ns) (b := h.length + 2) (t := 9) (l := ns) rfl (get_at (k := 2) rfl) (Enc.cells_tree (O := strE) (x := true)) (by omega) (by show (ns.length + 1) * 16 ≤ _; omega)
    refine ⟨_, e1, ?_⟩
    rw [set_at]
    have := obj_store (h := h ++ (npH h.length VA tb ns).set 2 (strE.row 9 (ns ++ [v]))) (b := h.length + 1) (j := 1) (lo := lo) (t := 63) (c := [VA, Enc.sl (h.length + 2) ns, .map (some h.length)]) (v := Enc.sl (h.length + 2) (ns ++ [v])) (get_at (k := 1) rfl) (by simp) (by omega) rfl
    refine this.trans ?_
    rw [set_at]; rfl
   have lk2 := lk tb (ns ++ [v]) hO.ts
   simp -implicitDefEqProofs [r23_12, k23_12, hj2, x1, g1, g2, rop_nilT, nilT_ptr, lk1, lk2, be, li, ap, s3, bsh, bo, pt, hw1, ih, npH_len, trim_le]
  ·rw [decide_eq_false hz] at be
   rw [if_neg hz] at st ⊢
   have ih := ih _ _ st (by omega)
   simp -implicitDefEqProofs [r23_12, k23_12, hj2, x1, g2, rop_nilT, nilT_ptr, lk1, be, bsh, bo, pt, hw1, ih, npH_len, trim_le]
end
def badX (a : List ByteArray) : Bool := decide (12 < a.length) || !ascB ltB a
structure NpR (A : List (Option Bool × List ByteArray)) (K : Option Bool) (h : Heap) (v : Value) (e : Heap) : Prop where
 wf : WF (h ++ e)
 v : v = ptr (h.length + 1)
 pb : Pb (h ++ e) (h.length + 1) (h.length + 2) h.length K A (Co.namesF ltB (als A))
 r : h.length + 2 < (h ++ e).length
def NpG (A : List (Option Bool × List ByteArray)) (K : Option Bool) (h : Heap) (X : Res) : Prop := ∃ v e, X = some (.tuple #[v, .int .i64 (Co.errF ltB 1 4 (als A))], h ++ e) ∧ (Co.errF ltB 1 4 (als A) = 0 → NpR A K h v e)
section
variable {h : Heap} {K : Option Bool} {A : List (Option Bool × List ByteArray)}
set_option maxHeartbeats 8000000 in
theorem newProblem_spec (hw : WF h) (hK : Enc.Ok K A) (hrow : ∀ a ∈ A, Enc.Ok a.1 a.2) (hsm : ∀ a ∈ A, a.2.length ≤ 1000000) (hA : A.length ≤ 1000000) {lo : Nat} (hlo : lo ≤ h.length) : NpG A K h (L E 23 [listE.o K A] h lo) := by
 have sS : szOf E.P 9 = some 1 := by kernel_rfl
 have ll : ∀ H, lenT .sl H (listE.o K A) = some (.int .i64 A.length) := fun H => Enc.o_len hK
 have il : ∀ (i : Nat) (hi : i < A.length), indexAddrT (.sl 23 ⟨some false, some 1⟩) (listE.o K A) (.int .i64 (i : Int)) = some (cptr (listE.e A[i])) := fun i hi => Enc.index_o hK hi
 have eal : (als A).length = A.length := by unfold als; rw [List.length_map]
 have cA : cellsOf (listE.o K A) = some [listE.o K A] := Enc.o_cellsOf
 have bV : ∀ n, below 8 n (listE.o K A) = true := fun n => Enc.o_bel
 have fp : flat (.pointer none) = true := rfl
 rw [L_fn F23 rfl]
 by_cases hc : A.length < 1 ∨ 8 < A.length
 ·have he : Co.errF ltB 1 4 (als A) = 1 := by
   unfold Co.errF Co.badA
   rw [eal, if_pos]
   rcases hc with hc | hc <;> simp [hc]
  refine ⟨.pointer none, [], ?_, fun q => by rw [he] at q; cases q⟩
  rw [he, List.append_nil]
  rcases hc with hc | hc
  ·have hc' : (A.length : Int) < 1 := by omega
   generalize listE.o K A = VA at *
   simp -implicitDefEqProofs [r23, p23, ll, hc', fp]
  ·have hc1 : ¬ (A.length : Int) < 1 := by omega
   have hc2 : (8 : Int) < (A.length : Int) := by omega
   generalize listE.o K A = VA at *
   simp -implicitDefEqProofs [r23, p23, ll, hc1, hc2, fp]
 have hc1 : ¬ (A.length : Int) < 1 := by omega
 have hc2 : ¬ (8 : Int) < (A.length : Int) := by omega
 have hA8 : A.length ≤ 8 := by omega
 have bt : buildT (Bl.fs ⟨[Value.slice none 0 0, Value.slice none 0 0, Value.map none]⟩ ⟨[(0, 1), (1, 1), (2, 1)]⟩) #[(0, listE.o K A), (2, .map (some h.length))] = some (.agg ⟨[listE.o K A, .slice none 0 0, .map (some h.length)]⟩) := by cases K <;> rfl
 generalize hVA : listE.o K A = VA at *
 have cb : cellsOf (.agg ⟨[VA, .slice none 0 0, .map (some h.length)]⟩) = some [VA, .slice none 0 0, .map (some h.length)] := rfl
 have nc : ∀ σ, newcK E.P lo (h ++ [AObj.map [] 0, AObj.cells 63 [VA, .slice none 0 0, .map (some h.length)] 0]) σ 1 9 (ptr (h.length + 1)) = some (σ, h ++ npH h.length VA [] []) := fun σ => by
  have := newcK_cell (P := E.P) (σ := σ) (lo := lo) (t := 9) (b := h.length + 1) (off := 0) (d := 1) (n := 0) (sp := none) (h := h ++ [AObj.map [] 0, AObj.cells 63 [VA, .slice none 0 0, .map (some h.length)] 0]) (c := [VA, .slice none 0 0, .map (some h.length)]) (g := 0) (get_at (k := 1) rfl) rfl sS (by omega)
  rw [this, set_at, List.append_assoc, List.length_append]; rfl
 have g1 : ∀ tb ns sz, loadT ⟨some false, sz⟩ (h ++ npH h.length VA tb ns) (.pointer (some ⟨h.length + 1, 1, none⟩)) = some (Enc.sl (h.length + 2) ns) := fun tb ns sz => obj_load (get_at (k := 1) rfl) rfl
 have g2 : ∀ tb ns sz, loadT ⟨some false, sz⟩ (h ++ npH h.length VA tb ns) (.pointer (some ⟨h.length + 1, 2, none⟩)) = some (.map (some h.length)) := fun tb ns sz => obj_load (get_at (k := 1) rfl) rfl
 have hm : ∀ tb ns, (h ++ npH h.length VA tb ns)[h.length]? = some (mapB Value.string tb) := fun tb ns => get_at (k := 0) rfl
 simp -implicitDefEqProofs [r23, p23, ll, hc1, hc2, fp, prep_newc, bt, cb, nc]
 generalize hbad : (als A).any badX = bad
 refine ux_goal (G := fun X => NpG A K h (retK [RRes.tmp 2, RRes.tmp 3] (seqC E (L E) LL lo (blkK 0 X) _)))
  (LL_ux (α := Nat × List (ByteArray × Value) × List ByteArray × Bool) (U := UB) (0, [], [], false) (fun a => [(5, .bool a.2.2.2), (24, .int .i64 (a.1 : Int))]) (fun a => h ++ npH h.length VA a.2.1 a.2.2.1)
   (if bad = true then .ret else .exit 0) (fun u => if bad = true then [(2, .pointer none), (3, .int .i64 1), (5, .bool u.b), (24, undef)] else [(5, .bool u.b), (24, undef)])
   (fun u h' => ∃ tb ns, h' = h ++ npH h.length VA tb ns ∧ (bad = false → u.b = (als A).any (·.isEmpty) ∧ NpO (als A) tb ns))
   (fun a => a.1 ≤ A.length ∧ NpO ((als A).take a.1) a.2.1 a.2.2.1 ∧ a.2.2.1.length ≤ 12 * a.1 ∧ a.2.2.2 = ((als A).take a.1).any (·.isEmpty) ∧ ((als A).drop a.1).any badX = bad)
   (fun a => A.length - a.1) ?_ ?_ ?_ ?_) ?_
 ·exact ⟨Nat.zero_le _, ⟨fun s => rfl, fun q hq => (by cases hq), Co.gath_nil⟩, Nat.le_refl _, rfl, hbad⟩
 ·simp -implicitDefEqProofs [k23_6]
 ·rfl
 ·intro nx a ha ihl
  obtain ⟨i, tb, ns, em⟩ := a
  obtain ⟨c1, c2, c3, c4, c5⟩ := ha
  simp only at c1 c2 c3 c4 c5 ihl ⊢
  by_cases hi : i < A.length
  case neg =>
   have ei : i = A.length := by omega
   subst ei
   rw [List.drop_eq_nil_of_le (by omega)] at c5
   have c5 : bad = false := c5.symm
   subst c5
   rw [List.take_of_length_le (by omega)] at c2 c4
   refine ⟨⟨em⟩, h ++ npH h.length VA tb ns, ?_, tb, ns, rfl, fun _ => ⟨c4, c2⟩⟩
   simp -implicitDefEqProofs [r23_6, k23_6, trim_le]
  have hi2 : (i : Int) < (A.length : Int) := by omega
  have x1 := il i hi
  have lA : ∀ H sz, loadT ⟨some false, sz⟩ H (cptr (listE.e A[i])) = some (strE.o A[i].1 A[i].2) := fun H sz => Enc.load_e (O := listE) _
  have hka := hrow _ (List.getElem_mem hi)
  have hla := hsm _ (List.getElem_mem hi)
  have la : ∀ H, lenT .sl H (strE.o A[i].1 A[i].2) = some (.int .i64 A[i].2.length) := fun H => Enc.o_len hka
  have ia : ∀ (j : Nat) (hj : j < A[i].2.length), indexAddrT (.sl 9 ⟨some false, some 1⟩) (strE.o A[i].1 A[i].2) (.int .i64 (j : Int)) = some (cptr (.string A[i].2[j])) := fun j hj => Enc.index_o hka hj
  have rfs : ∀ H, reify E.P 8 H (strE.o A[i].1 A[i].2) = some (strE.o A[i].1 A[i].2) := fun H => Enc.o_reify
  have as_ := ascS_spec A[i].1 A[i].2 hka hla
  have wi : IntKind.i64.wrap ((i : Int) + 1) = ((i + 1 : Nat) : Int) := (wrap64 (by omega) (by omega)).trans (by omega)
  have hd : (als A).drop i = A[i].2 :: (als A).drop (i + 1) := by
   unfold als
   rw [← List.map_drop, List.drop_eq_getElem_cons hi, List.map_cons, List.map_drop]
  have htk : (als A).take (i + 1) = (als A).take i ++ [A[i].2] := by
   rw [List.take_succ_eq_append_getElem (by omega)]
   unfold als
   rw [List.getElem_map]
  rw [hd, List.any_cons] at c5
  generalize cptr (listE.e A[i]) = VE at *
  generalize A[i].2 = aa at *
  generalize strE.o A[i].1 aa = VS at *
  by_cases hb : badX aa = true
  ·rw [hb, Bool.true_or] at c5
   subst c5
   refine ⟨⟨em⟩, h ++ npH h.length VA tb ns, ?_, tb, ns, rfl, fun q => by cases q⟩
   by_cases h12 : 12 < aa.length
   ·have h12' : (12 : Int) < (aa.length : Int) := by omega
    simp -implicitDefEqProofs [r23_6, k23_6, hi2, x1, lA, la, h12', fp, trim_le]
   ·have h12' : ¬ (12 : Int) < (aa.length : Int) := by omega
    have hasc : ascB ltB aa = false := by
     unfold badX at hb
     rw [decide_eq_false h12, Bool.false_or] at hb
     simpa using hb
    rw [hasc] at as_
    simp -implicitDefEqProofs [r23_6, k23_6, hi2, x1, lA, la, h12', ret0 m35, rfs, as_, fp, trim_le]
  ·have hb' : badX aa = false := by simpa using hb
   rw [hb', Bool.false_or] at c5
   unfold badX at hb'
   rw [Bool.or_eq_false_iff, decide_eq_false_iff_not] at hb'
   have hasc : ascB ltB aa = true := by simpa using hb'.2
   have h12' : ¬ (12 : Int) < (aa.length : Int) := by omega
   rw [hasc] at as_
   have c2r := c2.row
   have hLl : ((als A).take i).length = i := by rw [List.length_take]; omega
   have be0 : decide ((aa.length : Int) = 0) = aa.isEmpty := by
    rw [Bool.eq_iff_iff, decide_eq_true_eq, List.isEmpty_iff]
    constructor
    ·intro q; exact List.eq_nil_of_length_eq_zero (by omega)
    ·rintro rfl; rfl
   have bsh := bin_shlU (P := E.P) (t := 58) (n := i) (by omega)
   rw [show setV 1 = .int .u64 1 from rfl] at bsh
   have h2i : 2 ^ i < 2 ^ 64 := Nat.pow_lt_pow_right (by omega) (by omega)
   generalize hLL : (als A).take i = LL0 at *
   -- behind this row
   obtain ⟨o1, o2⟩ := gth_ok (r := aa) c2r
   have gl := gath_loop (lo := lo) (i := i) (VA := VA) (VS := VS) (aa := aa) hlo (by omega) hLl (by omega) (by omega) c2r ia
   have nxt := ihl (i + 1, (gth LL0 aa [] tb ns).1, (gth LL0 aa [] tb ns).2, em || aa.isEmpty) (by show A.length - (i + 1) < A.length - i; omega) ⟨hi, by rw [htk]; exact o1, by show (gth LL0 aa [] tb ns).2.length ≤ 12 * (i + 1); omega, by
    rw [htk, List.any_append, c4, List.any_cons, List.any_nil, Bool.or_false], c5⟩
   simp only at nxt
   generalize (gth LL0 aa [] tb ns).1 = tb2 at *
   generalize (gth LL0 aa [] tb ns).2 = ns2 at *
   obtain ⟨u, h', r1, r2⟩ := nxt
   refine ⟨u, h', ?_, r2⟩
   rw [← r1]
   cases em
   ·rw [Bool.false_or]
    generalize aa.isEmpty = ie at *
    simp -implicitDefEqProofs [k23_6, -Int.natCast_add]
    simp -implicitDefEqProofs [r23_6, hi2, x1, lA, la, h12', ret0 m35, rfs, as_, be0, gl, -Int.natCast_add, -Int.natCast_eq_zero]
    simp -implicitDefEqProofs [k23_12, wi, npH_len, trim_le, -Int.natCast_add]
   ·rw [Bool.true_or]
    simp -implicitDefEqProofs [k23_6, -Int.natCast_add]
    simp -implicitDefEqProofs [r23_6, hi2, x1, lA, la, h12', ret0 m35, rfs, as_, gl, -Int.natCast_add]
    simp -implicitDefEqProofs [k23_12, wi, npH_len, trim_le, -Int.natCast_add]
 ·intro u h' hK2
  obtain ⟨tb, ns, rfl, hu⟩ := hK2
  have hbA : Co.badA ltB (als A) = bad := by
   unfold Co.badA
   rw [eal, decide_eq_false (by omega), decide_eq_false (by omega), Bool.false_or, Bool.false_or]
   exact hbad
  cases bad with
  | true =>
   have he : Co.errF ltB 1 4 (als A) = 1 := by unfold Co.errF; rw [hbA, if_pos rfl]
   refine ⟨.pointer none, npH h.length VA tb ns, ?_, fun q => by rw [he] at q; cases q⟩
   rw [he]
   simp -implicitDefEqProofs [k23_6]
  | false =>
   obtain ⟨u1, u2⟩ := hu rfl
   have he : Co.errF ltB 1 4 (als A) = if u.b = true then 4 else 0 := by unfold Co.errF; rw [hbA, if_neg (by decide), u1]
   cases hub : u.b with
   | true =>
    refine ⟨.pointer none, npH h.length VA tb ns, ?_, fun q => by rw [he, hub] at q; cases q⟩
    rw [he, hub]
    simp -implicitDefEqProofs [k23_6, fp]
   | false =>
    have he0 : Co.errF ltB 1 4 (als A) = 0 := by rw [he, hub]; rfl
    have hgood := (Co.err_good (by decide) (by decide)).1 he0
    have hns : Co.sortB ns = Co.namesF ltB (als A) := Co.sortB_names u2.g.nd u2.g.mem
    have hlen : ns.length ≤ 96 := by
     have := Co.good_names hgood
     rw [← hns, Co.sortB_len] at this
     exact this
    have hne : ns ≠ [] := by
     rintro rfl
     obtain ⟨a, ha⟩ := List.exists_mem_of_ne_nil _ hgood.pos
     obtain ⟨s, hs⟩ := List.exists_mem_of_ne_nil _ (hgood.ne a ha)
     have := (u2.g.mem s).2 ⟨a, ha, hs⟩
     cases this
    have hnl := List.length_pos_iff.2 hne
    have so : L E 40 [Enc.sl (h.length + 2) ns] (h ++ npH h.length VA tb ns) lo = some (retS none (some ⟨h.length + 2, 0, some ns.length⟩) ns.length ns, (h ++ npH h.length VA tb ns).set (h.length + 2) (.cells 9 ((Co.sortB ns).map Value.string) 1)) := by
     rw [L_orc (g := inGS Co.sortB none) (by rw [E_orc]; rfl)]
     exact inGS_row (E := E) (get_at (k := 2) rfl) (by omega) rfl rfl (by omega) (by omega)
    have hsl : Enc.sl (h.length + 2) ns = Enc.sl (h.length + 2) (Co.namesF ltB (als A)) := by
     unfold Enc.sl
     rw [← hns, Co.sortB_len]
    have hH : (h ++ npH h.length VA tb ns).set (h.length + 2) (.cells 9 ((Co.sortB ns).map Value.string) 1) = h ++ npH h.length VA tb (Co.namesF ltB (als A)) := by
     rw [set_at, hns]
     unfold npH
     rw [hsl]; rfl
    rw [hH] at so
    refine ⟨ptr (h.length + 1), npH h.length VA tb (Co.namesF ltB (als A)), ?_, fun _ => ⟨?_, rfl, ⟨?_, get_at (k := 2) rfl, ⟨tb, hm tb _, u2.ts⟩, hK, hrow, hA8, fun a ha => hgood.small _ (List.mem_map.2 ⟨a, ha, rfl⟩), by rw [← hns, Co.sortB_len]; exact hlen⟩, by rw [List.length_append, npH_len]; omega⟩⟩
    ·rw [he0]
     simp -implicitDefEqProofs [k23_6, rop_nilT, nilT_ptr, g1, ret2 (show E.mode 40 = 2 from rfl), so]
    ·unfold WF npH at *
     simp only [List.all_append, List.all_cons, List.all_nil, List.length_append, List.length_cons, List.length_nil, Bool.and_true, Bool.and_eq_true]
     refine ⟨?_, ?_, ?_, Enc.row_bel⟩
     ·exact List.all_eq_true.2 fun x hx => belO_mono (by omega) (List.all_eq_true.1 hw x hx)
     ·exact belO_map strK fun q hq => flat_below (u2.fl q hq)
     ·rw [belO_cells, List.all_cons, List.all_cons, List.all_cons, List.all_nil, Bool.and_true]
      have b1 : below 8 (h.length + (0 + 1 + 1 + 1)) VA = true := bV _
      have b2 : below 8 (h.length + (0 + 1 + 1 + 1)) (Enc.sl (h.length + 2) (Co.namesF ltB (als A))) = true := Enc.sl_bel (d := 7) (by omega)
      have b3 : below 8 (h.length + (0 + 1 + 1 + 1)) (.map (some h.length)) = true := decide_eq_true (by omega)
      rw [b1, b2, b3]; rfl
    ·rw [hVA]; exact get_at (k := 1) rfl
end
end Go.Proofs.YtgefjhjmkejjbaaDoor.Bm
namespace Go.Proofs.YtgefjhjmkejjbaaDoor.Bm
open Go Go.RowKit
open Co (ltB ascB rem maskF allF proveF coreF namesF errF followF)
def prfL (P : List (List Int)) : List (Option Bool × List Int) := P.map fun L => (some false, L)
theorem prfL_snd (P : List (List Int)) : (prfL P).map (·.2) = P := by unfold prfL; rw [List.map_map]; exact List.map_id _
theorem reify_rows {h e : Heap} {b : Nat} {cs : List Value} {P : List (List Int)} (r : Rows (h.length + 4) e cs P) : reify E.P 8 (h ++ pvH b h.length cs e) (rowsV h.length cs.length) = some (rowE.o (some false) (prfL P)) := by
 have sR : szOf E.P 42 = some 1 := by kernel_rfl
 have aR : aggT E.P 42 = some false := by kernel_rfl
 have sI : szOf E.P 3 = some 1 := by kernel_rfl
 have aI : aggT E.P 3 = some false := by kernel_rfl
 have hob : (h ++ pvH b h.length cs e)[h.length + 3]? = some (.cells 42 cs 1) := get_at (k := 3) rfl
 have key : ∀ (cs : List Value) (P : List (List Int)), Rows (h.length + 4) e cs P → ∀ csx, cs.mapM (reify E.P 7 (h ++ pvH b h.length csx e)) = some (P.map fun L => intE.o (some false) L) := by
  intro cs
  induction cs with
  | nil =>
   intro P r csx
   have : P = [] := List.eq_nil_of_length_eq_zero r.len.symm
   subst this
   rfl
  | cons c cs ih =>
   intro P r csx
   cases P with
   | nil => have := r.len; simp at this
   | cons L P =>
    obtain ⟨q, q1, q2⟩ := r.row 0 (by simp) (by simp)
    simp only [List.getElem_cons_zero] at q1 q2
    have r' : Rows (h.length + 4) e cs P := ⟨by have := r.len; simpa using this, fun i h1 h2 => by
     have := r.row (i + 1) (by simpa using h1) (by simpa using h2)
     simpa using this⟩
    have hg : (h ++ pvH b h.length csx e)[h.length + 4 + q]? = some (intE.row 3 L) := by
     rw [show h.length + 4 + q = h.length + (4 + q) by omega]
     refine get_at ?_
     show (_ :: _ :: _ :: _ :: e)[4 + q]? = _
     rw [show 4 + q = q + 1 + 1 + 1 + 1 by omega]
     exact q2
    rw [List.mapM_cons, q1, Enc.reify_sl (O := intE) hg sI aI, ih P r' csx]
    rfl
 unfold rowsV
 rw [reify_slice]
 cases hcs : cs with
 | nil =>
  have hP : P = [] := List.eq_nil_of_length_eq_zero (by rw [← r.len, hcs]; rfl)
  subst hP; rfl
 | cons c cs' =>
  rw [← hcs]
  have hl : cs.length ≠ 0 := by rw [hcs]; simp
  rw [if_neg hl]
  show reifyS E.P 7 (h ++ pvH b h.length cs e) (h ++ pvH b h.length cs e)[h.length + 3]? _ _ = _
  rw [hob, reifyS_cells, sR, Option.bind_some, if_pos ⟨by unfold stampOk; simp, Nat.one_pos, by simp⟩, List.drop_zero, Nat.mul_one, List.take_length]
  have hset : cs.all (settled 8) = false := by
   rw [hcs]
   have hr := r
   rw [hcs] at hr
   cases P with
   | nil => have := hr.len; simp at this
   | cons L P =>
    obtain ⟨q, q1, _⟩ := hr.row 0 (by simp) (by simp)
    simp only [List.getElem_cons_zero] at q1
    rw [List.all_cons, q1]; rfl
  rw [reifyC_not hset, key cs P r cs]
  have el : elemsOf E.P 42 cs.length (P.map fun L => intE.o (some false) L) = some (P.map fun L => intE.o (some false) L) := elems_one aR sR
  rw [Option.bind_some, el]
  show some (lst false _) = some (lst false (rowE.vals (prfL P)))
  unfold Enc.vals prfL
  rw [List.map_map]; rfl
structure AlOk (K : Option Bool) (A : List (Option Bool × List ByteArray)) : Prop where
 k : Enc.Ok K A
 row : ∀ a ∈ A, Enc.Ok a.1 a.2
 sm : ∀ a ∈ A, a.2.length ≤ 1000000
 len : A.length ≤ 1000000
def errV (A : List (Option Bool × List ByteArray)) : Int := errF ltB 1 4 (als A)
def coreO (A : List (Option Bool × List ByteArray)) : Option Bool × List ByteArray := if errV A = 0 then (some false, coreF ltB (als A)) else (none, [])
theorem wf_nil : WF [] := rfl
theorem core_pos {A : List (Option Bool × List ByteArray)} (he : errV A = 0) : 0 < (coreF ltB (als A)).length ∧ (coreF ltB (als A)).length ≤ 8 := by
 have g := (Co.err_good (by decide) (by decide)).1 he
 have k := Co.core_is Co.ordB g.ne
 constructor
 ·obtain ⟨a, ha⟩ := List.exists_mem_of_ne_nil _ g.pos
  obtain ⟨s, _, hs⟩ := Co.hits_iff.1 k.hits a ha
  exact List.length_pos_of_mem hs
 ·have h1 := k.least ((als A).map fun a => a.headD ⟨⟨[]⟩⟩) (Co.hits_iff.2 fun a ha => by
   obtain ⟨x, r, e⟩ := List.exists_cons_of_ne_nil (g.ne a ha)
   exact ⟨x, by rw [e]; exact List.mem_cons_self, List.mem_map.2 ⟨a, ha, by rw [e]; rfl⟩⟩)
  rw [List.length_map] at h1
  have := g.few
  omega
section
variable {K : Option Bool} {A : List (Option Bool × List ByteArray)}
theorem least_top (a : AlOk K A) : pureCall E.P (L E) 11 [listE.o K A] = some (.tuple #[strE.o (coreO A).1 (coreO A).2, .int .i64 (errV A)]) := by
 obtain ⟨v, e, q1, q2⟩ := newProblem_spec (h := []) wf_nil a.k a.row a.sm a.len (lo := 0) (Nat.zero_le _)
 rw [List.nil_append] at q1
 have n0 : Bm.L E 23 [listE.o K A] [] 0 = some (.tuple #[v, .int .i64 (errV A)], e) := q1
 rw [pureCall_fn F11 rfl]
 generalize listE.o K A = VA at *
 have mN : E.mode 23 = 2 := rfl
 have mL : E.mode 24 = 2 := rfl
 by_cases he : errV A = 0
 ·obtain ⟨r1, r2, r3, r4⟩ := q2 he
  rw [List.nil_append] at r1 r3 r4
  obtain ⟨tb, e2, l1, l2⟩ := least_spec r3 (by simpa using r4) (lo := 0) (Nat.zero_le _)
  have hc : coreO A = (some false, coreF ltB (als A)) := if_pos he
  rw [hc, he]
  rw [he] at n0
  subst r2
  have hcf : (Co.leastF (infN (als A) (namesF ltB (als A))) (prs (als A) (namesF ltB (als A))) (allF (als A))).map (·.1) = coreF ltB (als A) := rfl
  rw [hcf] at l1
  have l1 : Bm.L E 24 [ptr 1] e 0 = some (Enc.sl (e.length + 5) (coreF ltB (als A)), e ++ leH 1 e.length tb (coreF ltB (als A)) e2) := l1
  have rf : reify E.P 8 (e ++ leH 1 e.length tb (coreF ltB (als A)) e2) (Enc.sl (e.length + 5) (coreF ltB (als A))) = some (strE.o (some false) (coreF ltB (als A))) := Enc.reify_sl (O := strE) (t := 9) (get_at (k := 5) rfl) (by kernel_rfl) (by kernel_rfl)
  simp -implicitDefEqProofs [r11, p11, ret2 mN, ret2 mL, n0, l1, rf, reifyR_tup]
 ·have hc : coreO A = (none, []) := if_neg he
  rw [hc]
  simp -implicitDefEqProofs [r11, p11, ret2 mN, n0, he]
  rfl
def proofO (A : List (Option Bool × List ByteArray)) : Option Bool × List (Option Bool × List Int) := if errV A = 0 then (some false, prfL (proveF (als A) (coreF ltB (als A)).length (allF (als A)))) else (none, [])
theorem prove_len (ls : List (List ByteArray)) (h12 : ∀ a ∈ ls, a.length ≤ 12) : ∀ (f o : Nat), (proveF ls f o).length ≤ 13 ^ f
 | 0, _ => by show 0 ≤ _; exact Nat.zero_le _
 | f + 1, o => by
  unfold proveF
  have hp : 1 ≤ 13 ^ f := Nat.one_le_pow _ _ (by omega)
  split
  ·rw [Nat.pow_succ]; simp; omega
  ·rw [List.length_cons, List.length_flatMap]
   generalize hk : Co.choicesF ls o (ls.getD (Co.firstF o ls.length 0) []) = n
   have hn : n.length ≤ 12 := by
    have h1 : n.length ≤ (List.range (ls.getD (Co.firstF o ls.length 0) []).length).length := by rw [← hk]; exact List.length_filter_le _ _
    rw [List.length_range] at h1
    have h2 : (ls.getD (Co.firstF o ls.length 0) []).length ≤ 12 := by
     rw [List.getD_eq_getElem?_getD]
     cases hg : ls[Co.firstF o ls.length 0]? with
     | none => simp
     | some a => exact h12 a (List.mem_of_getElem? hg)
    omega
   have key : ∀ (G : Nat → Nat) (n : List Nat), (∀ i ∈ n, G i ≤ 13 ^ f) → (n.map G).sum ≤ n.length * 13 ^ f := by
    intro G n hG
    induction n with
    | nil => simp
    | cons a n ih =>
     have h1 := hG a List.mem_cons_self
     have h2 := ih fun i hi => hG i (List.mem_cons_of_mem _ hi)
     rw [List.map_cons, List.sum_cons, List.length_cons, Nat.add_mul, Nat.one_mul]
     omega
   have h3 := key (fun i => (proveF ls f (rem o ((maskF ls <$> (ls.getD (Co.firstF o ls.length 0) [])[i]?).getD 0))).length) n fun i _ => prove_len ls h12 f _
   have h4 := Nat.mul_le_mul_right (13 ^ f) hn
   rw [Nat.pow_succ]
   omega
theorem prove_top (a : AlOk K A) : pureCall E.P (L E) 13 [listE.o K A] = some (.tuple #[rowE.o (proofO A).1 (proofO A).2, .int .i64 (errV A)]) := by
 obtain ⟨v, e, q1, q2⟩ := newProblem_spec (h := []) wf_nil a.k a.row a.sm a.len (lo := 0) (Nat.zero_le _)
 rw [List.nil_append] at q1
 have n0 : Bm.L E 23 [listE.o K A] [] 0 = some (.tuple #[v, .int .i64 (errV A)], e) := q1
 rw [pureCall_fn F13 rfl]
 generalize listE.o K A = VA at *
 have mN : E.mode 23 = 2 := rfl
 have mL : E.mode 24 = 2 := rfl
 have mP : E.mode 29 = 2 := rfl
 by_cases he : errV A = 0
 ·obtain ⟨r1, r2, r3, r4⟩ := q2 he
  rw [List.nil_append] at r1 r3 r4
  obtain ⟨tb, e2, l1, l2⟩ := least_spec r3 (by simpa using r4) (lo := 0) (Nat.zero_le _)
  have hc : proofO A = (some false, prfL (proveF (als A) (coreF ltB (als A)).length (allF (als A)))) := if_pos he
  have g := (Co.err_good (by decide) (by decide)).1 he
  obtain ⟨c1, c2⟩ := core_pos he
  have k := Co.core_is Co.ordB g.ne
  rw [hc, he]
  rw [he] at n0
  subst r2
  have hcf : (Co.leastF (infN (als A) (namesF ltB (als A))) (prs (als A) (namesF ltB (als A))) (allF (als A))).map (·.1) = coreF ltB (als A) := rfl
  rw [hcf] at l1
  obtain ⟨gg, hgg⟩ : ∃ gg, (coreF ltB (als A)).length = gg + 1 := ⟨(coreF ltB (als A)).length - 1, by omega⟩
  have hpl := prove_len (als A) g.small (gg + 1) (allF (als A))
  have h13 : 13 ^ (gg + 1) ≤ 13 ^ 8 := Nat.pow_le_pow_right (by omega) (by omega)
  have w2 := le_wf (b := 1) (out := coreF ltB (als A)) r1 (by have := r3.lt; simpa using this) l2
  obtain ⟨cs, e3, p1, p2⟩ := prove_spec (r3.app (leH 1 e.length tb (coreF ltB (als A)) e2)) w2 g.ne (g := gg) (by omega) (fun C hC => by
   rw [← hgg]
   exact k.least C (Co.hits_cov.2 hC)) (by omega) (lo := 0) (Nat.zero_le _)
  have l1 : Bm.L E 24 [ptr 1] e 0 = some (Enc.sl (e.length + 5) (coreF ltB (als A)), e ++ leH 1 e.length tb (coreF ltB (als A)) e2) := l1
  have p1 : Bm.L E 29 [ptr 1, .int .i64 (gg : Int)] (e ++ leH 1 e.length tb (coreF ltB (als A)) e2) 0 = _ := p1
  have ln : ∀ H, lenT .sl H (Enc.sl (e.length + 5) (coreF ltB (als A))) = some (.int .i64 ((gg + 1 : Nat) : Int)) := fun H => by rw [← hgg]; exact Enc.sl_len
  have wg : IntKind.i64.wrap (((gg + 1 : Nat) : Int) - 1) = (gg : Int) := (wrap64 (by omega) (by omega)).trans (by omega)
  have rf := reify_rows (b := 1) p2
  rw [List.append_assoc] at rf
  rw [hgg]
  simp -implicitDefEqProofs [r13, p13, ret2 mN, ret2 mL, ret2 mP, n0, l1, ln, wg, p1, rf, reifyR_tup, -Int.natCast_add, -List.length_append]
 ·have hc : proofO A = (none, []) := if_neg he
  rw [hc]
  simp -implicitDefEqProofs [r13, p13, ret2 mN, n0, he]
  rfl
end
end Go.Proofs.YtgefjhjmkejjbaaDoor.Bm
namespace Go.Proofs.YtgefjhjmkejjbaaDoor.Co
variable {S : Type} [DecidableEq S]
def memD (c : List S) (s : S) : Bool := decide (s ∈ c)
theorem any_mem (c : List S) (s : S) : (c.any fun a => decide (s = a)) = memD c s := by
 unfold memD
 rw [Bool.eq_iff_iff, List.any_eq_true, decide_eq_true_eq]
 constructor
 ·rintro ⟨a, ha, h⟩; rw [of_decide_eq_true h]; exact ha
 ·intro h; exact ⟨s, h, decide_eq_true rfl⟩
theorem hits_memD (l : List (List S)) (c : List S) : hitsF l c = l.all fun a => a.any (memD c) := rfl
end Go.Proofs.YtgefjhjmkejjbaaDoor.Co
namespace Go.Proofs.YtgefjhjmkejjbaaDoor.Bm
open Go Go.RowKit
open Co (ltB ascB rem maskF allF proveF coreF namesF errF followF hitsF)
def checkV (A : List (Option Bool × List ByteArray)) (c : List ByteArray) (P : List (List Int)) : Int :=
 if errV A ≠ 0 then errV A else if (ascB ltB c && hitsF (als A) c) = true then (if followF (als A) c.length P (allF (als A)) = some [] then 0 else 19) else 19
section
variable {K : Option Bool} {A : List (Option Bool × List ByteArray)}
theorem hits_top (a : AlOk K A) {kc : Option Bool} {c : List ByteArray} (hkc : Enc.Ok kc c) (hc : c.length ≤ 1000000) : pureCall E.P (L E) 17 [listE.o K A, strE.o kc c] = some (.bool (hitsF (als A) c)) := by
 have ll : ∀ H, lenT .sl H (listE.o K A) = some (.int .i64 A.length) := fun H => Enc.o_len a.k
 have il : ∀ (i : Nat) (hi : i < A.length), indexAddrT (.sl 23 ⟨some false, some 1⟩) (listE.o K A) (.int .i64 (i : Int)) = some (cptr (listE.e A[i])) := fun i hi => Enc.index_o a.k hi
 have cc : cellsOf (strE.o kc c) = some [strE.o kc c] := Enc.o_cellsOf
 have hx : Box [AObj.cells 23 [strE.o kc c] 0] 0 23 (strE.o kc c) := rfl
 have cf : ∀ x ∈ A, Rd 31 [strE.o x.1 x.2, .func (.func 32) #[] #[ptr 0]] [AObj.cells 23 [strE.o kc c] 0] (.bool (x.2.any (Co.memD c))) := fun x hxA => by
  have := containsFS x.1 x.2 (a.row x hxA) (a.sm x hxA) (.func (.func 32) #[] #[ptr 0]) (fun s => c.any fun a => decide (s = a)) _ fun s _ => Cl.of (hits1_spec hkc hc hx s)
  have e : (x.2.any fun s => c.any fun a => decide (s = a)) = x.2.any (Co.memD c) := by
   congr 1; funext s; exact Co.any_mem c s
  rw [e] at this
  exact this
 have hA := a.len
 have hz : als A = A.map (·.2) := rfl
 rw [Co.hits_memD, hz, List.all_map]
 rw [pureCall_fn F17 rfl]
 generalize listE.o K A = VA at *
 generalize strE.o kc c = VC at *
 generalize hq : ((fun x => x.any (Co.memD c)) ∘ fun x : Option Bool × List ByteArray => x.2) = q
 simp -implicitDefEqProofs [r17, p17, cc, ll]
 rw [LL_for (γ := Unit) A () (fun i _ => [(9, .int .i64 i)]) (fun _ _ => [AObj.cells 23 [VC] 0]) (fun i rest _ => if rest.all q = true then (.exit 0, [(9, undef)], [AObj.cells 23 [VC] 0]) else (.ret, [(4, .bool false), (9, undef)], [AObj.cells 23 [VC] 0])) (fun _ _ => True) (by omega) trivial]
 ·by_cases hb : A.all q = true
  ·simp -implicitDefEqProofs [k17_2, hb, -List.all_eq_true]
  ·simp -implicitDefEqProofs [k17_2, hb, -List.all_eq_true]
 ·simp -implicitDefEqProofs [k17_2]
 ·rfl
 ·intro nx i c hi _
  simp -implicitDefEqProofs [r17_2, k17_2, hi, trim_le]
 ·intro nx i v rest c' hi hv hd hw _ ih
  have ih := ih () trivial
  have hi2 : ((i : Int) < A.length) := by omega
  have x1 := il i hi
  rw [hv] at x1
  have le : ∀ h sz, loadT ⟨some false, sz⟩ h (cptr (listE.e v)) = some (strE.o v.1 v.2) := fun h sz => Enc.load_e (O := listE) _
  have cf := cf v (by rw [← hv]; exact List.getElem_mem hi)
  unfold Rd at cf
  have hqv : v.2.any (Co.memD c) = q v := by rw [← hq]; rfl
  rw [hqv] at cf
  have e2 : (((i + 1 : Nat) : Int)) = (i : Int) + 1 := by omega
  rw [e2] at ih
  simp -implicitDefEqProofs [k17_2, -List.all_eq_true] at ih
  rw [List.all_cons]
  cases hqb : q v
  ·rw [hqb] at cf
   simp -implicitDefEqProofs [r17_2, k17_2, hi2, x1, le, cf, trim_le, -List.all_eq_true]
  ·rw [hqb] at cf
   simp -implicitDefEqProofs [r17_2, k17_2, hi2, x1, le, cf, trim_le, hw, ih, -List.all_eq_true]
set_option maxHeartbeats 2000000 in
theorem check_top (a : AlOk K A) {kc : Option Bool} {c : List ByteArray} (hkc : Enc.Ok kc c) (hc : c.length ≤ 1000000) {kp : Option Bool} {R : List (Option Bool × List Int)} (hR : FlP kp R) : pureCall E.P (L E) 19 [listE.o K A, strE.o kc c, rowE.o kp R] = some (.int .i64 (checkV A c (R.map (·.2)))) := by
 obtain ⟨v, e, q1, q2⟩ := newProblem_spec (h := []) wf_nil a.k a.row a.sm a.len (lo := 0) (Nat.zero_le _)
 rw [List.nil_append] at q1
 have n0 : Bm.L E 23 [listE.o K A] [] 0 = some (.tuple #[v, .int .i64 (errV A)], e) := q1
 have ht := hits_top a hkc hc
 have as_ := ascS_spec kc c hkc hc
 have r1 : ∀ H, reify E.P 8 H (listE.o K A) = some (listE.o K A) := fun H => Enc.o_reify
 have r2 : ∀ H, reify E.P 8 H (strE.o kc c) = some (strE.o kc c) := fun H => Enc.o_reify
 have ln : ∀ H, lenT .sl H (strE.o kc c) = some (.int .i64 c.length) := fun H => Enc.o_len hkc
 have mN : E.mode 23 = 2 := rfl
 rw [pureCall_fn F19 rfl]
 unfold checkV
 by_cases he : errV A = 0
 ·obtain ⟨s1, s2, s3, s4⟩ := q2 he
  rw [List.nil_append] at s1 s3 s4
  subst s2
  rw [he] at n0
  rw [if_neg (by rw [he]; decide)]
  by_cases hac : ascB ltB c = true
  ·rw [hac] at as_ ⊢
   rw [Bool.true_and]
   by_cases hh : hitsF (als A) c = true
   ·rw [hh] at ht ⊢
    rw [if_pos rfl]
    have g := (Co.err_good (by decide) (by decide)).1 he
    have hcl : 0 < c.length := by
     obtain ⟨x, hx⟩ := List.exists_mem_of_ne_nil _ g.pos
     obtain ⟨s, _, hs⟩ := Co.hits_iff.1 hh x hx
     exact List.length_pos_of_mem hs
    obtain ⟨gg, hgg⟩ : ∃ gg, c.length = gg + 1 := ⟨c.length - 1, by omega⟩
    obtain ⟨k', R', ok, f1, f2⟩ := follow_spec s3 s1 gg (by omega) kp R (allF (als A)) hR (all_lt s3.few) 0
    have al := all_spec s3
    unfold Rd at al
    rw [hgg]
    rw [hgg] at ln
    have wg : IntKind.i64.wrap (((gg + 1 : Nat) : Int) - 1) = (gg : Int) := (wrap64 (by omega) (by omega)).trans (by omega)
    have l2 : ∀ H, lenT .sl H (rowE.o k' R') = some (.int .i64 R'.length) := fun H => Enc.o_len f1.p.kk
    have al' : ∀ lo st, retCall E (Bm.L E) lo st 37 [ptr 1] e = some (setV (allF (als A)), e) := al
    have f2' : retCall E (Bm.L E) 0 false 36 [ptr 1, rowE.o kp R, setV (allF (als A)), .int .i64 (gg : Int)] e = some (.tuple #[rowE.o k' R', .bool ok], e) := f2
    generalize listE.o K A = VA at *
    generalize strE.o kc c = VC at *
    generalize rowE.o kp R = VP at *
    generalize rowE.o k' R' = VR at *
    cases hfo : followF (als A) (gg + 1) (R.map (·.2)) (allF (als A)) with
    | none =>
     have hok := f1.ok
     rw [hfo] at hok
     subst hok
     rw [if_neg (by intro q; cases q)]
     simp -implicitDefEqProofs [r19, p19, ret2 mN, n0, ret0 m35, ret0 m17, r1, r2, as_, ht, ln, wg, al', f2', -Int.natCast_add]
    | some R2 =>
     have hok := f1.ok
     rw [hfo] at hok
     have hok : ok = true := hok
     subst hok
     have hR2 := f1.eq R2 hfo
     by_cases hnil : R' = []
     ·have e2 : R2 = [] := by rw [← hR2, hnil]; rfl
      rw [if_pos (by rw [e2])]
      have hl0 : ¬ 0 < R'.length := by rw [hnil]; decide
      simp -implicitDefEqProofs [r19, p19, ret2 mN, n0, ret0 m35, ret0 m17, r1, r2, as_, ht, ln, wg, al', f2', l2, hl0, -Int.natCast_add]
     ·have e2 : R2 ≠ [] := by
       rw [← hR2]
       intro q
       exact hnil (List.map_eq_nil_iff.1 q)
      rw [if_neg (by intro q; exact e2 (Option.some.inj q))]
      have hl0 : 0 < R'.length := List.length_pos_iff.2 hnil
      simp -implicitDefEqProofs [r19, p19, ret2 mN, n0, ret0 m35, ret0 m17, r1, r2, as_, ht, ln, wg, al', f2', l2, hl0, -Int.natCast_add]
   ·have hh : hitsF (als A) c = false := by simpa using hh
    rw [hh] at ht ⊢
    rw [if_neg (by decide)]
    generalize listE.o K A = VA at *
    generalize strE.o kc c = VC at *
    generalize rowE.o kp R = VP at *
    simp -implicitDefEqProofs [r19, p19, ret2 mN, n0, ret0 m35, ret0 m17, r1, r2, as_, ht]
  ·have hac : ascB ltB c = false := by simpa using hac
   rw [hac] at as_ ⊢
   rw [Bool.false_and, if_neg (by decide)]
   generalize listE.o K A = VA at *
   generalize strE.o kc c = VC at *
   generalize rowE.o kp R = VP at *
   simp -implicitDefEqProofs [r19, p19, ret2 mN, n0, ret0 m35, r2, as_]
 ·rw [if_pos he]
  generalize listE.o K A = VA at *
  generalize strE.o kc c = VC at *
  generalize rowE.o kp R = VP at *
  simp -implicitDefEqProofs [r19, p19, ret2 mN, n0, he]
end
end Go.Proofs.YtgefjhjmkejjbaaDoor.Bm
namespace Go.Proofs.YtgefjhjmkejjbaaDoor.Bm
open Go Go.RowKit
open Co (ltB ascB rem maskF allF proveF coreF namesF errF followF hitsF)
def sA : ByteArray := ⟨⟨[97]⟩⟩
def sB : ByteArray := ⟨⟨[98]⟩⟩
def sC : ByteArray := ⟨⟨[99]⟩⟩
def exA : List (Option Bool × List ByteArray) := [(some true, [sA, sB]), (some true, [sB, sC])]
def exB : List (Option Bool × List ByteArray) := [(some true, [sA, sB]), (some true, [sC])]
def exC : List (Option Bool × List ByteArray) := [(some true, [sA, sB]), (some true, [sA, sC]), (some true, [sB, sC])]
def exD : List (Option Bool × List ByteArray) := [(some true, [sA]), (some true, [])]
set_option maxRecDepth 100000
theorem exA_e : errV exA = 0 := by kernel_rfl
theorem exA_c : coreF ltB (als exA) = [sB] := by kernel_rfl
theorem exB_e : errV exB = 0 := by kernel_rfl
theorem exB_c : coreF ltB (als exB) = [sA, sC] := by kernel_rfl
theorem exC_e : errV exC = 0 := by kernel_rfl
theorem exC_c : coreF ltB (als exC) = [sA, sB] := by kernel_rfl
theorem exD_e : errV exD = 4 := by kernel_rfl
theorem exC_p : proveF (als exC) 2 (allF (als exC)) = [[1, 0, 0, 1], [0, 2], [0, 1]] := by kernel_rfl
theorem exC_k : checkV exC [sA, sB] [[1, 0, 0, 1], [0, 2], [0, 1]] = 0 := by kernel_rfl
theorem exC_k2 : checkV exC [sA, sB] [[1, 0, 0, 1], [0, 2]] = 19 := by kernel_rfl
theorem exC_h : hitsF (als exC) [sA, sB] = true := by kernel_rfl
abbrev elList : El := ⟨23, 1, 24, .slice none 0 0, ⟨some false, some 1⟩⟩
theorem litS0 (H : Heap) : buildSliceT (some elStr) false H 0 #[] = some (strE.o (some true) [], H) := rfl
theorem litS1 (H : Heap) (x : ByteArray) : buildSliceT (some elStr) false H 1 #[(0, .string x)] = some (strE.o (some true) [x], H) := Enc.lit (O := strE) x rfl rfl rfl
theorem litS2 (H : Heap) (x y : ByteArray) : buildSliceT (some elStr) false H 2 #[(0, .string x), (1, .string y)] = some (strE.o (some true) [x, y], H) :=
 (build_lit' (el := elStr) (n := 2) (l := [(0, .string x), (1, .string y)]) rfl rfl (by decide) (by decide) (by decide)).trans rfl
theorem litI2 (H : Heap) (x y : Int) : buildSliceT (some elInt) false H 2 #[(0, .int .i64 x), (1, .int .i64 y)] = some (intE.o (some true) [x, y], H) := lit2 H x y
theorem litI4 (H : Heap) (x y z w : Int) : buildSliceT (some elInt) false H 4 #[(0, .int .i64 x), (1, .int .i64 y), (2, .int .i64 z), (3, .int .i64 w)] = some (intE.o (some true) [x, y, z, w], H) :=
 (build_lit' (el := elInt) (n := 4) (l := [(0, .int .i64 x), (1, .int .i64 y), (2, .int .i64 z), (3, .int .i64 w)]) rfl rfl (by decide) (by decide) (by decide)).trans rfl
theorem litL2 (H : Heap) (k1 k2 : Option Bool) (x y : List ByteArray) : buildSliceT (some elList) false H 2 #[(0, strE.o k1 x), (1, strE.o k2 y)] = some (listE.o (some true) [(k1, x), (k2, y)], H) := by
 have h1 := fun k (x : List ByteArray) => Enc.o_cellsL (O := strE) (k := k) (l := x)
 have h2 := fun k (x : List ByteArray) => Enc.o_one (O := strE) (k := k) (l := x)
 have h3 := fun k (x : List ByteArray) n => Enc.o_set (O := strE) (k := k) (l := x) (n := n)
 cases k1 <;> cases k2 <;> exact (build_lit' (el := elList) (n := 2) (l := [(0, strE.o _ x), (1, strE.o _ y)]) rfl rfl (by decide) (by decide) (by decide)).trans rfl
theorem litL3 (H : Heap) (x y z : List ByteArray) : buildSliceT (some elList) false H 3 #[(0, strE.o (some true) x), (1, strE.o (some true) y), (2, strE.o (some true) z)] = some (listE.o (some true) [(some true, x), (some true, y), (some true, z)], H) :=
 (build_lit' (el := elList) (n := 3) (l := [(0, strE.o (some true) x), (1, strE.o (some true) y), (2, strE.o (some true) z)]) rfl rfl (by decide) (by decide) (by decide)).trans rfl
theorem litR3 (H : Heap) (x y z : List Int) : buildSliceT (some elRow) false H 3 #[(0, intE.o (some true) x), (1, intE.o (some true) y), (2, intE.o (some true) z)] = some (rowE.o (some true) [(some true, x), (some true, y), (some true, z)], H) :=
 (build_lit' (el := elRow) (n := 3) (l := [(0, intE.o (some true) x), (1, intE.o (some true) y), (2, intE.o (some true) z)]) rfl rfl (by decide) (by decide) (by decide)).trans rfl
end Go.Proofs.YtgefjhjmkejjbaaDoor.Bm
namespace Go.Proofs.YtgefjhjmkejjbaaDoor.Bm
open Go Go.RowKit
open Co (ltB ascB rem maskF allF proveF coreF namesF errF followF hitsF lessL)
def sameB {α : Type} [DecidableEq α] : List α → List α → Bool
 | a :: x, b :: y => decide (a = b) && sameB x y
 | _, _ => true
theorem same_eq {α : Type} [DecidableEq α] : ∀ {x y : List α}, x.length = y.length → sameB x y = decide (x = y)
 | [], [], _ => rfl
 | [], _ :: _, h => by simp at h
 | _ :: _, [], h => by simp at h
 | a :: x, b :: y, h => by
  have ih := same_eq (x := x) (y := y) (by simpa using h)
  show (decide (a = b) && sameB x y) = _
  rw [ih, Bool.eq_iff_iff]
  simp
theorem texts_spec {ka kb : Option Bool} {a b : List ByteArray} (hka : Enc.Ok ka a) (hkb : Enc.Ok kb b) (ha : a.length ≤ 1000000) (_hb : b.length ≤ 1000000) : pureCall E.P (L E) 15 [strE.o ka a, strE.o kb b] = some (.bool (decide (a = b))) := by
 have la : ∀ H, lenT .sl H (strE.o ka a) = some (.int .i64 a.length) := fun H => Enc.o_len hka
 have lb : ∀ H, lenT .sl H (strE.o kb b) = some (.int .i64 b.length) := fun H => Enc.o_len hkb
 have ia : ∀ (i : Nat) (hi : i < a.length), indexAddrT (.sl 9 ⟨some false, some 1⟩) (strE.o ka a) (.int .i64 (i : Int)) = some (cptr (.string a[i])) := fun i hi => Enc.index_o hka hi
 have ib : ∀ (i : Nat) (hi : i < b.length), indexAddrT (.sl 9 ⟨some false, some 1⟩) (strE.o kb b) (.int .i64 (i : Int)) = some (cptr (.string b[i])) := fun i hi => Enc.index_o hkb hi
 rw [pureCall_fn F15 rfl]
 generalize strE.o ka a = VA at *
 generalize strE.o kb b = VB at *
 by_cases hl : a.length = b.length
 ·have hl' : (a.length : Int) = (b.length : Int) := by omega
  rw [← same_eq hl]
  simp -implicitDefEqProofs [r15, p15, la, lb, hl]
  rw [LL_for (γ := Unit) a () (fun i _ => [(5, .int .i64 i)]) (fun _ _ => []) (fun i rest _ => if sameB rest (b.drop i) = true then (.exit 0, [(5, undef)], []) else (.ret, [(4, .bool false), (5, undef)], [])) (fun _ _ => True) (by omega) trivial]
  ·rw [List.drop_zero]
   by_cases q : sameB a b = true
   ·simp -implicitDefEqProofs [k15_4, q]
   ·simp -implicitDefEqProofs [k15_4, q]
  ·simp -implicitDefEqProofs [k15_4]
  ·rfl
  ·intro nx i c hi _
   have e : ∀ y : List ByteArray, sameB [] y = true := fun _ => rfl
   simp -implicitDefEqProofs [r15_4, k15_4, la, hi, hl, e, trim_le]
  ·intro nx i v rest c hi hv hd hw _ ih
   have ih := ih () trivial
   have hi2 : ((i : Int) < a.length) := by omega
   have hi3 : ((i : Int) < b.length) := by omega
   have x1 := ia i hi
   have hib : i < b.length := by omega
   have x2 := ib i hib
   rw [hv] at x1
   have e2 : (((i + 1 : Nat) : Int)) = (i : Int) + 1 := by omega
   rw [e2] at ih
   rw [List.drop_eq_getElem_cons hib]
   rw [show sameB (v :: rest) (b[i] :: b.drop (i + 1)) = (decide (v = b[i]) && sameB rest (b.drop (i + 1))) from rfl]
   simp -implicitDefEqProofs [k15_4] at ih
   generalize b[i] = bi at *
   generalize b.drop (i + 1) = bd at *
   by_cases q : v = bi
   ·subst q
    simp -implicitDefEqProofs [r15_4, k15_4, la, hi3, hl, x1, x2, trim_le, hw, ih]
   ·simp -implicitDefEqProofs [r15_4, k15_4, la, hi3, hl, x1, x2, q, trim_le]
 ·have hl' : ¬ (a.length : Int) = (b.length : Int) := by omega
  have : decide (a = b) = false := decide_eq_false fun e => hl (by rw [e])
  rw [this]
  simp -implicitDefEqProofs [r15, p15, la, lb, hl']
end Go.Proofs.YtgefjhjmkejjbaaDoor.Bm
