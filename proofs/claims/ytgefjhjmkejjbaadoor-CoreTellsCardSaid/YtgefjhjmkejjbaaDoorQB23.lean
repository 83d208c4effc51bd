/-
 Smallest reasons, plain: how the sets of alternatives are gathered. Conditions: none. No program in sight.
-/
import Derived.Test.YtgefjhjmkejjbaaDoorQB22
import Derived.Test.YtgefjhjmkejjbaaDoorQB19
namespace Go.Proofs.YtgefjhjmkejjbaaDoor.Bm
open Go Go.RowKit
open Co (ltB rem maskF allF needF leastF)
def stE (k : Nat × Nat) : Value := .agg #[.int .i64 (k.1 : Int), setV k.2]
theorem st_flat (k : Nat × Nat) : flat (stE k) = true := by simp [stE, flat, atom, setV]
theorem st_ok (k : Nat × Nat) : keyOk E.P 4 68 (stE k) = true := by kernel_rfl
theorem st_eq0 (a b : Nat × Nat) : aKeyEq E.P 68 (stE a) (stE b) = allOf [some ((a.1 : Int) == (b.1 : Int)), some ((a.2 : Int) == (b.2 : Int))] := by kernel_rfl
theorem stK : KeyEnc E.P 68 stE where
 flat := st_flat
 ok := st_ok
 eq a b := by
  rw [st_eq0]
  obtain ⟨a1, a2⟩ := a
  obtain ⟨b1, b2⟩ := b
  have e : ∀ x y : Nat, ((x : Int) == (y : Int)) = decide (x = y) := fun x y => by rw [Bool.eq_iff_iff]; simp; omega
  show allOf [some ((a1 : Int) == (b1 : Int)), some ((a2 : Int) == (b2 : Int))] = _
  rw [e, e]
  by_cases h1 : a1 = b1 <;> by_cases h2 : a2 = b2 <;> simp [allOf, h1, h2]
 bits a := by
  obtain ⟨a1, a2⟩ := a
  show Instr.sameBits 10000 (.agg #[.int .i64 (a1 : Int), .int .u64 (a2 : Int)]) (.agg #[.int .i64 (a1 : Int), .int .u64 (a2 : Int)]) = true
  simp [Instr.sameBits]
theorem aset_mem {κ : Type} [DecidableEq κ] {k : κ} {v : Value} : ∀ {l : List (κ × Value)} {p : κ × Value}, p ∈ aset l k v → p ∈ l ∨ p.2 = v
 | [], p, h => by
  have h : p ∈ [(k, v)] := h
  rw [List.mem_singleton.1 h]; exact .inr rfl
 | q :: l, p, h => by
  unfold aset at h
  split at h
  ·rcases List.mem_cons.1 h with rfl | h
   ·exact .inr rfl
   ·exact .inl (List.mem_cons_of_mem _ h)
  ·rcases List.mem_cons.1 h with rfl | h
   ·exact .inl List.mem_cons_self
   ·rcases aset_mem h with h | h
    ·exact .inl (List.mem_cons_of_mem _ h)
    ·exact .inr h
theorem minI (a b : Int) : aMinMax false [.int .i64 a, .int .i64 b] = some (.int .i64 (min a b)) := by
 show some (Value.int .i64 (if b < a then b else a)) = _
 congr 2
 omega
def leF (B : Nat) : Value := .func (.func 41) #[] #[ptr B, ptr (B + 2), ptr (B + 3)]
def leH (b B : Nat) (tb : List ((Nat × Nat) × Value)) (out : List ByteArray) (e : Heap) : Heap := AObj.cells 43 [ptr b] 0 :: AObj.dead :: AObj.cells 65 [.map (some (B + 4))] 0 :: AObj.cells 66 [leF B] 0 :: mapB stE tb :: strE.row 9 out :: e
theorem leH_len {b B : Nat} {tb : List ((Nat × Nat) × Value)} {out : List ByteArray} {e : Heap} : (leH b B tb out e).length = e.length + 6 := rfl
theorem leH_app {b B : Nat} {tb : List ((Nat × Nat) × Value)} {out : List ByteArray} {e f : Heap} : leH b B tb out e ++ f = leH b B tb out (e ++ f) := rfl
def prs (ls : List (List ByteArray)) (ns : List ByteArray) : List (ByteArray × Nat) := ns.map fun s => (s, maskF ls s)
def infN (ls : List (List ByteArray)) (ns : List ByteArray) : Nat := ls.length + ns.length + 1
structure LeO (ls : List (List ByteArray)) (ns : List ByteArray) (tb : List ((Nat × Nat) × Value)) (e : Heap) : Prop where
 memo : ∀ i o v, aget tb (i, o) = some v → v = .int .i64 ((needF (infN ls ns) ((prs ls ns).drop i) o : Nat) : Int)
 fl : ∀ p ∈ tb, flat p.2 = true
 ge : ∀ x ∈ e, ∀ n, belowO n x = true
def NeS (A : List (Option Bool × List ByteArray)) (ns : List ByteArray) (h : Heap) (b i : Nat) : Prop := ∀ (o : Nat) (tb : List ((Nat × Nat) × Value)) (out : List ByteArray) (e : Heap) (lo : Nat), o < 2 ^ 64 → lo ≤ h.length + 4 → LeO (als A) ns tb e →
 ∃ tb' e', aCall E (L E) lo false (leF h.length) [.int .i64 (i : Int), setV o] (h ++ leH b h.length tb out e) = some (.int .i64 ((needF (infN (als A) ns) ((prs (als A) ns).drop i) o : Nat) : Int), h ++ leH b h.length tb' out (e ++ e')) ∧ LeO (als A) ns tb' (e ++ e')
def NeG (A : List (Option Bool × List ByteArray)) (ns : List ByteArray) (h : Heap) (b : Nat) (out : List ByteArray) (e : Heap) (n : Nat) (X : Res) : Prop := ∃ tb' e', X = some (.int .i64 (n : Int), h ++ leH b h.length tb' out (e ++ e')) ∧ LeO (als A) ns tb' (e ++ e')
section
variable {h : Heap} {b r m : Nat} {K : Option Bool} {A : List (Option Bool × List ByteArray)} {ns : List ByteArray}
set_option maxHeartbeats 4000000 in
theorem need_step (p : Pb h b r m K A ns) {i : Nat} (hi : i ≤ ns.length) (ih : i < ns.length → NeS A ns h b (i + 1)) : NeS A ns h b i := by
 intro o tb out e lo ho hlo hO
 have eal : (als A).length = A.length := by unfold als; rw [List.length_map]
 have hfew := p.few
 have hlot := p.lot
 have g0 := fun tb e sz => box_load (h := h ++ leH b h.length tb out e) (x := h.length) (t := 43) (v := ptr b) (get_at (k := 0) rfl) (sz := sz)
 have g2 := fun tb e sz => box_load (h := h ++ leH b h.length tb out e) (x := h.length + 2) (t := 65) (v := .map (some (h.length + 4))) (get_at (k := 2) rfl) (sz := sz)
 have g3 := fun tb e sz => box_load (h := h ++ leH b h.length tb out e) (x := h.length + 3) (t := 66) (v := leF h.length) (get_at (k := 3) rfl) (sz := sz)
 have g4 : ∀ tb e, (h ++ leH b h.length tb out e)[h.length + 4]? = some (mapB stE tb) := fun tb e => get_at (k := 4) rfl
 have pe := fun tb e => p.app (leH b h.length tb out e)
 have l0 := fun tb e sz => (pe tb e).l0 (sz := sz)
 have l1 := fun tb e sz => (pe tb e).l1 (sz := sz)
 have l2 := fun tb e sz => (pe tb e).l2 (sz := sz)
 have lk := fun tb e s => (pe tb e).look s
 have ll : ∀ H, lenT .sl H (listE.o K A) = some (.int .i64 A.length) := fun H => Enc.o_len p.k
 have ln : ∀ H, lenT .sl H (Enc.sl r ns) = some (.int .i64 ns.length) := fun H => Enc.sl_len
 have zq := mk_eq (P := E.P) (t := 58) (a := o) (b := 0)
 rw [show setV 0 = .int .u64 0 from rfl] at zq
 generalize hv : needF (infN (als A) ns) ((prs (als A) ns).drop i) o = v
 show NeG A ns h b out e v (retCall E (L E) lo false 41 [.int .i64 (i : Int), setV o, ptr h.length, ptr (h.length + 2), ptr (h.length + 3)] (h ++ leH b h.length tb out e))
 rw [ret2 m41, L_fn F41 rfl]
 generalize listE.o K A = VA at *
 by_cases h0 : o = 0
 ·rw [h0, Co.need_zero] at hv
  subst hv
  refine ⟨tb, [], ?_, by rw [List.append_nil]; exact hO⟩
  rw [decide_eq_true h0] at zq
  simp -implicitDefEqProofs [r41, p41, zq]
 rw [decide_eq_false h0] at zq
 by_cases hie : i = ns.length
 ·have hv2 : v = A.length + ns.length + 1 := by
   rw [← hv, List.drop_eq_nil_of_le (by unfold prs; rw [List.length_map]; omega), Co.need_nil h0, infN, eal]
  subst hv2
  refine ⟨tb, [], ?_, by rw [List.append_nil]; exact hO⟩
  have w1 : IntKind.i64.wrap ((A.length : Int) + (ns.length : Int)) = (A.length : Int) + (ns.length : Int) := wrap64 (by omega) (by omega)
  have w2 : IntKind.i64.wrap ((A.length : Int) + (ns.length : Int) + 1) = ((A.length + ns.length + 1 : Nat) : Int) := (wrap64 (by omega) (by omega)).trans (by omega)
  subst hie
  simp -implicitDefEqProofs [r41, p41, zq, g0, rop_nilT, nilT_ptr, l0, l1, ll, ln, w1, w2, -Int.natCast_add]
 have hie2 : ¬ (i : Int) = (ns.length : Int) := by omega
 have hil : i < ns.length := by omega
 have ih := ih hil
 have bt : buildT (Bl.fs ⟨[Value.int .i64 0, Value.int .u64 0]⟩ ⟨[(0, 1), (1, 1)]⟩) #[(0, .int .i64 (i : Int)), (1, setV o)] = some (stE (i, o)) := rfl
 have ff : flat (.agg ⟨[Value.int .i64 0, Value.int .u64 0]⟩) = true := by simp [flat, atom]
 have cz : cellsOf (.agg ⟨[Value.int .i64 0, Value.int .u64 0]⟩) = some [.int .i64 0, .int .u64 0] := rfl
 have at_ : ∀ tb e' f, (h ++ leH b h.length tb out ((e ++ [AObj.cells 68 f 0]) ++ e'))[h.length + (e.length + 6)]? = some (AObj.cells 68 f 0) := fun tb e' f => get_at (by
  show ((e ++ [AObj.cells 68 f 0]) ++ e')[e.length]? = _
  simp)
 have at0 : ∀ tb f, (h ++ leH b h.length tb out (e ++ [AObj.cells 68 f 0]))[h.length + (e.length + 6)]? = some (AObj.cells 68 f 0) := fun tb f => by
  have := at_ tb [] f
  rwa [List.append_nil] at this
 have st : storeT (some 2) (h ++ leH b h.length tb out (e ++ [AObj.cells 68 [.int .i64 0, .int .u64 0] 0])) lo (stE (i, o)) (ptr (h.length + (e.length + 6))) = some (h ++ leH b h.length tb out (e ++ [AObj.cells 68 [.int .i64 (i : Int), setV o] 0])) := by
  have := obj_put (n := 2) (d := [.int .i64 (i : Int), setV o]) (lo := lo) (at0 tb [.int .i64 0, .int .u64 0]) rfl rfl (by decide) (by omega)
  refine this.trans ?_
  rw [set_at]
  congr 2
  show _ :: _ :: _ :: _ :: _ :: _ :: (e ++ [AObj.cells 68 [.int .i64 0, .int .u64 0] 0]).set e.length _ = _
  rw [List.set_append_right _ _ (Nat.le_refl _), Nat.sub_self]; rfl
 have ld : ∀ tb e', loadT ⟨some true, some 2⟩ (h ++ leH b h.length tb out ((e ++ [AObj.cells 68 [.int .i64 (i : Int), setV o] 0]) ++ e')) (ptr (h.length + (e.length + 6))) = some (stE (i, o)) := fun tb e' => obj_all (at_ tb e' _) rfl
 have ld0 : ∀ tb, loadT ⟨some true, some 2⟩ (h ++ leH b h.length tb out (e ++ [AObj.cells 68 [.int .i64 (i : Int), setV o] 0])) (ptr (h.length + (e.length + 6))) = some (stE (i, o)) := fun tb => obj_all (at0 tb _) rfl
 have hO1 : LeO (als A) ns tb (e ++ [AObj.cells 68 [.int .i64 (i : Int), setV o] 0]) := ⟨hO.memo, hO.fl, fun x hx n => by
  rcases List.mem_append.1 hx with hx | hx
  ·exact hO.ge x hx n
  ·rw [List.mem_singleton.1 hx]; rfl⟩
 obtain ⟨E1, hE1⟩ : ∃ E1, E1 = e ++ [AObj.cells 68 [.int .i64 (i : Int), setV o] 0] := ⟨_, rfl⟩
 rw [← hE1] at hO1 ld ld0 st
 cases hg : aget tb (i, o) with
 | some w =>
  have hw := hO.memo i o w hg
  rw [hv] at hw
  subst hw
  have lu := lookup_some (ok := true) (z := some (.int .i64 0)) (et := some ⟨68, some (.int .i64 0)⟩) stK rfl (g4 tb E1) hg
  refine ⟨tb, [AObj.cells 68 [.int .i64 (i : Int), setV o] 0], ?_, by rw [← hE1]; exact hO1⟩
  rw [← hE1]
  simp -implicitDefEqProofs [r41, p41, zq, g0, g2, rop_nilT, nilT_ptr, l1, ln, hie2, bt, ff, cz, leH_app, leH_len, st, ld0, lu, -Int.natCast_add]
 | none =>
  have lu := lookup_none (ok := true) (zv := .int .i64 0) (et := some ⟨68, some (.int .i64 0)⟩) stK rfl (g4 tb E1) hg
  obtain ⟨tb1, e1, c1, hO2⟩ := ih o tb out E1 lo ho hlo hO1
  have wi : IntKind.i64.wrap ((i : Int) + 1) = ((i + 1 : Nat) : Int) := (wrap64 (by omega) (by omega)).trans (by omega)
  have ld2 : ∀ tb e', loadT ⟨some true, some 2⟩ (h ++ leH b h.length tb out ((E1 ++ e1) ++ e')) (ptr (h.length + (e.length + 6))) = some (stE (i, o)) := fun tb e' => by
   rw [List.append_assoc]; exact ld tb _
  have ld20 : ∀ tb, loadT ⟨some true, some 2⟩ (h ++ leH b h.length tb out (E1 ++ e1)) (ptr (h.length + (e.length + 6))) = some (stE (i, o)) := fun tb => ld tb _
  have hE2 : ∃ e3, E1 ++ e1 = e ++ e3 := ⟨[AObj.cells 68 [.int .i64 (i : Int), setV o] 0] ++ e1, by rw [hE1, List.append_assoc]⟩
  generalize E1 ++ e1 = E2 at *
  have ix := Enc.sl_index (b := r) (t := 9) (g := some false) (k := .i64) hil
  have le : ∀ tb e sz, loadT ⟨some false, sz⟩ (h ++ leH b h.length tb out e) (Enc.at_ r ns i) = some (.string ns[i]) := fun tb e sz => Enc.load_at (O := strE) (sz := sz) (pe tb e).row hil
  have b3 := bin_remU (P := E.P) (t := 58) ho (mask_small A p.few ns[i])
  have bn := mk_neq (P := E.P) (t := 58) (a := rem o (maskF (als A) ns[i])) (b := o)
  have hd : (prs (als A) ns).drop i = (ns[i], maskF (als A) ns[i]) :: (prs (als A) ns).drop (i + 1) := by
   unfold prs
   rw [← List.map_drop, List.drop_eq_getElem_cons hil, List.map_cons, List.map_drop]
  rw [hd, Co.need_cons h0] at hv
  have pt := fun tb e x => put_map (lo := lo) (x := x) (z := some (.int .i64 0)) (k := (i, o)) stK (g4 tb e) hlo
  have hset : ∀ tb e x, (h ++ leH b h.length tb out e).set (h.length + 4) (mapB stE (aset tb (i, o) x)) = h ++ leH b h.length (aset tb (i, o) x) out e := fun tb e x => by rw [set_at]; rfl
  simp only [hset] at pt
  have mem2 : ∀ (tb : List ((Nat × Nat) × Value)) (e : Heap), LeO (als A) ns tb e → LeO (als A) ns (aset tb (i, o) (.int .i64 (v : Int))) e := fun tb e hO => ⟨fun i' o' w hw => by
   rw [aget_set] at hw
   split at hw
   ·rename_i q
    cases q
    have hw := (Option.some.inj hw).symm
    subst hw
    rw [← hv, hd, Co.need_cons h0]
   ·exact hO.memo i' o' w hw, fun q hq => by
    rcases aset_mem hq with hq | hq
    ·exact hO.fl q hq
    ·rw [hq]; rfl, hO.ge⟩
  have nb := Co.need_inf (infN (als A) ns) ((prs (als A) ns).drop (i + 1)) o
  have nb2 := Co.need_inf (infN (als A) ns) ((prs (als A) ns).drop (i + 1)) (rem o (maskF (als A) ns[i]))
  have hinf : infN (als A) ns ≤ 200 := by unfold infN; omega
  by_cases hr : rem o (maskF (als A) ns[i]) = o
  ·rw [if_pos hr] at hv
   rw [hv] at c1
   rw [hr] at b3 bn
   rw [decide_eq_true rfl] at bn
   obtain ⟨e3, he3⟩ := hE2
   refine ⟨aset tb1 (i, o) (.int .i64 (v : Int)), e3, ?_, by rw [← he3]; exact mem2 _ _ hO2⟩
   rw [← he3]
   simp -implicitDefEqProofs [r41, p41, zq, g0, g2, g3, rop_nilT, nilT_ptr, l1, l2, ln, hie2, bt, ff, cz, leH_app, leH_len, st, ld0, lu, wi, c1, ix, le, lk, b3, bn, ld20, pt, -Int.natCast_add]
  ·rw [if_neg hr] at hv
   rw [decide_eq_false hr] at bn
   obtain ⟨tb2, e2, c2, hO3⟩ := ih (rem o (maskF (als A) ns[i])) tb1 out E2 lo (rem_lt ho) hlo hO2
   obtain ⟨e3, he3⟩ := hE2
   refine ⟨aset tb2 (i, o) (.int .i64 (v : Int)), e3 ++ e2, ?_, by rw [← List.append_assoc, ← he3]; exact mem2 _ _ hO3⟩
   rw [← List.append_assoc, ← he3]
   have ld30 := fun tb => ld2 tb e2
   generalize E2 ++ e2 = E3 at *
   generalize needF (infN (als A) ns) ((prs (als A) ns).drop (i + 1)) o = n1 at *
   generalize needF (infN (als A) ns) ((prs (als A) ns).drop (i + 1)) (rem o (maskF (als A) ns[i])) = n2 at *
   have mn : aMinMax false [.int .i64 (n1 : Int), .int .i64 ((1 + n2 : Nat) : Int)] = some (.int .i64 (v : Int)) := by
    rw [minI, ← hv]
    congr 2
    omega
   have w2 : IntKind.i64.wrap (1 + (n2 : Int)) = ((1 + n2 : Nat) : Int) := (wrap64 (by omega) (by omega)).trans (by omega)
   simp -implicitDefEqProofs [r41, p41, zq, g0, g2, g3, rop_nilT, nilT_ptr, l1, l2, ln, hie2, bt, ff, cz, leH_app, leH_len, st, ld0, lu, wi, c1, c2, w2, mn, ix, le, lk, b3, bn, ld30, pt, -Int.natCast_add]
theorem need_spec (p : Pb h b r m K A ns) : ∀ (d i : Nat), ns.length - i ≤ d → i ≤ ns.length → NeS A ns h b i := by
 intro d
 induction d with
 | zero => intro i h1 h2; exact need_step p h2 fun h3 => by omega
 | succ d ih => intro i h1 h2; exact need_step p h2 fun h3 => ih (i + 1) (by omega) h3
end
end Go.Proofs.YtgefjhjmkejjbaaDoor.Bm
namespace Go.Proofs.YtgefjhjmkejjbaaDoor.Bm
open Go Go.RowKit
open Co (ltB rem maskF allF needF leastF)
abbrev elStr : El := ⟨9, 1, 16, .string ⟨⟨[]⟩⟩, ⟨some false, some 1⟩⟩
theorem rop_loadL {E : Env} {C : Callee} {lo : Nat} {h : Heap} {k : TI} {x : Operand} {ρ : Operand → Value} (hc : isLow lo h (ρ x) = true) : ropR E C lo true (.load k x) ρ h = (loadT k h (ρ x)).map (·, h) := by
 show (if (true && !(isCp (ρ x) || isLow lo h (ρ x))) = true then none else _) = _
 rw [hc, Bool.or_true]; rfl
theorem eql_nat {P : Program} {t : TypeId} (x y : Nat) : aBin P .eql t (.int .i64 (x : Int)) (.int .i64 (y : Int)) = some (.bool (decide (x = y))) := by
 rw [bin_eql]
 congr 2
 rw [Bool.eq_iff_iff, decide_eq_true_eq, decide_eq_true_eq]
 exact Int.natCast_inj
section
variable {h : Heap} {b r m : Nat} {K : Option Bool} {A : List (Option Bool × List ByteArray)} {ns : List ByteArray} {ls : List (List ByteArray)} {tb : List ((Nat × Nat) × Value)} {out : List ByteArray} {e : Heap}
theorem le_wf (hw : WF h) (hb : b < h.length) (o : LeO ls ns tb e) : WF (h ++ leH b h.length tb out e) := by
 unfold WF leH at *
 simp only [List.all_append, List.all_cons, List.length_append, List.length_cons, Bool.and_eq_true]
 refine ⟨?_, ?_, rfl, ?_, ?_, ?_, Enc.row_bel, ?_⟩
 ·exact List.all_eq_true.2 fun x hx => belO_mono (by omega) (List.all_eq_true.1 hw x hx)
 ·simp [belO_cells, below]; omega
 ·simp [belO_cells, below]
 ·simp [belO_cells, below, leF]
 ·exact belO_map stK fun q hq => flat_below (o.fl q hq)
 ·exact List.all_eq_true.2 fun x hx => o.ge x hx _
theorem le_trim {E1 : Heap} (o : LeO ls ns tb (E1 ++ e)) (B : Nat) (vs : List Value) : ∃ e', trim (h.length + (E1.length + 6)) vs (h ++ leH b B tb out (E1 ++ e)) = h ++ leH b B tb out (E1 ++ e') ∧ LeO ls ns tb (E1 ++ e') := by
 unfold Bm.trim
 split
 ·exact ⟨e, rfl, o⟩
 ·split
  ·have e1 : (h ++ leH b B tb out (E1 ++ e)).take (h.length + (E1.length + 6)) = h ++ leH b B tb out E1 := by
    have e2 : h ++ leH b B tb out (E1 ++ e) = (h ++ leH b B tb out E1) ++ e := by rw [List.append_assoc, leH_app]
    rw [e2, List.take_left' (by rw [List.length_append, leH_len])]
   exact ⟨[], by rw [e1, List.append_nil], ⟨o.memo, o.fl, fun x hx n => o.ge x (by rw [List.append_nil] at hx; exact List.mem_append_left _ hx) n⟩⟩
  ·exact ⟨e, rfl, o⟩
def LsG (A : List (Option Bool × List ByteArray)) (ns : List ByteArray) (h : Heap) (b : Nat) (out : List ByteArray) (X : Res) : Prop := ∃ tb e, X = some (Enc.sl (h.length + 5) out, h ++ leH b h.length tb out e) ∧ LeO (als A) ns tb e
set_option maxHeartbeats 4000000 in
theorem least_spec (p : Pb h b r m K A ns) (_hr : r < h.length) {lo : Nat} (hlo : lo ≤ h.length) : LsG A ns h b ((leastF (infN (als A) ns) (prs (als A) ns) (allF (als A))).map (·.1)) (L E 24 [ptr b] h lo) := by
 have hfew := p.few
 have hlot := p.lot
 have sS : szOf E.P 9 = some 1 := by kernel_rfl
 have g0 := fun tb out e sz => box_load (h := h ++ leH b h.length tb out e) (x := h.length) (t := 43) (v := ptr b) (get_at (k := 0) rfl) (sz := sz)
 have g3 := fun tb out e sz => box_load (h := h ++ leH b h.length tb out e) (x := h.length + 3) (t := 66) (v := leF h.length) (get_at (k := 3) rfl) (sz := sz)
 have pe := fun tb out e => p.app (leH b h.length tb out e)
 have l1 := fun tb out e sz => (pe tb out e).l1 (sz := sz)
 have l2 := fun tb out e sz => (pe tb out e).l2 (sz := sz)
 have lk := fun tb out e s => (pe tb out e).look s
 have ln : ∀ H, lenT .sl H (Enc.sl r ns) = some (.int .i64 ns.length) := fun H => Enc.sl_len
 have fm : flat (.map none) = true := rfl
 have cm : cellsOf (.map none) = some [.map none] := rfl
 have ff : flat .nilFunc = true := rfl
 have cn : cellsOf .nilFunc = some [.nilFunc] := rfl
 have st1 : storeT (some 1) (h ++ [AObj.cells 43 [ptr b] 0, AObj.map [] 0, AObj.cells 65 [.map none] 0]) lo (.map (some (h.length + 1))) (ptr (h.length + 2)) = some (h ++ [AObj.cells 43 [ptr b] 0, AObj.map [] 0, AObj.cells 65 [.map (some (h.length + 1))] 0]) := by
  have := obj_store (h := h ++ [AObj.cells 43 [ptr b] 0, AObj.map [] 0, AObj.cells 65 [.map none] 0]) (lo := lo) (v := .map (some (h.length + 1))) (b := h.length + 2) (j := 0) (t := 65) (c := [.map none]) (get_at (k := 2) rfl) (by simp) (by omega) rfl
  refine this.trans ?_
  rw [set_at]; rfl
 have la : ∀ σ, lateK lo (h ++ [AObj.cells 43 [ptr b] 0, AObj.map [] 0, AObj.cells 65 [.map (some (h.length + 1))] 0, AObj.cells 66 [.nilFunc] 0]) σ (ptr (h.length + 2)) =
   some (σ, h ++ [AObj.cells 43 [ptr b] 0, AObj.dead, AObj.cells 65 [.map (some (h.length + 4))] 0, AObj.cells 66 [.nilFunc] 0, mapB stE []]) := fun σ => by
  have := lateK_map (σ := σ) (lo := lo) (h := h ++ [AObj.cells 43 [ptr b] 0, AObj.map [] 0, AObj.cells 65 [.map (some (h.length + 1))] 0, AObj.cells 66 [.nilFunc] 0]) (b := h.length + 2) (m := h.length + 1) (off := 0) (g := 0) (ck := 0) (sp := none) (ty := 65) (c := [.map (some (h.length + 1))]) (es := []) (get_at (k := 2) rfl) rfl (get_at (k := 1) rfl) (by omega) (by omega)
  refine this.trans ?_
  rw [set_at, List.append_assoc, set_at, List.length_append]; rfl
 have st2 : storeT (some 1) (h ++ [AObj.cells 43 [ptr b] 0, AObj.dead, AObj.cells 65 [.map (some (h.length + 4))] 0, AObj.cells 66 [.nilFunc] 0, mapB stE []]) lo (.func (.func 41) #[] #[ptr h.length, ptr (h.length + 2), ptr (h.length + 3)]) (ptr (h.length + 3)) =
   some (h ++ [AObj.cells 43 [ptr b] 0, AObj.dead, AObj.cells 65 [.map (some (h.length + 4))] 0, AObj.cells 66 [leF h.length] 0, mapB stE []]) := by
  have := obj_store (h := h ++ [AObj.cells 43 [ptr b] 0, AObj.dead, AObj.cells 65 [.map (some (h.length + 4))] 0, AObj.cells 66 [.nilFunc] 0, mapB stE []]) (lo := lo) (v := leF h.length) (b := h.length + 3) (j := 0) (t := 66) (c := [.nilFunc]) (get_at (k := 3) rfl) (by simp) (by omega) rfl
  refine this.trans ?_
  rw [set_at]; rfl
 have hnew := fun (h : Heap) (σ : Slots) (s : Nat) => newK_nil (P := E.P) (t := 9) (h := h) (σ := σ) (s := s) (n := 0) sS
 have h0 : h ++ [AObj.cells 43 [ptr b] 0, AObj.dead, AObj.cells 65 [.map (some (h.length + 4))] 0, AObj.cells 66 [leF h.length] 0, mapB stE [], AObj.cells 9 [] 1] = h ++ leH b h.length [] [] [] := rfl
 have al := all_spec (pe [] [] [])
 unfold Rd at al
 have i0 : (Value.slice (some ⟨h.length + 5, 0, some 0⟩) 0 0) = Enc.sl (h.length + 5) ([] : List ByteArray) := rfl
 rw [L_fn F24 rfl]
 simp -implicitDefEqProofs [r24, p24, prep_late, prep_new, fm, cm, ff, cn, st1, la, st2, hnew, h0, i0, g0, al, rop_nilT, nilT_ptr, l1, ln]
 generalize hT : (leastF (infN (als A) ns) (prs (als A) ns) (allF (als A))).map (·.1) = T
 refine ux_goal (G := fun X => LsG A ns h b T (retK [RRes.tmp 2] (seqC E (L E) LL lo (blkK 0 X) _)))
  (LL_ux (α := Nat × List ((Nat × Nat) × Value) × List ByteArray × Heap × Nat) (U := Unit) (0, [], [], [], allF (als A)) (fun a => [(5, Enc.sl (h.length + 5) a.2.2.1), (6, setV a.2.2.2.2), (19, .int .i64 (a.1 : Int))]) (fun a => h ++ leH b h.length a.2.1 a.2.2.1 a.2.2.2.1)
   (.exit 0) (fun _ => [(5, Enc.sl (h.length + 5) T), (6, undef), (19, undef)])
   (fun _ h' => ∃ tb e, h' = h ++ leH b h.length tb T e ∧ LeO (als A) ns tb e)
   (fun a => a.1 ≤ ns.length ∧ a.2.2.2.2 < 2 ^ 64 ∧ LeO (als A) ns a.2.1 a.2.2.2.1 ∧ a.2.2.1.length ≤ a.1 ∧ a.2.2.1 ++ (leastF (infN (als A) ns) ((prs (als A) ns).drop a.1) a.2.2.2.2).map (·.1) = T)
   (fun a => ns.length - a.1) ?_ ?_ ?_ ?_) ?_
 ·exact ⟨Nat.zero_le _, all_lt hfew, ⟨fun i o v hv => (by cases hv), fun q hq => (by cases hq), fun x hx => (by cases hx)⟩, Nat.le_refl _, hT⟩
 ·simp -implicitDefEqProofs [k24_7]
 ·rfl
 ·intro nx a ha ihl
  obtain ⟨i, tb, out, e, o⟩ := a
  obtain ⟨c1, c2, c3, c4, c5⟩ := ha
  simp only at c1 c2 c3 c4 c5 ihl ⊢
  by_cases hi : i < ns.length
  case neg =>
   have ei : i = ns.length := by omega
   subst ei
   rw [List.drop_eq_nil_of_le (by unfold prs; rw [List.length_map]; omega)] at c5
   have c5 : out = T := by rw [← c5]; exact (List.append_nil _).symm
   subst c5
   refine ⟨(), h ++ leH b h.length tb out e, ?_, tb, e, rfl, c3⟩
   simp -implicitDefEqProofs [r24_7, k24_7, trim_le]
  have hi2 : (i : Int) < (ns.length : Int) := by omega
  have ix := Enc.sl_index (b := r) (t := 9) (g := some false) (k := .i64) hi
  have le : ∀ tb out e sz, loadT ⟨some false, sz⟩ (h ++ leH b h.length tb out e) (Enc.at_ r ns i) = some (.string ns[i]) := fun tb out e sz => Enc.load_at (O := strE) (sz := sz) (pe tb out e).row hi
  have hd : (prs (als A) ns).drop i = (ns[i], maskF (als A) ns[i]) :: (prs (als A) ns).drop (i + 1) := by
   unfold prs
   rw [← List.map_drop, List.drop_eq_getElem_cons hi, List.map_cons, List.map_drop]
  have ms := mask_small A p.few ns[i]
  have b3 := bin_remU (P := E.P) (t := 58) c2 ms
  have bn := mk_neq (P := E.P) (t := 58) (a := rem o (maskF (als A) ns[i])) (b := o)
  have wi : IntKind.i64.wrap ((i : Int) + 1) = ((i + 1 : Nat) : Int) := (wrap64 (by omega) (by omega)).trans (by omega)
  rw [hd, Co.least_cons] at c5
  by_cases hr : rem o (maskF (als A) ns[i]) = o
  ·rw [if_neg (fun q => q.1 hr)] at c5
   obtain ⟨u, h', r1, r2⟩ := ihl (i + 1, tb, out, e, o) (by show ns.length - (i + 1) < ns.length - i; omega) ⟨hi, c2, c3, by show out.length ≤ i + 1; omega, c5⟩
   refine ⟨u, h', ?_, r2⟩
   rw [← r1]
   rw [hr] at b3 bn
   rw [decide_eq_true rfl] at bn
   simp -implicitDefEqProofs [k24_7, -Int.natCast_add]
   simp -implicitDefEqProofs [r24_7, hi2, ix, le, g0, rop_nilT, nilT_ptr, l2, lk, b3, bn, prep_still, prep_fix, wi, trim_le, -Int.natCast_add]
  ·rw [decide_eq_false hr] at bn
   have nc0 := Co.need_cons (inf := infN (als A) ns) (o := o) (x := (ns[i], maskF (als A) ns[i])) (r := (prs (als A) ns).drop (i + 1)) (fun e => hr (by rw [e]; exact Co.rem_zero _))
   obtain ⟨tb1, e1, n1, hO1⟩ := need_spec p (ns.length - i) i (Nat.le_refl _) (by omega) o tb out e (h.length + 4) c2 (Nat.le_refl _) c3
   obtain ⟨tb2, e2, n2, hO2⟩ := need_spec p (ns.length - (i + 1)) (i + 1) (Nat.le_refl _) (by omega) (rem o (maskF (als A) ns[i])) tb1 out (e ++ e1) (h.length + 4) (rem_lt c2) (Nat.le_refl _) hO1
   rw [hd] at n1
   have nb1 := Co.need_inf (infN (als A) ns) ((ns[i], maskF (als A) ns[i]) :: (prs (als A) ns).drop (i + 1)) o
   have nb2 := Co.need_inf (infN (als A) ns) ((prs (als A) ns).drop (i + 1)) (rem o (maskF (als A) ns[i]))
   have eal : (als A).length = A.length := by unfold als; rw [List.length_map]
   have hinf : infN (als A) ns ≤ 200 := by unfold infN; omega
   have ec : (rem o (maskF (als A) ns[i]) ≠ o ∧ needF (infN (als A) ns) ((ns[i], maskF (als A) ns[i]) :: (prs (als A) ns).drop (i + 1)) o = 1 + needF (infN (als A) ns) ((prs (als A) ns).drop (i + 1)) (rem o (maskF (als A) ns[i]))) ↔ needF (infN (als A) ns) ((ns[i], maskF (als A) ns[i]) :: (prs (als A) ns).drop (i + 1)) o = 1 + needF (infN (als A) ns) ((prs (als A) ns).drop (i + 1)) (rem o (maskF (als A) ns[i])) := ⟨fun q => q.2, fun q => ⟨hr, q⟩⟩
   simp only [ec] at c5
   clear nc0 ec
   rw [List.append_assoc] at n2 hO2
   generalize needF (infN (als A) ns) ((ns[i], maskF (als A) ns[i]) :: (prs (als A) ns).drop (i + 1)) o = v1 at *
   generalize needF (infN (als A) ns) ((prs (als A) ns).drop (i + 1)) (rem o (maskF (als A) ns[i])) = v2 at *
   have w2 : IntKind.i64.wrap (1 + (v2 : Int)) = ((1 + v2 : Nat) : Int) := (wrap64 (by omega) (by omega)).trans (by omega)
   have be : aBin E.P .eql 3 (.int .i64 (v1 : Int)) (.int .i64 ((1 + v2 : Nat) : Int)) = some (.bool (decide (v1 = 1 + v2))) := by
    exact eql_nat v1 (1 + v2)
   have lf := fun (σ : Slots) (hs : slot σ 4 = ptr (h.length + 3)) => lowF_at (s := 4) (lo := lo) (σ := σ) (h := h ++ leH b h.length tb out e) hs (by omega) (by rw [List.length_append, leH_len]; omega)
   have il : ∀ tb out e, isLow (h.length + 4) (h ++ leH b h.length tb out e) (ptr (h.length + 3)) = true := fun tb out e => by
    have hg : (h ++ leH b h.length tb out e)[h.length + 3]? = some (AObj.cells 66 [leF h.length] 0) := get_at (k := 3) rfl
    unfold isLow
    rw [Bool.and_eq_true]
    refine ⟨decide_eq_true (by show h.length + 3 < h.length + 4; omega), ?_⟩
    show Option.any _ ((h ++ leH b h.length tb out e)[h.length + 3]?) = true
    rw [hg]
    simp [belO_cells, below, leF]
   by_cases hq : v1 = 1 + v2
   ·rw [if_pos hq, List.map_cons] at c5
    rw [decide_eq_true hq] at be
    have ap : appendT (some elStr) (h ++ leH b h.length tb2 out (e ++ (e1 ++ e2))) lo false (Enc.sl (h.length + 5) out) (lst true (strE.vals [ns[i]])) = some (Enc.sl (h.length + 5) (out ++ [ns[i]]), h ++ leH b h.length tb2 (out ++ [ns[i]]) (e ++ (e1 ++ e2))) := by
     have := Enc.app (O := strE) (el := elStr) (lo := lo) (m := [ns[i]]) (h := h ++ leH b h.length tb2 out (e ++ (e1 ++ e2))) (b := h.length + 5) (t := 9) (l := out) rfl (get_at (k := 5) rfl) (Enc.cells_tree (O := strE) (x := true)) (by omega) (by show (out.length + 1) * 16 ≤ _; omega)
     rw [set_at] at this
     exact this
    have li : ∀ H, buildSliceT (some elStr) false H 1 #[(0, .string ns[i])] = some (lst true (strE.vals [ns[i]]), H) := fun H => Enc.lit (O := strE) ns[i] rfl rfl rfl
    obtain ⟨F, hF1, hF2⟩ : ∃ F : Slots → Heap, (∀ vs, Bm.trim (h.length + (e.length + 6)) vs (h ++ leH b h.length tb2 (out ++ [ns[i]]) (e ++ (e1 ++ e2))) = h ++ leH b h.length tb2 (out ++ [ns[i]]) (e ++ F vs)) ∧ ∀ vs, LeO (als A) ns tb2 (e ++ F vs) :=
     ⟨fun vs => (le_trim (h := h) (b := b) (out := out ++ [ns[i]]) hO2 h.length vs).choose, fun vs => (le_trim (h := h) (b := b) (out := out ++ [ns[i]]) hO2 h.length vs).choose_spec.1, fun vs => (le_trim (h := h) (b := b) (out := out ++ [ns[i]]) hO2 h.length vs).choose_spec.2⟩
    have qn := fun e' (hp : LeO (als A) ns tb2 (e ++ e')) => ihl (i + 1, tb2, out ++ [ns[i]], e ++ e', rem o (maskF (als A) ns[i])) (by show ns.length - (i + 1) < ns.length - i; omega) ⟨hi, rem_lt c2, hp, by show (out ++ [ns[i]]).length ≤ i + 1; rw [List.length_append]; simp; omega, by
     show (out ++ [ns[i]]) ++ _ = T
     rw [List.append_assoc]; exact c5⟩
    simp only at qn
    obtain ⟨u, h', r1, r2⟩ := lop_ih (F := F) qn hF2
    refine ⟨u, h', ?_, r2⟩
    rw [← r1]
    simp -implicitDefEqProofs [k24_7, -Int.natCast_add]
    simp -implicitDefEqProofs [r24_7, hi2, ix, le, g0, g3, rop_nilT, nilT_ptr, l2, lk, b3, bn, prep_still, prep_fix, lf, rop_loadL, il, wi, n1, n2, w2, be, li, ap, leH_len, hF1, -Int.natCast_add]
   ·rw [if_neg hq] at c5
    rw [decide_eq_false hq] at be
    obtain ⟨F, hF1, hF2⟩ : ∃ F : Slots → Heap, (∀ vs, Bm.trim (h.length + (e.length + 6)) vs (h ++ leH b h.length tb2 out (e ++ (e1 ++ e2))) = h ++ leH b h.length tb2 out (e ++ F vs)) ∧ ∀ vs, LeO (als A) ns tb2 (e ++ F vs) :=
     ⟨fun vs => (le_trim (h := h) (b := b) (out := out) hO2 h.length vs).choose, fun vs => (le_trim (h := h) (b := b) (out := out) hO2 h.length vs).choose_spec.1, fun vs => (le_trim (h := h) (b := b) (out := out) hO2 h.length vs).choose_spec.2⟩
    have qn := fun e' (hp : LeO (als A) ns tb2 (e ++ e')) => ihl (i + 1, tb2, out, e ++ e', o) (by show ns.length - (i + 1) < ns.length - i; omega) ⟨hi, c2, hp, by show out.length ≤ i + 1; omega, c5⟩
    simp only at qn
    obtain ⟨u, h', r1, r2⟩ := lop_ih (F := F) qn hF2
    refine ⟨u, h', ?_, r2⟩
    rw [← r1]
    simp -implicitDefEqProofs [k24_7, -Int.natCast_add]
    simp -implicitDefEqProofs [r24_7, hi2, ix, le, g0, g3, rop_nilT, nilT_ptr, l2, lk, b3, bn, prep_still, prep_fix, lf, rop_loadL, il, wi, n1, n2, w2, be, leH_len, hF1, -Int.natCast_add]
 ·intro u h' hK
  obtain ⟨tb, e, rfl, hO⟩ := hK
  refine ⟨tb, e, ?_, hO⟩
  simp -implicitDefEqProofs [k24_7]
end
end Go.Proofs.YtgefjhjmkejjbaaDoor.Bm
namespace Go.Proofs.YtgefjhjmkejjbaaDoor.Co
variable {S : Type} [DecidableEq S]
theorem mask_snoc_nil (L : List (List S)) (s : S) : maskF (L ++ [[]]) s = maskF L s := Nat.eq_of_testBit_eq fun k => by
 rw [mask_bit, mask_bit]
 congr 1
 rw [eq_iff_iff]
 constructor
 ·rintro ⟨a, ha, hs⟩
  by_cases h : k < L.length
  ·rw [List.getElem?_append_left h] at ha; exact ⟨a, ha, hs⟩
  ·rw [List.getElem?_append_right (by omega)] at ha
   by_cases h2 : k - L.length = 0
   ·rw [h2] at ha
    obtain rfl : [] = a := by simpa using ha
    cases hs
   ·rw [List.getElem?_eq_none (by simp; omega)] at ha; cases ha
 ·rintro ⟨a, ha, hs⟩
  exact ⟨a, by rw [List.getElem?_append_left (List.getElem?_eq_some_iff.1 ha).1]; exact ha, hs⟩
theorem mask_last (L : List (List S)) (a : List S) (s : S) : maskF (L ++ [a]) s = if s ∈ a then maskF L s ||| 2 ^ L.length else maskF L s := by
 refine Nat.eq_of_testBit_eq fun k => ?_
 have hL : (maskF L s).testBit k = true → k < L.length := fun h => mask_lt L s h
 by_cases hk : k < L.length
 ·have e1 : (maskF (L ++ [a]) s).testBit k = (maskF L s).testBit k := by rw [mask_bit, mask_bit, List.getElem?_append_left hk]
  rw [e1]
  split
  ·rw [Nat.testBit_or, Nat.testBit_two_pow, decide_eq_false (by omega), Bool.or_false]
  ·rfl
 ·have e1 : (maskF (L ++ [a]) s).testBit k = decide (k = L.length ∧ s ∈ a) := by
   rw [mask_bit, List.getElem?_append_right (by omega)]
   congr 1
   rw [eq_iff_iff]
   constructor
   ·rintro ⟨b, hb, hs⟩
    by_cases h2 : k - L.length = 0
    ·rw [h2] at hb
     obtain rfl : a = b := by simpa using hb
     exact ⟨by omega, hs⟩
    ·rw [List.getElem?_eq_none (by simp; omega)] at hb; cases hb
   ·rintro ⟨rfl, hs⟩
    exact ⟨a, by simp, hs⟩
  have e2 : (maskF L s).testBit k = false := by
   cases q : (maskF L s).testBit k
   ·rfl
   ·exact absurd (hL q) hk
  rw [e1]
  split
  ·rename_i hs
   rw [Nat.testBit_or, Nat.testBit_two_pow, e2, Bool.false_or]
   simp [hs, eq_comm]
  ·rename_i hs
   rw [e2]
   simp [hs]
theorem or_self (a b : Nat) : (a ||| b) ||| b = a ||| b := Nat.eq_of_testBit_eq fun k => by
 rw [Nat.testBit_or, Nat.testBit_or]
 cases a.testBit k <;> cases b.testBit k <;> rfl
theorem mask_more (L : List (List S)) (a : List S) (x s : S) : maskF (L ++ [a ++ [x]]) s = if s = x then maskF (L ++ [a]) s ||| 2 ^ L.length else maskF (L ++ [a]) s := by
 rw [mask_last, mask_last]
 by_cases h1 : s = x
 ·rw [if_pos h1, if_pos (by rw [h1]; simp)]
  split
  ·rw [or_self]
  ·rfl
 ·rw [if_neg h1]
  by_cases h2 : s ∈ a
  ·rw [if_pos h2, if_pos (List.mem_append_left _ h2)]
  ·rw [if_neg h2, if_neg]
   intro h3
   rcases List.mem_append.1 h3 with h3 | h3
   ·exact h2 h3
   ·exact h1 (List.mem_singleton.1 h3)
theorem mask_zero {L : List (List S)} {s : S} : maskF L s = 0 ↔ ¬ ∃ a ∈ L, s ∈ a := by
 constructor
 ·rintro h ⟨a, ha, hs⟩
  obtain ⟨k, hk, rfl⟩ := List.mem_iff_getElem.1 ha
  have := mask_bit L s k
  rw [h, Nat.zero_testBit] at this
  have := of_decide_eq_false this.symm
  exact this ⟨_, List.getElem?_eq_getElem hk, hs⟩
 ·intro h
  refine Nat.eq_of_testBit_eq fun k => ?_
  rw [Nat.zero_testBit, mask_bit, decide_eq_false]
  rintro ⟨a, ha, hs⟩
  exact h ⟨a, List.mem_of_getElem? ha, hs⟩
structure Gath (L : List (List S)) (ns : List S) : Prop where
 nd : ns.Nodup
 mem : ∀ x, x ∈ ns ↔ ∃ a ∈ L, x ∈ a
omit [DecidableEq S] in
theorem gath_nil : Gath ([] : List (List S)) [] := ⟨List.nodup_nil, fun x => by simp⟩
omit [DecidableEq S] in
theorem Gath.row {L : List (List S)} {ns : List S} (g : Gath L ns) : Gath (L ++ [[]]) ns := ⟨g.nd, fun x => by rw [g.mem]; simp⟩
theorem Gath.old {L : List (List S)} {a ns : List S} {x : S} (g : Gath (L ++ [a]) ns) (h : maskF (L ++ [a]) x ≠ 0) : Gath (L ++ [a ++ [x]]) ns := ⟨g.nd, fun y => by
 have h1 : x ∈ ns := by
  rw [g.mem]
  exact Classical.byContradiction fun q => h (mask_zero.2 q)
 rw [g.mem]
 have h2 := (g.mem x).1 h1
 simp only [List.mem_append, List.mem_singleton, exists_or, or_and_right] at h2 ⊢
 constructor
 ·rintro (⟨b, hb, hy⟩ | ⟨b, rfl, hy⟩)
  ·exact .inl ⟨b, hb, hy⟩
  ·exact .inr ⟨_, rfl, by simp [hy]⟩
 ·rintro (⟨b, hb, hy⟩ | ⟨b, rfl, hy⟩)
  ·exact .inl ⟨b, hb, hy⟩
  ·rcases List.mem_append.1 hy with hy | hy
   ·exact .inr ⟨_, rfl, hy⟩
   ·rw [List.mem_singleton.1 hy]; exact h2⟩
theorem Gath.new {L : List (List S)} {a ns : List S} {x : S} (g : Gath (L ++ [a]) ns) (h : maskF (L ++ [a]) x = 0) : Gath (L ++ [a ++ [x]]) (ns ++ [x]) := by
 have h1 : x ∉ ns := by
  rw [g.mem]
  exact mask_zero.1 h
 refine ⟨?_, fun y => ?_⟩
 ·rw [List.nodup_append]
  refine ⟨g.nd, by simp, fun b hb c hc => ?_⟩
  rw [List.mem_singleton.1 hc]
  rintro rfl
  exact h1 hb
 ·rw [List.mem_append, g.mem]
  simp only [List.mem_append, List.mem_singleton, exists_or, or_and_right]
  constructor
  ·rintro ((⟨b, hb, hy⟩ | ⟨b, rfl, hy⟩) | rfl)
   ·exact .inl ⟨b, hb, hy⟩
   ·exact .inr ⟨_, rfl, by simp [hy]⟩
   ·exact .inr ⟨_, rfl, by simp⟩
  ·rintro (⟨b, hb, hy⟩ | ⟨b, rfl, hy⟩)
   ·exact .inl (.inl ⟨b, hb, hy⟩)
   ·rcases List.mem_append.1 hy with hy | hy
    ·exact .inl (.inr ⟨_, rfl, hy⟩)
    ·exact .inr (List.mem_singleton.1 hy)
end Go.Proofs.YtgefjhjmkejjbaaDoor.Co
