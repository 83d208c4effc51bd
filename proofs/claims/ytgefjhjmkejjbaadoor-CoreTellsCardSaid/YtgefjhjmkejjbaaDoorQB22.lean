/-
 Chapter 27: the proof of a problem. Conditions: few alternatives, none without names.
-/
import Derived.Test.YtgefjhjmkejjbaaDoorQB21
import Derived.Test.YtgefjhjmkejjbaaDoorQB18
import Derived.Test.YtgefjhjmkejjbaaDoorQB16
import Derived.Test.YtgefjhjmkejjbaaDoorQB17
import Derived.Test.YtgefjhjmkejjbaaDoorRows
namespace Go.Proofs.YtgefjhjmkejjbaaDoor.Bm
open Go Go.RowKit
open Co (ltB rem maskF apartF allF packF packedF followF idxF replF)
theorem ret3t {f : FuncId} (hm : E.mode f = 3) {C : Callee} {lo : Nat} {h : Heap} {args : List Value} : retCall E C lo false f args h = (C f args h lo).map fun r => (r.1, trim h.length [r.1] r.2) := by
 unfold retCall; rw [hm]; rfl
theorem idxOk_eq (l : List Int) (n : Nat) : idxOk l n = idxF n l := by rw [Co.idx_asc]; rfl
theorem idx_cast {l : List Int} {n : Nat} (h : idxF n l = true) : castL (l.map (·.toNat)) = l ∧ ∀ k ∈ l.map (·.toNat), k < n := by
 have hm := Co.idx_mem h
 constructor
 ·unfold castL
  rw [List.map_map]
  have : l.map (Int.ofNat ∘ fun x => x.toNat) = l.map id := List.map_congr_left fun i hi => by
   have := hm i hi
   show ((i.toNat : Nat) : Int) = i
   omega
  rw [this, List.map_id]
 ·intro k hk
  obtain ⟨i, hi, rfl⟩ := List.mem_map.1 hk
  have := hm i hi
  omega
theorem repl_all (ls : List (List ByteArray)) (o : Nat) (a : List ByteArray) {N : List Nat} (hN : ∀ k ∈ N, k < a.length) : a.all (repB ls o a N) = replF ls o a N := by
 unfold replF repB
 rw [Bool.eq_iff_iff, List.all_eq_true, List.all_eq_true]
 refine forall_congr' fun x => forall_congr' fun hx => ?_
 rw [List.any_eq_true, List.any_eq_true]
 refine exists_congr fun k => and_congr_right fun hk => ?_
 have := hN k hk
 rw [List.getD_eq_getElem?_getD, List.getD_eq_getElem?_getD, List.getElem?_eq_getElem this]; rfl
structure FlP (k : Option Bool) (R : List (Option Bool × List Int)) : Prop where
 kk : Enc.Ok k R
 rows : ∀ x ∈ R, Enc.Ok x.1 x.2 ∧ x.2.length ≤ 1000
 len : R.length ≤ 1000000000000
structure FlO (r : Option (List (List Int))) (k : Option Bool) (R : List (Option Bool × List Int)) (ok : Bool) : Prop where
 p : FlP k R
 ok : ok = r.isSome
 eq : ∀ R', r = some R' → R.map (·.2) = R'
def FlG (h : Heap) (r : Option (List (List Int))) (X : Res) : Prop := ∃ k' R' ok, FlO r k' R' ok ∧ X = some (.tuple #[rowE.o k' R', .bool ok], h)
def FlS (A : List (Option Bool × List ByteArray)) (h : Heap) (b g : Nat) : Prop := ∀ (k : Option Bool) (R : List (Option Bool × List Int)) (o : Nat), FlP k R → o < 2 ^ 64 →
 ∀ lo, FlG h (followF (als A) (g + 1) (R.map (·.2)) o) (retCall E (L E) lo false 36 [ptr b, rowE.o k R, setV o, .int .i64 (g : Int)] h)
theorem fl_none : FlO none none [] false := ⟨⟨fun _ => rfl, fun _x hx => (List.not_mem_nil hx).elim, Nat.zero_le _⟩, rfl, fun _R' h => nomatch h⟩
section
variable {h : Heap} {b r m : Nat} {K : Option Bool} {A : List (Option Bool × List ByteArray)} {ns : List ByteArray}
set_option maxHeartbeats 4000000 in
theorem follow_step (p : Pb h b r m K A ns) (hw : WF h) {g : Nat} (hg : g ≤ 1000000) (ih : ∀ g', g = g' + 1 → FlS A h b g') : FlS A h b g := by
 intro k R o hR ho lo
 have l0 := fun sz => p.l0 (sz := sz)
 have ll : ∀ H, lenT .sl H (listE.o K A) = some (.int .i64 A.length) := fun H => Enc.o_len p.k
 match R, hR with
 | [], hR =>
  refine ⟨none, [], false, fl_none, ?_⟩
  have lr : ∀ H, lenT .sl H (rowE.o k []) = some (.int .i64 0) := fun H => Enc.o_len (O := rowE) hR.kk
  generalize rowE.o k [] = VR at *
  rw [ret3t m36, L_fn F36 rfl]
  simp -implicitDefEqProofs [r36, p36, lr, trim_le]
  rfl
 | (kr, row) :: rest, hR =>
  obtain ⟨x, rfl⟩ : ∃ x, k = some x := by
   cases k with
   | none => have := hR.kk rfl; cases this
   | some x => exact ⟨x, rfl⟩
  have lr : ∀ H, lenT .sl H (rowE.o (some x) ((kr, row) :: rest)) = some (.int .i64 ((rest.length : Int) + 1)) := fun H => by rw [Enc.o_len (O := rowE) Enc.ok_some]; rfl
  have ix : indexAddrT (.sl 42 ⟨some false, some 1⟩) (rowE.o (some x) ((kr, row) :: rest)) (.int .i64 0) = some (cptr (rowE.e (kr, row))) := Enc.index_o (O := rowE) (i := 0) (k := .i64) Enc.ok_some (by simp)
  have le : ∀ H sz, loadT ⟨some false, sz⟩ H (cptr (rowE.e (kr, row))) = some (intE.o kr row) := fun H sz => Enc.load_e (O := rowE) _
  have dr : ∀ H, sliceT (.sl 42 ⟨some false, some 1⟩) H (rowE.o (some x) ((kr, row) :: rest)) (some (.int .i64 1)) none none = some (rowE.o (some x) rest) := fun H => Enc.drop_tree (O := rowE) (x := x) (n := 1) (z := 1) rfl (by simp)
  have hrow := hR.rows _ List.mem_cons_self
  have hrl := hR.len
  rw [List.length_cons] at hrl
  have n0 : ¬ ((rest.length : Int) + 1 = 0) := by omega
  have hRr : FlP (some x) rest := ⟨Enc.ok_some, fun y hy => hR.rows y (List.mem_cons_of_mem _ hy), by omega⟩
  generalize rowE.o (some x) ((kr, row) :: rest) = VR at *
  generalize cptr (rowE.e (kr, row)) = VE at *
  match row, hrow with
  | [], hrow =>
   have lw : ∀ H, lenT .sl H (intE.o kr []) = some (.int .i64 0) := fun H => Enc.o_len (O := intE) hrow.1
   refine ⟨none, [], false, by
    rw [List.map_cons]
    exact fl_none, ?_⟩
   rw [ret3t m36, L_fn F36 rfl]
   generalize intE.o kr [] = VW at *
   simp -implicitDefEqProofs [r36, p36, lr, n0, ix, le, lw, trim_le]
   rfl
  | c :: t, hrow =>
   obtain ⟨y, rfl⟩ : ∃ y, kr = some y := by
    cases kr with
    | none => have := hrow.1 rfl; cases this
    | some y => exact ⟨y, rfl⟩
   have lw : ∀ H, lenT .sl H (intE.o (some y) (c :: t)) = some (.int .i64 ((t.length : Int) + 1)) := fun H => by rw [Enc.o_len (O := intE) Enc.ok_some]; rfl
   have htl := hrow.2
   simp only [List.length_cons] at htl
   have n1 : ¬ ((t.length : Int) + 1 = 0) := by omega
   have iw : indexAddrT (.sl 3 ⟨some false, some 1⟩) (intE.o (some y) (c :: t)) (.int .i64 0) = some (cptr (.int .i64 c)) := Enc.index_o (O := intE) (i := 0) (k := .i64) Enc.ok_some (by simp)
   have d1 : ∀ H, sliceT (.sl 3 ⟨some false, some 1⟩) H (intE.o (some y) (c :: t)) (some (.int .i64 1)) none none = some (intE.o (some y) t) := fun H => Enc.drop_tree (O := intE) (x := y) (n := 1) (z := 1) rfl (by simp)
   have wl : IntKind.i64.wrap ((t.length : Int) + 1 - 1) = (t.length : Int) := (wrap64 (by omega) (by omega)).trans (by omega)
   have wl2 : IntKind.i64.wrap (t.length : Int) = (t.length : Int) := wrap64 (by omega) (by omega)
   by_cases c0 : c = 0
   ·subst c0
    have hf : followF (als A) (g + 1) ((0 :: t) :: rest.map (·.2)) o = if decide (g + 1 ≤ t.length) && (idxF (als A).length t && packedF (als A) o [] (t.map (·.toNat))) then some (rest.map (·.2)) else none := by
     unfold followF
     dsimp only
     rw [if_pos rfl]
    rw [List.map_cons, hf]
    refine ⟨some x, rest, (decide (g + 1 ≤ t.length) && (idxF (als A).length t && packedF (als A) o [] (t.map (·.toNat)))), ?_, ?_⟩
    ·cases decide (g + 1 ≤ t.length) && (idxF (als A).length t && packedF (als A) o [] (t.map (·.toNat)))
     ·exact ⟨hRr, rfl, fun R' h => by cases h⟩
     ·exact ⟨hRr, rfl, fun R' h => by cases h; rfl⟩
    ·have rf : ∀ H, reify E.P 8 H (intE.o (some y) t) = some (intE.o (some y) t) := fun H => Enc.o_reify
     have rl : ∀ H z, reify E.P 8 H (.int .i64 z) = some (.int .i64 z) := fun _ _ => rfl
     have ia := indices_spec (some y) t Enc.ok_some (by omega) A.length
     rw [idxOk_eq] at ia
     have eal : (als A).length = A.length := by unfold als; rw [List.length_map]
     rw [eal]
     have pk : idxF A.length t = true → ∀ st, retCall E (L E) lo st 53 [ptr b, intE.o (some y) t, setV o] h = some (.bool (packedF (als A) o [] (t.map (·.toNat))), h) := fun q st => by
      obtain ⟨q1, q2⟩ := idx_cast q
      have := packed_spec p hw y (t.map (·.toNat)) q2 (by rw [List.length_map]; omega) ho lo st
      rw [q1] at this
      exact this
     rw [ret3t m36, L_fn F36 rfl]
     generalize intE.o (some y) (0 :: t) = VW at *
     generalize intE.o (some y) t = VT at *
     generalize rowE.o (some x) rest = VR2 at *
     generalize packedF (als A) o [] (t.map (·.toNat)) = pkB at *
     by_cases q1 : g + 1 ≤ t.length
     ·have q1' : (g : Int) < (t.length : Int) := by omega
      cases q2 : idxF A.length t
      ·rw [q2] at ia
       simp -implicitDefEqProofs [r36, p36, lr, n0, ix, le, lw, n1, dr, iw, d1, wl2, q1, q1', rop_nilT, nilT_ptr, l0, ll, ret0 m52, rf, rl, ia, trim_le]
      ·rw [q2] at ia
       have pk := pk q2
       simp -implicitDefEqProofs [r36, p36, lr, n0, ix, le, lw, n1, dr, iw, d1, wl2, q1, q1', rop_nilT, nilT_ptr, l0, ll, ret0 m52, rf, rl, ia, pk, trim_le]
     ·have q1' : ¬ (g : Int) < (t.length : Int) := by omega
      simp -implicitDefEqProofs [r36, p36, lr, n0, ix, le, lw, n1, dr, iw, wl2, q1, q1', trim_le]
   ·have c0' : ¬ (c == 0) = true := by simpa using c0
    by_cases c1 : c = 1 ∧ 2 ≤ t.length ∧ g ≠ 0 ∧ 0 ≤ t.headD 0 ∧ t.headD 0 < (A.length : Int)
    case neg =>
     have hf : followF (als A) (g + 1) ((c :: t) :: rest.map (·.2)) o = none := by
      unfold followF
      dsimp only
      rw [if_neg c0]
      by_cases e1 : c = 1
      ·rw [if_pos e1]
       cases t with
       | nil => rfl
       | cons k n =>
        show (if n = [] ∨ g = 0 ∨ k < 0 ∨ ((als A).length : Int) ≤ k then none else _) = none
        rw [if_pos]
        have eal : (als A).length = A.length := by unfold als; rw [List.length_map]
        rw [eal]
        apply Classical.byContradiction
        intro hne
        apply c1
        have h1 : n ≠ [] := fun e => hne (.inl e)
        have h2 := List.length_pos_iff.2 h1
        refine ⟨e1, by rw [List.length_cons]; omega, fun e => hne (.inr (.inl e)), ?_, ?_⟩
        ·show 0 ≤ k
         apply Classical.byContradiction
         intro q
         exact hne (.inr (.inr (.inl (by omega))))
        ·show k < (A.length : Int)
         apply Classical.byContradiction
         intro q
         exact hne (.inr (.inr (.inr (by omega))))
      ·rw [if_neg e1]
     rw [List.map_cons, hf]
     refine ⟨none, [], false, fl_none, ?_⟩
     show _ = some (Value.tuple #[.slice none 0 0, .bool false], h)
     rw [ret3t m36, L_fn F36 rfl]
     generalize rowE.o (some x) rest = VR2 at *
     by_cases e1 : c = 1
     ·subst e1
      by_cases e2 : 2 ≤ t.length
      ·obtain ⟨k, n, rfl⟩ : ∃ k n, t = k :: n := by
        cases t with
        | nil => simp at e2
        | cons k n => exact ⟨k, n, rfl⟩
       have e2' : ¬ (((k :: n).length : Int) + 1 < 3) := by omega
       have ik : indexAddrT (.sl 3 ⟨some false, some 1⟩) (intE.o (some y) (1 :: k :: n)) (.int .i64 1) = some (cptr (.int .i64 k)) := Enc.index_o (O := intE) (i := 1) (k := .i64) Enc.ok_some (by simp)
       have c1 : ¬ (g ≠ 0 ∧ 0 ≤ k ∧ k < (A.length : Int)) := fun q => c1 ⟨rfl, e2, q⟩
       generalize intE.o (some y) (1 :: k :: n) = VW at *
       generalize intE.o (some y) (k :: n) = VT at *
       generalize (k :: n).length = tl at *
       by_cases e3 : g = 0
       ·subst e3
        simp -implicitDefEqProofs [r36, p36, lr, n0, ix, le, lw, n1, dr, iw, e2', trim_le]
       ·have e3' : ¬ ((g : Int) < 1) := by omega
        by_cases e4 : k < 0
        ·simp -implicitDefEqProofs [r36, p36, lr, n0, ix, le, lw, n1, dr, iw, ik, e2', e3', e4, trim_le]
        ·have e5 : (A.length : Int) ≤ k := by omega
         simp -implicitDefEqProofs [r36, p36, lr, n0, ix, le, lw, n1, dr, iw, ik, e2', e3', e4, e5, rop_nilT, nilT_ptr, l0, ll, trim_le]
      ·have e2' : ((t.length : Int) + 1 < 3) := by omega
       generalize intE.o (some y) (1 :: t) = VW at *
       simp -implicitDefEqProofs [r36, p36, lr, n0, ix, le, lw, n1, dr, iw, e2', trim_le]
     ·generalize intE.o (some y) (c :: t) = VW at *
      simp -implicitDefEqProofs [r36, p36, lr, n0, ix, le, lw, n1, dr, iw, c0, e1, trim_le]
    obtain ⟨e1, e2, e3, e4, e5⟩ := c1
    subst e1
    obtain ⟨kz, n, rfl⟩ : ∃ k n, t = k :: n := by
     cases t with
     | nil => simp at e2
     | cons k n => exact ⟨k, n, rfl⟩
    have e4 : 0 ≤ kz := e4
    have e5 : kz < (A.length : Int) := e5
    obtain ⟨kn, rfl⟩ : ∃ kn : Nat, kz = (kn : Int) := ⟨kz.toNat, by omega⟩
    have hkn : kn < A.length := by omega
    obtain ⟨g', rfl⟩ : ∃ g', g = g' + 1 := ⟨g - 1, by omega⟩
    have ih := ih g' rfl
    rw [List.length_cons] at e2 htl
    have hnl : 0 < n.length := by omega
    have hn : n ≠ [] := List.length_pos_iff.1 hnl
    have eal : (als A).length = A.length := by unfold als; rw [List.length_map]
    have hf : followF (als A) (g' + 1 + 1) ((1 :: (kn : Int) :: n) :: rest.map (·.2)) o = if o.testBit kn && (idxF A[kn].2.length n && replF (als A) o A[kn].2 (n.map (·.toNat))) then
      n.foldlM (fun r i => followF (als A) (g' + 1) r (rem o ((maskF (als A) <$> A[kn].2[i.toNat]?).getD 0))) (rest.map (·.2)) else none := by
     rw [Co.followF.eq_def]
     dsimp only
     rw [if_neg (by decide), if_pos rfl, if_neg (by
      rintro (q | q | q | q)
      ·exact hn q
      ·omega
      ·omega
      ·rw [eal] at q; omega), Int.toNat_natCast, alt_at hkn]
    rw [List.map_cons, hf]
    have hka := p.ka _ (List.getElem_mem hkn)
    have hsm := p.small _ (List.getElem_mem hkn)
    have ik : indexAddrT (.sl 3 ⟨some false, some 1⟩) (intE.o (some y) (1 :: (kn : Int) :: n)) (.int .i64 1) = some (cptr (.int .i64 (kn : Int))) := Enc.index_o (O := intE) (i := 1) (k := .i64) Enc.ok_some (by simp)
    have d2 : ∀ H, sliceT (.sl 3 ⟨some false, some 1⟩) H (intE.o (some y) (1 :: (kn : Int) :: n)) (some (.int .i64 2)) none none = some (intE.o (some y) n) := fun H => Enc.drop_tree (O := intE) (x := y) (n := 2) (z := 2) rfl (by simp)
    have iA := Enc.index_o (O := listE) (t := 23) (k := .i64) p.k hkn
    have lA : ∀ h sz, loadT ⟨some false, sz⟩ h (cptr (listE.e A[kn])) = some (strE.o A[kn].1 A[kn].2) := fun h sz => Enc.load_e (O := listE) _
    have la : ∀ H, lenT .sl H (strE.o A[kn].1 A[kn].2) = some (.int .i64 A[kn].2.length) := fun H => Enc.o_len hka
    have ln : ∀ H, lenT .sl H (intE.o (some y) n) = some (.int .i64 n.length) := fun H => Enc.o_len (O := intE) Enc.ok_some
    have rf : ∀ H, reify E.P 8 H (intE.o (some y) n) = some (intE.o (some y) n) := fun H => Enc.o_reify
    have rl : ∀ H z, reify E.P 8 H (.int .i64 z) = some (.int .i64 z) := fun _ _ => rfl
    have ia := indices_spec (some y) n Enc.ok_some (by omega) A[kn].2.length
    rw [idxOk_eq] at ia
    have rp : idxF A[kn].2.length n = true → ∀ lo st, retCall E (L E) lo st 54 [ptr b, strE.o A[kn].1 A[kn].2, intE.o (some y) n, setV o] h = some (.bool (replF (als A) o A[kn].2 (n.map (·.toNat))), h) := fun q lo st => by
     obtain ⟨q1, q2⟩ := idx_cast q
     have := replace_spec p hw y (n.map (·.toNat)) hka q2 (by rw [List.length_map]; omega) (by omega) ho lo st
     rw [q1, repl_all _ _ _ q2] at this
     exact this
    have b1 := bin_shrU (P := E.P) (t := 58) (a := o) (n := kn) (by have := p.few; omega)
    have hao : o >>> kn < 2 ^ 64 := Nat.lt_of_le_of_lt (by rw [Nat.shiftRight_eq_div_pow]; exact Nat.div_le_self _ _) ho
    have b2 := bin_andU (P := E.P) (t := 58) (a := o >>> kn) (b := 1) hao (by omega)
    have z0 : aBin E.P .eql 58 (setV 0) (.int .u64 0) = some (.bool true) := mk_eq (a := 0) (b := 0)
    have z1 : aBin E.P .eql 58 (setV 1) (.int .u64 0) = some (.bool false) := mk_eq (a := 1) (b := 0)
    rw [bit_at] at b2
    have e1V : setV 1 = .int .u64 1 := rfl
    rw [e1V] at b2
    have g2 : ¬ (((n.length + 1 : Nat) : Int) + 1 < 3) := by omega
    have g3 : ¬ (((g' + 1 : Nat) : Int) < 1) := by omega
    have g4 : ¬ ((kn : Int) < 0) := by omega
    have g5 : ¬ ((A.length : Int) ≤ (kn : Int)) := by omega
    have g6 : ((n.length + 1 : Nat) : Int) = (n.length : Int) + 1 := by omega
    have g7 : ((g' + 1 : Nat) : Int) = (g' : Int) + 1 := by omega
    simp only [List.length_cons] at lw
    rw [g6] at lw g2
    rw [g7] at g3
    have n1' : ¬ ((n.length : Int) + 1 + 1 = 0) := by omega
    have an : ∀ (i : Nat) (hi : i < n.length), indexAddrT (.sl 3 ⟨some false, some 1⟩) (intE.o (some y) n) (.int .i64 (i : Int)) = some (cptr (.int .i64 n[i])) := fun i hi => Enc.index_o Enc.ok_some hi
    have as_ : ∀ (i : Nat) (hi : i < A[kn].2.length), indexAddrT (.sl 9 ⟨some false, some 1⟩) (strE.o A[kn].1 A[kn].2) (.int .i64 (i : Int)) = some (cptr (.string A[kn].2[i])) := fun i hi => Enc.index_o hka hi
    have l2 := fun sz => p.l2 (sz := sz)
    have lk := fun s => p.look s
    generalize hVW : intE.o (some y) (1 :: (kn : Int) :: n) = VW at *
    generalize intE.o (some y) n = VN at *
    generalize listE.o K A = VA at *
    generalize cptr (listE.e A[kn]) = VE2 at *
    generalize strE.o A[kn].1 A[kn].2 = VS at *
    by_cases q : (o.testBit kn && (idxF A[kn].2.length n && replF (als A) o A[kn].2 (n.map (·.toNat)))) = true
    case neg =>
     rw [if_neg q]
     refine ⟨none, [], false, fl_none, ?_⟩
     show _ = some (Value.tuple #[.slice none 0 0, .bool false], h)
     rw [ret3t m36, L_fn F36 rfl]
     generalize rowE.o (some x) rest = VR2 at *
     cases q1 : o.testBit kn
     ·simp -implicitDefEqProofs [r36, p36, lr, n0, ix, le, lw, n1', dr, iw, g2, g3, g4, g5, ik, d2, iA, lA, rop_nilT, nilT_ptr, l0, ll, b1, b2, q1, z0, trim_le]
     cases q2 : idxF A[kn].2.length n
     ·rw [q2] at ia
      simp -implicitDefEqProofs [r36, p36, lr, n0, ix, le, lw, n1', dr, iw, g2, g3, g4, g5, ik, d2, iA, lA, la, rop_nilT, nilT_ptr, l0, ll, b1, b2, q1, z1, ret0 m52, rf, rl, ia, trim_le]
     rw [q2] at ia
     have rp := rp q2
     have q3 : replF (als A) o A[kn].2 (n.map (·.toNat)) = false := by
      cases q3 : replF (als A) o A[kn].2 (n.map (·.toNat))
      ·rfl
      ·rw [q1, q2, q3] at q; exact absurd rfl q
     rw [q3] at rp
     simp -implicitDefEqProofs [r36, p36, lr, n0, ix, le, lw, n1', dr, iw, g2, g3, g4, g5, ik, d2, iA, lA, la, rop_nilT, nilT_ptr, l0, ll, b1, b2, q1, z1, ret0 m52, rf, rl, ia, rp, trim_le]
    rw [if_pos q]
    simp only [Bool.and_eq_true] at q
    obtain ⟨q1, q2, q3⟩ := q
    rw [q2] at ia
    have rp := rp q2
    rw [q3] at rp
    have him := Co.idx_mem q2
    generalize hF : n.foldlM (fun r i => followF (als A) (g' + 1) r (rem o ((maskF (als A) <$> A[kn].2[i.toNat]?).getD 0))) (rest.map (·.2)) = F
    rw [ret3t m36, L_fn F36 rfl]
    simp -implicitDefEqProofs [r36, p36, lr, n0, ix, le, lw, n1', dr, iw, g2, g3, g4, g5, ik, d2, iA, lA, la, rop_nilT, nilT_ptr, l0, ll, b1, b2, q1, z1, ret0 m52, rf, rl, ia, rp, ln]
    refine ux_goal (G := fun X => FlG h F (Option.map (fun r => (r.1, Bm.trim h.length [r.1] r.2)) (retK [RRes.tmp 8, RRes.tmp 9] (seqC E (L E) LL lo (blkK 1 X) _))))
     (LL_ux (α := Nat × Option Bool × List (Option Bool × List Int)) (U := Option Bool × List (Option Bool × List Int)) (0, some x, rest) (fun a => [(11, rowE.o a.2.1 a.2.2), (127, .int .i64 (a.1 : Int))]) (fun _ => h)
      (if F.isSome = true then .exit 1 else .ret) (fun u => if F.isSome = true then [(11, rowE.o u.1 u.2), (127, undef)] else [(8, .slice none 0 0), (9, .bool false), (11, rowE.o u.1 u.2), (127, undef)])
      (fun u h' => h' = h ∧ ∀ R', F = some R' → FlP u.1 u.2 ∧ u.2.map (·.2) = R')
      (fun a => a.1 ≤ n.length ∧ FlP a.2.1 a.2.2 ∧ (n.drop a.1).foldlM (fun r i => followF (als A) (g' + 1) r (rem o ((maskF (als A) <$> A[kn].2[i.toNat]?).getD 0))) (a.2.2.map (·.2)) = F)
      (fun a => n.length - a.1) ?_ ?_ ?_ ?_) ?_
    ·exact ⟨Nat.zero_le _, hRr, hF⟩
    ·simp -implicitDefEqProofs [k36_12]
    ·rfl
    ·intro nx a ha ihl
     obtain ⟨i, k', R'⟩ := a
     obtain ⟨c1, c2, c3⟩ := ha
     simp only at c1 c2 c3 ihl ⊢
     by_cases hi : i < n.length
     case neg =>
      have e : i = n.length := by omega
      subst e
      rw [List.drop_length, List.foldlM_nil] at c3
      have c3 : F = some (R'.map (·.2)) := c3.symm
      subst c3
      refine ⟨(k', R'), h, ?_, rfl, fun R2 h2 => ⟨c2, Option.some.inj h2⟩⟩
      have gi : ¬ ((n.length : Int) < (n.length : Int)) := by omega
      simp -implicitDefEqProofs [r36_12, k36_12, trim_le]
     have hi2 : (i : Int) < (n.length : Int) := by omega
     have hd : n.drop i = n[i] :: n.drop (i + 1) := List.drop_eq_getElem_cons hi
     have hm := him n[i] (List.getElem_mem hi)
     obtain ⟨j, hj⟩ : ∃ j : Nat, n[i] = (j : Int) := ⟨n[i].toNat, by omega⟩
     have hj2 : j < A[kn].2.length := by omega
     have x1 := an i hi
     rw [hj] at x1
     have x2 := as_ j hj2
     have x3 := lk A[kn].2[j]
     have em : (maskF (als A) <$> A[kn].2[n[i].toNat]?).getD 0 = maskF (als A) A[kn].2[j] := by
      rw [hj, Int.toNat_natCast, List.getElem?_eq_getElem hj2]; rfl
     have b3 := bin_remU (P := E.P) (t := 58) ho (mask_small A p.few A[kn].2[j])
     have wi : IntKind.i64.wrap ((i : Int) + 1) = ((i + 1 : Nat) : Int) := (wrap64 (by omega) (by omega)).trans (by omega)
     have wg : IntKind.i64.wrap ((g' : Int) + 1 - 1) = (g' : Int) := (wrap64 (by omega) (by omega)).trans (by omega)
     have wg2 : IntKind.i64.wrap (g' : Int) = (g' : Int) := wrap64 (by omega) (by omega)
     obtain ⟨k2, R2, ok, f1, f2⟩ := ih k' R' (rem o (maskF (als A) A[kn].2[j])) c2 (rem_lt ho) lo
     rw [hd, List.foldlM_cons, em] at c3
     cases hq : followF (als A) (g' + 1) (R'.map (·.2)) (rem o (maskF (als A) A[kn].2[j])) with
     | none =>
      rw [hq] at f1 c3
      have c3 : F = none := c3.symm
      subst c3
      have ho1 := f1.ok
      rw [show (none : Option (List (List Int))).isSome = false from rfl] at ho1
      subst ho1
      refine ⟨(k', R'), h, ?_, rfl, fun R2 h2 => by cases h2⟩
      simp -implicitDefEqProofs [r36_12, k36_12, hi2, x1, x2, rop_nilT, nilT_ptr, l2, x3, b3, wg2, f2, trim_le]
     | some R3 =>
      rw [hq] at f1 c3
      have c3 : (n.drop (i + 1)).foldlM (fun r i => followF (als A) (g' + 1) r (rem o ((maskF (als A) <$> A[kn].2[i.toNat]?).getD 0))) R3 = F := c3
      have ho1 := f1.ok
      rw [show (some R3 : Option (List (List Int))).isSome = true from rfl] at ho1
      subst ho1
      have heq := f1.eq R3 rfl
      rw [← heq] at c3
      obtain ⟨u, h', r1, r2⟩ := ihl (i + 1, k2, R2) (by show n.length - (i + 1) < n.length - i; omega) ⟨hi, f1.p, c3⟩
      refine ⟨u, h', ?_, r2⟩
      rw [← r1]
      simp -implicitDefEqProofs [k36_12, -Int.natCast_add]
      simp -implicitDefEqProofs [r36_12, hi2, x1, x2, rop_nilT, nilT_ptr, l2, x3, b3, wg2, f2, wi, trim_le, -Int.natCast_add]
    ·intro u h' hK
     obtain ⟨rfl, hu⟩ := hK
     cases F with
     | none =>
      refine ⟨none, [], false, fl_none, ?_⟩
      simp -implicitDefEqProofs [k36_12, trim_le]
      rfl
     | some R' =>
      obtain ⟨u1, u2⟩ := hu R' rfl
      refine ⟨u.1, u.2, true, ⟨u1, rfl, fun R2 h2 => by rw [← Option.some.inj h2]; exact u2⟩, ?_⟩
      simp -implicitDefEqProofs [k36_12, trim_le]
theorem follow_spec (p : Pb h b r m K A ns) (hw : WF h) : ∀ g, g ≤ 1000000 → FlS A h b g := by
 intro g
 induction g with
 | zero => intro hg; exact follow_step p hw hg fun g' e => by omega
 | succ g ih =>
  intro hg
  refine follow_step p hw hg fun g' e => ?_
  have e : g = g' := by omega
  subst e
  exact ih (by omega)
end
end Go.Proofs.YtgefjhjmkejjbaaDoor.Bm
namespace Go.Proofs.YtgefjhjmkejjbaaDoor.Bm
open Go Go.RowKit
theorem okE : OkProg E.P := okProg_of (by kernel_rfl) (by kernel_rfl)
theorem laidE : laidOutB E.P = true := by kernel_rfl
theorem mapsE : mapsRowed E.P = true := by kernel_rfl
noncomputable def tlE : List TypeId := closeT E.P 8 [22, 23, 24, 5]
theorem closedE : closedT E.P tlE = true := by kernel_rfl
theorem in22 : 22 ∈ tlE := List.contains_iff_mem.1 (by kernel_rfl)
theorem in23 : 23 ∈ tlE := List.contains_iff_mem.1 (by kernel_rfl)
theorem in24 : 24 ∈ tlE := List.contains_iff_mem.1 (by kernel_rfl)
theorem in5 : 5 ∈ tlE := List.contains_iff_mem.1 (by kernel_rfl)
theorem u4 : E.P.underlying 4 = some .bool := by kernel_rfl
theorem fInt : E.P.underlying 3 = some (.int .i64) := by kernel_rfl
theorem fStr : E.P.underlying 9 = some .string := by kernel_rfl
theorem fSs : E.P.underlying 23 = some (.slice 9) := by kernel_rfl
theorem fSss : E.P.underlying 22 = some (.slice 23) := by kernel_rfl
theorem fIs : E.P.underlying 42 = some (.slice 3) := by kernel_rfl
theorem fIss : E.P.underlying 24 = some (.slice 42) := by kernel_rfl
theorem gSs : aggT E.P 23 = some false := by kernel_rfl
theorem gSss : aggT E.P 22 = some false := by kernel_rfl
theorem gIs : aggT E.P 42 = some false := by kernel_rfl
theorem gIss : aggT E.P 24 = some false := by kernel_rfl
theorem strsV {n : Nat} {c : List Value} (h : Wt E.P n 23 c) : ∃ l : List ByteArray, elemV E.P 23 c = strE.o (some false) l ∧ l.length ≤ maxLen := by
 obtain ⟨l, rfl, h1, _⟩ := wt_strs fSs fStr h
 exact ⟨l, by simp [elemV, gSs]; rfl, h1⟩
theorem alV {n : Nat} {c : List Value} (h : Wt E.P n 22 c) : ∃ A : List (Option Bool × List ByteArray), elemV E.P 22 c = listE.o (some false) A ∧ A.length ≤ maxLen ∧ ∀ x ∈ A, Enc.Ok x.1 x.2 ∧ x.2.length ≤ maxLen := by
 obtain ⟨ls, rfl, h2, h3⟩ := wt_slice fSss h
 obtain ⟨rs, rfl, k2⟩ := choose_list (α := List ByteArray) (cells := fun l => [strE.o (some false) l]) (Q := fun l => l.length ≤ maxLen) ls fun x hx => by
  obtain ⟨m, hm⟩ := h3 x hx
  obtain ⟨l, rfl, h1, _⟩ := wt_strs fSs fStr hm
  exact ⟨l, rfl, h1⟩
 refine ⟨rs.map fun l => (some false, l), ?_, by simpa using h2, fun r hr => ?_⟩
 ·have e : ∀ l : List (List ByteArray), (l.map fun l => [strE.o (some false) l]).map (elemV E.P 23) = (l.map fun l => ((some false, l) : Option Bool × List ByteArray)).map listE.e := by
   intro l
   induction l with
   | nil => rfl
   | cons r l ih =>
    rw [List.map_cons, List.map_cons, ih, List.map_cons, List.map_cons]
    simp [elemV, gSs]; rfl
  rw [e]
  unfold elemV
  rw [gSss]; rfl
 ·obtain ⟨l, hl, rfl⟩ := List.mem_map.1 hr
  exact ⟨Enc.ok_some, k2 l hl⟩
theorem prfV {n : Nat} {c : List Value} (h : Wt E.P n 24 c) : ∃ R : List (Option Bool × List Int), elemV E.P 24 c = rowE.o (some false) R ∧ R.length ≤ maxLen ∧ ∀ x ∈ R, Enc.Ok x.1 x.2 ∧ x.2.length ≤ maxLen := by
 obtain ⟨ls, rfl, h2, h3⟩ := wt_slice fIss h
 obtain ⟨rs, rfl, k2⟩ := choose_list (α := List Int) (cells := fun l => [intE.o (some false) l]) (Q := fun l => l.length ≤ maxLen) ls fun x hx => by
  obtain ⟨m, hm⟩ := h3 x hx
  obtain ⟨l, rfl, h1, _⟩ := wt_ints fIs fInt hm
  exact ⟨l, rfl, h1⟩
 refine ⟨rs.map fun l => (some false, l), ?_, by simpa using h2, fun r hr => ?_⟩
 ·have e : ∀ l : List (List Int), (l.map fun l => [intE.o (some false) l]).map (elemV E.P 42) = (l.map fun l => ((some false, l) : Option Bool × List Int)).map rowE.e := by
   intro l
   induction l with
   | nil => rfl
   | cons r l ih =>
    rw [List.map_cons, List.map_cons, ih, List.map_cons, List.map_cons]
    simp [elemV, gIs]; rfl
  rw [e]
  unfold elemV
  rw [gIss]; rfl
 ·obtain ⟨l, hl, rfl⟩ := List.mem_map.1 hr
  exact ⟨Enc.ok_some, k2 l hl⟩
theorem orcE : OrcSound E := by
 have key : ∀ g k, E.orc g = some k → k = inGS Co.sortB none ∧ SortConS E.P g Co.sortB none := fun g k h => by
  rw [E_orc] at h
  by_cases h0 : g = 40
  ·subst h0; simp only [if_true, Option.some.injEq] at h; exact ⟨h.symm, conSortS⟩
  ·simp only [h0, if_false] at h; cases h
 refine ⟨fun g k hg args h lo r _ => ?_, fun g k hg args h lo v h' hr hlo B M w args' hs hv => ?_, fun g k hg args h lo v h' hr hlo => ?_⟩
 ·exact (key g k hg).2.dfd
 ·obtain ⟨rfl, hC⟩ := key g k hg
  exact in_soundS hC hr hlo args' hs hv
 ·obtain ⟨rfl, _⟩ := key g k hg
  exact inGS_keep hr
end Go.Proofs.YtgefjhjmkejjbaaDoor.Bm
namespace Go.Proofs.YtgefjhjmkejjbaaDoor.Bm
open Go Go.RowKit
open Co (ltB rem maskF apartF allF packF packedF)
abbrev elRow : El := ⟨42, 1, 24, .slice none 0 0, ⟨some false, some 1⟩⟩
def pvF (B : Nat) : Value := .func (.func 43) #[] #[ptr B, ptr (B + 1), ptr (B + 2)]
def rowsV (B : Nat) (n : Nat) : Value := .slice (some ⟨B + 3, 0, some n⟩) n n
def pvH (b B : Nat) (cs : List Value) (e : Heap) : Heap := AObj.cells 43 [ptr b] 0 :: AObj.cells 24 [rowsV B cs.length] 0 :: AObj.cells 70 [pvF B] 0 :: AObj.cells 42 cs 1 :: e
theorem pvH_len {b B : Nat} {cs : List Value} {e : Heap} : (pvH b B cs e).length = e.length + 4 := rfl
theorem pvH_app {b B : Nat} {cs : List Value} {e f : Heap} : pvH b B cs e ++ f = pvH b B cs (e ++ f) := rfl
structure Rows (n : Nat) (e : Heap) (cs : List Value) (P : List (List Int)) : Prop where
 len : cs.length = P.length
 row : ∀ i (h1 : i < cs.length) (h2 : i < P.length), ∃ q, cs[i] = Enc.sl (n + q) P[i] ∧ e[q]? = some (intE.row 3 P[i])
theorem Rows.nil {n : Nat} {e : Heap} : Rows n e [] [] := ⟨rfl, fun i h1 => absurd h1 (by simp)⟩
theorem Rows.app {n : Nat} {e : Heap} {cs : List Value} {P : List (List Int)} (h : Rows n e cs P) (f : Heap) : Rows n (e ++ f) cs P := ⟨h.len, fun i h1 h2 => by
 obtain ⟨q, a, b⟩ := h.row i h1 h2
 exact ⟨q, a, get_app b⟩⟩
theorem Rows.snoc {n : Nat} {e : Heap} {cs : List Value} {P : List (List Int)} (h : Rows n e cs P) {L : List Int} {q : Nat} (hq : e[q]? = some (intE.row 3 L)) : Rows n e (cs ++ [Enc.sl (n + q) L]) (P ++ [L]) := ⟨by rw [List.length_append, List.length_append, h.len]; rfl, fun i h1 h2 => by
 by_cases e : i < cs.length
 ·have h3 : i < P.length := by have := h.len; omega
  rw [List.getElem_append_left e, List.getElem_append_left h3]
  exact h.row i e h3
 ·have h4 : i = cs.length := by simp at h1; omega
  subst h4
  have h3 : P.length = cs.length := h.len.symm
  refine ⟨q, by simp [h3], ?_⟩
  rw [hq]; simp [h3]⟩
theorem Rows.cut {n m : Nat} {e : Heap} {cs : List Value} {P : List (List Int)} (h : Rows n e cs P) (hb : cs.all (below 8 (n + m)) = true) : Rows n (e.take m) cs P := ⟨h.len, fun i h1 h2 => by
 obtain ⟨q, a, b⟩ := h.row i h1 h2
 have h3 := List.all_eq_true.1 hb cs[i] (List.getElem_mem h1)
 rw [a] at h3
 have h3 : decide (n + q < n + m) = true := h3
 have h3 := of_decide_eq_true h3
 exact ⟨q, a, by rw [List.getElem?_take_of_lt (by omega)]; exact b⟩⟩
structure PvO (h : Heap) (b : Nat) (cs : List Value) (P : List (List Int)) (e : Heap) : Prop where
 wf : WF (h ++ pvH b h.length cs e)
 rows : Rows (h.length + 4) e cs P
section
variable {h : Heap} {b : Nat} {cs : List Value} {P : List (List Int)} {E1 : Heap}
theorem PvO.app (o : PvO h b cs P E1) {x : AObj} (hx : belowO (h.length + (E1.length + 4) + 1) x = true) : PvO h b cs P (E1 ++ [x]) := ⟨by
 have := o.wf.snoc (o := x) (by rw [List.length_append, pvH_len]; exact hx)
 rw [List.append_assoc, pvH_app] at this
 exact this, o.rows.app _⟩
theorem pv_trim {e : Heap} (o : PvO h b cs P (E1 ++ e)) (vs : List Value) : ∃ e', trim (h.length + (E1.length + 4)) vs (h ++ pvH b h.length cs (E1 ++ e)) = h ++ pvH b h.length cs (E1 ++ e') ∧ PvO h b cs P (E1 ++ e') := by
 unfold Bm.trim
 split
 ·exact ⟨e, rfl, o⟩
 ·split
  ·rename_i hq
   have e1 : (h ++ pvH b h.length cs (E1 ++ e)).take (h.length + (E1.length + 4)) = h ++ pvH b h.length cs E1 := by
    have e2 : h ++ pvH b h.length cs (E1 ++ e) = (h ++ pvH b h.length cs E1) ++ e := by rw [List.append_assoc, pvH_app]
    rw [e2, List.take_left' (by rw [List.length_append, pvH_len])]
   rw [e1] at hq ⊢
   refine ⟨[], by rw [List.append_nil], ?_⟩
   rw [Bool.and_eq_true] at hq
   rw [List.append_nil]
   have hb : cs.all (below 8 (h.length + 4 + E1.length)) = true := by
    have h2 := List.all_eq_true.1 hq.2 (AObj.cells 42 cs 1) (List.mem_append_right _ (by unfold pvH; simp))
    rw [show h.length + 4 + E1.length = h.length + (E1.length + 4) by omega]
    exact h2
   have hr := o.rows.cut hb
   rw [List.take_left] at hr
   refine ⟨?_, hr⟩
   unfold WF
   rw [List.length_append, pvH_len]
   exact hq.2
  ·exact ⟨e, rfl, o⟩
theorem pv_push {lo : Nat} (hlo : lo ≤ h.length) (o : PvO h b cs P E1) (hP : P.length ≤ 1000000000000) {x : List Int} {K : List Nat} (hK : K ≠ []) (hx : x.length ≤ 2) (hl : K.length ≤ 1000) :
  (∀ st, appendT (some elInt) (h ++ pvH b h.length cs E1) lo st (lst true (intE.vals x)) (intE.o (some false) (castL K)) = some (Enc.sl (h.length + (E1.length + 4)) (x ++ castL K), h ++ pvH b h.length cs (E1 ++ [intE.row 3 (x ++ castL K)]))) ∧
  buildSliceT (some elRow) false (h ++ pvH b h.length cs (E1 ++ [intE.row 3 (x ++ castL K)])) 1 #[(0, Enc.sl (h.length + (E1.length + 4)) (x ++ castL K))] = some (.slice (some ⟨h.length + (E1.length + 5), 0, none⟩) 1 1, h ++ pvH b h.length cs (E1 ++ [intE.row 3 (x ++ castL K), AObj.cells 42 [Enc.sl (h.length + (E1.length + 4)) (x ++ castL K)] 0])) ∧
  ∃ H, appendT (some elRow) (h ++ pvH b h.length cs (E1 ++ [intE.row 3 (x ++ castL K), AObj.cells 42 [Enc.sl (h.length + (E1.length + 4)) (x ++ castL K)] 0])) lo false (rowsV h.length cs.length) (.slice (some ⟨h.length + (E1.length + 5), 0, none⟩) 1 1) = some (rowsV h.length (cs.length + 1), H) ∧
   storeT (some 1) H lo (rowsV h.length (cs.length + 1)) (ptr (h.length + 1)) = some (h ++ pvH b h.length (cs ++ [Enc.sl (h.length + (E1.length + 4)) (x ++ castL K)]) (E1 ++ [intE.row 3 (x ++ castL K), AObj.cells 42 [Enc.sl (h.length + (E1.length + 4)) (x ++ castL K)] 0])) ∧
   PvO h b (cs ++ [Enc.sl (h.length + (E1.length + 4)) (x ++ castL K)]) (P ++ [x ++ castL K]) (E1 ++ [intE.row 3 (x ++ castL K), AObj.cells 42 [Enc.sl (h.length + (E1.length + 4)) (x ++ castL K)] 0]) := by
 have hKc : castL K ≠ [] := fun e => hK (by rw [show castL K = K.map Int.ofNat from rfl] at e; exact List.map_eq_nil_iff.1 e)
 have hcl := cast_len K
 refine ⟨fun st => ?_, ?_, ?_⟩
 ·have := Enc.app_tree (O := intE) (el := elInt) (lo := lo) (st := st) (h := h ++ pvH b h.length cs E1) (l := x) (m := castL K) rfl (Enc.cells_tree (O := intE) (x := false)) hKc (by rw [hcl]; show (x.length + K.length) * 8 ≤ _; omega)
  rw [List.length_append, pvH_len, List.append_assoc, pvH_app] at this
  exact this
 ·rw [build_one' (by rfl) rfl rfl, if_neg (by decide), if_neg (by
   show ¬ false = true
   decide), List.length_append, pvH_len, List.length_append, List.append_assoc, pvH_app, List.append_assoc]
  rfl
 ·generalize hL : x ++ castL K = L at *
  refine ⟨(h ++ pvH b h.length cs (E1 ++ [intE.row 3 L, AObj.cells 42 [Enc.sl (h.length + (E1.length + 4)) L] 0])).set (h.length + 3) (.cells 42 (cs ++ [Enc.sl (h.length + (E1.length + 4)) L]) 1), ?_, ?_, ?_⟩
  ·have e1 : (h ++ pvH b h.length cs (E1 ++ [intE.row 3 L, AObj.cells 42 [Enc.sl (h.length + (E1.length + 4)) L] 0]))[h.length + 3]? = some (.cells 42 cs 1) := get_at rfl
   have e2 : sliceCells (h ++ pvH b h.length cs (E1 ++ [intE.row 3 L, AObj.cells 42 [Enc.sl (h.length + (E1.length + 4)) L] 0])) 1 (.slice (some ⟨h.length + (E1.length + 5), 0, none⟩) 1 1) = some ([Enc.sl (h.length + (E1.length + 4)) L], 1) := by
    have e3 : (h ++ pvH b h.length cs (E1 ++ [intE.row 3 L, AObj.cells 42 [Enc.sl (h.length + (E1.length + 4)) L] 0]))[h.length + (E1.length + 5)]? = some (AObj.cells 42 [Enc.sl (h.length + (E1.length + 4)) L] 0) := get_at (by
     show (E1 ++ [intE.row 3 L, AObj.cells 42 [Enc.sl (h.length + (E1.length + 4)) L] 0])[E1.length + 1]? = _
     rw [List.getElem?_append_right (by omega), show E1.length + 1 - E1.length = 1 by omega]; rfl)
    unfold sliceCells fitsRow rdN rowOf
    simp [e3, stampOk]
   unfold rowsV
   rw [append_slice]
   show appS elRow _ lo false _ _ _ (_[h.length + 3]?) (sliceCells _ 1 _) = _
   rw [e1, e2]
   refine (appS_grown (el := elRow) (m := 1) (g := 0) (b := h.length + 3) (by decide) rfl rfl rfl (by omega) (by omega) (by rw [o.rows.len]; show (P.length + 1) * 24 ≤ _; omega)).trans ?_
   rw [List.length_append]; rfl
  ·rw [set_at]
   have := obj_store (h := h ++ (pvH b h.length cs (E1 ++ [intE.row 3 L, AObj.cells 42 [Enc.sl (h.length + (E1.length + 4)) L] 0])).set 3 (.cells 42 (cs ++ [Enc.sl (h.length + (E1.length + 4)) L]) 1)) (b := h.length + 1) (j := 0) (lo := lo) (t := 24) (c := [rowsV h.length cs.length]) (v := rowsV h.length (cs.length + 1)) (get_at (k := 1) rfl) (by simp) (by omega) rfl
   refine this.trans ?_
   rw [set_at]
   unfold pvH
   rw [List.length_append]; rfl
  ·have o2 := (o.app (x := intE.row 3 L) Enc.row_bel).app (x := AObj.cells 42 [Enc.sl (h.length + (E1.length + 4)) L] 0) (by
    rw [belO_cells, List.all_cons, List.all_nil, Bool.and_true]
    exact Enc.sl_bel (d := 7) (by rw [List.length_append, List.length_singleton]; omega))
   rw [List.append_assoc] at o2
   have hr := o2.rows.snoc (L := L) (q := E1.length) (by
    show (E1 ++ [intE.row 3 L, AObj.cells 42 [Enc.sl (h.length + (E1.length + 4)) L] 0])[E1.length]? = _
    rw [List.getElem?_append_right (Nat.le_refl _), Nat.sub_self]; rfl)
   have e5 : h.length + 4 + E1.length = h.length + (E1.length + 4) := by omega
   rw [e5] at hr
   refine ⟨?_, hr⟩
   have hw := o2.wf
   unfold WF pvH at hw ⊢
   simp only [List.all_append, List.all_cons, List.length_append, List.length_cons, List.length_nil, Bool.and_eq_true, List.singleton_append] at hw ⊢
   obtain ⟨a1, a2, a3, a4, a5, a6⟩ := hw
   refine ⟨a1, a2, ?_, a4, ?_, a6⟩
   ·rw [belO_cells, List.all_cons, List.all_nil, Bool.and_true]
    refine decide_eq_true ?_
    show h.length + 3 < _
    omega
   ·rw [belO_cells] at a5 ⊢
    rw [List.all_append, a5, List.all_cons, List.all_nil, Bool.and_true, Bool.true_and]
    exact Enc.sl_bel (d := 7) (by omega)
end
end Go.Proofs.YtgefjhjmkejjbaaDoor.Bm
namespace Go.Proofs.YtgefjhjmkejjbaaDoor.Bm
open Go Go.RowKit
open Co (ltB rem maskF apartF allF packF packedF proveF choicesF firstF Within CovS)
theorem uInts : E.P.underlying 42 = some (.slice 3) := by kernel_rfl
theorem neq_list {l : List Int} (hl : l ≠ []) : aBin E.P .neq 42 (intE.o (some false) l) (.slice none 0 0) = some (.bool true) := by
 have hv : (intE.vals l).isEmpty = false := by
  cases l with
  | nil => exact absurd rfl hl
  | cons a l => rfl
 simp [aBin, aEq, Op.maxDepth, uInts, Enc.o, lst, hv]
theorem neq_nil_nil : aBin E.P .neq 42 (.slice none 0 0) (.slice none 0 0) = some (.bool false) := by
 simp [aBin, aEq, Op.maxDepth, uInts]
theorem lit2 (H : Heap) (x y : Int) : buildSliceT (some elInt) false H 2 #[(0, .int .i64 x), (1, .int .i64 y)] = some (lst true (intE.vals [x, y]), H) :=
 (build_lit' (el := elInt) (n := 2) (l := [(0, .int .i64 x), (1, .int .i64 y)]) rfl rfl (by decide) (by decide) (by decide)).trans rfl
theorem lit1 (H : Heap) (x : Int) : buildSliceT (some elInt) false H 1 #[(0, .int .i64 x)] = some (lst true (intE.vals [x]), H) := Enc.lit (O := intE) x rfl rfl rfl
theorem lop_ih {nx : Body} {σ : Slots} {α : Type} {G : α → Heap} {Fh : Unit → Heap → CRes} {Kk : Unit → Heap → Prop} {Pp : α → Prop} {F : Slots → α} (ihl : ∀ e', Pp e' → ∃ u h', nx σ (G e') = Fh u h' ∧ Kk u h') (hp : ∀ vs, Pp (F vs)) : ∃ u h', nx σ (G (F σ)) = Fh u h' ∧ Kk u h' := ihl (F σ) (hp σ)
def PvS (A : List (Option Bool × List ByteArray)) (h : Heap) (b g : Nat) : Prop := ∀ (o : Nat) (cs : List Value) (P : List (List Int)) (e : Heap) (lo : Nat), lo ≤ h.length → Within (als A) o → (∀ C, CovS (als A) o C → g + 1 ≤ C.length) → PvO h b cs P e → P.length + (proveF (als A) (g + 1) o).length ≤ 1000000000000 →
 ∃ cs' e', aCall E (L E) lo false (pvF h.length) [setV o, .int .i64 (g : Int)] (h ++ pvH b h.length cs e) = some (.tuple #[], h ++ pvH b h.length cs' (e ++ e')) ∧ PvO h b cs' (P ++ proveF (als A) (g + 1) o) (e ++ e')
def PvG (h : Heap) (b : Nat) (P' : List (List Int)) (e : Heap) (X : Res) : Prop := ∃ cs' e', X = some (.tuple #[], h ++ pvH b h.length cs' (e ++ e')) ∧ PvO h b cs' P' (e ++ e')
section
variable {h : Heap} {b r m : Nat} {K : Option Bool} {A : List (Option Bool × List ByteArray)} {ns : List ByteArray}
theorem within_lt (hA : A.length ≤ 8) {o : Nat} (hw : Within (als A) o) : o < 256 := Nat.lt_pow_two_of_testBit (n := 8) o fun i hi => by
 cases q : o.testBit i
 ·rfl
 ·have := hw i q
  unfold als at this
  rw [List.length_map] at this
  omega
set_option maxHeartbeats 4000000 in
theorem prove1_step (p : Pb h b r m K A ns) (hne : ∀ a ∈ als A, a ≠ []) {g : Nat} (hg : g ≤ 900) (ih : ∀ g', g = g' + 1 → PvS A h b g') : PvS A h b g := by
 intro o cs P e lo hlo hwn hcov hO hP
 have eal : (als A).length = A.length := by unfold als; rw [List.length_map]
 have hfew := p.few
 have ho := within_lt hfew hwn
 have ho64 : o < 2 ^ 64 := by omega
 have g0 := fun cs e sz => box_load (h := h ++ pvH b h.length cs e) (x := h.length) (t := 43) (v := ptr b) (get_at (k := 0) rfl) (sz := sz)
 have g1 := fun cs e sz => box_load (h := h ++ pvH b h.length cs e) (x := h.length + 1) (t := 24) (v := rowsV h.length cs.length) (get_at (k := 1) rfl) (sz := sz)
 have g2 := fun cs e sz => box_load (h := h ++ pvH b h.length cs e) (x := h.length + 2) (t := 70) (v := pvF h.length) (get_at (k := 2) rfl) (sz := sz)
 have pe := fun cs e => p.app (pvH b h.length cs e)
 have pk := pack_spec (pe cs e) hO.wf (n := g + 1) ho64
 unfold Rd at pk
 have wg : IntKind.i64.wrap ((g : Int) + 1) = ((g + 1 : Nat) : Int) := (wrap64 (by omega) (by omega)).trans (by omega)
 show PvG h b (P ++ proveF (als A) (g + 1) o) e (retCall E (L E) lo false 43 [setV o, .int .i64 (g : Int), ptr h.length, ptr (h.length + 1), ptr (h.length + 2)] (h ++ pvH b h.length cs e))
 have hop : ∃ k, o.testBit k = true := by
  apply Classical.byContradiction
  intro h
  have := hcov [] (Co.covS_iff.2 fun k hk => absurd ⟨k, hk⟩ h)
  simp at this
 obtain ⟨kb, hkb⟩ := hop
 unfold proveF at hP ⊢
 rw [eal] at hP ⊢
 rw [ret2 m43, L_fn F43 rfl]
 cases hp : packF (als A) o (g + 1) (List.range A.length) [] with
 | some K' =>
  rw [hp] at pk hP
  have hl := Co.pack_len hp
  have hK : K' ≠ [] := fun q => by rw [q] at hl; simp at hl
  have hKc : castL K' ≠ [] := fun e => hK (by rw [show castL K' = K'.map Int.ofNat from rfl] at e; exact List.map_eq_nil_iff.1 e)
  obtain ⟨a1, a2, H, a3, a4, a5⟩ := pv_push (lo := lo) hlo hO (Nat.le_trans (Nat.le_add_right _ _) hP) (x := [0]) hK (by simp) (by omega)
  have nl := neq_list hKc
  refine ⟨_, _, ?_, a5⟩
  generalize Enc.sl (h.length + (e.length + 4)) ([0] ++ castL K') = V at *
  generalize [0] ++ castL K' = LL0 at *
  generalize hVK : intE.o (some false) (castL K') = VK at *
  simp -implicitDefEqProofs [r43, p43, g0, g1, wg, pk, packV, hVK, nl, lit1, a1, a2, a3, a4, -Int.natCast_add]
 | none =>
  rw [hp] at pk hP
  have hg0 : g ≠ 0 := by
   rintro rfl
   obtain ⟨K', hK'⟩ := Co.packF_one (als A) o (List.range A.length) ⟨kb, List.mem_range.2 (by have := hwn kb hkb; omega), hkb⟩
   rw [hK'] at hp; cases hp
  obtain ⟨g', rfl⟩ : ∃ g', g = g' + 1 := ⟨g - 1, by omega⟩
  have ih := ih g' rfl
  have hlow := low_first (o := o) (n := A.length) hfew ⟨kb, by have := hwn kb hkb; omega, hkb⟩
  obtain ⟨f1, f2⟩ := Co.first_bit o A.length 0 ⟨kb, Nat.zero_le _, by have := hwn kb hkb; omega, hkb⟩
  have ho0 : o ≠ 0 := fun e => by rw [e, Nat.zero_testBit] at hkb; cases hkb
  have tz := tz_spec ho0 ho
  rw [hlow] at tz
  dsimp only at hP ⊢
  generalize firstF o A.length 0 = k0 at *
  have hk0 : k0 < A.length := by omega
  rw [alt_at hk0] at hP ⊢
  have hka := p.ka _ (List.getElem_mem hk0)
  have hsm := p.small _ (List.getElem_mem hk0)
  have hane : A[k0].2 ≠ [] := hne _ (by unfold als; exact List.mem_map.2 ⟨_, List.getElem_mem hk0, rfl⟩)
  have hcn := Co.choices_ne (l := als A) (o := o) hane
  have hcl : ∀ i ∈ choicesF (als A) o A[k0].2, i < A[k0].2.length := fun i hi => Co.choices_lt hi
  have hcle : (choicesF (als A) o A[k0].2).length ≤ 12 := by
   have h1 : (choicesF (als A) o A[k0].2).length ≤ (List.range A[k0].2.length).length := List.length_filter_le _ _
   rw [List.length_range] at h1
   omega
  have ch := choices_spec (pe cs e) hO.wf hka (Nat.le_trans hsm (by omega)) ho64
  rw [more_choices] at ch
  unfold Rd at ch
  have iA := Enc.index_o (O := listE) (t := 23) (k := .i64) p.k hk0
  have lA : ∀ h sz, loadT ⟨some false, sz⟩ h (cptr (listE.e A[k0])) = some (strE.o A[k0].1 A[k0].2) := fun h sz => Enc.load_e (O := listE) _
  have l0 := fun cs e sz => (pe cs e).l0 (sz := sz)
  have l2 := fun cs e sz => (pe cs e).l2 (sz := sz)
  have lk := fun cs e s => (pe cs e).look s
  have as_ : ∀ (i : Nat) (hi : i < A[k0].2.length), indexAddrT (.sl 9 ⟨some false, some 1⟩) (strE.o A[k0].1 A[k0].2) (.int .i64 (i : Int)) = some (cptr (.string A[k0].2[i])) := fun i hi => Enc.index_o hka hi
  generalize hn : choicesF (als A) o A[k0].2 = n at *
  have an : ∀ (i : Nat) (hi : i < n.length), indexAddrT (.sl 3 ⟨some false, some 1⟩) (intE.o (some false) (castL n)) (.int .i64 (i : Int)) = some (cptr (.int .i64 (n[i] : Int))) := fun i hi => by
   rw [Enc.index_o Enc.ok_some (by rw [cast_len]; exact hi), cast_get hi]; rfl
  have ln : ∀ H, lenT .sl H (intE.o (some false) (castL n)) = some (.int .i64 n.length) := fun H => by rw [Enc.o_len Enc.ok_some, cast_len]
  obtain ⟨a1, a2, H, a3, a4, a5⟩ := pv_push (lo := lo) hlo hO (Nat.le_trans (Nat.le_add_right _ _) hP) (x := [1, (k0 : Int)]) hcn (by simp) (by omega)
  have eP : 1 :: (k0 : Int) :: n.map Int.ofNat = [1, (k0 : Int)] ++ castL n := rfl
  rw [eP] at hP ⊢
  generalize hVV : Enc.sl (h.length + (e.length + 4)) ([1, (k0 : Int)] ++ castL n) = V at *
  generalize [1, (k0 : Int)] ++ castL n = LL0 at *
  generalize intE.o (some false) (castL n) = VK at *
  generalize hVA : listE.o K A = VA at *
  generalize cptr (listE.e A[k0]) = VE at *
  generalize hVS : strE.o A[k0].1 A[k0].2 = VS at *
  have hGi : ∀ (j : Nat) (hj : j < A[k0].2.length), proveF (als A) (g' + 1) (rem o ((maskF (als A) <$> A[k0].2[j]?).getD 0)) = proveF (als A) (g' + 1) (rem o (maskF (als A) A[k0].2[j])) := fun j hj => by
   rw [List.getElem?_eq_getElem hj]; rfl
  obtain ⟨G, hG⟩ : ∃ G : Nat → List (List Int), G = fun i => proveF (als A) (g' + 1) (rem o ((maskF (als A) <$> A[k0].2[i]?).getD 0)) := ⟨_, rfl⟩
  rw [← hG] at hP ⊢
  have hGj : ∀ (j : Nat) (hj : j < A[k0].2.length), G j = proveF (als A) (g' + 1) (rem o (maskF (als A) A[k0].2[j])) := fun j hj => by rw [hG]; exact hGi j hj
  clear hG hGi
  have rfU : ∀ H, reify E.P 8 H (setV o) = some (setV o) := fun _ => rfl
  simp -implicitDefEqProofs [r43, p43, g0, g1, wg, pk, packV, neq_nil_nil, ret0 m45, rfU, tz, rop_nilT, nilT_ptr, l0, iA, lA, ch, lit2, a1, a2, a3, a4, ln, -Int.natCast_add]
  generalize hT : P ++ LL0 :: List.flatMap G n = T
  have hTl : T.length ≤ 1000000000000 := by rw [← hT, List.length_append]; exact hP
  refine ux_goal (G := fun X => PvG h b T e (retK [] (blkK 0 X)))
   (LL_ux (α := Nat × List Value × List (List Int) × Heap) (U := Unit) (0, cs ++ [V], P ++ [LL0], e ++ [intE.row 3 LL0, AObj.cells 42 [V] 0]) (fun a => [(48, .int .i64 (a.1 : Int))]) (fun a => h ++ pvH b h.length a.2.1 a.2.2.2)
    (.exit 0) (fun _ => [(48, undef)])
    (fun _ h' => ∃ cs' e', h' = h ++ pvH b h.length cs' (e ++ e') ∧ PvO h b cs' T (e ++ e'))
    (fun a => a.1 ≤ n.length ∧ PvO h b a.2.1 a.2.2.1 a.2.2.2 ∧ (∃ e2, a.2.2.2 = e ++ e2) ∧ a.2.2.1 ++ (n.drop a.1).flatMap G = T)
    (fun a => n.length - a.1) ?_ ?_ ?_ ?_) ?_
  ·exact ⟨Nat.zero_le _, a5, ⟨_, rfl⟩, by rw [← hT, List.append_assoc]; rfl⟩
  ·simp -implicitDefEqProofs [k43_8]
  ·rfl
  ·intro nx a ha ihl
   obtain ⟨i, cs1, P1, e1⟩ := a
   obtain ⟨c1, c2, ⟨e2, c3⟩, c4⟩ := ha
   simp only at c1 c2 c3 c4 ihl ⊢
   by_cases hi : i < n.length
   case neg =>
    have e : i = n.length := by omega
    subst e
    rw [List.drop_length, List.flatMap_nil, List.append_nil] at c4
    subst c4
    refine ⟨(), h ++ pvH b h.length cs1 e1, ?_, cs1, e2, by rw [c3], by rw [← c3]; exact c2⟩
    have gi : ¬ ((n.length : Int) < (n.length : Int)) := by omega
    simp -implicitDefEqProofs [r43_8, k43_8, trim_le]
   have hi2 : (i : Int) < (n.length : Int) := by omega
   have hd : n.drop i = n[i] :: n.drop (i + 1) := List.drop_eq_getElem_cons hi
   have hj := hcl n[i] (List.getElem_mem hi)
   have x1 := an i hi
   have x2 := as_ n[i] hj
   have x3 := lk cs1 e1 A[k0].2[n[i]]
   have b3 := bin_remU (P := E.P) (t := 58) ho64 (mask_small A p.few A[k0].2[n[i]])
   have wi : IntKind.i64.wrap ((i : Int) + 1) = ((i + 1 : Nat) : Int) := (wrap64 (by omega) (by omega)).trans (by omega)
   have wg2 : IntKind.i64.wrap (((g' + 1 : Nat) : Int) - 1) = (g' : Int) := (wrap64 (by omega) (by omega)).trans (by omega)
   rw [hd, List.flatMap_cons, ← List.append_assoc, hGj n[i] hj] at c4
   have hlen : P1.length + (proveF (als A) (g' + 1) (rem o (maskF (als A) A[k0].2[n[i]]))).length ≤ 1000000000000 := by
    have := congrArg List.length c4
    rw [List.length_append, List.length_append] at this
    omega
   obtain ⟨cs2, e3, cl, o2⟩ := ih (rem o (maskF (als A) A[k0].2[n[i]])) cs1 P1 e1 lo hlo (hwn.rem _) (fun C hC => by
    have := hcov (A[k0].2[n[i]] :: C) hC
    rw [List.length_cons] at this
    omega) c2 hlen
   obtain ⟨F, hF1, hF2⟩ : ∃ F : Slots → Heap, (∀ vs, Bm.trim (h.length + (e1.length + 4)) vs (h ++ pvH b h.length cs2 (e1 ++ e3)) = h ++ pvH b h.length cs2 (e1 ++ F vs)) ∧ ∀ vs, PvO h b cs2 (P1 ++ proveF (als A) (g' + 1) (rem o (maskF (als A) A[k0].2[n[i]]))) (e1 ++ F vs) :=
    ⟨fun vs => (pv_trim o2 vs).choose, fun vs => (pv_trim o2 vs).choose_spec.1, fun vs => (pv_trim o2 vs).choose_spec.2⟩
   have qn := fun e' (hp : PvO h b cs2 (P1 ++ proveF (als A) (g' + 1) (rem o (maskF (als A) A[k0].2[n[i]]))) (e1 ++ e')) => ihl (i + 1, cs2, P1 ++ proveF (als A) (g' + 1) (rem o (maskF (als A) A[k0].2[n[i]])), e1 ++ e') (by show n.length - (i + 1) < n.length - i; omega) ⟨hi, hp, ⟨e2 ++ e', by rw [c3, List.append_assoc]⟩, c4⟩
   simp only at qn
   obtain ⟨u, h', r1, r2⟩ := lop_ih (F := F) qn hF2
   refine ⟨u, h', ?_, r2⟩
   rw [← r1]
   simp -implicitDefEqProofs [k43_8, -Int.natCast_add]
   simp -implicitDefEqProofs [r43_8, hi2, x1, x2, g0, g2, rop_nilT, nilT_ptr, l2, x3, b3, wg2, wi, cl, pvH_len, hF1, -Int.natCast_add]
  ·intro u h' hK
   obtain ⟨cs', e', rfl, hO'⟩ := hK
   refine ⟨cs', e', ?_, hO'⟩
   simp -implicitDefEqProofs [k43_8]
theorem prove1_spec (p : Pb h b r m K A ns) (hne : ∀ a ∈ als A, a ≠ []) : ∀ g, g ≤ 900 → PvS A h b g := by
 intro g
 induction g with
 | zero => intro hg; exact prove1_step p hne hg fun g' e => by omega
 | succ g ih =>
  intro hg
  refine prove1_step p hne hg fun g' e => ?_
  have e : g = g' := by omega
  subst e
  exact ih (by omega)
end
end Go.Proofs.YtgefjhjmkejjbaaDoor.Bm
namespace Go.Proofs.YtgefjhjmkejjbaaDoor.Bm
open Go Go.RowKit
open Co (ltB rem maskF apartF allF packF packedF proveF choicesF firstF Within CovS)
section
variable {h : Heap} {b r m : Nat} {K : Option Bool} {A : List (Option Bool × List ByteArray)} {ns : List ByteArray}
set_option maxHeartbeats 2000000 in
theorem prove_spec (p : Pb h b r m K A ns) (hw : WF h) (hne : ∀ a ∈ als A, a ≠ []) {g : Nat} (hg : g ≤ 900) (hcov : ∀ C, CovS (als A) (allF (als A)) C → g + 1 ≤ C.length) (hP : (proveF (als A) (g + 1) (allF (als A))).length ≤ 1000000000000) {lo : Nat} (hlo : lo ≤ h.length) :
  ∃ cs e, L E 29 [ptr b, .int .i64 (g : Int)] h lo = some (rowsV h.length cs.length, h ++ pvH b h.length cs e) ∧ Rows (h.length + 4) e cs (proveF (als A) (g + 1) (allF (als A))) := by
 have hb := p.lt
 have sI : szOf E.P 42 = some 1 := by kernel_rfl
 have w0 : WF (h ++ pvH b h.length [] []) := by
  unfold WF pvH at *
  simp only [List.all_append, List.all_cons, List.all_nil, List.length_append, List.length_cons, List.length_nil, Bool.and_true, Bool.and_eq_true]
  refine ⟨?_, ?_, ?_, ?_, rfl⟩
  ·exact List.all_eq_true.2 fun x hx => belO_mono (by omega) (List.all_eq_true.1 hw x hx)
  ·simp [belO_cells, below]; omega
  ·simp [belO_cells, below, rowsV]
  ·simp [belO_cells, below, pvF]
 have hwn : Within (als A) (allF (als A)) := fun i hi => by rw [Co.all_bit, decide_eq_true_eq] at hi; exact hi
 obtain ⟨cs, e, cl, o⟩ := prove1_spec p hne g hg (allF (als A)) [] [] [] lo hlo hwn hcov ⟨w0, Rows.nil⟩ (by rw [List.length_nil, Nat.zero_add]; exact hP)
 rw [List.nil_append, List.nil_append] at *
 have pe := fun e => p.app e
 have al := all_spec (p.app (pvH b h.length [] []))
 unfold Rd at al
 have g0 := fun cs e sz => box_load (h := h ++ pvH b h.length cs e) (x := h.length) (t := 43) (v := ptr b) (get_at (k := 0) rfl) (sz := sz)
 have g1 := fun cs e sz => box_load (h := h ++ pvH b h.length cs e) (x := h.length + 1) (t := 24) (v := rowsV h.length cs.length) (get_at (k := 1) rfl) (sz := sz)
 have g2 := fun cs e sz => box_load (h := h ++ pvH b h.length cs e) (x := h.length + 2) (t := 70) (v := pvF h.length) (get_at (k := 2) rfl) (sz := sz)
 have ff : flat .nilFunc = true := rfl
 have cn : cellsOf .nilFunc = some [.nilFunc] := rfl
 have st : storeT (some 1) (h ++ [AObj.cells 43 [ptr b] 0, AObj.cells 24 [.slice none 0 0] 0, AObj.cells 70 [.nilFunc] 0]) lo (.func (.func 43) #[] #[ptr h.length, ptr (h.length + 1), ptr (h.length + 2)]) (ptr (h.length + 2)) = some (h ++ [AObj.cells 43 [ptr b] 0, AObj.cells 24 [.slice none 0 0] 0, AObj.cells 70 [pvF h.length] 0]) := by
  have := obj_store (h := h ++ [AObj.cells 43 [ptr b] 0, AObj.cells 24 [.slice none 0 0] 0, AObj.cells 70 [.nilFunc] 0]) (lo := lo) (v := pvF h.length) (b := h.length + 2) (j := 0) (t := 70) (c := [.nilFunc]) (get_at (k := 2) rfl) (by simp) (by omega) rfl
  refine this.trans ?_
  rw [set_at]; rfl
 have nc : ∀ σ, newcK E.P lo (h ++ [AObj.cells 43 [ptr b] 0, AObj.cells 24 [.slice none 0 0] 0, AObj.cells 70 [pvF h.length] 0]) σ 0 42 (ptr (h.length + 1)) = some (σ, h ++ pvH b h.length [] []) := fun σ => by
  have := newcK_cell (P := E.P) (σ := σ) (lo := lo) (t := 42) (b := h.length + 1) (off := 0) (d := 0) (n := 0) (sp := none) (h := h ++ [AObj.cells 43 [ptr b] 0, AObj.cells 24 [.slice none 0 0] 0, AObj.cells 70 [pvF h.length] 0]) (c := [.slice none 0 0]) (g := 0) (get_at (k := 1) rfl) rfl sI (by omega)
  rw [this, set_at, List.append_assoc, List.length_append]; rfl
 refine ⟨cs, e, ?_, o.rows⟩
 rw [L_fn F29 rfl]
 simp -implicitDefEqProofs [r29, p29, prep_newc, ff, cn, st, nc, g0, g1, g2, al, cl]
end
end Go.Proofs.YtgefjhjmkejjbaaDoor.Bm
