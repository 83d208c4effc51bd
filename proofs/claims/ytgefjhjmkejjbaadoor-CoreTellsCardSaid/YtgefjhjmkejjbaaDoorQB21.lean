/-
 Chapter 27: the search for a packing, walked. Conditions: few alternatives; a heap that names only itself.
-/
import Derived.Test.YtgefjhjmkejjbaaDoorQB20
import Derived.Test.YtgefjhjmkejjbaaDoorQB15
namespace Go.Proofs.YtgefjhjmkejjbaaDoor.Bm
open Go Go.RowKit
open Co (ltB rem maskF apartF allF)
theorem more_choices (ls : List (List ByteArray)) (o : Nat) (a : List ByteArray) : moreC ls o a 0 a.length = Co.choicesF ls o a := by
 unfold moreC Co.choicesF
 rw [← List.range_eq_range']
 refine List.filter_congr fun i hi => ?_
 have hi := List.mem_range.1 hi
 unfold freeQ Co.freeF
 rw [freeI_all]
 rw [Bool.eq_iff_iff, List.all_eq_true, List.all_eq_true]
 refine forall_congr' fun k => forall_congr' fun hk => ?_
 have hk := List.mem_range.1 hk
 have e : ∀ j, j < a.length → Co.inF ls o a j = inQ ls o a j := fun j hj => by
  unfold Co.inF
  rw [inQ_at _ _ hj, List.getElem?_eq_getElem hj]
 rw [Nat.zero_add, e i hi, e k hk]
 unfold betterF
 have : decide (inQ ls o a k ≠ inQ ls o a i) = !decide (inQ ls o a k = inQ ls o a i) := by simp
 rw [this]
theorem low_first {o n : Nat} (hn : n ≤ 8) (h : ∃ k, k < n ∧ o.testBit k = true) : lowBit o = Co.firstF o n 0 := by
 obtain ⟨k, hk, hb⟩ := h
 unfold lowBit
 have key : ∀ (m i : Nat), (∃ k, i ≤ k ∧ k < i + m ∧ o.testBit k = true) → ∀ m', m ≤ m' → (List.range' i m').find? (fun i => o.testBit i) = some (Co.firstF o m i) := by
  intro m
  induction m with
  | zero => rintro i ⟨k, h1, h2, _⟩; omega
  | succ m ih =>
   rintro i ⟨k, h1, h2, h3⟩ m' hm
   obtain ⟨m', rfl⟩ : ∃ q, m' = q + 1 := ⟨m' - 1, by omega⟩
   rw [List.range'_succ, List.find?_cons]
   unfold Co.firstF
   cases q : o.testBit i
   ·have hne : k ≠ i := fun e => by rw [e, q] at h3; cases h3
    rw [if_neg (by decide)]
    exact ih (i + 1) ⟨k, by omega, by omega, h3⟩ m' (by omega)
   ·rw [if_pos rfl]
 rw [List.range_eq_range', key n 0 ⟨k, Nat.zero_le _, by omega, hb⟩ 8 hn]; rfl
theorem tab_idx {k : Nat} {v : Int} (hk : k < 64) (ht : tab64[k]? = some v) : indexAddrT (Ix.arr 64 ⟨some false, some 1⟩) (cptr (.agg ⟨tab64.map (Value.int .u8)⟩)) (setV k) = some (cptr (.int .u8 v)) := by
 show (if 2 = 2 ∧ 0 ≤ (k : Int) ∧ (k : Int) < (64 : Nat) then ((tab64.map (Value.int .u8)).toArray[(k : Int).toNat * 1]?).map cptr else none) = _
 rw [if_pos ⟨rfl, by omega, by omega⟩, Int.toNat_natCast, Nat.mul_one, List.getElem?_toArray, List.getElem?_map, ht]; rfl
theorem tz64_spec {n : Nat} (h0 : n ≠ 0) (h : n < 256) : pureCall E.P (L E) 66 [setV n] = some (.int .i64 (lowBit n : Int)) := by
 obtain ⟨t1, t2⟩ := tz_at h0 h
 have b0 : aBin E.P .eql 91 (setV n) (.int .u64 0) = some (.bool false) := by
  have := mk_eq (P := E.P) (t := 91) (a := n) (b := 0)
  rw [decide_eq_false h0] at this
  exact this
 have u := un_negU h0 h
 have b1 : aBin E.P .and 91 (setV n) (setV (18446744073709551616 - n)) = some (setV (n &&& (18446744073709551616 - n))) := bin_andU (by omega) (by omega)
 have b2 := bin_mulU (P := E.P) (t := 91) (a := n &&& (18446744073709551616 - n))
 have b3 := bin_shr58 (P := E.P) (t := 91) (a := (n &&& (18446744073709551616 - n)) * 285870213051353865 % 18446744073709551616)
 rw [show ((n &&& (18446744073709551616 - n)) * 285870213051353865 % 18446744073709551616) / 288230376151711744 = tzI n from rfl] at b3
 have eg : ∀ σ, evalA E σ (.global 1) = cptr (.agg ⟨tab64.map (Value.int .u8)⟩) := fun _ => rfl
 have ia := tab_idx t1 t2
 have hl : lowBit n ≤ 64 := by
  unfold lowBit
  cases hq : (List.range 8).find? fun i => n.testBit i with
  | none => exact Nat.le_refl _
  | some k => have := List.mem_range.1 (List.mem_of_find?_eq_some hq); show k ≤ 64; omega
 have w : IntKind.i64.wrap (lowBit n : Int) = (lowBit n : Int) := wrap64 (by omega) (by omega)
 generalize cptr (.agg ⟨tab64.map (Value.int .u8)⟩) = G at *
 generalize tzI n = z at *
 have cv : convertT (.int .i64) (.int .u8 (lowBit n : Int)) = some (.int .i64 (lowBit n : Int)) := by
  show some (Value.int .i64 (IntKind.i64.wrap (lowBit n : Int))) = _
  rw [w]
 rw [pureCall_fn F66 rfl]
 simp -implicitDefEqProofs [r66, p66, b0, u, b1, b2, b3, eg, ia, cv]
theorem tz_spec {n : Nat} (h0 : n ≠ 0) (h : n < 256) : pureCall E.P (L E) 45 [setV n] = some (.int .i64 (lowBit n : Int)) := by
 have hs := tz64_spec h0 h
 have cv : convertT (.int .u64) (setV n) = some (setV n) := by
  show some (Value.int .u64 (IntKind.u64.wrap (n : Int))) = _
  rw [wrapU (by omega)]; rfl
 rw [pureCall_fn F45 rfl]
 simp -implicitDefEqProofs [r45, p45, ret0 m66, mk_reify, hs]
end Go.Proofs.YtgefjhjmkejjbaaDoor.Bm
namespace Go.Proofs.YtgefjhjmkejjbaaDoor.Bm
open Go Go.RowKit
theorem LL_ex {k : List Nat × List Nat} {b : Body} {σ₀ : Slots} {h₀ : Heap} {α : Type} (a₀ : α) (up : α → List (Nat × Value)) (H : α → Heap) (Q : Exit × Slots × Heap → Prop) (I : α → Prop) (ms : α → Nat)
  (hI : I a₀) (e0 : sets (up a₀) (forget k.1 σ₀) = forget k.1 σ₀) (e1 : H a₀ = h₀)
  (step : ∀ (nx : Body) a, I a → (∀ a', ms a' < ms a → I a' → ∃ r, nx (sets (up a') (forget k.1 σ₀)) (H a') = some r ∧ Q r) →
   ∃ r, lopK k.1 k.2 nx (H a).length (b (forget k.1 (sets (up a) (forget k.1 σ₀))) (H a)) = some r ∧ Q r) :
  ∃ r, LL k b σ₀ h₀ = some r ∧ Q r := by
 have key : ∀ n a, ms a = n → I a → ∃ r, LL k b (sets (up a) (forget k.1 σ₀)) (H a) = some r ∧ Q r := by
  intro n
  induction n using Nat.strongRecOn with
  | _ n ih =>
   intro a ha hi
   rw [LL_go]
   exact step (LL k b) a hi fun a' hlt hi' => ih (ms a') (by omega) a' rfl hi'
 have h := key _ a₀ rfl hI
 rw [e0, e1] at h
 have e : LL k b (forget k.1 σ₀) h₀ = LL k b σ₀ h₀ := by
  rw [LL_go, LL_go, forget_twice]
 rw [e] at h
 exact h
end Go.Proofs.YtgefjhjmkejjbaaDoor.Bm
namespace Go.Proofs.YtgefjhjmkejjbaaDoor.Bm
open Go Go.RowKit
theorem LL_ux {k : List Nat × List Nat} {b : Body} {σ₀ : Slots} {h₀ : Heap} {α U : Type} (a₀ : α) (up : α → List (Nat × Value)) (H : α → Heap) (e : Exit) (ups : U → List (Nat × Value)) (K : U → Heap → Prop) (I : α → Prop) (ms : α → Nat)
  (hI : I a₀) (e0 : sets (up a₀) (forget k.1 σ₀) = forget k.1 σ₀) (e1 : H a₀ = h₀)
  (step : ∀ (nx : Body) a, I a → (∀ a', ms a' < ms a → I a' → ∃ u h', nx (sets (up a') (forget k.1 σ₀)) (H a') = fin (forget k.1 σ₀) (e, ups u, h') ∧ K u h') →
   ∃ u h', lopK k.1 k.2 nx (H a).length (b (forget k.1 (sets (up a) (forget k.1 σ₀))) (H a)) = fin (forget k.1 σ₀) (e, ups u, h') ∧ K u h') :
  ∃ u h', LL k b σ₀ h₀ = fin (forget k.1 σ₀) (e, ups u, h') ∧ K u h' := by
 obtain ⟨r, h1, u, h', h2, h3⟩ := LL_ex (k := k) (b := b) (σ₀ := σ₀) (h₀ := h₀) a₀ up H (fun r => ∃ u h', some r = fin (forget k.1 σ₀) (e, ups u, h') ∧ K u h') I ms hI e0 e1 fun nx a ha ih => by
  obtain ⟨u, h', he, hk⟩ := step nx a ha fun a' hlt hi' => by
   obtain ⟨r, h1, u, h', h2, h3⟩ := ih a' hlt hi'
   exact ⟨u, h', h1.trans h2, h3⟩
  exact ⟨_, he, u, h', rfl, hk⟩
 exact ⟨u, h', h1.trans h2, h3⟩
theorem ux_goal {U : Type} {G : CRes → Prop} {X : CRes} {F : U → Heap → CRes} {K : U → Heap → Prop} (h : ∃ u h', X = F u h' ∧ K u h') (k : ∀ u h', K u h' → G (F u h')) : G X := by
 obtain ⟨u, h', rfl, hk⟩ := h
 exact k u h' hk
end Go.Proofs.YtgefjhjmkejjbaaDoor.Bm
namespace Go.Proofs.YtgefjhjmkejjbaaDoor.Bm
open Go Go.RowKit
theorem indexFL (l : List Int) (VL : Value) (ad : Nat → Value) (F : Value) (p : Int → Bool) (h : Heap) (hl : l.length ≤ 1000000) (ll : ∀ H, lenT .sl H VL = some (.int .i64 l.length)) (il : ∀ i, i < l.length → indexAddrT (.sl 3 ⟨some false, some 1⟩) VL (.int .i64 (i : Int)) = some (ad i)) (ld : ∀ i (hi : i < l.length), loadT ⟨some false, some 1⟩ h (ad i) = some (.int .i64 l[i])) (hF : ∀ z ∈ l, Cl F [.int .i64 z] h (.bool (p z))) : Rd 85 [VL, F] h (.int .i64 (idxB p l 0)) := by
 intro lo st
 rw [ret5 m85, L_fn F85 rfl]
 simp -implicitDefEqProofs [r85, p85, ll]
 rw [LL_for (γ := Unit) l () (fun i _ => [(8, .int .i64 i)]) (fun _ _ => h) (fun i rest _ => if idxB p rest i = -1 then (.exit 0, [(8, undef)], h) else (.ret, [(4, .int .i64 (idxB p rest i)), (8, undef)], h)) (fun _ _ => True) (by omega) trivial]
 ·rw [show ((0 : Nat) : Int) = 0 from rfl]
  by_cases q : idxB p l 0 = -1
  ·simp -implicitDefEqProofs [k85_2, q, trim_le, frz_set8]
  ·simp -implicitDefEqProofs [k85_2, q, trim_le, frz_set8]
 ·simp -implicitDefEqProofs [k85_2]
 ·rfl
 ·intro nx i c hi _
  have e : ∀ z, idxB p [] z = -1 := fun _ => rfl
  simp -implicitDefEqProofs [r85_2, k85_2, hi, e, trim_le]
 ·intro nx i v rest c hi hv hd hw _ ih
  have ih := ih () trivial
  have hi2 : ((i : Int) < l.length) := by omega
  have x1 := il i hi
  have x2 := ld i hi
  have cl := hF v (by rw [← hv]; exact List.getElem_mem hi)
  unfold Cl at cl
  rw [hv] at x2
  have e2 : (((i + 1 : Nat) : Int)) = (i : Int) + 1 := by omega
  rw [e2] at ih
  rw [idxB_cons]
  simp -implicitDefEqProofs [k85_2] at ih
  by_cases he : p v = true
  ·have hn : ¬ ((i : Int) = -1) := by omega
   rw [he] at cl
   simp -implicitDefEqProofs [r85_2, k85_2, hi2, x1, x2, hn, cl, he, trim_le]
  ·have he2 : p v = false := by simpa using he
   rw [he2] at cl
   simp -implicitDefEqProofs [r85_2, k85_2, hi2, x1, x2, cl, he2, hw, trim_le]
   exact ih
theorem containsFL (l : List Int) (VL : Value) (ad : Nat → Value) (F : Value) (p : Int → Bool) (h : Heap) (hl : l.length ≤ 1000000) (ll : ∀ H, lenT .sl H VL = some (.int .i64 l.length)) (il : ∀ i, i < l.length → indexAddrT (.sl 3 ⟨some false, some 1⟩) VL (.int .i64 (i : Int)) = some (ad i)) (ld : ∀ i (hi : i < l.length), loadT ⟨some false, some 1⟩ h (ad i) = some (.int .i64 l[i])) (hF : ∀ z ∈ l, Cl F [.int .i64 z] h (.bool (p z))) : Rd 62 [VL, F] h (.bool (l.any p)) := by
 intro lo st
 have hi := indexFL l VL ad F p h hl ll il ld hF
 unfold Rd at hi
 rw [← idxB_pos p l]
 rw [ret5 m62, L_fn F62 rfl]
 simp -implicitDefEqProofs [r62, p62, hi, trim_le, frz_set8]
end Go.Proofs.YtgefjhjmkejjbaaDoor.Bm
namespace Go.Proofs.YtgefjhjmkejjbaaDoor.Bm
open Go Go.RowKit
open Co (ltB rem maskF apartF allF packF packedF)
theorem trim_stay {n : Nat} {vs : List Value} {h : Heap} (hv : vs.all (below 8 n) = false) : trim n vs h = h := by
 unfold trim
 split
 ·rfl
 ·show (if (vs.all (below 8 n) && _) = true then _ else _) = _
  rw [hv]; rfl
theorem app_part {H : Heap} {lo bb k : Nat} {l : List Int} {x : Int} (hob : H[bb]? = some (intE.row 3 l)) (hk : k ≤ l.length) (hl : l.length ≤ 1000) (hlo : lo ≤ bb) :
  ∃ l', appendT (some elInt) H lo false (Enc.part bb k l) (lst true (intE.vals [x])) = some (Enc.part bb (k + 1) l', H.set bb (intE.row 3 l')) ∧ l'.take (k + 1) = l.take k ++ [x] ∧ k + 1 ≤ l'.length ∧ l'.length ≤ max l.length (k + 1) := by
 have hu := Enc.cells_tree (O := intE) (h := H) (x := true) (l := [x])
 by_cases e : k = l.length
 ·subst e
  refine ⟨l ++ [x], ?_, by rw [List.take_length, List.take_of_length_le (by simp)], by simp, by simp⟩
  have := Enc.app (O := intE) (el := elInt) (lo := lo) (m := [x]) rfl hob hu hlo (by show (l.length + 1) * 8 ≤ _; omega)
  rw [← Enc.sl_part, this]
  unfold Enc.sl Enc.part
  rw [List.length_append]; rfl
 ·refine ⟨_, Enc.app_room (O := intE) (el := elInt) (lo := lo) (m := [x]) (i := k) rfl hob hu (by simp) hlo (by simp; omega), ?_, ?_, ?_⟩
  ·rw [List.take_append_of_le_length (by simp; omega), List.take_of_length_le (by simp; omega)]
  ·simp; omega
  ·simp; omega
def pkF (B : Nat) : Value := .func (.func 61) #[] #[ptr (B + 3), ptr (B + 2), ptr B, ptr (B + 1), ptr (B + 4)]
def pkH (b o n B : Nat) (k : Nat) (l : List Int) (e : Heap) : Heap := AObj.cells 43 [ptr b] 0 :: AObj.cells 58 [setV o] 0 :: AObj.cells 3 [.int .i64 (n : Int)] 0 :: AObj.cells 42 [Enc.part (B + 5) k l] 0 :: AObj.cells 85 [pkF B] 0 :: intE.row 3 l :: e
theorem pkH_len {b o n B k : Nat} {l : List Int} {e : Heap} : (pkH b o n B k l e).length = e.length + 6 := rfl
theorem pkH_app {b o n B k : Nat} {l : List Int} {e f : Heap} : pkH b o n B k l e ++ f = pkH b o n B k l (e ++ f) := rfl
theorem castL_app (K : List Nat) (i : Nat) : castL (K ++ [i]) = castL K ++ [(i : Int)] := by unfold castL; rw [List.map_append]; rfl
section
variable {h : Heap} {b o n k : Nat} {l : List Int} {E1 : Heap}
theorem pk_wf (hw : WF (h ++ pkH b o n h.length k l E1)) (k' : Nat) (l' : List Int) : WF (h ++ pkH b o n h.length k' l' E1) := by
 unfold WF pkH at *
 simp only [List.all_append, List.all_cons, List.length_append, List.length_cons, Bool.and_eq_true] at hw ⊢
 obtain ⟨a1, a2, a3, a4, a5, a6, a7, a8⟩ := hw
 refine ⟨a1, a2, a3, a4, ?_, a6, Enc.row_bel, a8⟩
 rw [belO_cells, List.all_cons, List.all_nil, Bool.and_true]
 exact Enc.part_bel (d := 7) (by omega)
theorem pk_trim (hw : WF (h ++ pkH b o n h.length k l E1)) {e : Heap} {vs : List Value} (hv : vs.all (below 8 (h.length + (E1.length + 6))) = true) : trim (h.length + (E1.length + 6)) vs (h ++ pkH b o n h.length k l (E1 ++ e)) = h ++ pkH b o n h.length k l E1 := by
 have e1 : (h ++ pkH b o n h.length k l E1).length = h.length + (E1.length + 6) := by rw [List.length_append, pkH_len]
 have := trim_wfs (e := e) hw (vs := vs) (by rw [e1]; exact hv)
 rw [e1, List.append_assoc, pkH_app] at this
 exact this
theorem pk_at {c : AObj} : (h ++ pkH b o n h.length k l (E1 ++ [c]))[h.length + (E1.length + 6)]? = some c := get_at (by
 show (E1 ++ [c])[E1.length]? = some c
 simp)
theorem pk_st {v w : Value} (hv : cellsOf v = some [v]) : storeT (some 1) (h ++ pkH b o n h.length k l (E1 ++ [AObj.cells 3 [w] 0])) h.length v (ptr (h.length + (E1.length + 6))) = some (h ++ pkH b o n h.length k l (E1 ++ [AObj.cells 3 [v] 0])) := by
 have := obj_store (lo := h.length) (v := v) (pk_at (h := h) (b := b) (o := o) (n := n) (k := k) (l := l) (E1 := E1) (c := AObj.cells 3 [w] 0)) (j := 0) (by simp) (by omega) hv
 refine this.trans ?_
 rw [set_at]
 congr 2
 show AObj.cells _ _ _ :: AObj.cells _ _ _ :: AObj.cells _ _ _ :: AObj.cells _ _ _ :: AObj.cells _ _ _ :: intE.row _ _ :: (E1 ++ [AObj.cells 3 [w] 0]).set E1.length (AObj.cells 3 [v] 0) = _
 rw [List.set_append_right _ _ (Nat.le_refl _), Nat.sub_self]; rfl
end
structure PkO (A : List (Option Bool × List ByteArray)) (h : Heap) (b o n : Nat) (out : List Nat) (r : Option (List Nat)) (k : Nat) (l : List Int) (e : Heap) : Prop where
 wf : WF (h ++ pkH b o n h.length k l e)
 tk : l.take k = castL (r.getD out)
 kl : k ≤ l.length
 la : l.length ≤ A.length
def PkS (A : List (Option Bool × List ByteArray)) (h : Heap) (b o n : Nat) (i : Nat) (out : List Nat) : Prop := ∀ (k : Nat) (l : List Int) (e : Heap), PkO A h b o n out none k l e → k ≤ i →
 ∃ k' l' e', aCall E (L E) h.length false (pkF h.length) [.int .i64 (i : Int)] (h ++ pkH b o n h.length k l e) = some (.bool (packF (als A) o n (List.range' i (A.length - i)) out).isSome, h ++ pkH b o n h.length k' l' (e ++ e')) ∧ PkO A h b o n out (packF (als A) o n (List.range' i (A.length - i)) out) k' l' (e ++ e')
def PkG (A : List (Option Bool × List ByteArray)) (h : Heap) (b o n : Nat) (out : List Nat) (e : Heap) (r : Option (List Nat)) (X : Res) : Prop := ∃ k' l' e', X = some (.bool r.isSome, h ++ pkH b o n h.length k' l' (e ++ e')) ∧ PkO A h b o n out r k' l' (e ++ e')
section
variable {h : Heap} {b r m : Nat} {K : Option Bool} {A : List (Option Bool × List ByteArray)} {ns : List ByteArray}
set_option maxHeartbeats 2000000 in
theorem pack1_step (p : Pb h b r m K A ns) (_hw : WF h) {o n : Nat} (ho : o < 2 ^ 64) {i : Nat} {out : List Nat} (hi : i ≤ A.length) (hout : ∀ j ∈ out, j < A.length)
  (ih : ∀ j out, i < j → j ≤ A.length → (∀ x ∈ out, x < A.length) → PkS A h b o n j out) : PkS A h b o n i out := by
 intro k l e hO hki
 have hfew := p.few
 have hk : k = out.length := by
  have := congrArg List.length hO.tk
  rw [cast_len, List.length_take] at this
  have h2 := hO.kl
  simp at this
  omega
 have g0 := fun k l e sz => box_load (h := h ++ pkH b o n h.length k l e) (x := h.length) (t := 43) (v := ptr b) (get_at (k := 0) rfl) (sz := sz)
 have g1 := fun k l e sz => box_load (h := h ++ pkH b o n h.length k l e) (x := h.length + 1) (t := 58) (v := setV o) (get_at (k := 1) rfl) (sz := sz)
 have g2 := fun k l e sz => box_load (h := h ++ pkH b o n h.length k l e) (x := h.length + 2) (t := 3) (v := .int .i64 (n : Int)) (get_at (k := 2) rfl) (sz := sz)
 have g3 := fun k l e sz => box_load (h := h ++ pkH b o n h.length k l e) (x := h.length + 3) (t := 42) (v := Enc.part (h.length + 5) k l) (get_at (k := 3) rfl) (sz := sz)
 have g4 := fun k l e sz => box_load (h := h ++ pkH b o n h.length k l e) (x := h.length + 4) (t := 85) (v := pkF h.length) (get_at (k := 4) rfl) (sz := sz)
 have pe := fun k l e => p.app (pkH b o n h.length k l e)
 have l0 := fun k l e sz => (pe k l e).l0 (sz := sz)
 have ll : ∀ H, lenT .sl H (listE.o K A) = some (.int .i64 A.length) := fun H => Enc.o_len p.k
 have lp : ∀ H, lenT .sl H (Enc.part (h.length + 5) k l) = some (.int .i64 k) := fun H => Enc.part_len
 have mi : cellsOf (.int .i64 (i : Int)) = some [.int .i64 (i : Int)] := rfl
 show PkG A h b o n out e (packF (als A) o n (List.range' i (A.length - i)) out) (retCall E (L E) h.length false 61 [.int .i64 (i : Int), ptr (h.length + 3), ptr (h.length + 2), ptr h.length, ptr (h.length + 1), ptr (h.length + 4)] (h ++ pkH b o n h.length k l e))
 rw [ret2 m61, L_fn F61 rfl]
 by_cases hn : out.length = n
 ·have ep : packF (als A) o n (List.range' i (A.length - i)) out = some out := by
   cases List.range' i (A.length - i) with
   | nil => rw [Co.packF_nil, if_pos hn]
   | cons a q => rw [Co.packF_cons, if_pos hn]
  rw [ep]
  have hkn : (k : Int) = (n : Int) := by omega
  refine ⟨k, l, [], ?_, ?_⟩
  ·simp -implicitDefEqProofs [r61, p61, g2, g3, lp, hkn]
  ·rw [List.append_nil]; exact ⟨hO.wf, hO.tk, hO.kl, hO.la⟩
 ·have hkn : ¬ (k : Int) = (n : Int) := by omega
  have st0 : storeT (some 1) (h ++ pkH b o n h.length k l (e ++ [AObj.cells 3 [.int .i64 0] 0])) h.length (.int .i64 (i : Int)) (ptr (h.length + (e.length + 6))) = some (h ++ pkH b o n h.length k l (e ++ [AObj.cells 3 [.int .i64 (i : Int)] 0])) := pk_st rfl
  simp -implicitDefEqProofs [r61, p61, g2, g3, lp, hkn, pkH_app, pkH_len, st0]
  generalize hR : packF (als A) o n (List.range' i (A.length - i)) out = R
  refine ux_goal (G := fun X => PkG A h b o n out e R (retK [RRes.tmp 7] (seqC E (L E) LL h.length (blkK 0 X) _)))
   (LL_ux (α := Nat × List Int × Heap) (U := Unit) (i, l, e) (fun a => [(8, ptr (h.length + (a.2.2.length + 6)))]) (fun a => h ++ pkH b o n h.length k a.2.1 (a.2.2 ++ [AObj.cells 3 [.int .i64 (a.1 : Int)] 0]))
    (if R.isSome = true then .ret else .exit 0) (fun _ => if R.isSome = true then [(7, .bool true), (8, undef)] else [(8, undef)])
    (fun _ h' => ∃ k' l' e', h' = h ++ pkH b o n h.length k' l' (e ++ e') ∧ PkO A h b o n out R k' l' (e ++ e'))
    (fun a => a.1 ≤ A.length ∧ i ≤ a.1 ∧ PkO A h b o n out none k a.2.1 (a.2.2 ++ [AObj.cells 3 [.int .i64 (a.1 : Int)] 0]) ∧ (∃ e2, a.2.2 = e ++ e2) ∧ packF (als A) o n (List.range' a.1 (A.length - a.1)) out = R)
    (fun a => A.length - a.1) ?_ ?_ ?_ ?_) ?_
  ·refine ⟨hi, Nat.le_refl _, ⟨?_, hO.tk, hO.kl, hO.la⟩, ⟨[], (List.append_nil _).symm⟩, hR⟩
   have := hO.wf.snoc (o := AObj.cells 3 [.int .i64 (i : Int)] 0) rfl
   rw [List.append_assoc, pkH_app] at this
   exact this
  ·simp -implicitDefEqProofs [k61_4]
  ·rfl
  ·intro nx a ha ihl
   obtain ⟨i', l', e1⟩ := a
   obtain ⟨c1, c2, hO', ⟨e2, he2⟩, c5⟩ := ha
   simp only at c1 c2 hO' he2 c5 ihl ⊢
   by_cases hlt : i' < A.length
   case neg =>
    have e : i' = A.length := by omega
    subst e
    rw [Nat.sub_self, show List.range' A.length 0 = [] from rfl, Co.packF_nil, if_neg hn] at c5
    subst c5
    refine ⟨(), h ++ pkH b o n h.length k l' (e1 ++ [AObj.cells 3 [.int .i64 (A.length : Int)] 0]), ?_, k, l', e2 ++ [AObj.cells 3 [.int .i64 (A.length : Int)] 0], by rw [he2, List.append_assoc], by rw [← List.append_assoc, ← he2]; exact hO'⟩
    have ly : ∀ sz, loadT ⟨some false, sz⟩ (h ++ pkH b o n h.length k l' (e1 ++ [AObj.cells 3 [.int .i64 (A.length : Int)] 0])) (ptr (h.length + (e1.length + 6))) = some (.int .i64 (A.length : Int)) := fun sz => box_load pk_at
    generalize e1 ++ [AObj.cells 3 [.int .i64 (A.length : Int)] 0] = E1 at *
    simp -implicitDefEqProofs [r61_4, k61_4, rop_nilT, nilT_ptr, ly, g0, l0, ll, trim_le]
   have hi3 : (i' : Int) < (A.length : Int) := by omega
   obtain ⟨E1, hE1⟩ : ∃ E1, E1 = e1 ++ [AObj.cells 3 [.int .i64 (i' : Int)] 0] := ⟨_, rfl⟩
   have ly : ∀ k l E' sz, loadT ⟨some false, sz⟩ (h ++ pkH b o n h.length k l (E1 ++ E')) (ptr (h.length + (e1.length + 6))) = some (.int .i64 (i' : Int)) := fun k l E' sz => box_load (t := 3) (get_at (by
    show (E1 ++ E')[e1.length]? = _
    rw [hE1]; simp))
   have ly0 : ∀ k l sz, loadT ⟨some false, sz⟩ (h ++ pkH b o n h.length k l E1) (ptr (h.length + (e1.length + 6))) = some (.int .i64 (i' : Int)) := fun k l sz => by
    have := ly k l [] sz
    rwa [List.append_nil] at this
   have bc : Box (h ++ pkH b o n h.length k l' E1) (h.length + (e1.length + 6)) 3 (.int .i64 (i' : Int)) := by rw [hE1]; exact pk_at
   rw [← hE1] at hO' ⊢
   have hle1 : e1.length < E1.length := by rw [hE1]; simp
   have heE : ∃ e4, E1 = e ++ e4 := ⟨e2 ++ [AObj.cells 3 [.int .i64 (i' : Int)] 0], by rw [hE1, he2, List.append_assoc]⟩
   clear hE1 he2
   obtain ⟨e4, he4⟩ := heE
   have hwf := hO'.wf
   have hd : List.range' i' (A.length - i') = i' :: List.range' (i' + 1) (A.length - (i' + 1)) := by
    rw [show A.length - i' = (A.length - (i' + 1)) + 1 by omega, List.range'_succ]
   rw [hd, Co.packF_cons, if_neg hn] at c5
   have w1 : IntKind.i64.wrap ((i' : Int) + 1) = ((i' + 1 : Nat) : Int) := (wrap64 (by omega) (by omega)).trans (by omega)
   have b1 := bin_shrU (P := E.P) (t := 58) (a := o) (n := i') (by omega)
   have hao : o >>> i' < 2 ^ 64 := Nat.lt_of_le_of_lt (by rw [Nat.shiftRight_eq_div_pow]; exact Nat.div_le_self _ _) ho
   have b2 := bin_andU (P := E.P) (t := 58) (a := o >>> i') (b := 1) hao (by omega)
   have z0 : aBin E.P .eql 58 (setV 0) (.int .u64 0) = some (.bool true) := mk_eq (a := 0) (b := 0)
   have z1 : aBin E.P .eql 58 (setV 1) (.int .u64 0) = some (.bool false) := mk_eq (a := 1) (b := 0)
   rw [bit_at] at b2
   have e1V : setV 1 = .int .u64 1 := rfl
   rw [e1V] at b2
   have hkout : castL out = l'.take k := hO'.tk.symm
   have cf := containsFL (castL out) (Enc.part (h.length + 5) k l') (fun j => Enc.at_ (h.length + 5) l' j) (.func (.func 63) #[] #[ptr h.length, ptr (h.length + (e1.length + 6))]) (fun z => !apartF (als A) i' z.toNat) (h ++ pkH b o n h.length k l' E1)
    (by rw [cast_len]; have := hO'.la; have := hO'.kl; omega) (fun H => by rw [cast_len, ← hk]; rfl) (fun j hj => Enc.part_index (by rw [cast_len, ← hk] at hj; exact hj))
    (fun j hj => by
     rw [cast_len, ← hk] at hj
     have := Enc.load_at (O := intE) (h := h ++ pkH b o n h.length k l' E1) (b := h.length + 5) (t := 3) (sz := some 1) (l := l') (get_at (k := 5) rfl) (Nat.lt_of_lt_of_le hj hO'.kl)
     rw [this]
     have e5 : (castL out)[j]'(by rw [cast_len, ← hk]; exact hj) = l'[j]'(Nat.lt_of_lt_of_le hj hO'.kl) := by simp only [hkout, List.getElem_take]
     rw [e5]; rfl)
    (fun z hz => by
     obtain ⟨j, hj, rfl⟩ := List.mem_map.1 hz
     exact Cl.of (pack11_spec (pe k l' E1) hwf (get_at (k := 0) rfl) bc hlt (by have := hout j hj; omega)))
   unfold Rd at cf
   have ea : (castL out).any (fun z => !apartF (als A) i' z.toNat) = !out.all (apartF (als A) i') := by
    unfold castL
    rw [List.any_map, List.not_all_eq_any_not]; rfl
   rw [ea] at cf
   have s1 := fun k l E v w => pk_st (h := h) (b := b) (o := o) (n := n) (k := k) (l := l) (E1 := E) (v := .int .i64 v) (w := w) rfl
   have s2 := fun k l E v sz => box_load (sz := sz) (pk_at (h := h) (b := b) (o := o) (n := n) (k := k) (l := l) (E1 := E) (c := AObj.cells 3 [.int .i64 v] 0))
   have q1 : 1 < E1.length + 6 := by omega
   have q2 : 2 < E1.length + 6 := by omega
   have q3 : 3 < E1.length + 6 := by omega
   have q4 : 4 < E1.length + 6 := by omega
   have q5 : 5 < E1.length + 6 := by omega
   have snoc : ∀ k l E v, WF (h ++ pkH b o n h.length k l E) → WF (h ++ pkH b o n h.length k l (E ++ [AObj.cells 3 [.int .i64 v] 0])) := fun k l E v hw => by
    have := hw.snoc (o := AObj.cells 3 [.int .i64 v] 0) rfl
    rw [List.append_assoc, pkH_app] at this
    exact this
   -- to the next alternative, without this one
   have skip : packF (als A) o n (List.range' (i' + 1) (A.length - (i' + 1))) out = R → ∃ (u : Unit) (h' : Heap), nx (sets [(8, ptr (h.length + (E1.length + 6)))] (forget k61_4.1 _)) (h ++ pkH b o n h.length k l' (E1 ++ [AObj.cells 3 [.int .i64 ((i' + 1 : Nat) : Int)] 0])) = _ ∧ _ := fun hr =>
    ihl (i' + 1, l', E1) (by show A.length - (i' + 1) < A.length - i'; omega) ⟨hlt, by omega, ⟨snoc _ _ _ _ hwf, hO'.tk, hO'.kl, hO'.la⟩, ⟨e4, he4⟩, hr⟩
   cases q : o.testBit i'
   ·rw [q, Bool.false_and, if_neg (by decide)] at c5
    obtain ⟨u, h', r1, r2⟩ := skip c5
    refine ⟨u, h', ?_, r2⟩
    rw [← r1]
    simp -implicitDefEqProofs [k61_4, -Int.natCast_add]
    simp -implicitDefEqProofs [r61_4, rop_nilT, nilT_ptr, ly0, g0, g1, l0, ll, hi3, b1, b2, z0, q, pkH_app, pkH_len, s1, s2, w1, trim_stay, -Int.natCast_add]
   rw [q, Bool.true_and] at c5
   cases qa : out.all (apartF (als A) i')
   ·rw [qa, if_neg (by decide)] at c5
    rw [qa] at cf
    obtain ⟨u, h', r1, r2⟩ := skip c5
    refine ⟨u, h', ?_, r2⟩
    rw [← r1]
    simp -implicitDefEqProofs [k61_4, -Int.natCast_add]
    simp -implicitDefEqProofs [r61_4, rop_nilT, nilT_ptr, ly0, g0, g1, g3, l0, ll, hi3, b1, b2, z1, q, cf, pkH_app, pkH_len, s1, s2, w1, trim_stay, -Int.natCast_add]
   rw [qa, if_pos rfl] at c5
   rw [qa] at cf
   have hla := hO'.la
   obtain ⟨l1, ap, t1, t2, t3⟩ := app_part (H := h ++ pkH b o n h.length k l' E1) (bb := h.length + 5) (lo := h.length) (x := (i' : Int)) (get_at (k := 5) rfl) hO'.kl (by omega) (by omega)
   rw [set_at] at ap
   have st3 : storeT (some 1) (h ++ (pkH b o n h.length k l' E1).set 5 (intE.row 3 l1)) h.length (Enc.part (h.length + 5) (k + 1) l1) (ptr (h.length + 3)) = some (h ++ pkH b o n h.length (k + 1) l1 E1) := by
    have := obj_store (h := h ++ (pkH b o n h.length k l' E1).set 5 (intE.row 3 l1)) (lo := h.length) (v := Enc.part (h.length + 5) (k + 1) l1) (b := h.length + 3) (j := 0) (t := 42) (c := [Enc.part (h.length + 5) k l']) (get_at (k := 3) rfl) (by simp) (by omega) rfl
    refine this.trans ?_
    rw [set_at]; rfl
   have li : ∀ H, buildSliceT (some elInt) false H 1 #[(0, .int .i64 (i' : Int))] = some (lst true (intE.vals [(i' : Int)]), H) := fun H => Enc.lit (O := intE) (i' : Int) rfl rfl rfl
   generalize h ++ (pkH b o n h.length k l' E1).set 5 (intE.row 3 l1) = H1 at *
   obtain ⟨k2, l2, e3, cs, hO2⟩ := ih (i' + 1) (out ++ [i']) (by omega) hlt (fun x hx => by
    rcases List.mem_append.1 hx with hx | hx
    ·exact hout x hx
    ·rw [List.mem_singleton.1 hx]; exact hlt) (k + 1) l1 E1 ⟨pk_wf hwf _ _, by rw [t1, hO'.tk]; exact (castL_app out i').symm, t2, by omega⟩ (by omega)
   have hwf2 := hO2.wf
   have hle2 : E1.length ≤ (E1 ++ e3).length := by rw [List.length_append]; omega
   cases hq : packF (als A) o n (List.range' (i' + 1) (A.length - (i' + 1))) (out ++ [i']) with
   | some K' =>
    rw [hq] at cs hO2 c5
    have c5 : some K' = R := c5
    subst c5
    have tr := fun vs hv => pk_trim (vs := vs) (E1 := E1) (pk_wf hwf k2 l2) (e := e3) hv
    refine ⟨(), h ++ pkH b o n h.length k2 l2 E1, ?_, k2, l2, e4, by rw [he4], ⟨by rw [← he4]; exact pk_wf hwf _ _, hO2.tk, hO2.kl, hO2.la⟩⟩
    simp -implicitDefEqProofs [r61_4, k61_4, rop_nilT, nilT_ptr, ly0, g0, g1, g3, g4, l0, ll, hi3, b1, b2, z1, q, cf, li, ap, st3, w1, cs, pkH_len, tr, Enc.part_bel, q1, q2, q3, q4, q5, -Int.natCast_add]
   | none =>
    rw [hq] at cs hO2 c5
    have c5 : packF (als A) o n (List.range' (i' + 1) (A.length - (i' + 1))) out = R := c5
    have hk2 : k2 = k + 1 := by
     have := congrArg List.length hO2.tk
     rw [cast_len, List.length_take] at this
     have h2 := hO2.kl
     simp at this
     omega
    subst hk2
    have tk2 : l2.take k = castL out := by
     have := congrArg (List.take k) hO2.tk
     rw [List.take_take, show min k (k + 1) = k by omega] at this
     rw [this]
     show (castL (out ++ [i'])).take k = _
     rw [castL_app, List.take_append_of_le_length (by rw [cast_len]; omega), List.take_of_length_le (by rw [cast_len]; omega)]
    have kl2 : k ≤ l2.length := by have := hO2.kl; omega
    have la2 := hO2.la
    have ly2 := fun l sz => ly k l e3 sz
    have hE2 : ∃ e5, E1 ++ e3 = e ++ e5 := ⟨e4 ++ e3, by rw [he4, List.append_assoc]⟩
    generalize E1 ++ e3 = E2 at *
    have sl : sliceT (.sl 3 ⟨some false, some 1⟩) (h ++ pkH b o n h.length (k + 1) l2 E2) (Enc.part (h.length + 5) (k + 1) l2) none (some (.int .i64 (k : Int))) none = some (Enc.part (h.length + 5) k l2) := Enc.part_take (O := intE) (t := 3) (get_at (k := 5) rfl) kl2
    have wk : IntKind.i64.wrap (((k + 1 : Nat) : Int) - 1) = (k : Int) := (wrap64 (by omega) (by omega)).trans (by omega)
    have lp2 : ∀ H, lenT .sl H (Enc.part (h.length + 5) (k + 1) l2) = some (.int .i64 ((k + 1 : Nat) : Int)) := fun H => Enc.part_len
    have st4 : storeT (some 1) (h ++ pkH b o n h.length (k + 1) l2 E2) h.length (Enc.part (h.length + 5) k l2) (ptr (h.length + 3)) = some (h ++ pkH b o n h.length k l2 E2) := by
     have := obj_store (h := h ++ pkH b o n h.length (k + 1) l2 E2) (lo := h.length) (v := Enc.part (h.length + 5) k l2) (b := h.length + 3) (j := 0) (t := 42) (c := [Enc.part (h.length + 5) (k + 1) l2]) (get_at (k := 3) rfl) (by simp) (by omega) rfl
     refine this.trans ?_
     rw [set_at]; rfl
    obtain ⟨u, h', r1, r2⟩ := ihl (i' + 1, l2, E2) (by show A.length - (i' + 1) < A.length - i'; omega) ⟨hlt, by omega, ⟨snoc _ _ _ _ (pk_wf hwf2 _ _), tk2, kl2, la2⟩, hE2, c5⟩
    refine ⟨u, h', ?_, r2⟩
    rw [← r1]
    have hle3 : ¬ E2.length < E1.length := by omega
    simp -implicitDefEqProofs [k61_4, -Int.natCast_add]
    simp -implicitDefEqProofs [r61_4, rop_nilT, nilT_ptr, ly0, ly2, g0, g1, g3, g4, l0, ll, hi3, b1, b2, z1, q, cf, li, ap, st3, w1, cs, lp2, wk, sl, st4, pkH_app, pkH_len, s1, s2, hle3, trim_stay, -Int.natCast_add]
  ·intro u h' hK
   obtain ⟨k', l', e', rfl, hO'⟩ := hK
   refine ⟨k', l', e', ?_, hO'⟩
   cases R with
   | none => simp -implicitDefEqProofs [k61_4]
   | some K' => simp -implicitDefEqProofs [k61_4]
theorem pack1_spec (p : Pb h b r m K A ns) (hw : WF h) {o n : Nat} (ho : o < 2 ^ 64) : ∀ (d i : Nat) (out : List Nat), A.length - i ≤ d → i ≤ A.length → (∀ j ∈ out, j < A.length) → PkS A h b o n i out := by
 intro d
 induction d with
 | zero => intro i out hd hi hout; exact pack1_step p hw ho hi hout fun j out h1 h2 _ => by omega
 | succ d ih => intro i out hd hi hout; exact pack1_step p hw ho hi hout fun j out' h1 h2 h3 => ih j out' (by omega) h2 h3
def packV : Option (List Nat) → Value
 | none => .slice none 0 0
 | some K => intE.o (some false) (castL K)
theorem pack_spec (p : Pb h b r m K A ns) (hw : WF h) {o n : Nat} (ho : o < 2 ^ 64) : Rd 44 [ptr b, setV o, .int .i64 (n : Int)] h (packV (packF (als A) o n (List.range A.length) [])) := by
 intro lo st
 have hb := p.lt
 have w0 : WF (h ++ pkH b o n h.length 0 [] []) := by
  unfold WF pkH at *
  simp only [List.all_append, List.all_cons, List.all_nil, List.length_append, List.length_cons, List.length_nil, Bool.and_true, Bool.and_eq_true]
  refine ⟨?_, ?_, rfl, rfl, ?_, ?_, Enc.row_bel⟩
  ·exact List.all_eq_true.2 fun x hx => belO_mono (by omega) (List.all_eq_true.1 hw x hx)
  ·simp [belO_cells, below]; omega
  ·rw [belO_cells, List.all_cons, List.all_nil, Bool.and_true]; exact Enc.part_bel (d := 7) (by omega)
  ·simp [belO_cells, below, pkF]
 obtain ⟨k', l', e', cs, hO⟩ := pack1_spec p hw (n := n) ho A.length 0 [] (by omega) (Nat.zero_le _) (fun j hj => by cases hj) 0 [] [] ⟨w0, rfl, Nat.le_refl _, Nat.zero_le _⟩ (Nat.le_refl _)
 rw [Nat.sub_zero, ← List.range_eq_range', List.nil_append] at cs hO
 rw [show ((0 : Nat) : Int) = 0 from rfl] at cs
 have sI : szOf E.P 3 = some 1 := by kernel_rfl
 have co : cellsOf (setV o) = some [setV o] := rfl
 have nc : ∀ σ, newcK E.P h.length (h ++ [AObj.cells 43 [ptr b] 0, AObj.cells 58 [setV o] 0, AObj.cells 3 [.int .i64 (n : Int)] 0, AObj.cells 42 [.slice none 0 0] 0, AObj.cells 85 [.nilFunc] 0]) σ 0 3 (ptr (h.length + 3)) =
   some (σ, h ++ [AObj.cells 43 [ptr b] 0, AObj.cells 58 [setV o] 0, AObj.cells 3 [.int .i64 (n : Int)] 0, AObj.cells 42 [Enc.part (h.length + 5) 0 ([] : List Int)] 0, AObj.cells 85 [.nilFunc] 0, intE.row 3 []]) := fun σ => by
  have := newcK_cell (P := E.P) (σ := σ) (lo := h.length) (t := 3) (b := h.length + 3) (off := 0) (d := 0) (n := 0) (sp := none) (h := h ++ [AObj.cells 43 [ptr b] 0, AObj.cells 58 [setV o] 0, AObj.cells 3 [.int .i64 (n : Int)] 0, AObj.cells 42 [.slice none 0 0] 0, AObj.cells 85 [.nilFunc] 0]) (c := [.slice none 0 0]) (g := 0) (get_at (k := 3) rfl) rfl sI (by omega)
  rw [this, set_at, List.append_assoc, List.length_append]; rfl
 have st : storeT (some 1) (h ++ [AObj.cells 43 [ptr b] 0, AObj.cells 58 [setV o] 0, AObj.cells 3 [.int .i64 (n : Int)] 0, AObj.cells 42 [Enc.part (h.length + 5) 0 ([] : List Int)] 0, AObj.cells 85 [.nilFunc] 0, intE.row 3 []]) h.length (.func (.func 61) #[] #[ptr (h.length + 3), ptr (h.length + 2), ptr h.length, ptr (h.length + 1), ptr (h.length + 4)]) (ptr (h.length + 4)) = some (h ++ pkH b o n h.length 0 [] []) := by
  have := obj_store (h := h ++ [AObj.cells 43 [ptr b] 0, AObj.cells 58 [setV o] 0, AObj.cells 3 [.int .i64 (n : Int)] 0, AObj.cells 42 [Enc.part (h.length + 5) 0 ([] : List Int)] 0, AObj.cells 85 [.nilFunc] 0, intE.row 3 []]) (lo := h.length) (v := pkF h.length) (b := h.length + 4) (j := 0) (t := 85) (c := [.nilFunc]) (get_at (k := 4) rfl) (by simp) (by omega) rfl
  refine this.trans ?_
  rw [set_at]; rfl
 have g3 := fun k l e sz => box_load (h := h ++ pkH b o n h.length k l e) (x := h.length + 3) (t := 42) (v := Enc.part (h.length + 5) k l) (get_at (k := 3) rfl) (sz := sz)
 have g4 := fun k l e sz => box_load (h := h ++ pkH b o n h.length k l e) (x := h.length + 4) (t := 85) (v := pkF h.length) (get_at (k := 4) rfl) (sz := sz)
 have tl : ∀ (v : Value) (e : Heap), below 8 h.length v = true → trim h.length [v] (h ++ e) = h := fun v e hv => trim_wfs hw (by rw [List.all_cons, List.all_nil, Bool.and_true]; exact hv)
 have fn : ∀ lo H, freezeV E.P depth lo H (.slice none 0 0) = some (.slice none 0 0, H) := fun _ _ => rfl
 have b0 : below 8 h.length (.slice none 0 0) = true := rfl
 have ff : flat .nilFunc = true := rfl
 have cn : cellsOf .nilFunc = some [.nilFunc] := rfl
 rw [ret5 m44, L_fn F44 rfl]
 cases hq : packF (als A) o n (List.range A.length) [] with
 | none =>
  rw [hq] at cs hO
  simp -implicitDefEqProofs [r44, p44, prep_newc, co, ff, cn, nc, st, g4, cs, tl, fn, b0, packV]
 | some K' =>
  rw [hq] at cs hO
  have fz : ∃ H', freezeV E.P depth h.length (h ++ pkH b o n h.length k' l' e') (Enc.part (h.length + 5) k' l') = some (intE.o (some false) (castL K'), h ++ H') := by
   have := Enc.frz_part (P := E.P) (O := intE) (lo := h.length) (h := h ++ pkH b o n h.length k' l' e') (b := h.length + 5) (t := 3) (get_at (k := 5) rfl) hO.kl sI (by kernel_rfl) (by omega)
   rw [hO.tk] at this
   refine ⟨if k' = 0 then pkH b o n h.length k' l' e' else (pkH b o n h.length k' l' e').set 5 .dead, this.trans ?_⟩
   split
   ·rfl
   ·rw [set_at]; rfl
  obtain ⟨H', fz⟩ := fz
  have bo : below 8 h.length (intE.o (some false) (castL K')) = true := Enc.o_bel
  simp -implicitDefEqProofs [r44, p44, prep_newc, co, ff, cn, nc, st, g3, g4, cs, fz, tl, bo, packV]
end
end Go.Proofs.YtgefjhjmkejjbaaDoor.Bm
