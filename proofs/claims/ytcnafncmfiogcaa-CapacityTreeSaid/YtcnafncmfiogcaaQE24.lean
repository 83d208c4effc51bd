/-
  Chapter 25: the statement on the tree of the search. Conditions: what the types say of the arguments.
-/
import Derived.Test.YtcnafncmfiogcaaQE23
namespace Go.Proofs.Ytcnafncmfiogcaa.Bm
open Go Go.RowKit
def Pv (h : Heap) (b : Nat) (v : Value) (l : List Int) : Prop := ∃ R, v = Enc.part b l.length R ∧ h[b]? = some (intE.row 3 R) ∧ R.take l.length = l ∧ l.length ≤ R.length ∧ R.length ≤ 100000
section
variable {h : Heap} {b : Nat} {v : Value} {l m : List Int} {x y : Int}
theorem Pv.lenH (p : Pv h b v l) (g : Heap) : lenT .sl g v = some (.int .i64 l.length) := by
  obtain ⟨R, rfl, _⟩ := p; rfl
theorem Pv.keep (p : Pv h b v l) {g : Heap} (hg : ∀ o, h[b]? = some o → g[b]? = some o) : Pv g b v l := by
  obtain ⟨R, h1, h2, h3⟩ := p
  exact ⟨R, h1, hg _ h2, h3⟩
theorem Pv.get (p : Pv h b v (m ++ [x])) : ∃ q, indexAddrT (.sl 3 ⟨some false, some 1⟩) v (.int .i64 (m.length : Int)) = some q ∧ loadT ⟨some false, some 1⟩ h q = some (.int .i64 x) ∧
    ∀ y, ∃ h1, storeT (some 1) h 0 (.int .i64 y) q = some h1 ∧ Pv h1 b v (m ++ [y]) ∧ h1.length = h.length ∧ ∀ c, c ≠ b → h1[c]? = h[c]? := by
  obtain ⟨R, h1, h2, h3, h4, h5⟩ := p
  rw [List.length_append] at h1 h3 h4
  have h4 : m.length + 1 ≤ R.length := h4
  have h3 : R.take (m.length + 1) = m ++ [x] := h3
  have e : R[m.length]? = some x := by
    have := congrArg (fun z => z[m.length]?) h3
    simp only [List.getElem?_take_of_lt (Nat.lt_succ_self m.length)] at this
    rw [this]; simp
  have hm : m.length < R.length := h4
  refine ⟨Enc.at_ b R m.length, by rw [h1]; exact Enc.part_index (Nat.lt_succ_self _), ?_, fun y => ?_⟩
  · rw [Enc.load_at (O := intE) h2 hm]
    rw [List.getElem?_eq_getElem hm] at e
    rw [Option.some.inj e]; rfl
  · refine ⟨_, Enc.store_at (O := intE) (a := y) h2 (Nat.zero_le _) hm, ⟨R.set m.length y, ?_, gq (gl h2), ?_, by rw [List.length_set, List.length_append]; exact h4, by rw [List.length_set]; exact h5⟩, by simp, fun c hc => List.getElem?_set_ne (fun e => hc e.symm)⟩
    · rw [h1, List.length_append]
      unfold Enc.part
      rw [List.length_set]; rfl
    · rw [List.length_append]
      show (R.set m.length y).take (m.length + 1) = m ++ [y]
      have e2 : R.take m.length = m := by
        have := congrArg (List.take m.length) h3
        rw [List.take_take, Nat.min_eq_left (Nat.le_succ _), List.take_left] at this
        exact this
      rw [List.take_add_one, List.take_set_of_le (Nat.le_refl _), e2, List.getElem?_set_self hm]; rfl
theorem Pv.push (p : Pv h b v l) (hl : l.length < 100000) (y : Int) : ∃ v' h1, appendT (some elInt) h 0 false v (lst true (intE.vals [y])) = some (v', h1) ∧ Pv h1 b v' (l ++ [y]) ∧ h1.length = h.length ∧ ∀ c, c ≠ b → h1[c]? = h[c]? := by
  obtain ⟨R, h1, h2, h3, h4, h5⟩ := p
  by_cases hr : l.length < R.length
  · have ap := Enc.app_room (O := intE) (m := [y]) (el := elInt) (h := h) (lo := 0) (b := b) (i := l.length) (t := 3) (l := R) (u := lst true (intE.vals [y])) rfl h2 Enc.cells_tree (by simp) (Nat.zero_le _) (by show l.length + 1 ≤ R.length; omega)
    have hlen : (R.take l.length ++ [y] ++ R.drop (l.length + [y].length)).length = R.length := by simp; omega
    refine ⟨_, _, by rw [h1]; exact ap, ⟨_, by rw [List.length_append], gq (gl h2), ?_, ?_, by rw [hlen]; exact h5⟩, by simp, fun c hc => List.getElem?_set_ne (fun e => hc e.symm)⟩
    · rw [h3, List.take_append_of_le_length (by simp), List.take_of_length_le (by simp)]
    · rw [hlen, List.length_append]; show l.length + 1 ≤ R.length; omega
  · have he : R = l := by rw [← h3, List.take_of_length_le (by omega)]
    subst he
    have ap := Enc.app (O := intE) (m := [y]) (el := elInt) (h := h) (lo := 0) (b := b) (t := 3) (l := R) (u := lst true (intE.vals [y])) rfl h2 Enc.cells_tree (Nat.zero_le _) (by show (R.length + 1) * 8 ≤ 2 ^ 47; omega)
    exact ⟨_, _, by rw [h1]; exact ap, ⟨_, rfl, gq (gl h2), List.take_of_length_le (Nat.le_refl _), Nat.le_refl _, by rw [List.length_append]; show R.length + 1 ≤ 100000; omega⟩, by simp, fun c hc => List.getElem?_set_ne (fun e => hc e.symm)⟩
end
end Go.Proofs.Ytcnafncmfiogcaa.Bm
namespace Go.Proofs.Ytcnafncmfiogcaa.Bm
open Go Go.RowKit
open Cp (Br stepK runK Zs prQ validQ best)
theorem LL_ux {k : List Nat × List Nat} {b : Body} {σ₀ : Slots} {h₀ : Heap} {α U : Type} (a₀ : α) (up : α → List (Nat × Value)) (H : α → Heap) (e : Exit) (ups : U → List (Nat × Value)) (K : U → Heap → Prop) (I : α → Prop) (ms : α → Nat)
    (hI : I a₀) (e0 : sets (up a₀) (forget k.1 σ₀) = forget k.1 σ₀) (e1 : H a₀ = h₀)
    (step : ∀ (nx : Body) a, I a → (∀ a', ms a' < ms a → I a' → ∃ u h', nx (sets (up a') (forget k.1 σ₀)) (H a') = fin (forget k.1 σ₀) (e, ups u, h') ∧ K u h') →
      ∃ u h', lopK k.1 k.2 nx (H a).length (b (forget k.1 (sets (up a) (forget k.1 σ₀))) (H a)) = fin (forget k.1 σ₀) (e, ups u, h') ∧ K u h') :
    ∃ u h', LL k b σ₀ h₀ = fin (forget k.1 σ₀) (e, ups u, h') ∧ K u h' := by
  obtain ⟨r, h1, u, h', h2, h3⟩ := LL_ex (k := k) (b := b) (σ₀ := σ₀) (h₀ := h₀) a₀ up H (fun r => ∃ u h', some r = fin (forget k.1 σ₀) (e, ups u, h') ∧ K u h') I ms hI e0 e1 fun nx a ha ih => by
    obtain ⟨u, h', he, hk⟩ := step nx a ha fun a' hlt hi' => by
      obtain ⟨r, h1, u, h', h2, h3⟩ := ih a' hlt hi'
      exact ⟨u, h', h1.trans h2, h3⟩
    exact ⟨_, he, u, h', rfl, hk⟩
  exact ⟨u, h', h1.trans h2, h3⟩
theorem ux_goal {U : Type} {G : CRes → Prop} {X : CRes} {F : U → Heap → CRes} {K : U → Heap → Prop} (h : ∃ u h', X = F u h' ∧ K u h') (k : ∀ u h', K u h' → G (F u h')) : G X := by
  obtain ⟨u, h', rfl, hk⟩ := h
  exact k u h' hk
theorem part_get {h : Heap} {b n i : Nat} {R : List Int} {x : Int} (hb : h[b]? = some (intE.row 3 R)) (hi : i < n) (hx : R[i]? = some x) : ∃ q, indexAddrT (.sl 3 ⟨some false, some 1⟩) (Enc.part b n R) (.int .i64 (i : Int)) = some q ∧ loadT ⟨some false, some 1⟩ h q = some (.int .i64 x) := by
  obtain ⟨hr, rfl⟩ := List.getElem?_eq_some_iff.1 hx
  exact ⟨Enc.at_ b R i, Enc.part_index hi, Enc.load_at (O := intE) hb hr⟩
theorem Pv.trim {h : Heap} {b : Nat} {v : Value} {l : List Int} (p : Pv h b v l) {n : Nat} (vs : List Value) (hb : b < n) : Pv (Bm.trim n vs h) b v l := p.keep fun o ho => by
  unfold Bm.trim
  split
  · exact ho
  split
  · rw [List.getElem?_take_of_lt hb]; exact ho
  · exact ho
theorem trim_not {n : Nat} {vs : List Value} {h : Heap} {v : Value} (hv : v ∈ vs) (hb : below 8 n v = false) : Bm.trim n vs h = h := by
  unfold Bm.trim
  split
  · rfl
  split
  · rename_i hc
    rw [Bool.and_eq_true] at hc
    have := List.all_eq_true.1 hc.1 v hv
    have e : below 8 n v = true := this
    rw [hb] at e
    cases e
  · rfl
theorem step_some {k : Int} : ∀ {S S' : List Int}, stepK S k = some S' → ∃ z c st, Zs z ∧ c ≠ 0 ∧ S = z ++ c :: st ∧ S' = k :: (c - 1) :: st
  | [], _, h => by cases h
  | c :: st, S', h => by
    unfold stepK at h
    by_cases hc : c = 0
    · rw [if_pos hc] at h
      obtain ⟨z, c', st', h1, h2, h3, h4⟩ := step_some h
      exact ⟨c :: z, c', st', (fun x hx => (List.mem_cons.1 hx).elim (fun e => e.trans hc) (h1 x)), h2, by rw [h3]; rfl, h4⟩
    · rw [if_neg hc] at h
      exact ⟨[], c, st, (fun x hx => by cases hx), hc, rfl, (Option.some.inj h).symm⟩
theorem lit_one (o : AObj) : buildSliceT (some elInt) true [o] 1 #[(0, .int .i64 1)] = some (Enc.part 1 1 [1], [o, intE.row 3 [1]]) :=
  (build_lit' (n := 1) (l := [(0, .int .i64 1)]) rfl rfl (by decide) (by decide) (by decide)).trans rfl
def Wt25 (t : List Br) (M : Int) (Z : List Int) (i : Nat) (v10 v11 : Value) (h : Heap) : Prop := ∃ l : List Int, Pv h 1 v10 l ∧ (∀ x ∈ l, 0 ≤ x ∧ x ≤ 6) ∧ l.length ≤ i + 1 ∧ runK l.reverse (t.drop i) = some Z ∧ 2 ≤ h.length ∧
  ((v11 = lst true (intE.vals [M]) ∧ i = 0 ∧ l = [1] ∧ h.length = 2) ∨ Pv h 2 v11 (List.replicate l.length M))
set_option maxHeartbeats 2000000 in
theorem tree_law (P : Rooms) (p : Pb) (ha : Args P p) : ∃ h', L E 4 [roomsV false P, p.val] [] 0 = some (.bool true, h') := by
  have fw := ha.few false
  have sm := small25_spec
  have rr := rooms_reify false P
  have sr : settled depth (roomsV false P) = true := rfl
  have rcp : ∀ h, reifyC E.P 7 h p.cells = some p.cells := fun h => reifyC_set (pb_all p)
  have pe : p.val = .agg ⟨p.cells⟩ := rfl
  have ps : settled depth (.agg ⟨p.cells⟩) = true := p.set
  have lp : ∀ t, loadT ⟨some true, some 4⟩ (AObj.cells 26 p.cells 0 :: t) (.pointer (some ⟨0, 0, none⟩)) = some (.agg ⟨p.cells⟩) := fun t => obj_all (b := 0) rfl rfl
  rw [L_fn F4 rfl, pe]
  cases hF : fewB P p
  · rw [hF] at fw
    simp -implicitDefEqProofs [r4, p4, ret0 m12, sm, ret0 m13, rr, lp, rcp, fw]
  rw [hF] at fw
  obtain ⟨hPo, hp⟩ := ha.get hF
  by_cases hbad : areasF (lists P) = none ∨ validQ p.q = false
  · have bb := best_bad false P hPo p hp hbad
    rw [pe] at bb
    simp -implicitDefEqProofs [r4, p4, ret0 m12, sm, ret0 m13, rr, lp, rcp, fw, ret1 m15, sr, ps, bb]
  obtain ⟨A, hA⟩ : ∃ A, areasF (lists P) = some A := Option.ne_none_iff_exists'.1 fun e => hbad (.inl e)
  have hv : validQ p.q = true := by cases hv : validQ p.q with | true => rfl | false => exact absurd (.inr hv) hbad
  obtain ⟨k, hk, bs⟩ := best_ok false P hPo p hp A hA hv
  rw [pe] at bs
  cases hb : best (prQ p.q) A with
  | none =>
    rw [hb] at bs
    unfold bestV at bs
    simp only at bs
    simp -implicitDefEqProofs [r4, p4, ret0 m12, sm, ret0 m13, rr, lp, rcp, fw, ret1 m15, sr, ps, bs]
  | some r =>
    obtain ⟨v, c, t⟩ := r
    rw [hb] at bs
    unfold bestV at bs
    simp only at bs
    have t4 := (Cp.best_sr hb).1
    have hA2 := (areas_told hA).2
    obtain ⟨hne, hev, hv0, hvM, z, hz, hrun⟩ := Cp.best_tree (P := prQ p.q) Cp.may_us (fun a ha => by have := hA2 a ha; omega) (Cp.validQ_iff.1 hv).2.2.1 hb
    have hMm : Cp.reach (prQ p.q) (Cp.root (prQ p.q) A) ≤ p.most := Int.min_le_right _ _
    have hm64 := hp.m
    generalize Cp.reach (prQ p.q) (Cp.root (prQ p.q) A) = M at *
    have lt : ∀ h, lenT .sl h (lst false (brR.vals t)) = some (.int .i64 t.length) := fun h => Rec.o_len (R := brR) (k := some false) Rec.ok_some
    have ix : ∀ (i : Nat) (hi : i < t.length), indexAddrT (.sl 41 ⟨some true, some 2⟩) (lst false (brR.vals t)) (.int .i64 (i : Int)) = some (cptr (brR.val t[i])) := fun i hi => Rec.o_index (R := brR) (s := 2) (t := 41) (kk := .i64) (k := some false) rfl Rec.ok_some hi
    have h0 : 0 < t.length := List.length_pos_iff.2 hne
    have x0 := ix 0 h0
    obtain ⟨e0b, e0k⟩ := hev _ (List.getElem_mem h0)
    have v0 : brR.val t[0] = .agg ⟨[.int .i64 t[0].kids, .int .i64 M]⟩ := by rw [br_val, e0b]
    rw [v0] at x0
    have x0 : indexAddrT (.sl 41 ⟨some true, some 2⟩) (lst false (brR.vals t)) (.int .i64 0) = _ := x0
    have hl1 : ¬ (t.length : Int) < 1 := by omega
    have hl4 : ¬ (4000 : Int) < t.length := by omega
    have hMv : ¬ M < v := by omega
    have li := fun h => lit_int h M
    generalize hT : lst false (brR.vals t) = T at *
    simp -implicitDefEqProofs [r4, p4, ret0 m12, sm, ret0 m13, rr, lp, rcp, fw, ret1 m15, sr, ps, bs, lt, hl1, hl4, x0, hMv, li, lit_one]
    refine ux_goal (G := fun X => ∃ h', retK [RRes.tmp 4] (seqC E (L E) LL 0 (blkK 0 X) _) = some (Value.bool true, h')) (LL_ux (α := Nat × Value × Value × Heap) (U := Value) (0, Enc.part 1 1 [1], lst true (intE.vals [M]), [.cells 26 p.cells 0, intE.row 3 [1]]) (fun a => [(10, a.2.1), (11, a.2.2.1), (12, .int .i64 (a.1 : Int))]) (fun a => a.2.2.2) (.exit 0) (fun u => [(10, u), (11, undef), (12, undef)])
      (fun u h' => ∃ l, Pv h' 1 u l ∧ l.length ≤ 5000 ∧ Zs l) (fun a => a.1 ≤ t.length ∧ Wt25 t M (z ++ [0]) a.1 a.2.1 a.2.2.1 a.2.2.2) (fun a => t.length - a.1) ?_ ?_ rfl ?_) ?_
    · refine ⟨Nat.zero_le _, [1], ⟨[1], rfl, rfl, rfl, Nat.le_refl _, by decide⟩, fun x hx => by rw [List.mem_singleton.1 hx]; decide, Nat.le_refl _, hrun, Nat.le_refl _, .inl ⟨rfl, rfl, rfl, rfl⟩⟩
    · simp -implicitDefEqProofs [k4_12]
    · intro nx a hi ih
      obtain ⟨i, v10, v11, h⟩ := a
      obtain ⟨g1, l, g2, g3, g4, g5, g6, g7⟩ := hi
      simp only at g1 g2 g3 g4 g5 g6 g7 ih ⊢
      by_cases hit : i < t.length
      case neg =>
        have ei : i = t.length := by omega
        rw [List.drop_of_length_le (by omega)] at g5
        have g5 : l.reverse = z ++ [0] := Option.some.inj g5
        refine ⟨v10, h, ?_, l, g2, by omega, fun x hx => ?_⟩
        · have hit' : ¬ (i : Int) < t.length := by omega
          simp -implicitDefEqProofs [r4_12, k4_12, lt, hit', ei, trim_le]
        · have : x ∈ z ++ [0] := by rw [← g5]; exact List.mem_reverse.2 hx
          exact Cp.zs_app hz x this
      have hdr : t.drop i = t[i] :: t.drop (i + 1) := List.drop_eq_getElem_cons hit
      rw [hdr, Cp.runK_cons] at g5
      obtain ⟨e1, e2, e3⟩ := hev _ (List.getElem_mem hit)
      have xi := ix i hit
      rw [br_val, e1] at xi
      generalize t[i].kids = kd at *
      cases hst : stepK l.reverse kd with
      | none => rw [hst] at g5; cases g5
      | some S' =>
        rw [hst] at g5
        obtain ⟨zz, c0, st, s1, s2, s3, s4⟩ := step_some hst
        have hl : l = st.reverse ++ [c0] ++ zz.reverse := by
          rw [← List.reverse_reverse l, s3, List.reverse_append, List.reverse_cons]
        have hi' : (i : Int) < t.length := by omega
        have hc := g3 c0 (by rw [hl]; simp)
        have ll : l.length = st.length + 1 + zz.length := by rw [hl]; simp; omega
        obtain ⟨R, rfl, b2, b3, b4, b5⟩ := g2
        have hRc : R[st.length]? = some c0 := by
          have : (R.take l.length)[st.length]? = some c0 := by rw [b3, hl]; simp
          rw [List.getElem?_take_of_lt (by omega)] at this
          exact this
        have hR0 : ∀ j, st.length < j → j < l.length → R[j]? = some 0 := fun j h1 h2 => by
          have e : (R.take l.length)[j]? = l[j]? := by rw [b3]
          rw [List.getElem?_take_of_lt h2, List.getElem?_eq_getElem h2] at e
          rw [e]
          have : l[j] ∈ zz.reverse := by
            have e2 : l[j]? = zz.reverse[j - (st.length + 1)]? := by
              rw [hl, List.getElem?_append_right (by simp; omega)]; simp
            rw [List.getElem?_eq_getElem h2] at e2
            exact List.mem_of_getElem? e2.symm
          rw [s1 _ (List.mem_reverse.1 this)]
        have pm : R.take (st.length + 1) = st.reverse ++ [c0] := by
          have e : R.take (st.length + 1) = (R.take l.length).take (st.length + 1) := by rw [List.take_take, Nat.min_eq_left (by omega)]
          rw [e, b3, hl]
          exact List.take_left' (by simp)
        have PV : Pv h 1 (Enc.part 1 (st.length + 1) R) (st.reverse ++ [c0]) := ⟨R, by simp, b2, by simpa using pm, by simp; omega, b5⟩
        obtain ⟨q, ixq, ldq, stq⟩ := PV.get
        obtain ⟨h1, st1, P1, hl1', hk1⟩ := stq (c0 - 1)
        obtain ⟨w10, h2, ap2, P2, hl2, hk2⟩ := P1.push (by simp; omega) kd
        have wc : IntKind.i64.wrap (c0 - 1) = c0 - 1 := wrap64 (by omega) (by omega)
        have lk := fun h => lit_int h kd
        have lM := fun h => lit_int h M
        simp only [List.length_reverse] at ixq
        have nb : ∀ x ∈ st.reverse ++ [c0 - 1] ++ [kd], 0 ≤ x ∧ x ≤ 6 := fun x hx => by
          rcases List.mem_append.1 hx with k1 | k1
          · rcases List.mem_append.1 k1 with k1 | k1
            · exact g3 x (by rw [hl]; simp only [List.mem_append]; exact .inl (.inl k1))
            · rw [List.mem_singleton.1 k1]; omega
          · rw [List.mem_singleton.1 k1]; exact ⟨e2, e3⟩
        have nl : (st.reverse ++ [c0 - 1] ++ [kd]).length = st.length + 2 := by simp
        have nr : runK (st.reverse ++ [c0 - 1] ++ [kd]).reverse (t.drop (i + 1)) = some (z ++ [0]) := by
          have e : (st.reverse ++ [c0 - 1] ++ [kd]).reverse = S' := by rw [s4]; simp
          rw [e]; exact g5
        rcases g7 with ⟨rfl, _, hl1, g8⟩ | g7
        · have hl1' : l.length = 1 := by rw [hl1]; rfl
          have hs0 : st.length = 0 := by omega
          have hl0 : l.length = st.length + 1 := by omega
          rw [hl0]
          have ap3 : appendT (some elInt) h2 0 false (lst true (intE.vals [M])) (lst true (intE.vals [M])) = some (Enc.part h2.length 2 [M, M], h2 ++ [intE.row 3 [M, M]]) := Enc.app_tree (O := intE) (l := [M]) (m := [M]) (el := elInt) (h := h2) (lo := 0) (st := false) (u := lst true (intE.vals [M])) rfl Enc.cells_tree (by simp) (by show (1 + 1) * 8 ≤ 2 ^ 47; decide)
          have e2l : h2.length = 2 := by omega
          rw [e2l] at ap3
          have P2' := P2.keep (g := h2 ++ [intE.row 3 [M, M]]) fun o ho => ga _ ho
          have P3 : Pv (h2 ++ [intE.row 3 [M, M]]) 2 (Enc.part 2 2 [M, M]) [M, M] := ⟨[M, M], rfl, by rw [List.getElem?_append_right (by omega), e2l]; rfl, rfl, Nat.le_refl _, (by show 2 ≤ 100000; decide)⟩
          have wn : IntKind.i64.wrap (((st.length + 1 : Nat) : Int) - 1) = (st.length : Int) := (wrap64 (by omega) (by omega)).trans (by omega)
          have lp1 : ∀ g, lenT .sl g (Enc.part 1 (st.length + 1) R) = some (.int .i64 ((st.length + 1 : Nat) : Int)) := fun g => rfl
          have lp2 : ∀ g, lenT .sl g (lst true (intE.vals [M])) = some (.int .i64 1) := fun g => rfl
          have ixM : indexAddrT (.sl 3 ⟨some false, some 1⟩) (lst true (intE.vals [M])) (.int .i64 0) = some (cptr (.int .i64 M)) := rfl
          have w0 : IntKind.i64.wrap 0 = 0 := by decide
          have nz : ¬ ((st.length + 1 : Nat) : Int) = 0 := by omega
          have np : (0 : Int) < ((st.length + 1 : Nat) : Int) := by omega
          have k0 : ¬ kd < 0 := by omega
          have k6 : ¬ 6 < kd := by omega
          have M0 : ¬ M < 0 := by omega
          have MM : ¬ M < M := by omega
          have hwi : IntKind.i64.wrap ((i : Int) + 1) = ((i + 1 : Nat) : Int) := (wrap64 (by omega) (by omega)).trans (by omega)
          have bw : below 8 h.length (Enc.part 2 2 [M, M]) = false := by
            show decide (2 < h.length) = false
            rw [g8]; rfl
          have tn : ∀ vs, Enc.part 2 2 [M, M] ∈ vs → trim h.length vs (h2 ++ [intE.row 3 [M, M]]) = h2 ++ [intE.row 3 [M, M]] := fun vs hv => trim_not hv bw
          have ih2 := ih (i + 1, w10, Enc.part 2 2 [M, M], h2 ++ [intE.row 3 [M, M]]) (by show t.length - (i + 1) < t.length - i; omega) ⟨by show i + 1 ≤ t.length; omega, st.reverse ++ [c0 - 1] ++ [kd], P2', nb, by rw [nl]; show _ ≤ i + 1 + 1; omega, nr, by show 2 ≤ (h2 ++ [intE.row 3 [M, M]]).length; simp; omega, .inr (by
            rw [nl, hs0]; exact P3)⟩
          simp -implicitDefEqProofs [k4_12, -Int.natCast_add] at ih2
          simp -implicitDefEqProofs [r4_12, k4_12, lt, hi', -Int.natCast_add]
          rw [LL_go]
          simp -implicitDefEqProofs [r4_14, k4_14, lp1, lp2, np, nz, wn, xi, k0, k6, M0, MM, ixM, w0, ixq, ldq, s2, wc, st1, lk, lM, ap2, ap3, hwi, -append_lst, trim_le, -append_slice, -Int.natCast_add]
          rw [tn _ (List.mem_of_getElem? (i := 11) rfl)]
          exact ih2
        · obtain ⟨S, rfl, d2, d3, d4, d5⟩ := g7
          simp only [List.length_replicate] at d3 d4
          simp -implicitDefEqProofs [r4_12, k4_12, lt, hi']
          have hl5 : l.length ≤ 4001 := by omega
          rw [LL_rec (α := Nat) l.length (fun n => [(10, Enc.part 1 n R), (11, Enc.part 2 n S)]) (fun _ => h) (fun _ => (.exit 2, [(10, Enc.part 1 (st.length + 1) R), (11, Enc.part 2 (st.length + 1) S)], h)) (fun n => st.length + 1 ≤ n ∧ n ≤ l.length) (fun n => n) ⟨by omega, Nat.le_refl _⟩]
          · have PS : Pv h 2 (Enc.part 2 (st.length + 1) S) (List.replicate st.length M ++ [M]) := by
              have e : List.replicate st.length M ++ [M] = List.replicate (st.length + 1) M := by rw [List.replicate_succ']
              rw [e]
              refine ⟨S, by simp, d2, ?_, by simp; omega, d5⟩
              have e2 : S.take (st.length + 1) = (S.take l.length).take (st.length + 1) := by rw [List.take_take, Nat.min_eq_left (by omega)]
              rw [List.length_replicate, e2, d3, List.take_replicate, Nat.min_eq_left (by omega)]
            obtain ⟨qs, ixs, lds, _⟩ := PS.get
            have PS2 := (PS.keep (g := h1) fun o ho => by rw [hk1 2 (by decide)]; exact ho).keep (g := h2) fun o ho => by rw [hk2 2 (by decide)]; exact ho
            obtain ⟨w11, h3, ap3, P3, hl3, hk3⟩ := PS2.push (by simp; omega) M
            simp only [List.length_replicate] at ixs
            have P2' := P2.keep (g := h3) fun o ho => by rw [hk3 1 (by decide)]; exact ho
            have wn : IntKind.i64.wrap (((st.length + 1 : Nat) : Int) - 1) = (st.length : Int) := (wrap64 (by omega) (by omega)).trans (by omega)
            have lp1 : ∀ g, lenT .sl g (Enc.part 1 (st.length + 1) R) = some (.int .i64 ((st.length + 1 : Nat) : Int)) := fun g => rfl
            have lp2 : ∀ g, lenT .sl g (Enc.part 2 (st.length + 1) S) = some (.int .i64 ((st.length + 1 : Nat) : Int)) := fun g => rfl
            have nz : ¬ ((st.length + 1 : Nat) : Int) = 0 := by omega
            have k0 : ¬ kd < 0 := by omega
            have k6 : ¬ 6 < kd := by omega
            have M0 : ¬ M < 0 := by omega
            have MM : ¬ M < M := by omega
            have hwi : IntKind.i64.wrap ((i : Int) + 1) = ((i + 1 : Nat) : Int) := (wrap64 (by omega) (by omega)).trans (by omega)
            have ih2 := fun vs => ih (i + 1, w10, w11, trim h.length vs h3) (by show t.length - (i + 1) < t.length - i; omega) ⟨by show i + 1 ≤ t.length; omega, st.reverse ++ [c0 - 1] ++ [kd], P2'.trim vs (gl b2), nb, by rw [nl]; show _ ≤ i + 1 + 1; omega, nr, Nat.le_trans g6 (trim_len (by omega)), .inr (by
              have e : List.replicate (st.reverse ++ [c0 - 1] ++ [kd]).length M = List.replicate st.length M ++ [M] ++ [M] := by rw [nl, List.replicate_succ', List.replicate_succ']
              rw [e]; exact P3.trim vs (gl d2))⟩
            simp -implicitDefEqProofs [k4_12, -Int.natCast_add] at ih2
            simp -implicitDefEqProofs [r4_12, k4_12, k4_14, lp1, lp2, nz, wn, xi, k0, k6, M0, MM, ixs, lds, ixq, ldq, wc, st1, lk, lM, ap2, ap3, hwi, -append_slice, -Int.natCast_add]
            exact ih2 _
          · simp -implicitDefEqProofs [k4_14]
          · rfl
          · intro nx n hn ihn
            obtain ⟨n1, n2⟩ := hn
            have lpn1 : ∀ g, lenT .sl g (Enc.part 1 n R) = some (.int .i64 (n : Int)) := fun g => rfl
            have lpn2 : ∀ g, lenT .sl g (Enc.part 2 n S) = some (.int .i64 (n : Int)) := fun g => rfl
            have wnn : IntKind.i64.wrap ((n : Int) - 1) = ((n - 1 : Nat) : Int) := (wrap64 (by omega) (by omega)).trans (by omega)
            have np : (0 : Int) < n := by omega
            have np' : 0 < n := by omega
            by_cases hd : n = st.length + 1
            · subst hd
              obtain ⟨q2, i2, l2⟩ := part_get (n := st.length + 1) b2 (Nat.lt_succ_self _) hRc
              have e3 : st.length + 1 - 1 = st.length := rfl
              rw [e3] at wnn
              simp -implicitDefEqProofs [r4_14, k4_14, lpn1, np, np', wnn, i2, l2, s2, trim_le, -Int.natCast_add]
            · obtain ⟨q2, i2, l2⟩ := part_get (n := n) (i := n - 1) b2 (by omega) (hR0 (n - 1) (by omega) (by omega))
              have tk1 := Enc.part_take (O := intE) (n := n) (m := n - 1) (g := some false) (e := 3) (k := .i64) b2 (by omega)
              have tk2 := Enc.part_take (O := intE) (n := n) (m := n - 1) (g := some false) (e := 3) (k := .i64) d2 (by omega)
              have ihn := ihn (n - 1) (by omega) ⟨by omega, by omega⟩
              simp -implicitDefEqProofs [k4_14] at ihn
              simp -implicitDefEqProofs [r4_14, k4_14, lpn1, lpn2, np, np', wnn, i2, l2, tk1, tk2, trim_le]
              exact ihn
    · intro v10 h' hK
      obtain ⟨l, p1, p2, p3⟩ := hK
      have ln := p1.lenH
      simp -implicitDefEqProofs [k4_12]
      rw [LL_for (γ := Unit) l () (fun i _ => [(13, .int .i64 (i : Int))]) (fun _ _ => h') (fun _ _ _ => (.exit 4, [(13, undef)], h')) (fun _ _ => True) (by omega) trivial]
      · simp -implicitDefEqProofs [k4_23]
      · simp -implicitDefEqProofs [k4_23]
      · rfl
      · intro nx i _ hi _
        simp -implicitDefEqProofs [r4_23, k4_23, ln, hi, trim_le]
      · intro nx i w rest _ hi hw hd hwr _ ih
        have hi' : (i : Int) < (l.length : Int) := by omega
        have ih := ih () trivial
        have hw0 : w = 0 := p3 w (by rw [← hw]; exact List.getElem_mem hi)
        obtain ⟨R, rfl, b2, b3, b4, b5⟩ := p1
        have hRi : R[i]? = some 0 := by
          have : (R.take l.length)[i]? = some 0 := by rw [b3, List.getElem?_eq_getElem hi, hw, hw0]
          rw [List.getElem?_take_of_lt hi] at this
          exact this
        obtain ⟨q, ixq, ldq⟩ := part_get b2 hi hRi
        simp -implicitDefEqProofs [k4_23] at ih
        simp -implicitDefEqProofs [r4_23, k4_23, ln, hi', ixq, ldq, hwr, trim_le]
        exact ih
end Go.Proofs.Ytcnafncmfiogcaa.Bm
