/-
  Chapter 25: the statement on the best choice. Conditions: what the types say of the arguments.
-/
import Derived.Test.YtcnafncmfiogcaaQB23
namespace Go.Proofs.Ytcnafncmfiogcaa.Bm
open Go Go.RowKit
open Cp (Q Br Acc Nd bump prQ mayQ validQ reach enter visR loopR next take us root run fitS fitR inA)
structure Sq (q : Q) (A : List Int) (s : Nd) : Prop where
  run : run (prQ q) (root (prQ q) A) s.c = some s
  us : ∀ u ∈ s.c, 0 ≤ u ∧ u ≤ 5
theorem Sq.told {q : Q} {A : List Int} {s : Nd} (h : Sq q A s) : s.rem = A.drop s.c.length ∧ s.v = valF A s.c.length ∧ s.rem.length + s.c.length = A.length := by
  obtain ⟨h1, h2, h3⟩ := Cp.run_rem h.run
  have e : (root (prQ q) A).rem = A := rfl
  have e2 : (root (prQ q) A).v = 0 := rfl
  rw [e] at h1 h2 h3
  rw [e2, Int.zero_add] at h2
  refine ⟨?_, h2, h3⟩
  have := congrArg (List.drop s.c.length) h1
  rw [List.drop_append_of_le_length (by rw [List.length_take]; omega), List.drop_take, Nat.sub_self, List.take_zero, List.nil_append] at this
  exact this.symm
theorem Sq.next {q : Q} {A : List Int} {s t : Nd} {u : Int} (h : Sq q A s) (hn : next (prQ q) s u = some t) : Sq q A t ∧ t.c = s.c ++ [u] ∧ t.rem.length + 1 = s.rem.length := by
  have h1 := Cp.run_append (prQ q) s.c [u] (root (prQ q) A)
  rw [h.run] at h1
  have h1 : Cp.run (prQ q) (root (prQ q) A) (s.c ++ [u]) = Cp.run (prQ q) s [u] := h1
  rw [Cp.run_cons, hn] at h1
  obtain ⟨a, r, hr, ht, hm, _⟩ := Cp.next_some hn
  have ec : t.c = s.c ++ [u] := by rw [ht]; rfl
  refine ⟨⟨by rw [ec]; exact h1, fun w hw => ?_⟩, ec, Cp.next_rem hn⟩
  rw [ec] at hw
  rcases List.mem_append.1 hw with k | k
  · exact h.us w k
  · rw [List.mem_singleton.1 k]
    have hm : mayQ q s.c.getLast? u = true := hm
    have := Cp.may_ge hm
    omega
theorem Sq.fit {q : Q} {A : List Int} {s : Nd} (h : Sq q A s) (hv : validQ q = true) (hA : A.length ≤ 12) (hi : inA A = true) (u : Int) : fitR q A (s.c ++ [u]) = (Cp.next (prQ q) s u).isSome := by
  rw [Cp.fit_eq]
  unfold fitS Cp.fits
  rw [Cp.run_append, h.run, hv, hi, decide_eq_true hA]
  obtain ⟨_, _, h3⟩ := h.told
  show (true && (true && (decide ((s.c ++ [u]).length ≤ A.length) && (true && (Cp.run (prQ q) s [u]).isSome)))) = _
  rw [Cp.run_cons, Bool.true_and, Bool.true_and, Bool.true_and, List.length_append]
  cases hn : Cp.next (prQ q) s u with
  | none => simp
  | some t =>
    have := Cp.next_rem hn
    rw [decide_eq_true (show s.c.length + [u].length ≤ A.length by simp only [List.length_cons, List.length_nil]; omega)]; rfl
end Go.Proofs.Ytcnafncmfiogcaa.Bm
namespace Go.Proofs.Ytcnafncmfiogcaa.Bm
open Go Go.RowKit
open Cp (Q Br Acc Nd bump prQ mayQ validQ reach enter visR loopR next take us root run fitS fitR inA)
end Go.Proofs.Ytcnafncmfiogcaa.Bm
namespace Go.Proofs.Ytcnafncmfiogcaa.Bm
open Go Go.RowKit
open Rg (Rect areaL)
open Cp (Q Br Acc Nd prQ validQ visR root ended best inA)
theorem BvOk.reify {h : Heap} {bv : Value} {l : List Int} (x : BvOk h bv l) : ∃ k, Enc.Ok k l ∧ reify E.P 8 h bv = some (intE.o k l) := by
  rcases x with ⟨k, hk, rfl⟩ | ⟨b, _, rfl, hb⟩
  · exact ⟨k, hk, Enc.o_reify⟩
  · exact ⟨some false, Enc.ok_some, Enc.reify_sl hb sI1 gI1⟩
end Go.Proofs.Ytcnafncmfiogcaa.Bm
namespace Go.Proofs.Ytcnafncmfiogcaa.Bm
open Go Go.RowKit
open Cp (Q prQ validQ fitR inA us mayQ)
def dif : List Int → List Int → Option Bool
  | a :: l, b :: m => if a = b then dif l m else some (decide (a < b))
  | _, _ => none
theorem before_dif : ∀ (l m : List Int), Cp.before l m = (dif l m).getD (decide (l.length < m.length))
  | [], [] => rfl
  | [], _ :: _ => rfl
  | _ :: _, [] => rfl
  | a :: l, b :: m => by
    unfold Cp.before dif
    by_cases h : a = b
    · rw [if_pos h, if_pos h, before_dif l m]; simp
    · rw [if_neg h, if_neg h]; rfl
theorem before_spec (ka kb : Option Bool) (a b : List Int) (hka : Enc.Ok ka a) (hkb : Enc.Ok kb b) (ha : a.length ≤ 1000) (_hb : b.length ≤ 1000) : pureCall E.P (L E) 47 [intE.o ka a, intE.o kb b] = some (.bool (Cp.before a b)) := by
  have la := fun h => Enc.o_len (O := intE) (h := h) hka
  have lb := fun h => Enc.o_len (O := intE) (h := h) hkb
  have ia : ∀ (i : Nat) (hi : i < a.length), indexAddrT (.sl 3 ⟨some false, some 1⟩) (intE.o ka a) (.int .i64 (i : Int)) = some (cptr (.int .i64 a[i])) := fun i hi => Enc.index_o (O := intE) hka hi
  have ib : ∀ (i : Nat) (hi : i < b.length), indexAddrT (.sl 3 ⟨some false, some 1⟩) (intE.o kb b) (.int .i64 (i : Int)) = some (cptr (.int .i64 b[i])) := fun i hi => Enc.index_o (O := intE) hkb hi
  generalize intE.o ka a = VA at *
  generalize intE.o kb b = VB at *
  rw [pureCall_fn F47 rfl, before_dif]
  simp -implicitDefEqProofs [r47, p47]
  rw [LL_rec (α := Nat) 0 (fun i => [(5, .int .i64 (i : Int))]) (fun _ => []) (fun i => match dif (a.drop i) (b.drop i) with | none => (.exit 0, [(5, undef)], []) | some v => (.ret, [(4, .bool v), (5, undef)], [])) (fun i => i ≤ a.length) (fun i => a.length - i) (Nat.zero_le _)]
  · rw [List.drop_zero, List.drop_zero]
    cases dif a b
    · simp -implicitDefEqProofs [k47_2, la, lb]
    · simp -implicitDefEqProofs [k47_2]
  · simp -implicitDefEqProofs [k47_2]
  · rfl
  · intro nx i hi ih
    by_cases q1 : i < a.length
    case neg =>
      have q1' : ¬ (i : Int) < a.length := by omega
      have e : dif (a.drop i) (b.drop i) = none := by rw [List.drop_of_length_le (by omega)]; rfl
      rw [e]
      simp -implicitDefEqProofs [r47_2, k47_2, la, q1', trim_le]
    have q1' : (i : Int) < a.length := by omega
    by_cases q2 : i < b.length
    case neg =>
      have q2' : ¬ (i : Int) < b.length := by omega
      have e : dif (a.drop i) (b.drop i) = none := by rw [List.drop_eq_getElem_cons q1, List.drop_of_length_le (show b.length ≤ i by omega)]; rfl
      rw [e]
      simp -implicitDefEqProofs [r47_2, k47_2, la, lb, q1', q2', trim_le]
    have q2' : (i : Int) < b.length := by omega
    have e : dif (a.drop i) (b.drop i) = if a[i] = b[i] then dif (a.drop (i + 1)) (b.drop (i + 1)) else some (decide (a[i] < b[i])) := by rw [List.drop_eq_getElem_cons q1, List.drop_eq_getElem_cons q2]; rfl
    have xa := ia i q1
    have xb := ib i q2
    rw [e]
    have ih := ih (i + 1) (by omega) (by omega)
    have hw : IntKind.i64.wrap ((i : Int) + 1) = ((i + 1 : Nat) : Int) := (wrap64 (by omega) (by omega)).trans (by omega)
    simp -implicitDefEqProofs [k47_2, -Int.natCast_add] at ih
    generalize a[i] = x at *
    generalize b[i] = y at *
    by_cases q3 : x = y
    · rw [if_pos q3]
      simp -implicitDefEqProofs [r47_2, k47_2, la, lb, q1', q2', xa, xb, q3, hw, trim_le, -Int.natCast_add]
      exact ih
    · rw [if_neg q3]
      simp -implicitDefEqProofs [r47_2, k47_2, la, lb, q1', q2', xa, xb, q3, trim_le]
def betF (q : Q) (A best : List Int) : Nat → List Int → Bool
  | 0, _ => false
  | n + 1, from_ => fitR q A from_ && (decide (valF A best.length < valF A from_.length) || decide (valF A from_.length = valF A best.length) && Cp.before from_ best || us.any fun u => betF q A best n (from_ ++ [u]))
theorem fitR_len {q : Q} {A c : List Int} (h : fitR q A c = true) : c.length ≤ A.length ∧ A.length ≤ 12 ∧ inA A = true := by
  unfold fitR at h
  simp only [Bool.and_eq_true, decide_eq_true_eq] at h
  exact ⟨h.2.2.1, h.2.1, h.2.2.2.1⟩
theorem next_rowS (st : Bool) (h : Heap) (kc : Option Bool) (c : List Int) (hkc : Enc.Ok kc c) (hc : c.length ≤ 1000) (u : Int) : ∃ x h1, appendT (some elInt) h 0 st (lst true []) (intE.o kc c) = some (x, h1) ∧ appendT (some elInt) h1 0 false x (lst true (intE.vals [u])) = some (Enc.sl h.length (c ++ [u]), h ++ [intE.row 3 (c ++ [u])]) := by
  by_cases hz : c = []
  · subst hz
    refine ⟨_, _, Enc.app_none (O := intE) (el := elInt) (h := h) (lo := 0) (st := st) (u := intE.o kc []) rfl (Enc.cells_o hkc), ?_⟩
    exact Enc.app_tree (O := intE) (l := []) (m := [u]) (el := elInt) (h := h) (lo := 0) (st := false) (u := lst true (intE.vals [u])) rfl Enc.cells_tree (by simp) (by show (0 + 1) * 8 ≤ 2 ^ 47; decide)
  · have ap := Enc.app_tree (O := intE) (l := []) (m := c) (el := elInt) (h := h) (lo := 0) (st := st) (u := intE.o kc c) rfl (Enc.cells_o hkc) hz (by show (0 + c.length) * 8 ≤ 2 ^ 47; omega)
    rw [List.nil_append] at ap
    refine ⟨_, _, ap, ?_⟩
    have a2 := Enc.app (O := intE) (m := [u]) (el := elInt) (h := h ++ [intE.row 3 c]) (lo := 0) (b := h.length) (t := 3) (l := c) (u := lst true (intE.vals [u])) rfl app_get0 Enc.cells_tree (Nat.zero_le _) (by show (c.length + 1) * 8 ≤ 2 ^ 47; omega)
    rw [app_set0] at a2
    exact a2
set_option maxHeartbeats 1000000 in
theorem better_spec (p : Pb) (hp : PbOk p) (ka kb : Option Bool) (A best : List Int) (hka : Enc.Ok ka A) (hkb : Enc.Ok kb best) (hA : A.length ≤ 1000) (hb : best.length ≤ A.length) :
    ∀ (n : Nat) (c : List Int) (kc : Option Bool), Enc.Ok kc c → A.length < n + c.length → c.length ≤ 1000 → (∀ u ∈ c, -9223372036854775808 ≤ u ∧ u ≤ 9223372036854775807) →
    pureCall E.P (L E) 19 [intE.o ka A, p.val, intE.o kc c, intE.o kb best] = some (.bool (betF p.q A best n c)) := by
  have lA := fun h => Enc.o_len (O := intE) (h := h) hka
  have rA : ∀ h, reify E.P 8 h (intE.o ka A) = some (intE.o ka A) := fun h => Enc.o_reify
  have rb : ∀ h, reify E.P 8 h (intE.o kb best) = some (intE.o kb best) := fun h => Enc.o_reify
  have rcp : ∀ h, reifyC E.P 7 h p.cells = some p.cells := fun h => reifyC_set (pb_all p)
  have pe : p.val = .agg ⟨p.cells⟩ := rfl
  have s4 : szOf E.P 26 = some 4 := by kernel_rfl
  have a4 : aggT E.P 26 = some true := by kernel_rfl
  have pfz : freezeV E.P depth 0 [AObj.cells 26 p.cells 0] (.pointer (some ⟨0, 0, none⟩)) = some (cptr (.agg ⟨p.cells⟩), [AObj.dead]) := obj_frz (b := 0) rfl s4 a4 (Nat.zero_le _) (pb_all p)
  have lcp : ∀ h, loadT ⟨some true, some 4⟩ h (cptr (.agg ⟨p.cells⟩)) = some (.agg ⟨p.cells⟩) := fun _ => rfl
  have key : ∀ (n : Nat) (c : List Int) (kc : Option Bool) (hkc : Enc.Ok kc c) (hc : c.length ≤ 1000) (hcb : ∀ u ∈ c, -9223372036854775808 ≤ u ∧ u ≤ 9223372036854775807) (R : Bool),
      (fitR p.q A c = false → R = false) → (fitR p.q A c = true → R = (decide (valF A best.length < valF A c.length) || decide (valF A c.length = valF A best.length) && Cp.before c best || us.any fun u => betF p.q A best n (c ++ [u]))) →
      (fitR p.q A c = true → ∀ u : Int, 0 ≤ u → u < 6 → pureCall E.P (L E) 19 [intE.o ka A, p.val, intE.o (some false) (c ++ [u]), intE.o kb best] = some (.bool (betF p.q A best n (c ++ [u])))) →
      pureCall E.P (L E) 19 [intE.o ka A, p.val, intE.o kc c, intE.o kb best] = some (.bool R) := by
    intro n c kc hkc hc hcb R hR0 hR1 hrec
    have fits := rfits_spec p hp ka kc A c hka hkc hA hc hcb
    have rc : ∀ h, reify E.P 8 h (intE.o kc c) = some (intE.o kc c) := fun h => Enc.o_reify
    have bfs := before_spec kc kb c best hkc hkb hc (by omega)
    rw [pureCall_fn F19 rfl, pe]
    have fits : pureCall E.P (L E) 17 [intE.o ka A, .agg ⟨p.cells⟩, intE.o kc c] = _ := fits
    cases hf : fitR p.q A c
    · rw [hf] at fits
      rw [hR0 hf]
      simp -implicitDefEqProofs [r19, p19, prep_frz, pfz, lcp, ret0 m17, rA, rc, rcp, fits]
    · rw [hf] at fits
      obtain ⟨hcA, hA12, hin⟩ := fitR_len hf
      have hAok : AOk A := ⟨by omega, fun a ha => by have := Cp.inA_iff.1 hin a ha; omega⟩
      have v1 := value_spec ka kc A c hka hkc hAok hcA
      have v2 := value_spec ka kb A best hka hkb hAok hb
      have hrec := hrec hf
      rw [hR1 hf]
      generalize valF A c.length = V1 at *
      generalize valF A best.length = V2 at *
      generalize Cp.before c best = BB at *
      simp -implicitDefEqProofs [r19, p19, prep_frz, pfz, lcp, ret0 m17, rA, rc, rb, rcp, fits, ret0 m18, v1, v2]
      have hloop : ∀ (y9 y10 y12 y13 y14 y15 y16 y17 y18 y19 y20 y21 y22 y23 y24 y25 y26 y27 y28 y29 y30 y31 y32 y33 y34 y35 : Value), ∃ h', LL k19_8 (evR E (L E) LL 0 r19_8) (blk (intE.o ka A) (.agg ⟨p.cells⟩) (intE.o kc c) (intE.o kb best) undef (cptr (.agg ⟨p.cells⟩)) undef undef (.bool false) y9 y10 (.int .i64 0) y12 y13 y14 y15 (blk y16 y17 y18 y19 y20 y21 y22 y23 y24 y25 y26 y27 y28 y29 y30 y31 (blk y32 y33 y34 y35 undef undef undef undef undef undef undef undef undef undef undef undef [undef, undef]))) [AObj.dead] =
          fin (forget k19_8.1 (blk (intE.o ka A) (.agg ⟨p.cells⟩) (intE.o kc c) (intE.o kb best) undef (cptr (.agg ⟨p.cells⟩)) undef undef (.bool false) y9 y10 (.int .i64 0) y12 y13 y14 y15 (blk y16 y17 y18 y19 y20 y21 y22 y23 y24 y25 y26 y27 y28 y29 y30 y31 (blk y32 y33 y34 y35 undef undef undef undef undef undef undef undef undef undef undef undef [undef, undef])))) ((if (us.any fun u => betF p.q A best n (c ++ [u])) = true then (Exit.ret, [(8, Value.bool true), (11, undef)]) else (Exit.exit 0, [(11, undef)])).1, (if (us.any fun u => betF p.q A best n (c ++ [u])) = true then (Exit.ret, [(8, Value.bool true), (11, undef)]) else (Exit.exit 0, [(11, undef)])).2, h') := by
        intro y9 y10 y12 y13 y14 y15 y16 y17 y18 y19 y20 y21 y22 y23 y24 y25 y26 y27 y28 y29 y30 y31 y32 y33 y34 y35
        refine LL_hx (α := Nat × Heap) (0, [AObj.dead]) (fun a => [(11, .int .i64 (a.1 : Int))]) (fun a => a.2) (if (us.any fun u => betF p.q A best n (c ++ [u])) = true then (Exit.ret, [(8, Value.bool true), (11, undef)]) else (Exit.exit 0, [(11, undef)])) (fun a => a.1 ≤ 6 ∧ ((us.drop a.1).any fun u => betF p.q A best n (c ++ [u])) = us.any fun u => betF p.q A best n (c ++ [u])) (fun a => 6 - a.1) ⟨Nat.zero_le _, rfl⟩ ?_ rfl ?_
        · simp -implicitDefEqProofs [k19_8]
        · intro nx a ha ih
          obtain ⟨u, hh⟩ := a
          obtain ⟨g1, g2⟩ := ha
          simp only at g1 g2 ih ⊢
          generalize (us.any fun u => betF p.q A best n (c ++ [u])) = B at *
          by_cases hu6 : u < 6
          case neg =>
            have e6 : u = 6 := by omega
            subst e6
            have g2 : false = B := g2
            subst g2
            refine ⟨hh, ?_⟩
            simp -implicitDefEqProofs [r19_8, k19_8, trim_le]
          have hu6' : (u : Int) < 6 := by omega
          have hwu : IntKind.i64.wrap ((u : Int) + 1) = ((u + 1 : Nat) : Int) := (wrap64 (by omega) (by omega)).trans (by omega)
          obtain ⟨x, h1', ap1, ap2⟩ := next_rowS true hh kc c hkc hc (u : Int)
          have lin : ∀ h : Heap, buildSliceT (some ⟨3, 1, 8, .int .i64 0, ⟨some false, some 1⟩⟩) false h 1 #[(0, .int .i64 (u : Int))] = some (lst true (intE.vals [(u : Int)]), h) := fun h => lit_int h u
          have rr : reify E.P 8 (hh ++ [intE.row 3 (c ++ [(u : Int)])]) (Enc.sl hh.length (c ++ [(u : Int)])) = some (intE.o (some false) (c ++ [(u : Int)])) := Enc.reify_sl app_get0 sI1 gI1
          have rec1 := hrec (u : Int) (by omega) (by omega)
          rw [pe] at rec1
          rw [Cp.us_drop hu6, List.any_cons] at g2
          cases hb1 : betF p.q A best n (c ++ [(u : Int)])
          · rw [hb1] at rec1 g2
            have ih := fun vs => ih (u + 1, trim hh.length vs (hh ++ [intE.row 3 (c ++ [(u : Int)])])) (by show 6 - (u + 1) < 6 - u; omega) ⟨by show u + 1 ≤ 6; omega, g2⟩
            simp -implicitDefEqProofs [k19_8, -Int.natCast_add] at ih
            simp -implicitDefEqProofs [r19_8, k19_8, hu6', prep_still, rop_loadC, isCp_cptr, lcp, lin, lit_none, ap1, ap2, ret0 m19, rA, rcp, rb, rr, rec1, hwu, -append_lst, -append_slice, -Int.natCast_add]
            exact ih _
          · rw [hb1] at rec1 g2
            have g2 : true = B := g2
            subst g2
            simp -implicitDefEqProofs [r19_8, k19_8, hu6', prep_still, rop_loadC, isCp_cptr, lcp, lin, lit_none, ap1, ap2, ret0 m19, rA, rcp, rb, rr, rec1, -append_lst, -append_slice, -Int.natCast_add]
      by_cases k1 : V2 < V1
      · simp -implicitDefEqProofs [k1]
      by_cases k2 : V1 = V2
      · subst k2
        cases BB
        · simp -implicitDefEqProofs [ret0 m47, rb, rc, bfs]
          refine hx_goal (g := fun y => Option.bind (retK [RRes.tmp 8] (seqC E (L E) LL 0 (blkK 0 y) _)) _) (hloop _ _ _ _ _ _ _ _ _ _ _ _ _ _ _ _ _ _ _ _ _ _ _ _ _ _) ?_
          intro h'
          cases (us.any fun u => betF p.q A best n (c ++ [u])) <;> simp -implicitDefEqProofs [k19_8]
        · simp -implicitDefEqProofs [ret0 m47, rb, rc, bfs]
      · simp -implicitDefEqProofs [k1, k2]
        refine hx_goal (g := fun y => Option.bind (retK [RRes.tmp 8] (seqC E (L E) LL 0 (blkK 0 y) _)) _) (hloop _ _ _ _ _ _ _ _ _ _ _ _ _ _ _ _ _ _ _ _ _ _ _ _ _ _) ?_
        intro h'
        cases (us.any fun u => betF p.q A best n (c ++ [u])) <;> simp -implicitDefEqProofs [k19_8]
  intro n
  induction n with
  | zero =>
    intro c kc hkc hn hc hcb
    have no : fitR p.q A c = true → False := fun h => by have := (fitR_len h).1; omega
    exact key 0 c kc hkc hc hcb false (fun _ => rfl) (fun h => (no h).elim) (fun h => (no h).elim)
  | succ n ih =>
    intro c kc hkc hn hc hcb
    refine key n c kc hkc hc hcb _ (fun h => ?_) (fun h => ?_) (fun h u h0 h6 => ?_)
    · unfold betF; rw [h]; rfl
    · rw [betF.eq_2, h, Bool.true_and]
    · have hl := fitR_len h
      refine ih (c ++ [u]) (some false) Enc.ok_some (by rw [List.length_append]; show A.length < n + (c.length + 1); omega) (by rw [List.length_append]; show c.length + 1 ≤ 1000; omega) fun w hw => ?_
      rcases List.mem_append.1 hw with k | k
      · exact hcb w k
      · rw [List.mem_singleton.1 k]; omega
theorem betF_no {q : Q} (hv : validQ q = true) {A : List Int} (h12 : A.length ≤ 12) (hin : inA A = true) {v : Int} {best : List Int} {t : List Cp.Br} (hb : Cp.best (prQ q) A = some (v, best, t)) : valF A best.length = v ∧ fitR q A best = true ∧ ∀ (n : Nat) (c : List Int), betF q A best n c = false := by
  have hA := Cp.inA_iff.1 hin
  have hm : 0 ≤ q.most := (Cp.validQ_iff.1 hv).2.2.1
  obtain ⟨⟨s, h1, h2⟩, h3, h4⟩ := Cp.best_told (P := prQ q) (fun l u h => by
    have h : mayQ q l u = true := h
    have := Cp.may_ge h
    have : u = 0 ∨ u = 1 ∨ u = 2 ∨ u = 3 ∨ u = 4 ∨ u = 5 := by omega
    rcases this with h | h | h | h | h | h <;> rw [h] <;> decide) (fun a ha => by have := hA a ha; omega) hm hb
  have vl : ∀ c s, Cp.run (prQ q) (Cp.root (prQ q) A) c = some s → s.v = valF A c.length ∧ c.length ≤ A.length := fun c s h => by
    obtain ⟨_, k2, k3⟩ := Cp.run_rem h
    have e : (Cp.root (prQ q) A).rem = A := rfl
    have e2 : (Cp.root (prQ q) A).v = 0 := rfl
    rw [e2, Int.zero_add, e] at k2
    rw [e] at k3
    exact ⟨k2, by omega⟩
  have fit : ∀ c, fitR q A c = (decide (c.length ≤ A.length) && (Cp.run (prQ q) (Cp.root (prQ q) A) c).isSome) := fun c => by
    rw [Cp.fit_eq]
    unfold Cp.fitS Cp.fits
    rw [hv, hin, decide_eq_true h12]
    simp only [Bool.true_and]
  have e0 : valF A best.length = v := by rw [← (vl best s h1).1]; exact h2
  refine ⟨e0, by rw [fit, h1, decide_eq_true (vl best s h1).2]; rfl, fun n => ?_⟩
  induction n with
  | zero => intro c; rfl
  | succ n ih =>
    intro c
    rw [betF.eq_2]
    cases hr : Cp.run (prQ q) (Cp.root (prQ q) A) c with
    | none => rw [fit, hr]; simp
    | some x =>
      have k1 := h3 c x hr
      have k2 := (vl c x hr).1
      have k3 : us.any (fun u => betF q A best n (c ++ [u])) = false := by
        rw [List.any_eq_false]; intro u _; rw [ih]; decide
      rw [k3, e0, ← k2, decide_eq_false (by omega), Bool.or_false, Bool.false_or]
      by_cases k4 : x.v = v
      · rw [h4 c x hr k4, Bool.and_false, Bool.and_false]
      · rw [decide_eq_false k4, Bool.false_and, Bool.and_false]
end Go.Proofs.Ytcnafncmfiogcaa.Bm
namespace Go.Proofs.Ytcnafncmfiogcaa.Bm
open Go Go.RowKit
open Rg (Rect)
open Cp (Q Br prQ validQ best)
def rm (n : Int) : Option Bool × List Rect := (some true, [⟨0, 0, n, 1⟩])
def three : Rooms := [rm 10, rm 8, rm 5]
def V3 : Value := lst true [lst true [.agg ⟨[.int .i64 0, .int .i64 0, .int .i64 10, .int .i64 1]⟩], lst true [.agg ⟨[.int .i64 0, .int .i64 0, .int .i64 8, .int .i64 1]⟩], lst true [.agg ⟨[.int .i64 0, .int .i64 0, .int .i64 5, .int .i64 1]⟩]]
theorem three_ok : RoomsOk three := ⟨fun r hr => by
    simp only [three, rm, List.mem_cons, List.not_mem_nil, or_false] at hr
    rcases hr with rfl | rfl | rfl <;> exact Rec.ok_some, fun r hr => by
    simp only [three, rm, List.mem_cons, List.not_mem_nil, or_false] at hr
    rcases hr with rfl | rfl | rfl <;> decide, by decide⟩
theorem three_areas : areasF (lists three) = some [10, 8, 5] := by kernel_rfl
set_option maxRecDepth 100000 in
theorem three_spec : pureCall E.P (L E) 36 [] = some V3 := pureCall_le (evF_L 20) (by kernel_rfl)
set_option maxRecDepth 100000 in
theorem row4_spec : pureCall E.P (L E) 37 [.int .i64 4] = some (lst true [.agg ⟨[.int .i64 0, .int .i64 0, .int .i64 4, .int .i64 1]⟩]) := pureCall_le (evF_L 20) (by kernel_rfl)
def p25a : Pb := ⟨3, none, [], 100, none, []⟩
def p25b : Pb := ⟨3, some true, [(⟨⟨[104, 111, 109, 101]⟩⟩, 12)], 100, some true, [(0, 1)]⟩
def p25c : Pb := ⟨1, none, [], 20, none, []⟩
def p25d : Pb := ⟨3, some true, [(⟨⟨[104, 111, 109, 101]⟩⟩, 9), (⟨⟨[115, 104, 111, 112]⟩⟩, 14)], 100, none, []⟩
theorem p25a_ok : PbOk p25a := ⟨fun _ => rfl, fun _ => rfl, by decide, by decide, by decide, by decide⟩
theorem p25b_ok : PbOk p25b := ⟨Rec.ok_some, Rec.ok_some, by decide, by decide, by decide, by decide⟩
theorem p25c_ok : PbOk p25c := ⟨fun _ => rfl, fun _ => rfl, by decide, by decide, by decide, by decide⟩
theorem p25d_ok : PbOk p25d := ⟨Rec.ok_some, fun _ => rfl, by decide, by decide, by decide, by decide⟩
theorem bs25a : best (prQ p25a.q) [10, 8, 5] = some (23, [0, 0, 0], [⟨2, 23⟩, ⟨2, 23⟩, ⟨2, 23⟩, ⟨0, 23⟩, ⟨0, 23⟩, ⟨0, 23⟩, ⟨0, 23⟩]) := by kernel_rfl
theorem bs25b : best (prQ p25b.q) [10, 8, 5] = some (23, [1, 1, 0], [⟨2, 23⟩, ⟨0, 23⟩, ⟨2, 23⟩, ⟨0, 23⟩, ⟨2, 23⟩, ⟨0, 23⟩, ⟨0, 23⟩]) := by kernel_rfl
theorem bs25c : best (prQ p25c.q) [10, 8, 5] = some (18, [0, 0], [⟨1, 20⟩, ⟨1, 20⟩, ⟨0, 20⟩]) := by kernel_rfl
theorem bs25d : best (prQ p25d.q) [10, 8, 5] = some (18, [1, 0], [⟨1, 23⟩, ⟨1, 23⟩, ⟨0, 23⟩]) := by kernel_rfl
theorem best3 (p : Pb) (hp : PbOk p) (hv : validQ p.q = true) {v : Int} {c : List Int} {t : List Br} (hb : best (prQ p.q) [10, 8, 5] = some (v, c, t)) : ∃ k, Enc.Ok k c ∧ pureCall E.P (L E) 15 [V3, .agg ⟨p.cells⟩] = some (.tuple ⟨[intE.o k c, .int .i64 v, lst false (brR.vals t), .int .i64 0]⟩) := by
  obtain ⟨k, h1, h2⟩ := best_ok true three three_ok p hp [10, 8, 5] three_areas hv
  rw [hb] at h2
  exact ⟨k, h1 _ hb, h2⟩
theorem pb_b2 (a b : Int) : buildT (.fs ⟨[.int .i64 0, .slice none 0 0, .int .i64 0, .slice none 0 0]⟩ ⟨[(0, 1), (1, 1), (2, 1), (3, 1)]⟩) #[(0, .int .i64 a), (2, .int .i64 b)] = some (.agg ⟨[.int .i64 a, .slice none 0 0, .int .i64 b, .slice none 0 0]⟩) := rfl
theorem pb_b3 (a b : Int) (l : List Value) : buildT (.fs ⟨[.int .i64 0, .slice none 0 0, .int .i64 0, .slice none 0 0]⟩ ⟨[(0, 1), (1, 1), (2, 1), (3, 1)]⟩) #[(0, .int .i64 a), (2, .int .i64 b), (1, lst true l)] = some (.agg ⟨[.int .i64 a, lst true l, .int .i64 b, .slice none 0 0]⟩) := rfl
theorem pb_b4 (a b : Int) (l m : List Value) : buildT (.fs ⟨[.int .i64 0, .slice none 0 0, .int .i64 0, .slice none 0 0]⟩ ⟨[(0, 1), (1, 1), (2, 1), (3, 1)]⟩) #[(0, .int .i64 a), (2, .int .i64 b), (1, lst true l), (3, lst true m)] = some (.agg ⟨[.int .i64 a, lst true l, .int .i64 b, lst true m]⟩) := rfl
theorem en_b (a : ByteArray) (b : Int) : buildT (.fs ⟨[.string ⟨⟨[]⟩⟩, .int .i64 0]⟩ ⟨[(0, 1), (1, 1)]⟩) #[(0, .string a), (1, .int .i64 b)] = some (.agg ⟨[.string a, .int .i64 b]⟩) := rfl
theorem sg2 (a b : Int) : settled depth (.agg ⟨[.int .i64 a, .slice none 0 0, .int .i64 b, .slice none 0 0]⟩) = true := rfl
theorem sg3 (a b : Int) (l : List Value) : settled depth (.agg ⟨[.int .i64 a, lst true l, .int .i64 b, .slice none 0 0]⟩) = true := rfl
theorem sg4 (a b : Int) (l m : List Value) : settled depth (.agg ⟨[.int .i64 a, lst true l, .int .i64 b, lst true m]⟩) = true := rfl
theorem lit_e1 (h : Heap) (s : ByteArray) (z : Int) : buildSliceT (some ⟨60, 2, 24, .agg ⟨[.string ⟨⟨[]⟩⟩, .int .i64 0]⟩, ⟨some true, some 2⟩⟩) false h 1 #[(0, .agg ⟨[.string s, .int .i64 z]⟩)] = some (lst true [.agg ⟨[.string s, .int .i64 z]⟩], h) :=
  (build_lit' (n := 1) (l := [(0, .agg ⟨[.string s, .int .i64 z]⟩)]) rfl rfl (by decide) (by decide) (by decide)).trans rfl
theorem lit_e2 (h : Heap) (s t : ByteArray) (z w : Int) : buildSliceT (some ⟨60, 2, 24, .agg ⟨[.string ⟨⟨[]⟩⟩, .int .i64 0]⟩, ⟨some true, some 2⟩⟩) false h 2 #[(0, .agg ⟨[.string s, .int .i64 z]⟩), (1, .agg ⟨[.string t, .int .i64 w]⟩)] = some (lst true [.agg ⟨[.string s, .int .i64 z]⟩, .agg ⟨[.string t, .int .i64 w]⟩], h) :=
  (build_lit' (n := 2) (l := [(0, .agg ⟨[.string s, .int .i64 z]⟩), (1, .agg ⟨[.string t, .int .i64 w]⟩)]) rfl rfl (by decide) (by decide) (by decide)).trans rfl
theorem lit_p1 (h : Heap) (z w : Int) : buildSliceT (some ⟨61, 2, 16, .agg ⟨[.int .i64 0, .int .i64 0]⟩, ⟨some true, some 2⟩⟩) false h 1 #[(0, .agg ⟨[.int .i64 z, .int .i64 w]⟩)] = some (lst true [.agg ⟨[.int .i64 z, .int .i64 w]⟩], h) :=
  (build_lit' (n := 1) (l := [(0, .agg ⟨[.int .i64 z, .int .i64 w]⟩)]) rfl rfl (by decide) (by decide) (by decide)).trans rfl
theorem arr_b (a b : Int) : buildT (.arr ⟨[.int .i64 0, .int .i64 0]⟩ 1) #[(0, .int .i64 a), (1, .int .i64 b)] = some (.agg ⟨[.int .i64 a, .int .i64 b]⟩) := rfl
theorem lit_i3 (h : Heap) (a b c : Int) : buildSliceT (some elInt) false h 3 #[(0, .int .i64 a), (1, .int .i64 b), (2, .int .i64 c)] = some (lst true [.int .i64 a, .int .i64 b, .int .i64 c], h) :=
  (build_lit' (n := 3) (l := [(0, .int .i64 a), (1, .int .i64 b), (2, .int .i64 c)]) rfl rfl (by decide) (by decide) (by decide)).trans rfl
theorem lit_i2 (h : Heap) (a b : Int) : buildSliceT (some elInt) false h 2 #[(0, .int .i64 a), (1, .int .i64 b)] = some (lst true [.int .i64 a, .int .i64 b], h) :=
  (build_lit' (n := 2) (l := [(0, .int .i64 a), (1, .int .i64 b)]) rfl rfl (by decide) (by decide) (by decide)).trans rfl
abbrev R4 : Value := .agg ⟨[.int .i64 0, .int .i64 0, .int .i64 4, .int .i64 1]⟩
abbrev elRs : El := ⟨62, 1, 24, .slice none 0 0, ⟨some false, some 1⟩⟩
theorem lit_r2 (h : Heap) : buildSliceT (some elRs) false h 2 #[(0, .slice none 0 0), (1, lst true [R4])] = some (lst true [.slice none 0 0, lst true [R4]], h) :=
  (build_lit' (n := 2) (l := [(0, .slice none 0 0), (1, lst true [R4])]) rfl rfl (by decide) (by decide) (by decide)).trans rfl
def H5 : AObj := .cells 62 [roomR (rm 10), roomR (rm 8), roomR (rm 5), .slice none 0 0, roomR (rm 4)] 1
theorem app_r2 : appendT (some elRs) [] 0 false V3 (lst true [.slice none 0 0, lst true [R4]]) = some (.slice (some ⟨0, 0, some 5⟩) 5 5, [H5]) := rfl
def five : Rooms := [rm 10, rm 8, rm 5, (none, []), rm 4]
theorem five_ok : RoomsOk five := ⟨fun r hr => by
    simp only [five, rm, List.mem_cons, List.not_mem_nil, or_false] at hr
    rcases hr with rfl | rfl | rfl | rfl | rfl <;> first | exact Rec.ok_some | exact fun _ => rfl, fun r hr => by
    simp only [five, rm, List.mem_cons, List.not_mem_nil, or_false] at hr
    rcases hr with rfl | rfl | rfl | rfl | rfl <;> decide, by decide⟩
theorem five_areas : areasF (lists five) = some [10, 8, 5] := by kernel_rfl
theorem frz5 : frzAll E.P 0 [.slice (some ⟨0, 0, some 5⟩) 5 5] [H5] = some ([roomsV false five], [.dead]) := by kernel_rfl
theorem areas5 : retCall E (L E) 0 false 14 [.slice (some ⟨0, 0, some 5⟩) 5 5] [H5] = some (.tuple ⟨[lst false (intE.vals [10, 8, 5]), .int .i64 0]⟩, [.dead]) := by
  have := areas_spec false five five_ok
  rw [five_areas] at this
  rw [ret4 m14, frz5, Option.bind_some, this]; rfl
theorem ints_of (k : Option Bool) (l : List Int) (hk : Enc.Ok k l) (hl : l.length ≤ 1000000) : pureCall E.P (L E) 21 [intE.o k l, lst true (intE.vals l)] = some (.bool true) := by
  have := ints25 k (some true) l l hk Enc.ok_some hl
  rw [decide_eq_true rfl] at this
  exact this
set_option maxHeartbeats 2000000 in
theorem small25_spec : pureCall E.P (L E) 12 [] = some (.bool true) := by
  obtain ⟨ka, qa, ba⟩ := best3 p25a p25a_ok (by kernel_rfl) bs25a
  obtain ⟨kb, qb, bb⟩ := best3 p25b p25b_ok (by kernel_rfl) bs25b
  obtain ⟨kc, qc, bc⟩ := best3 p25c p25c_ok (by kernel_rfl) bs25c
  obtain ⟨kd, qd, bd⟩ := best3 p25d p25d_ok (by kernel_rfl) bs25d
  have ba : pureCall E.P (L E) 15 [V3, .agg ⟨[.int .i64 3, .slice none 0 0, .int .i64 100, .slice none 0 0]⟩] = _ := ba
  have bb : pureCall E.P (L E) 15 [V3, .agg ⟨[.int .i64 3, lst true [.agg ⟨[.string ⟨⟨[104, 111, 109, 101]⟩⟩, .int .i64 12]⟩], .int .i64 100, lst true [.agg ⟨[.int .i64 0, .int .i64 1]⟩]]⟩] = _ := bb
  have bc : pureCall E.P (L E) 15 [V3, .agg ⟨[.int .i64 1, .slice none 0 0, .int .i64 20, .slice none 0 0]⟩] = _ := bc
  have bd : pureCall E.P (L E) 15 [V3, .agg ⟨[.int .i64 3, lst true [.agg ⟨[.string ⟨⟨[104, 111, 109, 101]⟩⟩, .int .i64 9]⟩, .agg ⟨[.string ⟨⟨[115, 104, 111, 112]⟩⟩, .int .i64 14]⟩], .int .i64 100, .slice none 0 0]⟩] = _ := bd
  have t3 := three_spec
  have r4 := row4_spec
  have s3 : settled depth V3 = true := rfl
  have b7 : (brR.vals [⟨2, 23⟩, ⟨2, 23⟩, ⟨2, 23⟩, ⟨0, 23⟩, ⟨0, 23⟩, ⟨0, 23⟩, ⟨0, 23⟩]).length = 7 := rfl
  have x7 : indexAddrT (.sl 41 ⟨some true, some 2⟩) (lst false (brR.vals [⟨2, 23⟩, ⟨2, 23⟩, ⟨2, 23⟩, ⟨0, 23⟩, ⟨0, 23⟩, ⟨0, 23⟩, ⟨0, 23⟩])) (.int .i64 0) = some (cptr (.agg ⟨[.int .i64 2, .int .i64 23]⟩)) := rfl
  have l7 : ∀ h, loadT ⟨some true, some 2⟩ h (cptr (.agg ⟨[.int .i64 2, .int .i64 23]⟩)) = some (.agg ⟨[.int .i64 2, .int .i64 23]⟩) := fun _ => rfl
  have bb7 : buildT (.fs ⟨[.int .i64 0, .int .i64 0]⟩ ⟨[(0, 1), (1, 1)]⟩) #[(0, .int .i64 2), (1, .int .i64 23)] = some (.agg ⟨[.int .i64 2, .int .i64 23]⟩) := rfl
  have s4 : settled depth (.int .i64 4) = true := rfl
  have ia : pureCall E.P (L E) 21 [intE.o ka [0, 0, 0], lst true [.int .i64 0, .int .i64 0, .int .i64 0]] = _ := ints_of ka [0, 0, 0] qa (by decide)
  have ib : pureCall E.P (L E) 21 [intE.o kb [1, 1, 0], lst true [.int .i64 1, .int .i64 1, .int .i64 0]] = _ := ints_of kb [1, 1, 0] qb (by decide)
  have ic : pureCall E.P (L E) 21 [intE.o kc [0, 0], lst true [.int .i64 0, .int .i64 0]] = _ := ints_of kc [0, 0] qc (by decide)
  have id : pureCall E.P (L E) 21 [intE.o kd [1, 0], lst true [.int .i64 1, .int .i64 0]] = _ := ints_of kd [1, 0] qd (by decide)
  have i5 : pureCall E.P (L E) 21 [lst false (intE.vals [10, 8, 5]), lst true [.int .i64 10, .int .i64 8, .int .i64 5]] = _ := ints_of (some false) [10, 8, 5] Enc.ok_some (by decide)
  have ra : ∀ h, reify E.P 8 h (intE.o ka [0, 0, 0]) = some (intE.o ka [0, 0, 0]) := fun h => Enc.o_reify
  have rb : ∀ h, reify E.P 8 h (intE.o kb [1, 1, 0]) = some (intE.o kb [1, 1, 0]) := fun h => Enc.o_reify
  have rc : ∀ h, reify E.P 8 h (intE.o kc [0, 0]) = some (intE.o kc [0, 0]) := fun h => Enc.o_reify
  have rd : ∀ h, reify E.P 8 h (intE.o kd [1, 0]) = some (intE.o kd [1, 0]) := fun h => Enc.o_reify
  have beq : aBin E.P .eql 41 (.agg ⟨[.int .i64 2, .int .i64 23]⟩) (.agg ⟨[.int .i64 2, .int .i64 23]⟩) = some (.bool true) := by kernel_rfl
  rw [pureCall_fn F12 rfl]
  simp -implicitDefEqProofs [r12, p12, ret1 m36, t3, ret1 m37, r4, ret1 m15, s3, s4, pb_b2, pb_b3, pb_b4, en_b, sg2, sg3, sg4, lit_e1, lit_e2, lit_p1, arr_b, ba, bb, bc, bd, lit_i3, lit_i2, lit_r2, app_r2, areas5, ret0 m21, ia, ib, ic, id, i5, ra, rb, rc, rd, beq, b7, x7, l7, bb7]
end Go.Proofs.Ytcnafncmfiogcaa.Bm
namespace Go.Proofs.Ytcnafncmfiogcaa.Bm
open Go Go.RowKit
open Rg (Rect)
open Cp (Q Br Nd VB prQ validQ best sr kidsU conts us inA)
def nodes : Nat → Nat
  | 0 => 1
  | n + 1 => 1 + 6 * nodes n
theorem conts_len (P : Cp.Pr) (s : Nd) : (conts P s).length ≤ 6 := by
  unfold conts
  exact List.length_filterMap_le _ _
theorem kidsU_len {f : Nd → VB → VB × List Br} {m : Nat} (h : ∀ s a, (f s a).2.length ≤ m) : ∀ (l : List Nd) (a : VB), (kidsU f l a).2.length ≤ l.length * m
  | [], _ => by simp [kidsU]
  | t :: ts, a => by
    unfold kidsU
    have h1 := h t a
    have h2 := kidsU_len h ts (f t a).1
    rw [List.length_append, List.length_cons, Nat.add_mul, Nat.one_mul]
    omega
theorem sr_len (P : Cp.Pr) : ∀ (n : Nat) (s : Nd) (a : VB), (sr P n s a).2.length ≤ nodes n
  | 0, s, a => by simp [sr, nodes]
  | n + 1, s, a => by
    unfold sr nodes
    split
    · have h1 := kidsU_len (sr_len P n) (conts P s) (Cp.upd s a)
      have h2 : (conts P s).length * nodes n ≤ 6 * nodes n := Nat.mul_le_mul_right _ (conts_len P s)
      show ((_ :: _ : List Br)).length ≤ _
      rw [List.length_cons]
      omega
    · show 1 ≤ _
      omega
theorem nodes_mono {n m : Nat} (h : n ≤ m) : nodes n ≤ nodes m := by
  induction h with
  | refl => exact Nat.le_refl _
  | step _ ih => show _ ≤ 1 + 6 * nodes _; omega
theorem best_few {P : Cp.Pr} {A : List Int} (h : A.length ≤ 4) : ∃ r, best P A = some r := by
  have h1 := sr_len P A.length (Cp.root P A) (-1, [])
  have h2 := nodes_mono h
  have h3 : nodes 4 = 1555 := rfl
  unfold best
  rw [if_pos (show (sr P A.length (Cp.root P A) (-1, [])).2.length ≤ 4000 by omega)]
  exact ⟨_, rfl⟩
theorem areasF_len {P : List (List Rect)} {A : List Int} (h : areasF P = some A) : A.length ≤ P.length := by
  unfold areasF at h
  split at h
  · rw [← Option.some.inj h]
    have := List.takeWhile_sublist (fun a : Int => decide (a ≠ 0)) (l := P.map Rg.areaL)
    have := this.length_le
    rw [List.length_map] at this
    exact this
  · cases h
theorem run_us {q : Q} : ∀ {c : List Int} {s t : Nd}, Cp.run (prQ q) s c = some t → ∀ u ∈ c, 0 ≤ u ∧ u ≤ 5
  | [], _, _, _ => fun u hu => by cases hu
  | w :: c, s, t, h => fun u hu => by
    obtain ⟨s1, h1, h2⟩ := Cp.run_step h
    rcases List.mem_cons.1 hu with rfl | hu
    · obtain ⟨_, _, _, _, hm, _⟩ := Cp.next_some h1
      have hm : Cp.mayQ q s.c.getLast? u = true := hm
      have := Cp.may_ge hm
      omega
    · exact run_us h2 u hu
theorem fitR_us {q : Q} {A c : List Int} (h : Cp.fitR q A c = true) : ∀ u ∈ c, 0 ≤ u ∧ u ≤ 5 := by
  rw [Cp.fit_eq] at h
  unfold Cp.fitS Cp.fits at h
  simp only [Bool.and_eq_true] at h
  obtain ⟨t, ht⟩ := Option.isSome_iff_exists.1 h.2.2.2.2
  exact run_us ht
structure Args (P : Rooms) (p : Pb) : Prop where
  ok : ∀ r ∈ P, Rec.Ok r.1 r.2
  len : P.length ≤ maxLen
  kl : Rec.Ok p.kl p.left
  kn : Rec.Ok p.kn p.never
  u : -9223372036854775808 ≤ p.uses ∧ p.uses ≤ 9223372036854775807
  m : -9223372036854775808 ≤ p.most ∧ p.most ≤ 9223372036854775807
def fewB (P : Rooms) (p : Pb) : Bool := P.all (fun r => decide (r.2.length ≤ 16)) && (decide (P.length ≤ 13) && (decide (p.left.length ≤ 40) && decide (p.never.length ≤ 40)))
theorem Args.few {P : Rooms} {p : Pb} (a : Args P p) (x : Bool) : pureCall E.P (L E) 13 [roomsV x P, .agg ⟨p.cells⟩] = some (.bool (fewB P p)) := few_spec x P p a.kl a.kn a.ok a.len
theorem Args.get {P : Rooms} {p : Pb} (a : Args P p) (h : fewB P p = true) : RoomsOk P ∧ PbOk p := by
  unfold fewB at h
  simp only [Bool.and_eq_true, decide_eq_true_eq, List.all_eq_true] at h
  exact ⟨⟨a.ok, h.1, h.2.1⟩, ⟨a.kl, a.kn, a.u, a.m, h.2.2.1, h.2.2.2⟩⟩
theorem rooms_reify (x : Bool) (P : Rooms) (h : Heap) : reify E.P 8 h (roomsV x P) = some (roomsV x P) := by unfold roomsV; rfl
set_option maxHeartbeats 1000000 in
theorem best_law (P : Rooms) (p : Pb) (ha : Args P p) : ∃ h', L E 3 [roomsV false P, p.val] [] 0 = some (.bool true, h') := by
  have fw := ha.few false
  have sm := small25_spec
  have ln := fun h => rooms_len h false P
  have rr := rooms_reify false P
  have sr : settled depth (roomsV false P) = true := rfl
  have rcp : ∀ h, reifyC E.P 7 h p.cells = some p.cells := fun h => reifyC_set (pb_all p)
  have pe : p.val = .agg ⟨p.cells⟩ := rfl
  have ps : settled depth (.agg ⟨p.cells⟩) = true := p.set
  have lp : ∀ t, loadT ⟨some true, some 4⟩ (AObj.cells 26 p.cells 0 :: t) (.pointer (some ⟨0, 0, none⟩)) = some (.agg ⟨p.cells⟩) := fun t => obj_all (b := 0) rfl rfl
  rw [L_fn F3 rfl, pe]
  cases hF : fewB P p
  · rw [hF] at fw
    simp -implicitDefEqProofs [r3, p3, ret0 m12, sm, ret0 m13, rr, lp, rcp, fw]
  rw [hF] at fw
  obtain ⟨hPo, hp⟩ := ha.get hF
  by_cases h4 : 4 < P.length
  · have h4' : (4 : Int) < P.length := by omega
    simp -implicitDefEqProofs [r3, p3, ret0 m12, sm, ret0 m13, rr, lp, rcp, fw, ln, h4']
  have h4' : ¬ (4 : Int) < P.length := by omega
  have ar := areas_call false P hPo
  have vs := rvalid_spec p hp
  have vs : pureCall E.P (L E) 16 [.agg ⟨p.cells⟩] = some (.bool (validQ p.q)) := vs
  cases hA : areasF (lists P) with
  | none =>
    rw [hA] at ar
    have bb := best_bad false P hPo p hp (.inl hA)
    rw [pe] at bb
    unfold areasV at ar
    simp -implicitDefEqProofs [r3, p3, ret0 m12, sm, ret0 m13, rr, lp, rcp, fw, ln, h4', ar, ret1 m15, sr, ps, bb]
  | some A =>
    rw [hA] at ar
    unfold areasV at ar
    cases hv : validQ p.q
    · rw [hv] at vs
      have bb := best_bad false P hPo p hp (.inr hv)
      rw [pe] at bb
      simp -implicitDefEqProofs [r3, p3, ret0 m12, sm, ret0 m13, rr, lp, rcp, fw, ln, h4', ar, ret1 m15, sr, ps, bb, ret0 m16, vs]
    · obtain ⟨h12, hA2⟩ := areas_told hA
      have hA4 := areasF_len hA
      have hll : (lists P).length = P.length := List.length_map _
      have hin : inA A = true := Cp.inA_iff.2 hA2
      obtain ⟨⟨v, c, t⟩, hb⟩ := best_few (P := prQ p.q) (A := A) (by omega)
      obtain ⟨k, hk, bs⟩ := best_ok false P hPo p hp A hA hv
      have hk : Enc.Ok k c := hk _ hb
      rw [hb, pe] at bs
      unfold bestV at bs
      simp only at bs
      obtain ⟨b1, b2, b3⟩ := betF_no hv h12 hin hb
      have hcl := (fitR_len b2).1
      have hA' : intE.o (some false) A = lst false (intE.vals A) := rfl
      have fits := rfits_spec p hp (some false) k A c Enc.ok_some hk (by omega) (by omega) (fun u hu => by have := fitR_us b2 u hu; omega)
      rw [b2, pe, hA'] at fits
      have hAok : AOk A := ⟨by omega, fun a ha => by have := hA2 a ha; omega⟩
      have vl := value_spec (some false) k A c Enc.ok_some hk hAok hcl
      rw [b1, hA'] at vl
      have bt := better_spec p hp (some false) k A c Enc.ok_some hk (by omega) hcl (A.length + 1) [] none Enc.ok_nil (by show A.length < A.length + 1 + 0; omega) (by decide) (fun u hu => by cases hu)
      rw [b3, pe, hA'] at bt
      have bt : pureCall E.P (L E) 19 [lst false (intE.vals A), .agg ⟨p.cells⟩, .slice none 0 0, intE.o k c] = _ := bt
      have lA : ∀ h, lenT .sl h (lst false (intE.vals A)) = some (.int .i64 A.length) := fun h => Enc.o_len (O := intE) (k := some false) Enc.ok_some
      have lc := fun h => Enc.o_len (O := intE) (h := h) hk
      have rc : ∀ h, reify E.P 8 h (intE.o k c) = some (intE.o k c) := fun h => Enc.o_reify
      have rA : ∀ h, reify E.P 8 h (lst false (intE.vals A)) = some (lst false (intE.vals A)) := fun h => rfl
      have c1 : ¬ (A.length : Int) < c.length := by omega
      have c1n : ¬ A.length < c.length := by omega
      have c2 : ¬ (4 : Int) < A.length := by omega
      have c2n : ¬ 4 < A.length := by omega
      simp -implicitDefEqProofs [r3, p3, ret0 m12, sm, ret0 m13, rr, lp, rcp, fw, ln, h4', ar, ret1 m15, sr, ps, bs, lA, lc, c1, c2, ret0 m17, rA, rc, fits, ret0 m18, vl, ret0 m19, bt]
end Go.Proofs.Ytcnafncmfiogcaa.Bm
