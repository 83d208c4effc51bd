/-
 Chapter 26: Reach, Tighten and Check of the checker, and when two trees are equal, walked. Conditions: few rooms, of few rectangles; trees of at most a million nodes.
-/
import Derived.Test.YtcnafncmfiogcaaQJ25
namespace Go.Proofs.Ytcnafncmfiogcaa.Bm
open Go Go.RowKit
open Cp (Q Nd Br nameB limS limQ mayQ prQ validQ badP hasP bitB next run root take us conts reach prv forest kidsL)
def headF (k : Int) : Option Cp.Rd → Option Cp.Rd
 | none => none
 | some x => some (x.1, ⟨k, x.1⟩ :: x.2.1, x.2.2)
def joinF (o : List Br) : Option Cp.Rd → Option Cp.Rd
 | none => none
 | some y => some (y.1, o ++ y.2.1, y.2.2)
theorem joinF_join (o o' : List Br) (x : Option Cp.Rd) : joinF o (joinF o' x) = joinF (o ++ o') x := by
 cases x with
 | none => rfl
 | some y => show some (y.1, o ++ (o' ++ y.2.1), y.2.2) = some (y.1, o ++ o' ++ y.2.1, y.2.2); rw [List.append_assoc]
theorem forest_none {f : Nd → List Br → Option Cp.Rd} {t : Nd} {ts : List Nd} {m : Int} {r : List Br} (h : f t r = none) : forest f (t :: ts) m r = none := by
 show (match f t r with | none => none | some x => _) = none
 rw [h]
theorem forest_some {f : Nd → List Br → Option Cp.Rd} {t : Nd} {ts : List Nd} {m : Int} {r : List Br} {y : Cp.Rd} (h : f t r = some y) : forest f (t :: ts) m r = joinF y.2.1 (forest f ts (max m y.1) y.2.2) := by
 show (match f t r with | none => none | some x => match forest f ts (max m x.1) x.2.2 with | none => none | some y => some (y.1, x.2.1 ++ y.2.1, y.2.2)) = _
 rw [h]
 show (match forest f ts (max m y.1) y.2.2 with | none => none | some z => some (z.1, y.2.1 ++ z.2.1, z.2.2)) = _
 cases forest f ts (max m y.1) y.2.2 <;> rfl
theorem prv_any {P : Cp.Pr} {n : Nat} {s : Nd} {b : Br} {r : List Br} (hn : s.rem.length ≤ n) : prv P n s (b :: r) =
  if b.kids = (conts P s).length then headF b.kids (forest (prv P (n - 1)) (conts P s) s.v r)
  else if b.kids = 0 then some (reach P s, [⟨b.kids, reach P s⟩], r) else none := by
 cases n with
 | succ n =>
  rw [Cp.prv_succ]
  show (if _ then (match forest (prv P n) (conts P s) s.v r with | none => none | some x => some (x.1, (⟨b.kids, x.1⟩ : Br) :: x.2.1, x.2.2)) else _) = _
  show _ = (if _ then headF b.kids (forest (prv P n) (conts P s) s.v r) else _)
  cases forest (prv P n) (conts P s) s.v r <;> rfl
 | zero =>
  have hc := Cp.conts_nil (P := P) (s := s) (by omega)
  rw [Cp.prv_zero, hc]
  by_cases h : b.kids = 0
  ·rw [if_pos h, if_pos (by rw [h]; rfl)]; rfl
  ·rw [if_neg h, if_neg (by simpa using h), if_neg h]
def KR (q : Q) (A : List Int) : List BS → List Nd → Prop
 | [], [] => True
 | x :: K, s :: C => Bs q A x s ∧ KR q A K C
 | _, _ => False
theorem KR.len {q : Q} {A : List Int} : ∀ {K : List BS} {C : List Nd}, KR q A K C → K.length = C.length
 | [], [], _ => rfl
 | _ :: _, _ :: _, ⟨_, h⟩ => by rw [List.length_cons, List.length_cons, h.len]
 | [], _ :: _, h => h.elim
 | _ :: _, [], h => h.elim
theorem KR.get {q : Q} {A : List Int} : ∀ {K : List BS} {C : List Nd}, KR q A K C → ∀ (i : Nat) (h1 : i < K.length) (h2 : i < C.length), Bs q A K[i] C[i]
 | [], _, _, _, h1, _ => absurd h1 (by simp)
 | _ :: _, [], h, _, _, _ => h.elim
 | _ :: _, _ :: _, ⟨h, k⟩, i, h1, h2 => by
  cases i with
  | zero => exact h
  | succ i => exact k.get i (by simpa using h1) (by simpa using h2)
def nextO (b : Bp) (x : BS) (u : Int) : Option BS := if (nextB b x u).2 = true then some (nextB b x u).1 else none
theorem KR_of {q : Q} {A : List Int} {b : Bp} (hA : AOk A) (hq : Bq q A b) {x : BS} {s : Nd} (hs : Bs q A x s) : ∀ l : List Int, KR q A (l.filterMap (nextO b x)) (l.filterMap (next (prQ q) s))
 | [] => trivial
 | u :: l => by
  obtain ⟨h1, h2⟩ := next_rel hA hq hs u
  cases hn : next (prQ q) s u with
  | none =>
   rw [hn] at h1
   have e : nextO b x u = none := by unfold nextO; rw [h1]; rfl
   rw [List.filterMap_cons_none e, List.filterMap_cons_none hn]
   exact KR_of hA hq hs l
  | some t =>
   rw [hn] at h1
   have e : nextO b x u = some (nextB b x u).1 := by unfold nextO; rw [h1]; rfl
   rw [List.filterMap_cons_some e, List.filterMap_cons_some hn]
   exact ⟨h2 t hn, KR_of hA hq hs l⟩
def kidsN (b : Bp) (x : BS) (u : Nat) : List BS := (us.take u).filterMap (nextO b x)
theorem us_take {u : Nat} (h : u < 6) : us.take (u + 1) = us.take u ++ [(u : Int)] := by
 have : u = 0 ∨ u = 1 ∨ u = 2 ∨ u = 3 ∨ u = 4 ∨ u = 5 := by omega
 rcases this with rfl | rfl | rfl | rfl | rfl | rfl <;> rfl
theorem kidsN_no {b : Bp} {x : BS} {u : Nat} (h : u < 6) (hn : (nextB b x u).2 = false) : kidsN b x (u + 1) = kidsN b x u := by
 unfold kidsN
 rw [us_take h, List.filterMap_append]
 have e : nextO b x u = none := by unfold nextO; rw [hn]; rfl
 rw [List.filterMap_cons_none e]; simp
theorem kidsN_yes {b : Bp} {x : BS} {u : Nat} (h : u < 6) (hn : (nextB b x u).2 = true) : kidsN b x (u + 1) = kidsN b x u ++ [(nextB b x u).1] := by
 unfold kidsN
 rw [us_take h, List.filterMap_append]
 have e : nextO b x u = some (nextB b x u).1 := by unfold nextO; rw [hn]; rfl
 rw [List.filterMap_cons_some e]; rfl
theorem kidsN_len (b : Bp) (x : BS) (u : Nat) : (kidsN b x u).length ≤ 6 := by
 unfold kidsN
 refine Nat.le_trans (List.length_filterMap_le _ _) ?_
 rw [List.length_take]
 show min u 6 ≤ 6
 omega
theorem set_back {h : Heap} {i : Nat} {o : AObj} (ho : h[i]? = some o) : h.set i o = h := by
 obtain ⟨hi, rfl⟩ := List.getElem?_eq_some_iff.1 ho
 apply List.ext_getElem?
 intro j
 rw [List.getElem?_set]
 split
 ·rename_i e; subst e; rw [List.getElem?_eq_getElem hi]
 ·rfl
def Told (T T' : List Br) (at_ : Nat) (m z : Int) : Option Cp.Rd → Prop
 | none => z < 0
 | some y => m = y.1 ∧ z = T.length - y.2.2.length ∧ T' = T.take at_ ++ (y.2.1 ++ y.2.2)
structure PvH (h : Heap) (rb : Nat) (T : List Br) : Prop where
 hb : HB h
 row : h[rb]? = some (brR.row 41 T)
 len : T.length ≤ 4000
def PvN (q : Q) (A : List Int) (b : Bp) (n : Nat) : Prop := ∀ (s : Nd) (x : BS) (T : List Br) (at_ : Nat) (h : Heap) (rb : Nat), s.rem.length ≤ n → Bs q A x s → PvH h rb T →
 ∃ T' e m z, T'.length = T.length ∧ L E 71 [bpV b, brR.sl rb T, .int .i64 (at_ : Int), x.V] h 0 = some (.tuple ⟨[.int .i64 m, .int .i64 z]⟩, h.set rb (brR.row 41 T') ++ e) ∧ Told T T' at_ m z (prv (prQ q) n s (T.drop at_))
def PvG (h : Heap) (rb : Nat) (T : List Br) (at_ : Nat) (o : Option Cp.Rd) (X : Option (Value × Heap)) : Prop := ∃ T' e m z, T'.length = T.length ∧ X = some (.tuple ⟨[.int .i64 m, .int .i64 z]⟩, h.set rb (brR.row 41 T') ++ e) ∧ Told T T' at_ m z o
theorem kS_bel {h : Heap} {K : List BS} (d : Nat) : below (d + 1) (h.length + 2) (kS h K) = true := Rec.sl_bel (by omega)
theorem trim_HK {h : Heap} {x : BS} {K : List BS} (hb : HB h) (l : List Value) (hl : l.all (below 8 (h.length + 2)) = true) (e : Heap) : trim (h.length + 2) l (HK h x K ++ e) = HK h x K := trim_K HK_len (HK_hb hb) hl
theorem trim_HK0 {h : Heap} {x : BS} {K : List BS} (l : List Value) : trim (h.length + 2) l (HK h x K) = HK h x K := trim_K0 HK_len
theorem sl_same {rb : Nat} {T T' : List Br} (h : T'.length = T.length) : brR.sl rb T' = brR.sl rb T := by unfold Rec.sl; rw [h]
theorem prv_parts {P : Cp.Pr} {n : Nat} {s : Nd} {l : List Br} {y : Cp.Rd} (h : prv P n s l = some y) : l.length = y.2.1.length + y.2.2.length := by
 obtain ⟨l0, e0, k0, _⟩ := Cp.prv_reads P n s l y h
 have : y.2.1.length = l0.length := by have := congrArg List.length k0; simpa [kidsL] using this
 rw [e0, List.length_append, this]
set_option maxHeartbeats 4000000 in
theorem prove_all {q : Q} {A : List Int} {b : Bp} (hA : AOk A) (hq : Bq q A b) (n : Nat) (ih : ∀ m, n = m + 1 → PvN q A b m) : PvN q A b n := by
 intro s x T at_ h rb hn hs hH
 have hAb : AOk b.A := by rw [hq.A]; exact hA
 have hw := hs.w
 have hwb : BsW b.A x := by rw [hq.A]; exact hw
 have hxU := hw.u
 have hT4 := hH.len
 have hrb : rb < h.length := (List.getElem?_eq_some_iff.1 hH.row).1
 have ltr : ∀ h, lenT .sl h (brR.sl rb T) = some (.int .i64 T.length) := fun h => Rec.sl_len
 have at0 : ¬ ((at_ : Int) < 0) := by omega
 rw [L_fn F71 rfl]
 have eV : x.V = .agg ⟨x.c⟩ := rfl
 by_cases hat : T.length ≤ at_
 ·have hat' : (T.length : Int) ≤ (at_ : Int) := by omega
  refine ⟨T, [.cells 84 x.c 0], 0, -1, rfl, ?_, ?_⟩
  ·rw [set_back hH.row, eV]
   simp -implicitDefEqProofs [r71, p71, at0, ltr, hat']
  ·rw [List.drop_eq_nil_of_le hat, Cp.prv_nil]
   show (-1 : Int) < 0
   decide
 have hat1 : at_ < T.length := by omega
 have hat' : ¬ ((T.length : Int) ≤ (at_ : Int)) := by omega
 have nk : ∀ (h : Heap) (σ : Slots), newK E.P (h ++ [.cells 84 x.c 0]) σ 10 84 (.slice none 0 0) = some (setS σ 10 (kS h []), HK h x []) := fun h σ => by
  rw [newK_nil sBS]
  unfold kS HK
  rw [List.append_assoc]
  simp [Rec.sl, Rec.row, Rec.flat]
  rfl
 show PvG h rb T at_ (prv (prQ q) n s (T.drop at_)) _
 have ns := fun u => next_spec b hq.l hAb x hwb u
 have nw := fun u => (nextB_w (b := b) hAb hwb u).u
 have rB : ∀ h, reify E.P 8 h (bpV b) = some (bpV b) := fun h => rfl
 have bB : ∀ d n, below (d + 1) n (bpV b) = true := fun d n => rfl
 have br := breach_spec b hq.l hAb x hwb
 have hT : T.drop at_ = T[at_] :: T.drop (at_ + 1) := List.drop_eq_getElem_cons hat1
 rw [hT, prv_any hn]
 generalize hBe : bpV b = B at *
 have rx := fun h => bs_reify x h 6
 have bT : ∀ d, below (d + 1) (h.length + 2) (brR.sl rb T) = true := fun d => Rec.sl_bel (by omega)
 have bx := bs_bel x
 rw [eV]
 simp -implicitDefEqProofs [r71, p71, at0, ltr, hat', prep_new, nk]
 rw [LL_rec (α := Nat) 0 (fun u => [(10, kS h (kidsN b x u)), (27, .int .i64 (u : Int))]) (fun u => HK h x (kidsN b x u)) (fun _ => (.exit 0, [(10, kS h (kidsN b x 6)), (27, undef)], HK h x (kidsN b x 6))) (fun u => u ≤ 6) (fun u => 6 - u) (Nat.zero_le _)]
 ·have hKR : KR q A (kidsN b x 6) (conts (prQ q) s) := KR_of hA hq hs us
  have hKl := hKR.len
  have hK6 := kidsN_len b x 6
  have hu := fun K => HK_ld6 (h := h) (K := K) hxU
  have lx := fun K => HK_ldx0 (h := h) (K := K) hxU
  have wa : IntKind.i64.wrap ((at_ : Int) + 1) = (at_ : Int) + 1 := wrap64 (by omega) (by omega)
  have ig := Rec.index_row (R := brR) (h0 := 2) (t := 41) (g := some true) (b := rb) (l := T) (i := at_) (k := .i64) rfl hat1
  have fg0 := Rec.field_row (R := brR) (b := rb) (n := 0) (f := 0) (l := T) (i := at_) (k := ⟨some true, some 2⟩) (g := some false)
  have fg1 := Rec.field_row (R := brR) (b := rb) (n := 0) (f := 1) (l := T) (i := at_) (k := ⟨some true, some 2⟩) (g := some false)
  have lk : ∀ K, loadT ⟨some false, some 1⟩ (HK h x K) (brR.at_ rb T at_ 0) = some (.int .i64 T[at_].kids) := fun K => by
   rw [Rec.load_cell (R := brR) ((HK_get hrb).trans hH.row) hat1 (by decide)]; rfl
  have sk : ∀ (K : List BS) (T1 : List Br) (m : Int) (_ : T1.length = T.length) (h1 : at_ < T1.length), storeT (some 1) (HK (h.set rb (brR.row 41 T1)) x K) 0 (.int .i64 m) (brR.at_ rb T at_ 1) = some (HK (h.set rb (brR.row 41 (T1.set at_ ⟨T1[at_].kids, m⟩))) x K) := fun K T1 m hT1 h1 => by
   have eT : brR.at_ rb T at_ 1 = brR.at_ rb T1 at_ 1 := by unfold Rec.at_; rw [hT1]
   have hg : (HK (h.set rb (brR.row 41 T1)) x K)[rb]? = some (brR.row 41 T1) := by
    rw [HK_get (by rw [List.length_set]; exact hrb), List.getElem?_set_self hrb]
   rw [eT, Rec.store_cell (R := brR) (a := ⟨T1[at_].kids, m⟩) rfl hg (Nat.zero_le _) h1 (by decide) rfl, HK_set (by rw [List.length_set]; exact hrb), List.set_set]
  have hback : h.set rb (brR.row 41 T) = h := set_back hH.row
  by_cases c1 : T[at_].kids = (conts (prQ q) s).length
  ·rw [if_pos c1]
   have c1' : T[at_].kids = ((kidsN b x 6).length : Int) := by rw [hKl]; exact c1
   generalize hF : forest (prv (prQ q) (n - 1)) (conts (prQ q) s) s.v (T.drop (at_ + 1)) = F
   generalize ho : headF T[at_].kids F = o
   simp only [hs.v] at hu
   have hbk : b.A = A := hq.A
   have ns2 := fun (i : Nat) (h1 : i < (kidsN b x 6).length) (h2 : i < (conts (prQ q) s).length) => hKR.get i h1 h2
   have kb : below 8 (h.length + 2) (kS h (kidsN b x 6)) = true := kS_bel 7
   have ba : ∀ j, below 8 (h.length + 2) (brR.at_ rb T at_ j) = true := fun j => decide_eq_true (show rb < h.length + 2 by omega)
   generalize kidsN b x 6 = K at *
   generalize hC : conts (prQ q) s = C at *
   simp -implicitDefEqProofs [k71_5, hu, wa, ig, fg0, lk, kS_len, c1']
   refine ux_goal (G := fun X => PvG h rb T at_ o (retK [RRes.tmp 8, RRes.tmp 9] (seqC E (L E) LL 0 (blkK 2 (blkK 3 X)) _)))
    (LL_ux (α := Nat × Int × Nat × List Br) (U := Int × Int) (0, s.v, at_ + 1, T) (fun a => [(14, .int .i64 a.2.1), (15, .int .i64 (a.2.2.1 : Int)), (58, .int .i64 (a.1 : Int))]) (fun a => HK (h.set rb (brR.row 41 a.2.2.2)) x K)
     (if F.isSome = true then .exit 3 else .ret) (fun u => if F.isSome = true then [(14, .int .i64 u.1), (15, .int .i64 u.2), (58, undef)] else [(8, .int .i64 0), (9, .int .i64 (-1)), (14, .int .i64 u.1), (15, .int .i64 u.2), (58, undef)])
     (fun u h' => ∃ T1 : List Br, T1.length = T.length ∧ h' = HK (h.set rb (brR.row 41 T1)) x K ∧ ∀ y, F = some y → u.1 = y.1 ∧ u.2 = (T.length : Int) - (y.2.2.length : Nat) ∧ T1 = T.take (at_ + 1) ++ (y.2.1 ++ y.2.2))
     (fun a => a.1 ≤ C.length ∧ a.2.2.2.length = T.length ∧ a.2.2.1 ≤ T.length ∧ ∃ o', a.2.2.2.take a.2.2.1 = T.take (at_ + 1) ++ o' ∧ F = joinF o' (forest (prv (prQ q) (n - 1)) (C.drop a.1) a.2.1 (a.2.2.2.drop a.2.2.1)))
     (fun a => C.length - a.1) ?_ ?_ ?_ ?_) ?_
   ·refine ⟨Nat.zero_le _, rfl, by show at_ + 1 ≤ T.length; omega, [], by simp, ?_⟩
    show F = joinF [] (forest (prv (prQ q) (n - 1)) C s.v (T.drop (at_ + 1)))
    rw [hF]
    cases F <;> rfl
   ·simp -implicitDefEqProofs [k71_16]
   ·show HK (h.set rb (brR.row 41 T)) x K = HK h x K
    rw [hback]
   ·intro nx a ha ihl
    obtain ⟨i, m, ei, T1⟩ := a
    obtain ⟨g1, g2, g3, o', g4, g5⟩ := ha
    simp only at g1 g2 g3 g4 g5 ihl ⊢
    have eh : h.length = (h.set rb (brR.row 41 T1)).length := List.length_set.symm
    by_cases hi : i < C.length
    case neg =>
     have e : i = C.length := by omega
     rw [e, List.drop_length, Cp.forest_nil] at g5
     have g5 : F = some (m, o' ++ [], T1.drop ei) := g5
     rw [List.append_nil] at g5
     subst g5
     refine ⟨(m, (ei : Int)), HK (h.set rb (brR.row 41 T1)) x K, ?_, T1, g2, rfl, fun y hy => ?_⟩
     ·have hKi : ¬ ((i : Int) < (K.length : Int)) := by omega
      have e2 : (HK (h.set rb (brR.row 41 T1)) x K).length = h.length + 2 := by rw [HK_len, List.length_set]
      simp -implicitDefEqProofs [r71_16, k71_16, hKi, e2, trim_K0]
     ·have hy := Option.some.inj hy
      subst hy
      refine ⟨rfl, ?_, ?_⟩
      ·show (ei : Int) = (T.length : Int) - ((T1.drop ei).length : Nat)
       rw [List.length_drop]; omega
      ·show T1 = T.take (at_ + 1) ++ (o' ++ T1.drop ei)
       rw [← List.append_assoc, ← g4, List.take_append_drop]
    have hiK : i < K.length := by omega
    have hKi : (i : Int) < (K.length : Int) := by omega
    have wi : IntKind.i64.wrap ((i : Int) + 1) = ((i + 1 : Nat) : Int) := (wrap64 (by omega) (by omega)).trans (by omega)
    have hdC : C.drop i = C[i] :: C.drop (i + 1) := List.drop_eq_getElem_cons hi
    have hsi := ns2 i hiK hi
    have hUi := hsi.w.u
    have hrem : C[i].rem.length + 1 = s.rem.length := by
     obtain ⟨u, hu⟩ := Cp.conts_mem (P := prQ q) (s := s) (t := C[i]) (by rw [hC]; exact List.getElem_mem hi)
     exact Cp.next_rem hu
    obtain ⟨n', rfl⟩ : ∃ n', n = n' + 1 := ⟨n - 1, by omega⟩
    generalize hh1 : h.set rb (brR.row 41 T1) = h1 at *
    have hrb1 : rb < h1.length := by omega
    have hB1 : HB h1 := by rw [← hh1]; exact hH.hb.set fun n => Rec.row_bel T1
    have hr1 : h1[rb]? = some (brR.row 41 T1) := by rw [← hh1, List.getElem?_set_self hrb]
    have ek : kS h1 K = kS h K := by unfold kS; rw [← eh]
    obtain ⟨ad, ia, la⟩ := kS_ix (h := h1) (x := x) (K := K) (H := HK h1 x K) (e := []) (List.append_nil _).symm hiK hUi
    rw [ek] at ia
    have st := HK_st (h := h1) (x := x) (K := K) (y := zB) (z := K[i]) rfl hUi
    have ez : zB.c = [.int .i64 0, .int .i64 0, .int .i64 0, .int .i64 0, .int .i64 0, .int .i64 0, .int .i64 0, .int .i64 0, .int .i64 0] := rfl
    rw [ez, ← eh] at st
    have ly := HK_ldn (h := h1) (x := x) (K := K) (y := K[i]) hUi
    rw [← eh] at ly
    have e2 : (HK h1 x K).length = h.length + 2 := by rw [HK_len, ← eh]
    have hHx : PvH (HK h1 x K ++ [.cells 84 K[i].c 0]) rb T1 := ⟨(HK_hb hB1).app (fun o ho n => by rw [List.mem_singleton.1 ho]; exact bs_obel _ n), get_app ((HK_get hrb1).trans hr1), by omega⟩
    obtain ⟨T2, e2', m2, z2, hT2, r2, t2⟩ := ih n' rfl C[i] K[i] T1 ei (HK h1 x K ++ [.cells 84 K[i].c 0]) rb (by omega) hsi hHx
    rw [HK_setE hrb1, sl_same g2, hBe] at r2
    have eh2 : h1.set rb (brR.row 41 T2) = h.set rb (brR.row 41 T2) := by rw [← hh1, List.set_set]
    rw [eh2] at r2
    have hB2 : HB (h.set rb (brR.row 41 T2)) := hH.hb.set fun n => Rec.row_bel T2
    have hl2 : h.length = (h.set rb (brR.row 41 T2)).length := List.length_set.symm
    generalize hh2 : h.set rb (brR.row 41 T2) = h2 at *
    have rc : retCall E (L E) 0 false 71 [B, brR.sl rb T, .int .i64 (ei : Int), K[i].V] (HK h1 x K ++ [.cells 84 K[i].c 0]) = some (.tuple ⟨[.int .i64 m2, .int .i64 z2]⟩, HK h2 x K ++ [.cells 84 K[i].c 0]) := by
     rw [ret3t m71, r2, Option.map_some]
     congr 2
     refine trim_K (by rw [List.length_append, List.length_append, HK_len, HK_len]; simp only [List.length_cons, List.length_nil]; omega) ((HK_hb hB2).app (fun o ho n => by rw [List.mem_singleton.1 ho]; exact bs_obel _ n)) ?_
     rfl
    have tr := fun l hl => trim_HK (h := h2) (x := x) (K := K) hB2 l hl [.cells 84 K[i].c 0]
    rw [← hl2] at tr
    rw [hdC] at g5
    cases hp : prv (prQ q) n' C[i] (T1.drop ei) with
    | none =>
     rw [hp] at t2
     have hz : z2 < 0 := t2
     have g5 : F = none := by rw [g5, show n' + 1 - 1 = n' from rfl, forest_none hp]; rfl
     subst g5
     refine ⟨(m, z2), HK h2 x K, ?_, T2, hT2.trans g2, by rw [hh2], fun y hy => by cases hy⟩
     simp -implicitDefEqProofs [r71_16, k71_16, hKi, ia, la, e2, st, ly, rc, hz, tr, kb, ba, bB, bT, bx, -List.all_eq_true]
    | some y =>
     rw [hp] at t2
     obtain ⟨rfl, hz, hT2e⟩ := t2
     have hpp := prv_parts hp
     rw [List.length_drop] at hpp
     obtain ⟨z', hz'⟩ : ∃ z' : Nat, z' = T.length - y.2.2.length := ⟨_, rfl⟩
     have hzz : z2 = (z' : Int) := by rw [hz]; omega
     have hz0 : ¬ (z2 < 0) := by omega
     have hTe : T1.take ei ++ y.2.1 = T2.take z' ∧ T2.drop z' = y.2.2 := by
      have hl : (T1.take ei ++ y.2.1).length = z' := by rw [List.length_append, List.length_take]; omega
      rw [hT2e, ← List.append_assoc]
      exact ⟨(List.take_left' hl).symm, List.drop_left' hl⟩
     have ihl := ihl (i + 1, max m y.1, z', T2) (by show C.length - (i + 1) < C.length - i; omega) ⟨hi, hT2.trans g2, by show z' ≤ T.length; omega, o' ++ y.2.1, by
      show T2.take z' = _
      rw [← hTe.1, g4, List.append_assoc], by
      show F = joinF (o' ++ y.2.1) (forest (prv (prQ q) (n' + 1 - 1)) (C.drop (i + 1)) (max m y.1) (T2.drop z'))
      rw [g5, show n' + 1 - 1 = n' from rfl, forest_some hp, joinF_join, hTe.2]⟩
     simp only [hh2] at ihl
     obtain ⟨u, h', q1, q2⟩ := ihl
     refine ⟨u, h', ?_, q2⟩
     rw [← q1]
     have mx := maxI m y.1
     generalize max m y.1 = mm at *
     subst hzz
     simp -implicitDefEqProofs [k71_16, -Int.natCast_add]
     simp -implicitDefEqProofs [r71_16, k71_16, hKi, ia, la, e2, st, ly, rc, hz0, mx, wi, tr, kb, ba, bB, bT, bx, -List.all_eq_true, -Int.natCast_add]
   ·rintro ⟨u1, u2⟩ h' ⟨T1, hT1, rfl, hy⟩
    cases F with
    | none =>
     subst ho
     refine ⟨T1, [.cells 84 x.c 0, stR.row 84 K], 0, -1, hT1, ?_, (by show (-1 : Int) < 0; decide)⟩
     have e : ∀ h', h' ++ [AObj.cells 84 x.c 0, stR.row 84 K] = HK h' x K := fun h' => rfl
     rw [e]
     simp -implicitDefEqProofs [k71_16]
    | some y =>
     obtain ⟨e1, e2, e3⟩ := hy y rfl
     simp only at e1 e2
     subst ho
     have hat2 : at_ < T1.length := by omega
     have hTa : T1[at_] = T[at_] := by
      have h1 : T1[at_]? = T[at_]? := by
       rw [e3, List.getElem?_append_left (by rw [List.length_take]; omega), List.getElem?_take_of_lt (by omega)]
      rw [List.getElem?_eq_getElem hat2, List.getElem?_eq_getElem hat1] at h1
      exact Option.some.inj h1
     have sk1 := sk K T1 u1 hT1 hat2
     refine ⟨T1.set at_ ⟨T1[at_].kids, u1⟩, [.cells 84 x.c 0, stR.row 84 K], u1, u2, by rw [List.length_set, hT1], ?_, e1, e2, ?_⟩
     ·have e : ∀ h', h' ++ [AObj.cells 84 x.c 0, stR.row 84 K] = HK h' x K := fun h' => rfl
      rw [e]
      simp -implicitDefEqProofs [k71_16, ig, fg1, sk1]
     ·show T1.set at_ ⟨T1[at_].kids, u1⟩ = T.take at_ ++ ((⟨T[at_].kids, y.1⟩ :: y.2.1) ++ y.2.2)
      rw [hTa, e1, e3, List.take_succ_eq_append_getElem hat1, List.append_assoc, List.set_append_right _ _ (by rw [List.length_take]; omega), List.length_take, show at_ - min at_ T.length = 0 by omega]
      rfl
  ·have c1' : ¬ T[at_].kids = ((kidsN b x 6).length : Int) := by rw [hKl]; exact c1
   rw [if_neg c1]
   by_cases c2 : T[at_].kids = 0
   ·rw [if_pos c2]
    have c3 : ¬ ((0 : Int) = ((kidsN b x 6).length : Int)) := by rw [← c2]; exact c1'
    have er : min (x.v + (b.A.drop x.k).sum) b.most = reach (prQ q) s := reach_rel hq hs
    rw [er] at br
    have sk1 := sk (kidsN b x 6) T (reach (prQ q) s) rfl hat1
    rw [hback] at sk1
    refine ⟨T.set at_ ⟨T[at_].kids, reach (prQ q) s⟩, [.cells 84 x.c 0, stR.row 84 (kidsN b x 6)], reach (prQ q) s, (at_ : Int) + 1, List.length_set, ?_, rfl, ?_, ?_⟩
    ·rw [c2] at lk sk1 ⊢
     have e : ∀ h', h' ++ [AObj.cells 84 x.c 0, stR.row 84 (kidsN b x 6)] = HK h' x (kidsN b x 6) := fun h' => rfl
     rw [e]
     simp -implicitDefEqProofs [k71_5, hu, wa, ig, fg0, lk, kS_len, c3, lx, ret0 m54, rB, rx, br, fg1, sk1]
    ·show (at_ : Int) + 1 = (T.length : Int) - ((T.drop (at_ + 1)).length : Nat)
     rw [List.length_drop]; omega
    ·show T.set at_ _ = T.take at_ ++ ([_] ++ T.drop (at_ + 1))
     rw [List.set_eq_take_append_cons_drop, if_pos hat1]; rfl
   ·rw [if_neg c2]
    refine ⟨T, [.cells 84 x.c 0, stR.row 84 (kidsN b x 6)], 0, -1, rfl, ?_, (by show (-1 : Int) < 0; decide)⟩
    rw [hback]
    have e : ∀ h', h' ++ [AObj.cells 84 x.c 0, stR.row 84 (kidsN b x 6)] = HK h' x (kidsN b x 6) := fun h' => rfl
    rw [e]
    simp -implicitDefEqProofs [k71_5, hu, wa, ig, fg0, lk, kS_len, c1', c2]
 ·simp -implicitDefEqProofs [k71_5, kidsN]
 ·rfl
 ·intro nx u hu ihu
  by_cases hu6 : u < 6
  ·have hu' : (u : Int) < 6 := by omega
   have wu : IntKind.i64.wrap ((u : Int) + 1) = ((u + 1 : Nat) : Int) := (wrap64 (by omega) (by omega)).trans (by omega)
   have ihu := ihu (u + 1) (by omega) hu6
   have n1 := ns (u : Int)
   have w1 := nw (u : Int)
   have lx : loadT ⟨some true, some 9⟩ (HK h x (kidsN b x u)) (.pointer (some ⟨h.length, 0, none⟩)) = some x.V := HK_ldx0 hxU
   have st := HK_st (h := h) (x := x) (K := kidsN b x u) (y := zB) (z := (nextB b x u).1) rfl w1
   have ez : zB.c = [.int .i64 0, .int .i64 0, .int .i64 0, .int .i64 0, .int .i64 0, .int .i64 0, .int .i64 0, .int .i64 0, .int .i64 0] := rfl
   rw [ez] at st
   have kb := fun K => kS_bel (h := h) (K := K)
   have hK := kidsN_len b x u
   cases hok : (nextB b x u).2
   ·rw [kidsN_no hu6 hok] at ihu
    rw [hok] at n1
    generalize (nextB b x u).1 = y at *
    simp -implicitDefEqProofs [k71_5, -Int.natCast_add] at ihu
    simp -implicitDefEqProofs [r71_5, k71_5, hu', lx, ret0 m69, bs_flat, rB, rx, n1, HK_len, st, wu, trim_HK hH.hb, kb, bB, bT, bx, -List.all_eq_true, -Int.natCast_add]
    exact ihu
   ·rw [kidsN_yes hu6 hok] at ihu
    rw [hok] at n1
    generalize (nextB b x u).1 = y at *
    have ly : loadT ⟨some true, some 9⟩ (HK h x (kidsN b x u) ++ [.cells 84 y.c 0]) (.pointer (some ⟨h.length + 2, 0, none⟩)) = some y.V := HK_ldn w1
    have li := lit_st (HK h x (kidsN b x u) ++ [.cells 84 y.c 0]) w1
    have ap := HK_app (h := h) (x := x) (K := kidsN b x u) (y := y) (o := .cells 84 y.c 0) (by omega)
    simp -implicitDefEqProofs [k71_5, -Int.natCast_add] at ihu
    simp -implicitDefEqProofs [r71_5, k71_5, hu', lx, ret0 m69, bs_flat, rB, rx, n1, HK_len, st, ly, li, ap, wu, trim_HK hH.hb, kb, bB, bT, bx, -List.all_eq_true, -Int.natCast_add]
    exact ihu
  ·have e6 : u = 6 := by omega
   subst e6
   simp -implicitDefEqProofs [r71_5, k71_5, HK_len, trim_HK0]
end Go.Proofs.Ytcnafncmfiogcaa.Bm
namespace Go.Proofs.Ytcnafncmfiogcaa.Bm
open Go Go.RowKit
open Rg (Rect areaL)
open Cp (Q Nd Br nameB limS limQ mayQ prQ validQ badP hasP bitB next run root take us conts reach prv forest kidsL)
theorem app_r0 {α : Type} {R : Rec α} {el : El} {h : Heap} {lo : Nat} {st : Bool} {u : Value} {m : List α} (hel : el.size = R.m + 1) (hu : sliceCells h el.size u = some (R.flat m, m.length)) (hm : m ≠ []) (hb : m.length * el.bytes ≤ 2 ^ 47) :
  appendT (some el) h lo st (lst true []) u = some (R.sl h.length m, h ++ [R.row el.e m]) := by
 have hm0 : m.length ≠ 0 := fun e => hm (List.eq_nil_of_length_eq_zero e)
 rw [append_lst, hu]
 simp only [Option.bind_some]
 rw [if_neg hm0, if_pos ⟨rfl, by simpa using hb⟩]
 unfold Rec.sl Rec.row
 rw [← Rec.flat_len, hel]
 simp
theorem clone_spec (x : Bool) (T : List Br) (hT : T ≠ []) (hl : T.length ≤ 1000000) (h : Heap) (lo : Nat) : L E 70 [lst x (brR.vals T)] h lo = some (brR.sl h.length T, h ++ [brR.row 41 T]) := by
 have ho : E.orc 70 = some (cloG E0 70) := rfl
 have hR : rfnOf E0 70 = some r70 := by kernel_rfl
 obtain ⟨b, l, rfl⟩ : ∃ b l, T = b :: l := by
  cases T with
  | nil => exact absurd rfl hT
  | cons b l => exact ⟨b, l, rfl⟩
 have he : emptyT [lst x (brR.vals (b :: l))] = false := by cases x <;> rfl
 have ap := app_r0 (R := brR) (el := ⟨41, 2, 16, .agg ⟨[.int .i64 0, .int .i64 0]⟩, ⟨some true, some 2⟩⟩) (h := h) (lo := lo) (st := false) (u := lst x (brR.vals (b :: l))) (m := b :: l) rfl (Rec.cells_tree rfl _) hT (by show (b :: l).length * 16 ≤ 2 ^ 47; omega)
 have eq : aBin E0.P .eql 33 (lst x (brR.vals (b :: l))) (.slice none 0 0) = some (.bool false) := by cases x <;> kernel_rfl
 have lit : buildSliceT (some ⟨41, 2, 16, .agg ⟨[.int .i64 0, .int .i64 0]⟩, ⟨some true, some 2⟩⟩) false h 0 ⟨[]⟩ = some (lst true [], h) := build_none.trans rfl
 rw [L_orc ho, cloG_some he, evF_one hR rfl]
 generalize lst x (brR.vals (b :: l)) = V at *
 simp -implicitDefEqProofs [r70, p70, eq, lit, ap, -append_lst]
theorem clone_none (x : Bool) (h : Heap) (lo : Nat) : L E 70 [lst x []] h lo = some (lst false [], h) := by
 have ho : E.orc 70 = some (cloG E0 70) := rfl
 rw [L_orc ho, cloG_none]
theorem clone_nilV (h : Heap) (lo : Nat) : L E 70 [.slice none 0 0] h lo = some (.slice none 0 0, h) := by
 have ho : E.orc 70 = some (cloG E0 70) := rfl
 have hR : rfnOf E0 70 = some r70 := by kernel_rfl
 have eq : aBin E0.P .eql 33 (.slice none 0 0) (.slice none 0 0) = some (.bool true) := by kernel_rfl
 rw [L_orc ho, cloG_some rfl, evF_one hR rfl]
 simp -implicitDefEqProofs [r70, p70, eq]
theorem pvN {q : Q} {A : List Int} {b : Bp} (hA : AOk A) (hq : Bq q A b) : ∀ n, PvN q A b n
 | 0 => prove_all hA hq 0 fun m hm => by omega
 | n + 1 => prove_all hA hq (n + 1) fun m hm => by
  have : n = m := by omega
  subst this; exact pvN hA hq n
def tightV : Option (List Br) → List Value
 | none => [.slice none 0 0, .bool false]
 | some o => [lst false (brR.vals o), .bool true]
theorem prove_out (B V : Value) (hV : ∀ h, lenT .sl h V = some (.int .i64 0)) (x : BS) (h : Heap) : L E 71 [B, V, .int .i64 0, x.V] h 0 = some (.tuple ⟨[.int .i64 0, .int .i64 (-1)]⟩, h ++ [.cells 84 x.c 0]) := by
 have eV : x.V = .agg ⟨x.c⟩ := rfl
 rw [L_fn F71 rfl, eV]
 simp -implicitDefEqProofs [r71, p71, hV]
theorem prove_outR (B V : Value) (hV : ∀ h, lenT .sl h V = some (.int .i64 0)) (x : BS) : retCall E (L E) 0 false 71 [B, V, .int .i64 0, x.V] [] = some (.tuple ⟨[.int .i64 0, .int .i64 (-1)]⟩, []) := by
 rw [ret3t m71, prove_out B V hV, Option.map_some]
 rfl
set_option maxHeartbeats 2000000 in
theorem proven_spec {q : Q} {A : List Int} {b : Bp} (hA : AOk A) (hq : Bq q A b) (k : Option Bool) (T : List Br) (hk : Rec.Ok k T) (hT : T.length ≤ 1000000) :
  pureCall E.P (L E) 57 [bpV b, brR.o k T] = some (.tuple ⟨tightV (Cp.tight (prQ q) A T)⟩) := by
 have ln : ∀ h, lenT .sl h (brR.o k T) = some (.int .i64 T.length) := fun h => Rec.o_len hk
 have st := start_spec
 rw [pureCall_fn F57 rfl]
 by_cases h4 : 4000 < T.length
 ·have h4' : (4000 : Int) < T.length := by omega
  have e : Cp.tight (prQ q) A T = none := by unfold Cp.tight; rw [if_pos h4]
  rw [e]
  simp -implicitDefEqProofs [r57, p57, ln, h4', tightV]
 have h4' : ¬ ((4000 : Int) < T.length) := by omega
 by_cases h0 : T = []
 ·subst h0
  have e : Cp.tight (prQ q) A [] = none := by
   unfold Cp.tight
   rw [if_neg (by decide), Cp.prv_nil]
  rw [e]
  obtain ⟨V', hV', rc⟩ : ∃ V', (∀ h, lenT .sl h V' = some (.int .i64 0)) ∧ retCall E (L E) 0 false 70 [brR.o k []] [] = some (V', []) := by
   rw [ret3t m70]
   cases k with
   | none => exact ⟨.slice none 0 0, fun _ => rfl, by show (L E _ [.slice none 0 0] [] 0).map _ = _; rw [clone_nilV]; rfl⟩
   | some x => exact ⟨lst false [], fun _ => rfl, by show (L E _ [lst x []] [] 0).map _ = _; rw [clone_none]; rfl⟩
  have po := prove_outR (bpV b) V' hV' bs0
  generalize brR.o k [] = V at *
  generalize bpV b = B at *
  simp -implicitDefEqProofs [r57, p57, ln, rc, ret0 m68, st, bs_scalar, po, tightV]
 ·have rc : retCall E (L E) 0 false 70 [brR.o k T] [] = some (brR.sl 0 T, [brR.row 41 T]) := by
   rw [ret3t m70]
   cases k with
   | none => exact absurd (hk rfl) h0
   | some x =>
    show (L E _ [lst x (brR.vals T)] [] 0).map _ = _
    rw [clone_spec x T h0 hT, Option.map_some]
    rfl
  have hH : PvH [brR.row 41 T] 0 T := ⟨fun n _ => by rw [List.all_cons, Rec.row_bel]; rfl, rfl, by omega⟩
  obtain ⟨T', e, m, z, hT', r, t⟩ := pvN hA hq A.length (root (prQ q) A) bs0 T 0 [brR.row 41 T] 0 (Nat.le_refl _) (root_bs q A) hH
  have r : L E 71 [bpV b, brR.sl 0 T, .int .i64 0, bs0.V] [brR.row 41 T] 0 = some (.tuple ⟨[.int .i64 m, .int .i64 z]⟩, [brR.row 41 T'] ++ e) := r
  have rp : retCall E (L E) 0 false 71 [bpV b, brR.sl 0 T, .int .i64 0, bs0.V] [brR.row 41 T] = some (.tuple ⟨[.int .i64 m, .int .i64 z]⟩, [brR.row 41 T']) := by
   rw [ret3t m71, r, Option.map_some]
   congr 2
   exact trim_K rfl (fun n _ => by rw [List.all_cons, Rec.row_bel]; rfl) rfl
  have rf : reify E.P 8 [brR.row 41 T'] (brR.sl 0 T) = some (lst false (brR.vals T')) := by
   rw [← sl_same hT']
   exact Rec.reify_row (R := brR) (n := 7) rfl sB2 aB2
  rw [List.drop_zero] at t
  have et : Cp.tight (prQ q) A T = (match prv (prQ q) A.length (root (prQ q) A) T with | none => none | some x => if x.2.2 = [] then some x.2.1 else none) := by
   unfold Cp.tight
   rw [if_neg h4]
   cases prv (prQ q) A.length (root (prQ q) A) T <;> rfl
  rw [et]
  generalize bpV b = B at *
  generalize brR.o k T = V at *
  cases hp : prv (prQ q) A.length (root (prQ q) A) T with
  | none =>
   rw [hp] at t
   have t : z < 0 := t
   have hz : ¬ (z = (T.length : Int)) := by omega
   simp -implicitDefEqProofs [r57, p57, ln, h4', rc, ret0 m68, st, bs_scalar, rp, hz, tightV]
  | some y =>
   rw [hp] at t
   obtain ⟨_, hz, hT2⟩ := t
   by_cases hy : y.2.2 = []
   ·rw [hy] at hz hT2
    have hz : z = (T.length : Int) := by rw [hz]; simp
    have hT2 : T' = y.2.1 := by rw [hT2]; simp
    simp only [hy, ↓reduceIte]
    rw [hT2] at rp rf
    simp -implicitDefEqProofs [r57, p57, ln, h4', rc, ret0 m68, st, bs_scalar, rp, hz, rf, tightV]
   ·have hl : y.2.2.length ≠ 0 := fun e => hy (List.eq_nil_of_length_eq_zero e)
    have hz : ¬ (z = (T.length : Int)) := by omega
    simp only [hy, ↓reduceIte]
    simp -implicitDefEqProofs [r57, p57, ln, h4', rc, ret0 m68, st, bs_scalar, rp, hz, tightV]
end Go.Proofs.Ytcnafncmfiogcaa.Bm
namespace Go.Proofs.Ytcnafncmfiogcaa.Bm
open Go Go.RowKit
open Rg (Rect areaL)
open Cp (Q Nd Br nameB limS limQ mayQ prQ validQ badP hasP bitB next run root take us conts reach prv forest kidsL chk lows)
def okA (P : Rooms) (p : Pb) : Option (List Int) := match areasF (lists P) with
 | some A => if validQ p.q = true then some A else none
 | none => none
theorem okA_some {P : Rooms} {p : Pb} {A : List Int} (h : okA P p = some A) : areasF (lists P) = some A ∧ validQ p.q = true := by
 unfold okA at h
 cases ha : areasF (lists P) with
 | none => rw [ha] at h; cases h
 | some B =>
  rw [ha] at h
  by_cases hv : validQ p.q = true
  ·have h : (if validQ p.q = true then some B else none) = some A := h
   rw [if_pos hv] at h
   exact ⟨h, hv⟩
  ·have h : (if validQ p.q = true then some B else none) = some A := h
   rw [if_neg hv] at h; cases h
theorem okA_bq {P : Rooms} {p : Pb} (hp : PbOk p) {A : List Int} (h : okA P p = some A) : AOk A ∧ Bq p.q A (bpOf p.q A) ∧ (∀ a ∈ A, 0 ≤ a) ∧ 0 ≤ p.q.most := by
 obtain ⟨h1, h2⟩ := okA_some h
 obtain ⟨k1, k2⟩ := areas_told h1
 exact ⟨⟨by omega, fun a ha => by have := k2 a ha; omega⟩, bp_of h2 hp.m.2 A, fun a ha => by have := k2 a ha; omega, validQ_most h2⟩
theorem read_ok (x : Bool) (P : Rooms) (hP : RoomsOk P) (p : Pb) (hp : PbOk p) : pureCall E.P (L E) 52 [roomsV x P, .agg ⟨p.cells⟩] =
  some (match okA P p with | some A => .tuple ⟨[bpV (bpOf p.q A), .bool true]⟩ | none => .tuple ⟨[.pointer none, .bool false]⟩) := by
 have h := read_spec x P hP p hp
 have pe : p.val = .agg ⟨p.cells⟩ := rfl
 rw [pe] at h
 rw [h]
 unfold okA
 cases areasF (lists P) with
 | none => rfl
 | some A =>
  cases hv : validQ p.q
  ·simp only [Bool.false_eq_true, ↓reduceIte]; rfl
  ·simp only [↓reduceIte]
def reachV (P : Cp.Pr) (A c : List Int) : List Value := match run P (root P A) c with
 | none => [.int .i64 0, .int .i64 18]
 | some t => [.int .i64 (reach P t), .int .i64 0]
theorem two_st {o : AObj} {y z : BS} (hy : y.U.length = 6) (hz : z.U.length = 6) : storeT (some 9) [o, .cells 84 y.c 0] 0 z.V (.pointer (some ⟨1, 0, none⟩)) = some [o, .cells 84 z.c 0] :=
 (obj_put (h := [o, .cells 84 y.c 0]) (b := 1) (n := 9) (lo := 0) (t := 84) (c := y.c) rfl (bs_len hy) (bs_len hz) (by decide) (Nat.zero_le _)).trans rfl
theorem two_ld {o : AObj} {z : BS} (hz : z.U.length = 6) : loadT ⟨some true, some 9⟩ [o, .cells 84 z.c 0] (.pointer (some ⟨1, 0, none⟩)) = some z.V := obj_all (b := 1) rfl (bs_len hz)
theorem two_ld6 {o : AObj} {z : BS} (hz : z.U.length = 6) : loadT ⟨some false, some 1⟩ [o, .cells 84 z.c 0] (.pointer (some ⟨1, 6, none⟩)) = some (.int .i64 z.v) := obj_load (b := 1) (j := 6) rfl (bs_get6 hz)
set_option maxHeartbeats 1000000 in
theorem bReach_spec (x : Bool) (P : Rooms) (hP : RoomsOk P) (p : Pb) (hp : PbOk p) (kc : Option Bool) (c : List Int) (hkc : Enc.Ok kc c) (hc : c.length ≤ 1000000) :
  pureCall E.P (L E) 25 [roomsV x P, p.val, intE.o kc c] = some (.tuple ⟨match okA P p with | none => [.int .i64 0, .int .i64 1] | some A => reachV (prQ p.q) A c⟩) := by
 have rd := read_ok x P hP p hp
 have sR : settled depth (roomsV x P) = true := rfl
 have rR : ∀ h, reify E.P 8 h (roomsV x P) = some (roomsV x P) := fun h => rfl
 have pe : p.val = .agg ⟨p.cells⟩ := rfl
 have ps7 : settled depth (.agg ⟨p.cells⟩) = true := p.set
 have lp : ∀ t, loadT ⟨some true, some 4⟩ (AObj.cells 26 p.cells 0 :: t) (.pointer (some ⟨0, 0, none⟩)) = some (.agg ⟨p.cells⟩) := fun t => obj_all (b := 0) rfl rfl
 rw [pureCall_fn F25 rfl, pe]
 cases ho : okA P p with
 | none =>
  rw [ho] at rd
  generalize roomsV x P = RV at *
  simp -implicitDefEqProofs [r25, p25, lp, ret1 m52, sR, ps7, rd]
 | some A =>
  rw [ho] at rd
  have rd : pureCall E.P (L E) 52 [roomsV x P, .agg ⟨p.cells⟩] = some (.tuple ⟨[bpV (bpOf p.q A), .bool true]⟩) := rd
  obtain ⟨hA, hq, _, _⟩ := okA_bq hp ho
  have hAb : AOk (bpOf p.q A).A := hA
  have fo := follow_spec (bpOf p.q A) hq.l hAb kc c hkc hc
  have fr := fol_rel hA hq c (root_bs p.q A)
  have fw := folB_w (b := bpOf p.q A) hAb c (bs0_w _)
  have br := breach_spec (bpOf p.q A) hq.l hAb
  have rB : ∀ h, reify E.P 8 h (bpV (bpOf p.q A)) = some (bpV (bpOf p.q A)) := fun h => rfl
  have rc : ∀ h, reify E.P 8 h (intE.o kc c) = some (intE.o kc c) := fun h => Enc.o_reify
  generalize hbB : bpV (bpOf p.q A) = B at *
  generalize roomsV x P = RV at *
  generalize intE.o kc c = CV at *
  generalize hy : folB (bpOf p.q A) bs0 c = y at *
  obtain ⟨y, ok⟩ := y
  simp only at fo fr fw
  have st := two_st (o := AObj.cells 26 p.cells 0) (y := zB) (z := y) rfl fw.u
  have ez : zB.c = [.int .i64 0, .int .i64 0, .int .i64 0, .int .i64 0, .int .i64 0, .int .i64 0, .int .i64 0, .int .i64 0, .int .i64 0] := rfl
  rw [ez] at st
  have ld := two_ld (o := AObj.cells 26 p.cells 0) (z := y) fw.u
  have ry := fun h => bs_reify y h 6
  show _ = some (Value.tuple ⟨reachV (prQ p.q) A c⟩)
  unfold reachV
  cases hr : run (prQ p.q) (root (prQ p.q) A) c with
  | none =>
   rw [hr] at fr
   have e : ok = false := fr.1
   subst e
   simp -implicitDefEqProofs [r25, p25, lp, ret1 m52, sR, ps7, rd, ret0 m53, rB, rc, fo, bs_flat, st]
  | some t =>
   rw [hr] at fr
   have e : ok = true := fr.1
   subst e
   have bs := fr.2 t rfl
   have br := br y fw
   rw [reach_rel hq bs] at br
   simp -implicitDefEqProofs [r25, p25, lp, ret1 m52, sR, ps7, rd, ret0 m53, ret0 m54, rB, rc, fo, bs_flat, st, ld, ry, br]
def tightenV : Option (List Br) → List Value
 | none => [.slice none 0 0, .int .i64 19]
 | some o => [lst false (brR.vals o), .int .i64 0]
set_option maxHeartbeats 1000000 in
theorem bTighten_spec (x : Bool) (P : Rooms) (hP : RoomsOk P) (p : Pb) (hp : PbOk p) (k : Option Bool) (T : List Br) (hk : Rec.Ok k T) (hT : T.length ≤ 1000000) :
  pureCall E.P (L E) 27 [roomsV x P, p.val, brR.o k T] = some (.tuple ⟨match okA P p with | none => [.slice none 0 0, .int .i64 1] | some A => tightenV (Cp.tight (prQ p.q) A T)⟩) := by
 have rd := read_ok x P hP p hp
 have sR : settled depth (roomsV x P) = true := rfl
 have pe : p.val = .agg ⟨p.cells⟩ := rfl
 have ps7 : settled depth (.agg ⟨p.cells⟩) = true := p.set
 have lp : ∀ t, loadT ⟨some true, some 4⟩ (AObj.cells 26 p.cells 0 :: t) (.pointer (some ⟨0, 0, none⟩)) = some (.agg ⟨p.cells⟩) := fun t => obj_all (b := 0) rfl rfl
 rw [pureCall_fn F27 rfl, pe]
 cases ho : okA P p with
 | none =>
  rw [ho] at rd
  generalize roomsV x P = RV at *
  simp -implicitDefEqProofs [r27, p27, lp, ret1 m52, sR, ps7, rd]
 | some A =>
  rw [ho] at rd
  have rd : pureCall E.P (L E) 52 [roomsV x P, .agg ⟨p.cells⟩] = some (.tuple ⟨[bpV (bpOf p.q A), .bool true]⟩) := rd
  obtain ⟨hA, hq, _, _⟩ := okA_bq hp ho
  have pv := proven_spec hA hq k T hk hT
  have sB : settled depth (bpV (bpOf p.q A)) = true := rfl
  have sT : settled depth (brR.o k T) = true := Rec.o_set
  generalize bpV (bpOf p.q A) = B at *
  generalize roomsV x P = RV at *
  generalize brR.o k T = TV at *
  show _ = some (Value.tuple ⟨tightenV (Cp.tight (prQ p.q) A T)⟩)
  cases ht : Cp.tight (prQ p.q) A T with
  | none =>
   rw [ht] at pv
   unfold tightV at pv
   simp -implicitDefEqProofs [r27, p27, lp, ret1 m52, sR, ps7, rd, ret1 m57, sB, sT, pv, tightenV]
  | some o =>
   rw [ht] at pv
   unfold tightV at pv
   simp -implicitDefEqProofs [r27, p27, lp, ret1 m52, sR, ps7, rd, ret1 m57, sB, sT, pv, tightenV]
theorem tight_len {P : Cp.Pr} {A : List Int} {T o : List Br} (h : Cp.tight P A T = some o) : o.length = T.length ∧ o ≠ [] := by
 have h1 := congrArg List.length (Cp.tight_read h)
 have h2 : o.length = T.length := by simpa [kidsL] using h1
 refine ⟨h2, fun e => ?_⟩
 subst e
 have : T = [] := List.eq_nil_of_length_eq_zero h2.symm
 subst this
 obtain ⟨_, m, hm⟩ := Cp.tight_iff.1 h
 rw [Cp.prv_nil] at hm; cases hm
theorem lows_cons (x y : Br) (l o : List Br) : lows (x :: l) (y :: o) = (decide (x.bound < y.bound) || lows l o) := rfl
def codeC : Nat → Int
 | 0 => 0
 | 1 => 18
 | _ => 19
theorem brV_index (k : Option Bool) (T : List Br) (hk : Rec.Ok k T) (i : Nat) (hi : i < T.length) : indexAddrT (.sl 41 ⟨some true, some 2⟩) (brR.o k T) (.int .i64 (i : Int)) = some (cptr (.agg ⟨[.int .i64 T[i].kids, .int .i64 T[i].bound]⟩)) := Rec.o_index (R := brR) rfl hk hi
theorem br_f1 (a b : Int) : fieldAddrT ⟨some true, some 2⟩ (some (1, ⟨some false, some 1⟩)) (cptr (.agg ⟨[.int .i64 a, .int .i64 b]⟩)) = some (cptr (.int .i64 b)) := rfl
theorem br_f0 (a b : Int) : fieldAddrT ⟨some true, some 2⟩ (some (0, ⟨some false, some 1⟩)) (cptr (.agg ⟨[.int .i64 a, .int .i64 b]⟩)) = some (cptr (.int .i64 a)) := rfl
set_option maxHeartbeats 2000000 in
theorem bCheck_spec (x : Bool) (P : Rooms) (hP : RoomsOk P) (p : Pb) (hp : PbOk p) (kc : Option Bool) (c : List Int) (hkc : Enc.Ok kc c) (hc : c.length ≤ 1000000) (v : Int) (k : Option Bool) (T : List Br) (hk : Rec.Ok k T) (hT : T.length ≤ 1000000) :
  pureCall E.P (L E) 30 [roomsV x P, p.val, intE.o kc c, .int .i64 v, brR.o k T] = some (.int .i64 (match okA P p with | none => 1 | some A => codeC (chk (prQ p.q) A c v T))) := by
 have rd := read_ok x P hP p hp
 have sR : settled depth (roomsV x P) = true := rfl
 have pe : p.val = .agg ⟨p.cells⟩ := rfl
 have ps7 : settled depth (.agg ⟨p.cells⟩) = true := p.set
 have lp : ∀ t, loadT ⟨some true, some 4⟩ (AObj.cells 26 p.cells 0 :: t) (.pointer (some ⟨0, 0, none⟩)) = some (.agg ⟨p.cells⟩) := fun t => obj_all (b := 0) rfl rfl
 rw [pureCall_fn F30 rfl, pe]
 cases ho : okA P p with
 | none =>
  rw [ho] at rd
  have fp : flat (.pointer none) = true := rfl
  generalize roomsV x P = RV at *
  simp -implicitDefEqProofs [r30, p30, lp, ret1 m52, sR, ps7, rd]
 | some A =>
  rw [ho] at rd
  have rd : pureCall E.P (L E) 52 [roomsV x P, .agg ⟨p.cells⟩] = some (.tuple ⟨[bpV (bpOf p.q A), .bool true]⟩) := rd
  obtain ⟨hA, hq, _, _⟩ := okA_bq hp ho
  have hAb : AOk (bpOf p.q A).A := hA
  have fo := follow_spec (bpOf p.q A) hq.l hAb kc c hkc hc
  have fr := fol_rel hA hq c (root_bs p.q A)
  have fw := folB_w (b := bpOf p.q A) hAb c (bs0_w _)
  have pv := proven_spec hA hq k T hk hT
  have sB : settled depth (bpV (bpOf p.q A)) = true := rfl
  have sT : settled depth (brR.o k T) = true := Rec.o_set
  have rB : ∀ h, reify E.P 8 h (bpV (bpOf p.q A)) = some (bpV (bpOf p.q A)) := fun h => rfl
  have rc : ∀ h, reify E.P 8 h (intE.o kc c) = some (intE.o kc c) := fun h => Enc.o_reify
  have ixT := brV_index k T hk
  have bT : ∀ d n, below (d + 1) n (brR.o k T) = true := fun d n => Rec.o_bel
  generalize hbB : bpV (bpOf p.q A) = B at *
  generalize roomsV x P = RV at *
  generalize intE.o kc c = CV at *
  generalize brR.o k T = TV at *
  generalize hy : folB (bpOf p.q A) bs0 c = y at *
  obtain ⟨y, ok⟩ := y
  simp only at fo fr fw
  have st := two_st (o := AObj.cells 26 p.cells 0) (y := zB) (z := y) rfl fw.u
  have ez : zB.c = [.int .i64 0, .int .i64 0, .int .i64 0, .int .i64 0, .int .i64 0, .int .i64 0, .int .i64 0, .int .i64 0, .int .i64 0] := rfl
  rw [ez] at st
  have l6 := two_ld6 (o := AObj.cells 26 p.cells 0) (z := y) fw.u
  show _ = some (Value.int .i64 (codeC (chk (prQ p.q) A c v T)))
  unfold chk
  cases hr : run (prQ p.q) (root (prQ p.q) A) c with
  | none =>
   rw [hr] at fr
   have e : ok = false := fr.1
   subst e
   simp -implicitDefEqProofs [r30, p30, lp, ret1 m52, sR, ps7, rd, ret0 m53, rB, rc, fo, bs_flat, st, codeC]
  | some t =>
   rw [hr] at fr
   have e : ok = true := fr.1
   subst e
   have bs := fr.2 t rfl
   rw [bs.v] at l6
   simp only
   by_cases hv : t.v = v
   case neg =>
    rw [if_neg hv]
    simp -implicitDefEqProofs [r30, p30, lp, ret1 m52, sR, ps7, rd, ret0 m53, rB, rc, fo, bs_flat, st, l6, hv, codeC]
   rw [if_pos hv]
   cases ht : Cp.tight (prQ p.q) A T with
   | none =>
    rw [ht] at pv
    unfold tightV at pv
    simp -implicitDefEqProofs [r30, p30, lp, ret1 m52, sR, ps7, rd, ret0 m53, rB, rc, fo, bs_flat, st, l6, hv, ret1 m57, sB, sT, pv, codeC]
   | some o =>
    rw [ht] at pv
    have pv : pureCall E.P (L E) 57 [B, TV] = some (.tuple ⟨[lst false (brR.vals o), .bool true]⟩) := pv
    obtain ⟨hol, hone⟩ := tight_len ht
    have ixO := brV_index (some false) o Rec.ok_some
    have ixO : ∀ (i : Nat) (hi : i < o.length), indexAddrT (.sl 41 ⟨some true, some 2⟩) (lst false (brR.vals o)) (.int .i64 (i : Int)) = some (cptr (.agg ⟨[.int .i64 o[i].kids, .int .i64 o[i].bound]⟩)) := ixO
    have lO : ∀ h, lenT .sl h (lst false (brR.vals o)) = some (.int .i64 o.length) := fun h => Rec.o_len (R := brR) (k := some false) Rec.ok_some
    have h0 : 0 < o.length := List.length_pos_iff.2 hone
    have i0 : indexAddrT (.sl 41 ⟨some true, some 2⟩) (lst false (brR.vals o)) (.int .i64 0) = some (cptr (.agg ⟨[.int .i64 o[0].kids, .int .i64 o[0].bound]⟩)) := ixO 0 h0
    have e0 : o.headD ⟨0, 0⟩ = o[0] := by
     cases o with
     | nil => exact absurd rfl hone
     | cons a l => rfl
    have bO : ∀ d n, below (d + 1) n (lst false (brR.vals o)) = true := fun d n => rfl
    generalize lst false (brR.vals o) = OV at *
    simp only
    rw [e0]
    by_cases hb : v < o[0].bound
    ·rw [if_pos (.inl hb)]
     simp -implicitDefEqProofs [r30, p30, lp, ret1 m52, sR, ps7, rd, ret0 m53, rB, rc, fo, bs_flat, st, l6, hv, ret1 m57, sB, sT, pv, i0, hb, codeC]
    ·simp -implicitDefEqProofs [r30, p30, lp, ret1 m52, sR, ps7, rd, ret0 m53, rB, rc, fo, bs_flat, st, l6, hv, ret1 m57, sB, sT, pv, i0, hb, lO]
     rw [LL_for (γ := Unit) o () (fun i _ => [(57, .int .i64 i)]) (fun _ _ => [AObj.cells 26 p.cells 0, .cells 84 y.c 0])
      (fun i rest _ => if lows (T.drop i) rest = false then (.exit 0, [(57, undef)], [AObj.cells 26 p.cells 0, .cells 84 y.c 0]) else (.ret, [(10, .int .i64 19), (57, undef)], [AObj.cells 26 p.cells 0, .cells 84 y.c 0])) (fun _ _ => True) (by omega) trivial]
     ·rw [List.drop_zero]
      cases hl : lows T o
      ·simp -implicitDefEqProofs [k30_11, codeC]
      ·simp -implicitDefEqProofs [k30_11, codeC]
     ·simp -implicitDefEqProofs [k30_11]
     ·rfl
     ·intro nx i _ hi _
      have e : ∀ l, lows l [] = false := fun l => by cases l <;> rfl
      rw [e]
      simp -implicitDefEqProofs [r30_11, k30_11, hi, trim_le]
     ·intro nx i w rest _ hi hw hd hwi _ ih
      have ih := ih () trivial
      have hi' : (i : Int) < (o.length : Int) := by omega
      have xo := ixO i hi
      rw [hw] at xo
      have hiT : i < T.length := by omega
      have xt := ixT i hiT
      have hdT : T.drop i = T[i] :: T.drop (i + 1) := List.drop_eq_getElem_cons hiT
      rw [hdT, lows_cons]
      by_cases hlt : T[i].bound < w.bound
      ·simp -implicitDefEqProofs [r30_11, k30_11, hi', xo, xt, hlt, trim_le]
      ·simp -implicitDefEqProofs [k30_11] at ih
       simp -implicitDefEqProofs [r30_11, k30_11, hi', xo, xt, hlt, hwi, trim_le]
       exact ih
end Go.Proofs.Ytcnafncmfiogcaa.Bm
