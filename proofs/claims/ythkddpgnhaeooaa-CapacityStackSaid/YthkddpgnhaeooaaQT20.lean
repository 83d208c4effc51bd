/-
 Chapter 25: the search, walked: what stands where. Conditions: none.
-/
import Derived.Test.YthkddpgnhaeooaaQT16
import Derived.Test.YthkddpgnhaeooaaQT19
import Derived.Test.YthkddpgnhaeooaaQT15
namespace Go.Proofs.Ythkddpgnhaeooaa.Bm
open Go Go.RowKit
variable {h : Heap} {P : Program}
def cAt (b j : Nat) : Value := .pointer (some ⟨b, j, none⟩)
theorem arr_idx {len b off u : Nat} {k : IntKind} {g : Option Bool} (hu : u < len) : indexAddrT (.arr len ⟨g, some 1⟩) (.pointer (some ⟨b, off, none⟩)) (.int k (u : Int)) = some (cAt b (off + u)) := by
 show (if 0 ≤ (u : Int) ∧ (u : Int) < (len : Int) then (some 1).map fun s => Value.pointer (some (shift ⟨b, off, none⟩ ((u : Int).toNat * s))) else none) = _
 rw [if_pos ⟨by omega, by omega⟩, Int.toNat_natCast]
 simp [shift, cAt]
theorem obj_row {b : Nat} {t : TypeId} {c : List Value} (hob : h[b]? = some (.cells t c 0)) {j : Nat} : rowOf h ⟨b, j, none⟩ = some c := by
 unfold rowOf
 show (match h[b]? with | some (.cells _ c g) => _ | _ => none) = _
 rw [hob]; rfl
theorem obj_load {b j : Nat} {t : TypeId} {c : List Value} {v : Value} {sz : Option Nat} (hob : h[b]? = some (.cells t c 0)) (hc : c[j]? = some v) : loadT ⟨some false, sz⟩ h (cAt b j) = some v := by
 unfold cAt
 rw [load_one, obj_row hob, Option.bind_some, hc]
theorem obj_store {b j lo : Nat} {t : TypeId} {c : List Value} {v : Value} (hob : h[b]? = some (.cells t c 0)) (hj : j < c.length) (hlo : lo ≤ b) (hv : cellsOf v = some [v]) : storeT (some 1) h lo v (cAt b j) = some (h.set b (.cells t (c.set j v) 0)) := by
 unfold cAt
 rw [store_ptr, hv, Option.bind_some, if_pos (show 1 = [v].length from rfl)]
 unfold wrN
 show (match h[b]? with | some (.cells t c g) => _ | _ => none) = _
 rw [hob]
 show (if _ then _ else none) = _
 rw [if_pos ⟨hlo, rfl, by simp, by simp; omega⟩]
 show some (h.set b (.cells t (splice c j [v]) 0)) = _
 rw [splice_one hj]
theorem obj_all {b n : Nat} {t : TypeId} {c : List Value} (hob : h[b]? = some (.cells t c 0)) (hn : c.length = n) : loadT ⟨some true, some n⟩ h (cAt b 0) = some (.agg ⟨c⟩) := by
 unfold cAt
 rw [load_agg, obj_row hob, Option.bind_some]
 show (if 0 + n ≤ c.length then some (Value.agg ((c.drop 0).take n).toArray) else none) = _
 rw [if_pos (by omega), List.drop_zero, List.take_of_length_le (by omega)]
theorem obj_put {b n lo : Nat} {t : TypeId} {c d : List Value} (hob : h[b]? = some (.cells t c 0)) (hn : c.length = n) (hd : d.length = n) (h0 : 0 < n) (hlo : lo ≤ b) : storeT (some n) h lo (.agg ⟨d⟩) (cAt b 0) = some (h.set b (.cells t d 0)) := by
 unfold cAt
 rw [store_ptr, cellsOf_agg, Option.bind_some, if_pos hd.symm]
 unfold wrN
 show (match h[b]? with | some (.cells t c g) => _ | _ => none) = _
 rw [hob]
 show (if _ then _ else none) = _
 rw [if_pos ⟨hlo, rfl, by show 0 < d.length; omega, by show 0 + d.length ≤ c.length; omega⟩]
 show some (h.set b (.cells t (splice c 0 d) 0)) = _
 unfold splice
 rw [List.take_zero, List.nil_append, List.drop_of_length_le (by omega), List.append_nil]
theorem obj_frz {b lo : Nat} {t : TypeId} {c : List Value} (hob : h[b]? = some (.cells t c 0)) (hs : szOf P t = some c.length) (ha : aggT P t = some true) (hlo : lo ≤ b) (hc : c.all (settled 8) = true) :
  freezeV P depth lo h (cAt b 0) = some (cptr (.agg ⟨c⟩), h.set b .dead) := by
 unfold cAt
 rw [frz_ptr8 hob hs ha hlo, if_pos hc]; rfl
theorem isCp_cptr {v : Value} : isCp (cptr v) = true := rfl
theorem rop_loadC {E : Env} {C : Callee} {lo : Nat} {k : TI} {x : Operand} {ρ : Operand → Value} (hc : isCp (ρ x) = true) : ropR E C lo true (.load k x) ρ h = (loadT k h (ρ x)).map (·, h) := by
 show (if (true && !(isCp (ρ x) || isLow lo h (ρ x))) = true then none else _) = _
 rw [hc]; rfl
open Cp (Q nameB limS limQ mayQ prQ validQ badP hasP bitB)
def Pb.q (p : Pb) : Q := ⟨p.uses, p.left, p.most, p.never⟩
def stC (av : Value) (p : Pb) (L : List Int) (v : Int) : List Value := av :: (p.cells ++ (intE.vals L ++ [.int .i64 v]))
def stV (av : Value) (p : Pb) (L : List Int) (v : Int) : Value := .agg ⟨stC av p L v⟩
def stO (av : Value) (p : Pb) (L : List Int) (v : Int) : AObj := .cells 77 (stC av p L v) 0
theorem pb_len (p : Pb) : p.cells.length = 4 := rfl
theorem st_len {av : Value} {p : Pb} {L : List Int} {v : Int} (hL : L.length = 6) : (stC av p L v).length = 12 := by
 unfold stC
 simp [pb_len, Enc.vals_len, hL]
theorem st_left {av : Value} {p : Pb} {L : List Int} {v : Int} {u : Nat} (hu : u < L.length) : (stC av p L v)[5 + u]? = some (.int .i64 L[u]) := by
 unfold stC
 rw [show 5 + u = (4 + u) + 1 by omega, List.getElem?_cons_succ, List.getElem?_append_right (by rw [pb_len]; omega), pb_len, List.getElem?_append_left (by rw [Enc.vals_len]; omega), show 4 + u - 4 = u by omega]
 exact Enc.vals_get hu
theorem st_set {av : Value} {p : Pb} {L : List Int} {v z : Int} {u : Nat} (hu : u < L.length) : (stC av p L v).set (5 + u) (.int .i64 z) = stC av p (L.set u z) v := by
 unfold stC
 rw [show 5 + u = (4 + u) + 1 by omega, List.set_cons_succ, List.set_append_right _ _ (by rw [pb_len]; omega), pb_len, show 4 + u - 4 = u by omega, List.set_append_left _ _ (by rw [Enc.vals_len]; omega)]
 rw [show Value.int .i64 z = intE.e z from rfl, Enc.vals_put]
theorem pb_all (p : Pb) : p.cells.all (settled 8) = true := by
 unfold Pb.cells
 simp only [List.all_cons, List.all_nil, set_int, Rec.o_set, Bool.and_self]
theorem st_all {av : Value} {p : Pb} {L : List Int} {v : Int} (ha : settled 8 av = true) : (stC av p L v).all (settled 8) = true := by
 unfold stC
 rw [List.all_cons, ha, List.all_append, pb_all, List.all_append, Enc.vals_set]; rfl
theorem pb_bel (p : Pb) (d n : Nat) : p.cells.all (below (d + 1) n) = true := by
 unfold Pb.cells
 simp only [List.all_cons, List.all_nil, bel_int, Rec.o_bel, Bool.and_self]
theorem ints_bel (L : List Int) (d n : Nat) : (intE.vals L).all (below (d + 1) n) = true := by
 rw [List.all_eq_true]
 intro v hv
 obtain ⟨a, _, rfl⟩ := List.mem_map.1 hv
 rfl
theorem st_bel {av : Value} {p : Pb} {L : List Int} {v : Int} {d n : Nat} (ha : below (d + 1) n av = true) : (stC av p L v).all (below (d + 1) n) = true := by
 have e := ints_bel L d n
 unfold stC
 rw [List.all_cons, ha, List.all_append, pb_bel, List.all_append, e]; rfl
theorem cat_bel {b j d n : Nat} : below (d + 1) n (cAt b j) = decide (b < n) := rfl
def limN (q : Q) (n : Nat) : List Int := (List.range 6).map fun i => if i < n then limQ q i else 0
theorem limN_len (q : Q) (n : Nat) : (limN q n).length = 6 := by simp [limN]
theorem limN_get (q : Q) (n i : Nat) (hi : i < (limN q n).length) : (limN q n)[i] = if i < n then limQ q i else 0 := by simp [limN]
theorem limN_set (q : Q) (n : Nat) (l : Int) (h : l = limQ q n) : (limN q n).set n l = limN q (n + 1) := by
 apply List.ext_getElem
 ·simp [limN]
 ·intro i h1 h2
  rw [List.getElem_set, limN_get]
  by_cases e : n = i
  ·subst e; rw [if_pos rfl, limN_get, if_pos (by omega), h]
  ·rw [if_neg e, limN_get]
   by_cases q : i < n
   ·rw [if_pos q, if_pos (by omega)]
   ·rw [if_neg q, if_neg (by omega)]
def limL (q : Q) : List Int := limN q 6
def zSt : List Value := [.slice none 0 0, .int .i64 0, .slice none 0 0, .int .i64 0, .slice none 0 0, .int .i64 0, .int .i64 0, .int .i64 0, .int .i64 0, .int .i64 0, .int .i64 0, .int .i64 0]
def namesV : List Value := [.string ⟨⟨[104, 111, 109, 101]⟩⟩, .string ⟨⟨[115, 104, 111, 112]⟩⟩, .string ⟨⟨[119, 111, 114, 107]⟩⟩, .string ⟨⟨[112, 97, 114, 107]⟩⟩, .string ⟨⟨[112, 108, 97, 110, 116]⟩⟩, .string ⟨⟨[104, 97, 108, 108]⟩⟩]
theorem names_build : buildT (.arr ⟨[Value.string ⟨⟨[]⟩⟩, Value.string ⟨⟨[]⟩⟩, Value.string ⟨⟨[]⟩⟩, Value.string ⟨⟨[]⟩⟩, Value.string ⟨⟨[]⟩⟩, Value.string ⟨⟨[]⟩⟩]⟩ 1) #[(0, .string ⟨⟨[104, 111, 109, 101]⟩⟩), (1, .string ⟨⟨[115, 104, 111, 112]⟩⟩), (2, .string ⟨⟨[119, 111, 114, 107]⟩⟩), (3, .string ⟨⟨[112, 97, 114, 107]⟩⟩), (4, .string ⟨⟨[112, 108, 97, 110, 116]⟩⟩), (5, .string ⟨⟨[104, 97, 108, 108]⟩⟩)] = some (.agg ⟨namesV⟩) := rfl
theorem names_index (u : Nat) (hu : u < 6) : indexT (.arr 6 ⟨some false, some 1⟩) (.agg ⟨namesV⟩) (.int .i64 (u : Int)) = some (.string (nameB u)) := by
 have : u = 0 ∨ u = 1 ∨ u = 2 ∨ u = 3 ∨ u = 4 ∨ u = 5 := by omega
 rcases this with rfl | rfl | rfl | rfl | rfl | rfl <;> rfl
theorem st_build (ka : Option Bool) (A : List Int) (a b d e : Value) : buildT (.fs ⟨zSt⟩ ⟨[(0, 1), (1, 4), (5, 6), (11, 1)]⟩) #[(0, intE.o ka A), (1, .agg ⟨[a, b, d, e]⟩)] = some (.agg ⟨intE.o ka A :: ([a, b, d, e] ++ [.int .i64 0, .int .i64 0, .int .i64 0, .int .i64 0, .int .i64 0, .int .i64 0, .int .i64 0])⟩) := by
 cases ka with
 | none => rfl
 | some x => cases x <;> rfl
open Cp (Q nameB limS limQ mayQ prQ validQ badP hasP bitB)
theorem minI (a b : Int) : aMinMax false [.int .i64 a, .int .i64 b] = some (.int .i64 (min a b)) := by
 show some (Value.int .i64 (if b < a then b else a)) = _
 congr 2
 omega
theorem maxI (a b : Int) : aMinMax true [.int .i64 a, .int .i64 b] = some (.int .i64 (max a b)) := by
 show some (Value.int .i64 (if b > a then b else a)) = _
 congr 2
 omega
set_option maxHeartbeats 1000000 in
theorem begin_spec (p : Pb) (hp : PbOk p) (ka : Option Bool) (A : List Int) : pureCall E.P (L E) 29 [intE.o ka A, p.val] = some (stV (intE.o ka A) p (limL p.q) 0) := by
 have so : settled 8 (intE.o ka A) = true := Enc.o_set
 have oo : one (intE.o ka A) = true := Enc.o_one
 have bo : ∀ n, below 8 n (intE.o ka A) = true := fun n => Enc.o_bel
 have sb := fun (L : List Int) => st_all (p := p) (L := L) (v := 0) so
 have bb := fun (L : List Int) (n : Nat) => st_bel (d := 7) (p := p) (L := L) (v := 0) (bo n)
 have bod : ∀ d n, below (d + 1) n (intE.o ka A) = true := fun d n => Enc.o_bel
 have nv : ∀ d n, namesV.all (below (d + 1) n) = true := fun d n => rfl
 have pn : ∀ d n, below (d + 1) n (pairR.o p.kn p.never) = true := fun d n => Rec.o_bel
 have pb := pb_bel p
 have sbu : buildT (.fs ⟨zSt⟩ ⟨[(0, 1), (1, 4), (5, 6), (11, 1)]⟩) #[(0, intE.o ka A), (1, .agg ⟨p.cells⟩)] = _ := st_build ka A _ _ _ _
 generalize intE.o ka A = av at *
 have ln := fun h => Rec.o_len (R := entR) (h := h) hp.kl
 have ix := fun (i : Nat) (hi : i < p.left.length) => Rec.o_index (R := entR) (s := 2) (t := 53) (kk := .i64) rfl hp.kl hi
 have l0 : ∀ t, loadT ⟨some true, some 4⟩ (AObj.cells 26 p.cells 0 :: t) (.pointer (some ⟨0, 0, none⟩)) = some (.agg ⟨p.cells⟩) := fun t => obj_all (b := 0) rfl rfl
 have l1 : ∀ t, loadT ⟨some false, some 1⟩ (AObj.cells 26 p.cells 0 :: t) (.pointer (some ⟨0, 1, none⟩)) = some (entR.o p.kl p.left) := fun t => obj_load (b := 0) (j := 1) rfl rfl
 have l2 : ∀ t, loadT ⟨some false, some 1⟩ (AObj.cells 26 p.cells 0 :: t) (.pointer (some ⟨0, 2, none⟩)) = some (.int .i64 p.most) := fun t => obj_load (b := 0) (j := 2) rfl rfl
 have bl : ∀ d n, below (d + 1) n (entR.o p.kl p.left) = true := fun d n => Rec.o_bel
 have nl := hp.nl
 have s0 : ∀ a b, storeT (some 12) [a, b, AObj.cells 77 zSt 0] 0 (.agg ⟨av :: (p.cells ++ [.int .i64 0, .int .i64 0, .int .i64 0, .int .i64 0, .int .i64 0, .int .i64 0, .int .i64 0])⟩) (.pointer (some ⟨2, 0, none⟩)) = some [a, b, AObj.cells 77 (stC av p (limN p.q 0) 0) 0] := fun a b =>
  (obj_put (h := [a, b, AObj.cells 77 zSt 0]) (b := 2) (n := 12) (lo := 0) (t := 77) (c := zSt) (d := av :: (p.cells ++ [.int .i64 0, .int .i64 0, .int .i64 0, .int .i64 0, .int .i64 0, .int .i64 0, .int .i64 0])) rfl rfl rfl (by decide) (Nat.zero_le _)).trans rfl
 rw [pureCall_fn F29 rfl]
 unfold Pb.val
 unfold zSt at s0 sbu
 simp -implicitDefEqProofs [r29, p29, l0, names_build, sbu]
 have ai := fun (u : Nat) (hu : u < 6) => arr_idx (b := 2) (off := 5) (len := 6) (k := .i64) (g := some false) hu
 have lC := fun (L : List Int) (hL : L.length = 6) => st_len (av := av) (p := p) (v := 0) hL
 have ll := limN_len p.q
 have stf : ∀ (e : Heap) (L : List Int) (u : Nat) (z : Int), L.length = 6 → u < 6 → storeT (some 1) (AObj.cells 26 p.cells 0 :: AObj.cells 77 zSt 0 :: AObj.cells 77 (stC av p L 0) 0 :: e) 0 (.int .i64 z) (cAt 2 (5 + u)) =
   some (AObj.cells 26 p.cells 0 :: AObj.cells 77 zSt 0 :: AObj.cells 77 (stC av p (L.set u z) 0) 0 :: e) := fun e L u z hL hu => by
  rw [obj_store (b := 2) (lo := 0) (t := 77) (c := stC av p L 0) rfl (by rw [st_len hL]; omega) (Nat.zero_le _) rfl, st_set (by omega)]; rfl
 have ldf : ∀ (e : Heap) (L : List Int) (u : Nat) (hL : L.length = 6) (hu : u < 6), loadT ⟨some false, some 1⟩ (AObj.cells 26 p.cells 0 :: AObj.cells 77 zSt 0 :: AObj.cells 77 (stC av p L 0) 0 :: e) (cAt 2 (5 + u)) = some (.int .i64 (L[u]'(by omega))) :=
  fun e L u hL hu => obj_load (b := 2) (t := 77) (c := stC av p L 0) rfl (st_left (by omega))
 have lda : loadT ⟨some true, some 12⟩ [AObj.cells 26 p.cells 0, AObj.cells 77 zSt 0, AObj.cells 77 (stC av p (limL p.q) 0) 0] (.pointer (some ⟨2, 0, none⟩)) = some (.agg ⟨stC av p (limL p.q) 0⟩) := obj_all (b := 2) rfl (lC _ (ll 6))
 have sta : storeT (some 12) [AObj.cells 26 p.cells 0, AObj.cells 77 zSt 0, AObj.cells 77 (stC av p (limL p.q) 0) 0] 0 (.agg ⟨stC av p (limL p.q) 0⟩) (.pointer (some ⟨1, 0, none⟩)) = some [AObj.cells 26 p.cells 0, AObj.cells 77 (stC av p (limL p.q) 0) 0, AObj.cells 77 (stC av p (limL p.q) 0) 0] :=
  (obj_put (h := [AObj.cells 26 p.cells 0, AObj.cells 77 zSt 0, AObj.cells 77 (stC av p (limL p.q) 0) 0]) (b := 1) (n := 12) (lo := 0) (t := 77) (c := zSt) rfl rfl (lC _ (ll 6)) (by decide) (Nat.zero_le _)).trans rfl
 have ldr : loadT ⟨some true, some 12⟩ [AObj.cells 26 p.cells 0, AObj.cells 77 (stC av p (limL p.q) 0) 0, AObj.cells 77 (stC av p (limL p.q) 0) 0] (.pointer (some ⟨1, 0, none⟩)) = some (.agg ⟨stC av p (limL p.q) 0⟩) := obj_all (b := 1) rfl (lC _ (ll 6))
 rw [LL_rec (α := Nat) 0 (fun u => [(14, .int .i64 (u : Int))]) (fun u => [AObj.cells 26 p.cells 0, AObj.cells 77 zSt 0, AObj.cells 77 (stC av p (limN p.q u) 0) 0])
  (fun _ => (.exit 0, [(14, undef)], [AObj.cells 26 p.cells 0, AObj.cells 77 zSt 0, AObj.cells 77 (stC av p (limL p.q) 0) 0])) (fun u => u ≤ 6) (fun u => 6 - u) (Nat.zero_le _)]
 ·have sb := sb (limL p.q)
  simp -implicitDefEqProofs [k29_3, lda, sta, ldr, reifyC_set, sb]
  rfl
 ·simp -implicitDefEqProofs [k29_3]
 ·rfl
 ·intro nx u hu ih
  by_cases h6 : u < 6
  ·have hu' : (u : Int) < 6 := by omega
   have iu := names_index u h6
   have au := ai u h6
   have hw : IntKind.i64.wrap ((u : Int) + 1) = ((u + 1 : Nat) : Int) := (wrap64 (by omega) (by omega)).trans (by omega)
   have sf := stf [] (limN p.q u) u p.most (ll u) h6
   simp -implicitDefEqProofs [r29_3, k29_3, hu', iu, au, l1, l2, ln, sf]
   rw [LL_for (γ := Int) p.left p.most (fun i _ => [(26, .int .i64 i)]) (fun _ l => [AObj.cells 26 p.cells 0, AObj.cells 77 zSt 0, AObj.cells 77 (stC av p ((limN p.q u).set u l) 0) 0])
    (fun _ rest l => (.exit 2, [(26, undef)], [AObj.cells 26 p.cells 0, AObj.cells 77 zSt 0, AObj.cells 77 (stC av p ((limN p.q u).set u (rest.foldl (limS u) l)) 0) 0])) (fun _ _ => True) (by omega) trivial]
   ·have ih := ih (u + 1) (by omega) (by omega)
    rw [← limN_set p.q u (p.left.foldl (limS u) p.most) rfl] at ih
    simp -implicitDefEqProofs [k29_3, -Int.natCast_add] at ih
    simp -implicitDefEqProofs [k29_7, hw, trim_le, -Int.natCast_add]
    exact ih
   ·simp -implicitDefEqProofs [k29_7]
   ·rfl
   ·intro nx i l hi _
    simp -implicitDefEqProofs [r29_7, k29_7, hi, trim_le]
   ·intro nx i v rest l hi hv hd hwi _ ih
    have hi' : (i : Int) < (p.left.length : Int) := by omega
    have xi := ix i hi
    rw [hv, ent_val] at xi
    have hL : ((limN p.q u).set u l).length = 6 := by rw [List.length_set, ll]
    have ld := fun e => ldf e _ u hL h6
    have sd := fun e z => stf e _ u z hL h6
    simp only [List.getElem_set_self] at ld
    have b0 := bb ((limN p.q u).set u l)
    have bz : ∀ n, zSt.all (below 8 n) = true := fun n => rfl
    rw [List.foldl_cons]
    have es : ∀ l, limS u l v = if v.1 = nameB u then max (-1) (min l v.2) else l := fun l => rfl
    rw [es]
    by_cases hn : v.1 = nameB u
    ·have ih := ih (max (-1) (min l v.2)) trivial
     simp -implicitDefEqProofs [k29_7, -Int.natCast_add] at ih
     have b1 := bb ((limN p.q u).set u (max (-1) (min l v.2)))
     rw [if_pos hn]
     simp -implicitDefEqProofs [r29_7, k29_7, hi', xi, hn, au, ld, sd, minI, maxI, hwi, trim_cut, pb, b1, bz, bo, bod, bl, nv, pn, cat_bel, -List.all_eq_true, -Int.natCast_add]
     exact ih
    ·have ih := ih l trivial
     simp -implicitDefEqProofs [k29_7, -Int.natCast_add] at ih
     rw [if_neg hn]
     simp -implicitDefEqProofs [r29_7, k29_7, hi', xi, hn, hwi, trim_cut, pb, b0, bz, bo, bod, bl, nv, pn, cat_bel, -List.all_eq_true, -Int.natCast_add]
     exact ih
  ·have : u = 6 := by omega
   subst this
   simp -implicitDefEqProofs [r29_3, k29_3, trim_le, limL]
open Cp (Q nameB limS limQ mayQ prQ validQ badP hasP bitB)
theorem eql_arr2 (a b c d : Int) : aBin E.P .eql 54 (.agg ⟨[.int .i64 a, .int .i64 b]⟩) (.agg ⟨[.int .i64 c, .int .i64 d]⟩) = (allOf [some (a == c), some (b == d)]).map .bool := by kernel_rfl
theorem eql_pair (x y : Int × Int) : aBin E.P .eql 54 (.agg ⟨[.int .i64 x.1, .int .i64 x.2]⟩) (.agg ⟨[.int .i64 y.1, .int .i64 y.2]⟩) = some (.bool (decide (x = y))) := by
 rw [eql_arr2]
 obtain ⟨a, b⟩ := x
 obtain ⟨c, d⟩ := y
 rw [show (a == c) = decide (a = c) from rfl, show (b == d) = decide (b = d) from rfl]
 by_cases h1 : a = c <;> by_cases h2 : b = d <;> simp [allOf, h1, h2]
theorem index_pairs (k : Option Bool) (l : List (Int × Int)) (x : Int × Int) (hk : Rec.Ok k l) (hl : l.length ≤ 1000000) : pureCall E.P (L E) 74 [pairR.o k l, .agg ⟨[.int .i64 x.1, .int .i64 x.2]⟩] = some (.int .i64 (idxB (fun y => decide (x = y)) l 0)) := by
 have ll := fun h => Rec.o_len (R := pairR) (h := h) hk
 have il := fun (i : Nat) (hi : i < l.length) => Rec.o_index (R := pairR) (s := 2) (t := 54) (kk := .i64) rfl hk hi
 have bl : ∀ d n, below (d + 1) n (pairR.o k l) = true := fun d n => Rec.o_bel
 generalize pairR.o k l = VL at *
 rw [pureCall_fn F74 rfl]
 generalize hf : (fun y => decide (x = y)) = f
 simp -implicitDefEqProofs [r74, p74, ll]
 rw [LL_for (γ := Unit) l () (fun i _ => [(8, .int .i64 i)]) (fun _ _ => [.cells 54 [.int .i64 x.1, .int .i64 x.2] 0]) (fun i rest _ => if idxB f rest i = -1 then (.exit 0, [(8, undef)], [.cells 54 [.int .i64 x.1, .int .i64 x.2] 0]) else (.ret, [(4, .int .i64 (idxB f rest i)), (8, undef)], [.cells 54 [.int .i64 x.1, .int .i64 x.2] 0])) (fun _ _ => True) (by omega) trivial]
 ·rw [show ((0 : Nat) : Int) = 0 from rfl]
  by_cases q : idxB f l 0 = -1
  ·simp -implicitDefEqProofs [k74_2, q]
  ·simp -implicitDefEqProofs [k74_2, q]
 ·simp -implicitDefEqProofs [k74_2]
 ·rfl
 ·intro nx i c hi _
  have e : ∀ z, idxB f [] z = -1 := fun _ => rfl
  simp -implicitDefEqProofs [r74_2, k74_2, hi, e, trim_le]
 ·intro nx i v rest c hi hv hd hw _ ih
  have ih := ih () trivial
  have hi2 : ((i : Int) < l.length) := by omega
  have x1 := il i hi
  rw [hv, pair_val] at x1
  have e2 : (((i + 1 : Nat) : Int)) = (i : Int) + 1 := by omega
  rw [e2] at ih
  rw [idxB_cons]
  simp -implicitDefEqProofs [k74_2] at ih
  have ef : f v = decide (x = v) := by rw [← hf]
  have eq := eql_pair x v
  rw [ef]
  by_cases he : x = v
  ·have hn : ¬ ((i : Int) = -1) := by omega
   rw [decide_eq_true he] at eq ⊢
   simp -implicitDefEqProofs [r74_2, k74_2, hi2, x1, eq, hn, trim_le]
  ·rw [decide_eq_false he] at eq ⊢
   simp -implicitDefEqProofs [r74_2, k74_2, hi2, x1, eq, hw, trim_le]
   exact ih
theorem contains_pairs (k : Option Bool) (l : List (Int × Int)) (x : Int × Int) (hk : Rec.Ok k l) (hl : l.length ≤ 1000000) : pureCall E.P (L E) 51 [pairR.o k l, .agg ⟨[.int .i64 x.1, .int .i64 x.2]⟩] = some (.bool (hasP l x)) := by
 have h := index_pairs k l x hk hl
 have hp := idxB_pos (fun y => decide (x = y)) l
 have so : ∀ h, reify E.P 8 h (pairR.o k l) = some (pairR.o k l) := fun h => Rec.o_reify
 generalize pairR.o k l = VL at *
 rw [pureCall_fn F51 rfl]
 unfold hasP
 rw [← hp]
 generalize idxB (fun y => decide (x = y)) l 0 = z at *
 simp -implicitDefEqProofs [r51, p51, ret0 m74, so, h, reifyC_set]
theorem indexF_pairs (k : Option Bool) (l : List (Int × Int)) (hk : Rec.Ok k l) (hl : l.length ≤ 1000000) : pureCall E.P (L E) 73 [pairR.o k l, .func (.func 50) #[] #[]] = some (.int .i64 (idxB badP l 0)) := by
 have ll := fun h => Rec.o_len (R := pairR) (h := h) hk
 have il := fun (i : Nat) (hi : i < l.length) => Rec.o_index (R := pairR) (s := 2) (t := 54) (kk := .i64) rfl hk hi
 generalize pairR.o k l = VL at *
 rw [pureCall_fn F73 rfl]
 simp -implicitDefEqProofs [r73, p73, ll]
 rw [LL_for (γ := Unit) l () (fun i _ => [(8, .int .i64 i)]) (fun _ _ => []) (fun i rest _ => if idxB badP rest i = -1 then (.exit 0, [(8, undef)], []) else (.ret, [(4, .int .i64 (idxB badP rest i)), (8, undef)], [])) (fun _ _ => True) (by omega) trivial]
 ·rw [show ((0 : Nat) : Int) = 0 from rfl]
  by_cases q : idxB badP l 0 = -1
  ·simp -implicitDefEqProofs [k73_2, q]
  ·simp -implicitDefEqProofs [k73_2, q]
 ·simp -implicitDefEqProofs [k73_2]
 ·rfl
 ·intro nx i c hi _
  have e : ∀ z, idxB badP [] z = -1 := fun _ => rfl
  simp -implicitDefEqProofs [r73_2, k73_2, hi, e, trim_le]
 ·intro nx i v rest c hi hv hd hw _ ih
  have ih := ih () trivial
  have hi2 : ((i : Int) < l.length) := by omega
  have x1 := il i hi
  have hb := bad_spec v
  have rp : ∀ h, reify E.P 8 h (.agg ⟨[.int .i64 v.1, .int .i64 v.2]⟩) = some (.agg ⟨[.int .i64 v.1, .int .i64 v.2]⟩) := fun h => rfl
  rw [hv, pair_val] at x1
  rw [pair_val] at hb
  have e2 : (((i + 1 : Nat) : Int)) = (i : Int) + 1 := by omega
  rw [e2] at ih
  rw [idxB_cons]
  simp -implicitDefEqProofs [k73_2] at ih
  cases he : badP v
  ·rw [he] at hb
   simp -implicitDefEqProofs [r73_2, k73_2, hi2, x1, ret0 m50, rp, hb, hw, trim_le]
   exact ih
  ·rw [he] at hb
   have hn : ¬ ((i : Int) = -1) := by omega
   simp -implicitDefEqProofs [r73_2, k73_2, hi2, x1, ret0 m50, rp, hb, hn, trim_le]
theorem containsF_pairs (k : Option Bool) (l : List (Int × Int)) (hk : Rec.Ok k l) (hl : l.length ≤ 1000000) : pureCall E.P (L E) 49 [pairR.o k l, .func (.func 50) #[] #[]] = some (.bool (l.any badP)) := by
 have h := indexF_pairs k l hk hl
 have hp := idxB_pos badP l
 have so : ∀ h, reify E.P 8 h (pairR.o k l) = some (pairR.o k l) := fun h => Rec.o_reify
 generalize pairR.o k l = VL at *
 rw [pureCall_fn F49 rfl]
 rw [← hp]
 generalize idxB badP l 0 = z at *
 simp -implicitDefEqProofs [r49, p49, ret0 m73, so, h]
theorem pb_ld (p : Pb) (j : Nat) (v : Value) (h : p.cells[j]? = some v) (t : Heap) : loadT ⟨some false, some 1⟩ (AObj.cells 26 p.cells 0 :: t) (.pointer (some ⟨0, j, none⟩)) = some v := obj_load (b := 0) (j := j) rfl h
theorem valid_spec (p : Pb) (hp : PbOk p) : pureCall E.P (L E) 25 [p.val] = some (.bool (validQ p.q)) := by
 have c := containsF_pairs p.kn p.never hp.kn (by have := hp.nn; omega)
 have so : ∀ h, reify E.P 8 h (pairR.o p.kn p.never) = some (pairR.o p.kn p.never) := fun h => Rec.o_reify
 have l0 := pb_ld p 0 _ rfl
 have l1 := pb_ld p 1 _ rfl
 have l2 := pb_ld p 2 _ rfl
 have l3 := pb_ld p 3 _ rfl
 have n1 := fun h => Rec.o_len (R := entR) (h := h) hp.kl
 have n3 := fun h => Rec.o_len (R := pairR) (h := h) hp.kn
 have e : validQ p.q = (decide (0 ≤ p.uses) && (decide (p.uses ≤ 63) && (decide (0 ≤ p.most) && (decide (p.left.length ≤ 30) && (decide (p.never.length ≤ 36) && !p.never.any badP))))) := rfl
 have rf : ∀ h, reify E.P 8 h (.func (.func 50) #[] #[]) = some (.func (.func 50) #[] #[]) := fun h => rfl
 rw [e]
 rw [pureCall_fn F25 rfl]
 unfold Pb.val
 generalize p.never.any badP = nb at *
 by_cases q1 : p.uses < 0
 ·have : ¬ 0 ≤ p.uses := by omega
  simp -implicitDefEqProofs [r25, p25, l0, q1, this]
 have q1' : 0 ≤ p.uses := by omega
 by_cases q2 : 64 ≤ p.uses
 ·have : ¬ p.uses ≤ 63 := by omega
  simp -implicitDefEqProofs [r25, p25, l0, q1, q2, this]
 have q2' : p.uses ≤ 63 := by omega
 by_cases q3 : p.most < 0
 ·have : ¬ 0 ≤ p.most := by omega
  simp -implicitDefEqProofs [r25, p25, l0, l2, q1, q2, q3, this]
 have q3' : 0 ≤ p.most := by omega
 by_cases q4 : (30 : Int) < p.left.length
 ·have : ¬ p.left.length ≤ 30 := by omega
  simp -implicitDefEqProofs [r25, p25, l0, l1, l2, n1, q1, q2, q3, q4, this]
 have q4' : p.left.length ≤ 30 := by omega
 by_cases q5 : (36 : Int) < p.never.length
 ·have : ¬ p.never.length ≤ 36 := by omega
  simp -implicitDefEqProofs [r25, p25, l0, l1, l2, l3, n1, n3, q1, q2, q3, q4, q5, this]
 have q5' : p.never.length ≤ 36 := by omega
 simp -implicitDefEqProofs [r25, p25, l0, l1, l2, l3, n1, n3, q1, q2, q3, q4, q5, q1', q2', q3', q4', q5', ret0 m49, so, rf, c]
open Cp (Q nameB limS limQ mayQ prQ validQ badP hasP bitB)
theorem bit_all : ∀ w : Fin 64, ∀ u : Fin 6, IntKind.i64.wrap ((BitVec.ofInt 64 ((w.val : Int).fdiv (2 ^ (min (u.val : Int).toNat 64))) &&& BitVec.ofInt 64 1).toNat) = (if bitB w.val u.val = true then 1 else 0) := by decide +kernel
theorem bit_rem : ∀ w : Fin 64, ∀ u : Fin 6, ((w.val : Int).fdiv (2 ^ (min (u.val : Int).toNat 64))).tmod 2 = (if bitB w.val u.val = true then 1 else 0) := by decide +kernel
theorem shr_bit {w u : Int} (hw : 0 ≤ w ∧ w ≤ 63) (hu : 0 ≤ u ∧ u < 6) : ∃ z, aBin E.P .shr 3 (.int .i64 w) (.int .i64 u) = some (.int .i64 z) ∧ aBin E.P .and 3 (.int .i64 z) (.int .i64 1) = some (.int .i64 (if bitB w u = true then 1 else 0)) ∧
  aBin E.P .rem 3 (.int .i64 z) (.int .i64 2) = some (.int .i64 (if bitB w u = true then 1 else 0)) := by
 have h1 := bit_all ⟨w.toNat, by omega⟩ ⟨u.toNat, by omega⟩
 have h2 := bit_rem ⟨w.toNat, by omega⟩ ⟨u.toNat, by omega⟩
 have ew : ((w.toNat : Nat) : Int) = w := by omega
 have eu : ((u.toNat : Nat) : Int) = u := by omega
 simp only [ew, eu] at h1 h2
 refine ⟨w.fdiv (2 ^ (min u.toNat 64)), ?_, ?_, ?_⟩
 ·show (if u < 0 then none else some (Value.int .i64 (w.fdiv (2 ^ (min u.toNat 64))))) = _
  rw [if_neg (by omega)]
 ·show some (Value.int .i64 (IntKind.i64.wrap ((BitVec.ofInt 64 (w.fdiv (2 ^ (min u.toNat 64))) &&& BitVec.ofInt 64 1).toNat))) = _
  rw [h1]
 ·show (if (2 : Int) = 0 then none else some (Value.int .i64 ((w.fdiv (2 ^ (min u.toNat 64))).tmod 2))) = _
  rw [if_neg (by decide), h2]
structure ChV (h : Heap) (cv : Value) (c : List Int) : Prop where
 len : ∀ e, lenT .sl (h ++ e) cv = some (.int .i64 c.length)
 last : ∀ e (hc : c ≠ []), ∃ a, indexAddrT (.sl 3 ⟨some false, some 1⟩) cv (.int .i64 ((c.length : Int) - 1)) = some a ∧ loadT ⟨some false, some 1⟩ (h ++ e) a = some (.int .i64 (c.getLast hc))
theorem ChV.tree {h : Heap} {k : Option Bool} {c : List Int} (hk : Enc.Ok k c) : ChV h (intE.o k c) c := by
 refine ⟨fun e => Enc.o_len hk, fun e hc => ?_⟩
 have h0 : 0 < c.length := List.length_pos_iff.2 hc
 have ix := Enc.index_o (O := intE) (t := 3) (k := .i64) hk (i := c.length - 1) (by omega)
 refine ⟨_, (by rw [show ((c.length : Int) - 1) = ((c.length - 1 : Nat) : Int) by omega]; exact ix), ?_⟩
 rw [Enc.load_e, List.getLast_eq_getElem]; rfl
theorem ChV.part {h : Heap} {b : Nat} {R c : List Int} (hb : h[b]? = some (intE.row 3 R)) (hc : R.take c.length = c) (hl : c.length ≤ R.length) : ChV h (Enc.part b c.length R) c := by
 refine ⟨fun e => Enc.part_len, fun e hne => ?_⟩
 have h0 : 0 < c.length := List.length_pos_iff.2 hne
 have hb' : (h ++ e)[b]? = some (intE.row 3 R) := by rw [List.getElem?_append_left (List.getElem?_eq_some_iff.1 hb).1]; exact hb
 refine ⟨_, (by rw [show ((c.length : Int) - 1) = ((c.length - 1 : Nat) : Int) by omega]; exact Enc.part_index (by omega)), ?_⟩
 rw [Enc.load_at hb' (by omega), List.getLast_eq_getElem]
 have : R[c.length - 1]? = c[c.length - 1]? := by rw [← List.getElem?_take_of_lt (show c.length - 1 < c.length by omega), hc]
 rw [List.getElem?_eq_getElem (by omega), List.getElem?_eq_getElem (by omega)] at this
 rw [Option.some.inj this]; rfl
theorem st_fits {av : Value} {p : Pb} {L : List Int} {v : Int} (hL : L.length = 6) : fitsTT ⟨some true, some 12⟩ (.agg ⟨stC av p L v⟩) = true := fits_ag (by show (stC av p L v).length = 12; exact st_len hL)
theorem st_f5 {av : Value} {p : Pb} {L : List Int} {v : Int} (hL : L.length = 6) : fieldAddrT ⟨some true, some 12⟩ (some (5, ⟨some true, some 6⟩)) (cptr (.agg ⟨stC av p L v⟩)) = some (cptr (.agg ⟨intE.vals L⟩)) := by
 rw [fieldAddr_cptr, if_pos (st_fits hL)]
 show (fieldT (some (5, ⟨some true, some 6⟩)) (.agg ⟨stC av p L v⟩)).map cptr = _
 rw [field_agg, Option.bind_some, part_agg]
 congr 2
 have e : (Array.extract ⟨stC av p L v⟩ 5 (5 + 6)) = ⟨((stC av p L v).drop 5).take 6⟩ := by
  rw [← Array.toList_inj]; simp
 rw [Option.map_some, e]
 congr 4
 unfold stC
 rw [List.drop_succ_cons, List.drop_append, List.drop_of_length_le (by rw [pb_len]; omega), pb_len, List.nil_append]
 show (intE.vals L ++ [Value.int .i64 v]).take 6 = _
 rw [List.take_append_of_le_length (by rw [Enc.vals_len]; omega), List.take_of_length_le (by rw [Enc.vals_len]; omega)]
theorem st_f11 {av : Value} {p : Pb} {L : List Int} {v : Int} (hL : L.length = 6) : fieldAddrT ⟨some true, some 12⟩ (some (11, ⟨some false, some 1⟩)) (cptr (.agg ⟨stC av p L v⟩)) = some (cptr (.int .i64 v)) := by
 rw [fieldAddr_cptr, if_pos (st_fits hL)]
 show ((⟨stC av p L v⟩ : Array Value)[11]?).map cptr = _
 have : (stC av p L v)[11]? = some (.int .i64 v) := by
  unfold stC
  rw [List.getElem?_cons_succ, List.getElem?_append_right (by rw [pb_len]; omega), pb_len, List.getElem?_append_right (by rw [Enc.vals_len]; omega), Enc.vals_len, hL]; rfl
 rw [List.getElem?_toArray, this]; rfl
theorem st_f1 {av : Value} {p : Pb} {L : List Int} {v : Int} (hL : L.length = 6) : fieldAddrT ⟨some true, some 12⟩ (some (1, ⟨some true, some 4⟩)) (cptr (.agg ⟨stC av p L v⟩)) = some (cptr (.agg ⟨p.cells⟩)) := by
 rw [fieldAddr_cptr, if_pos (st_fits hL)]
 show (fieldT (some (1, ⟨some true, some 4⟩)) (.agg ⟨stC av p L v⟩)).map cptr = _
 rw [field_agg, Option.bind_some, part_agg]
 have e : (Array.extract ⟨stC av p L v⟩ 1 (1 + 4)) = ⟨((stC av p L v).drop 1).take 4⟩ := by
  rw [← Array.toList_inj]; simp
 rw [Option.map_some, e]
 rfl
theorem st_i5 {L : List Int} {u : Nat} (hL : L.length = 6) (hu : u < 6) : indexAddrT (.arr 6 ⟨some false, some 1⟩) (cptr (.agg ⟨intE.vals L⟩)) (.int .i64 (u : Int)) = some (cptr (.int .i64 (L[u]'(by omega)))) := by
 rw [index_arrC, if_pos ⟨by omega, by omega⟩]
 show ((⟨intE.vals L⟩ : Array Value)[(u : Int).toNat * 1]?).map cptr = _
 rw [Int.toNat_natCast, Nat.mul_one, List.getElem?_toArray, Enc.vals_get (by omega)]; rfl
theorem pb_f2 (p : Pb) : fieldAddrT ⟨some true, some 4⟩ (some (2, ⟨some false, some 1⟩)) (cptr (.agg ⟨p.cells⟩)) = some (cptr (.int .i64 p.most)) := rfl
theorem app_get0 {h : Heap} {a : AObj} {e : Heap} : (h ++ a :: e)[h.length]? = some a := by rw [List.getElem?_append_right (Nat.le_refl _), Nat.sub_self]; rfl
theorem app_set0 {h : Heap} {a b : AObj} {e : Heap} : (h ++ a :: e).set h.length b = h ++ b :: e := by rw [List.set_append_right _ _ (Nat.le_refl _), Nat.sub_self]; rfl
theorem app_get1 {h : Heap} {a b : AObj} {e : Heap} : (h ++ a :: b :: e)[h.length + 1]? = some b := by rw [List.getElem?_append_right (by omega), show h.length + 1 - h.length = 1 by omega]; rfl
theorem app_set1 {h : Heap} {a b c : AObj} {e : Heap} : (h ++ a :: b :: e).set (h.length + 1) c = h ++ a :: c :: e := by rw [List.set_append_right _ _ (by omega), show h.length + 1 - h.length = 1 by omega]; rfl
open Cp (Q nameB limS limQ mayQ prQ validQ badP hasP bitB)
structure AOk (A : List Int) : Prop where
 len : A.length ≤ 13
 a : ∀ a ∈ A, 0 ≤ a ∧ a ≤ 1099511627776
structure LOk (L : List Int) : Prop where
 len : L.length = 6
 b : ∀ x ∈ L, -4611686018427387904 ≤ x ∧ x ≤ 9223372036854775807
theorem may_eq (p : Pb) (c : List Int) (u : Int) (h0 : 0 ≤ u) (h6 : u < 6) : mayQ p.q c.getLast? u = (bitB p.uses u && (match c.getLast? with | none => true | some w => !hasP p.never (w, u))) := by
 unfold mayQ
 rw [decide_eq_true h0, decide_eq_true h6]; rfl
set_option maxHeartbeats 1000000 in
theorem add_no (p : Pb) (hp : PbOk p) (hv : validQ p.q = true) (ka : Option Bool) (A W : List Int) (hL : LOk W) (v : Int) (h : Heap) (cv : Value) (c : List Int) (hc : ChV h cv c) (u : Int) (hn : mayQ p.q c.getLast? u = false) (hcl : c.length ≤ 100) :
  ∃ e, L E 28 [stV (intE.o ka A) p W v, cv, .int .i64 u] h 0 = some (.tuple ⟨[stV (intE.o ka A) p W v, .bool false]⟩, h ++ e) := by
 obtain ⟨hu0, hu63, hm0, hl30, hn36, _⟩ := Cp.validQ_iff.1 hv
 have hlen := hL.len
 have lS : ∀ j w z, (stC (intE.o ka A) p W v)[j]? = some w → loadT ⟨some false, some 1⟩ (h ++ [AObj.cells 77 (stC (intE.o ka A) p W v) 0, z]) (.pointer (some ⟨h.length, j, none⟩)) = some w := fun j w z hj => obj_load (b := h.length) (j := j) app_get0 hj
 have l1 := fun z => lS 1 _ z rfl
 have l4 := fun z => lS 4 _ z rfl
 have lA : ∀ z, loadT ⟨some true, some 12⟩ (h ++ [AObj.cells 77 (stC (intE.o ka A) p W v) 0, z]) (.pointer (some ⟨h.length, 0, none⟩)) = some (.agg ⟨stC (intE.o ka A) p W v⟩) := fun z => obj_all (b := h.length) app_get0 (st_len hlen)
 have sA : storeT (some 12) (h ++ [AObj.cells 77 (stC (intE.o ka A) p W v) 0, AObj.cells 77 zSt 0]) 0 (.agg ⟨stC (intE.o ka A) p W v⟩) (.pointer (some ⟨h.length + 1, 0, none⟩)) = some (h ++ [AObj.cells 77 (stC (intE.o ka A) p W v) 0, AObj.cells 77 (stC (intE.o ka A) p W v) 0]) :=
  (obj_put (b := h.length + 1) (n := 12) (lo := 0) (t := 77) (c := zSt) app_get1 rfl (st_len hlen) (by decide) (Nat.zero_le _)).trans (congrArg some app_set1)
 have lR : loadT ⟨some true, some 12⟩ (h ++ [AObj.cells 77 (stC (intE.o ka A) p W v) 0, AObj.cells 77 (stC (intE.o ka A) p W v) 0]) (.pointer (some ⟨h.length + 1, 0, none⟩)) = some (.agg ⟨stC (intE.o ka A) p W v⟩) := obj_all (b := h.length + 1) app_get1 (st_len hlen)
 unfold zSt at sA
 have cl := fun e => hc.len e
 refine ⟨[AObj.cells 77 (stC (intE.o ka A) p W v) 0, AObj.cells 77 (stC (intE.o ka A) p W v) 0], ?_⟩
 rw [L_fn F28 rfl]
 unfold stV
 by_cases q1 : u < 0
 ·simp -implicitDefEqProofs [r28, p28, cl, q1, lA, sA, lR]
 by_cases q2 : 6 ≤ u
 ·simp -implicitDefEqProofs [r28, p28, cl, q1, q2, lA, sA, lR]
 rw [may_eq p c u (by omega) (by omega)] at hn
 obtain ⟨z, b1, b2, _⟩ := shr_bit (w := p.uses) (u := u) ⟨hu0, hu63⟩ ⟨by omega, by omega⟩
 by_cases q3 : bitB p.uses u = true
 ·rw [q3, Bool.true_and] at hn
  rw [if_pos q3] at b2
  by_cases hne : c = []
  ·subst hne; exact absurd hn (by simp)
  ·have hl0 : 0 < c.length := List.length_pos_iff.2 hne
   have hl0' : (0 : Int) < c.length := by omega
   have hw : IntKind.i64.wrap ((c.length : Int) - 1) = (c.length : Int) - 1 := wrap64 (by omega) (by omega)
   rw [List.getLast?_eq_some_getLast hne] at hn
   have hn : (!hasP p.never (c.getLast hne, u)) = false := hn
   have hh : hasP p.never (c.getLast hne, u) = true := by simpa using hn
   have cp := contains_pairs p.kn p.never (c.getLast hne, u) hp.kn (by have := hp.nn; omega)
   rw [hh] at cp
   have so : ∀ h, reify E.P 8 h (pairR.o p.kn p.never) = some (pairR.o p.kn p.never) := fun h => Rec.o_reify
   have ra : ∀ h a b, reify E.P 8 h (.agg ⟨[.int .i64 a, .int .i64 b]⟩) = some (.agg ⟨[.int .i64 a, .int .i64 b]⟩) := fun h a b => rfl
   have ba : ∀ a b : Int, buildT (.arr ⟨[Value.int .i64 0, Value.int .i64 0]⟩ 1) #[(0, .int .i64 a), (1, .int .i64 b)] = some (.agg ⟨[.int .i64 a, .int .i64 b]⟩) := fun a b => rfl
   obtain ⟨a, i1, i2⟩ := hc.last [AObj.cells 77 (stC (intE.o ka A) p W v) 0, AObj.cells 77 zSt 0] hne
   unfold zSt at i2
   simp only at cp
   simp -implicitDefEqProofs [r28, p28, cl, q1, q2, l1, l4, b1, b2, hl0, hw, i1, i2, ba, ret0 m51, so, ra, cp, lA, sA, lR]
 ·rw [if_neg q3] at b2
  simp -implicitDefEqProofs [r28, p28, cl, q1, q2, l1, b1, b2, lA, sA, lR]
theorem st_setv {av : Value} {p : Pb} {W : List Int} {v z : Int} (hW : W.length = 6) : (stC av p W v).set 11 (.int .i64 z) = stC av p W z := by
 unfold stC
 rw [List.set_cons_succ, List.set_append_right _ _ (by rw [pb_len]; omega), pb_len, List.set_append_right _ _ (by rw [Enc.vals_len, hW]; omega), Enc.vals_len, hW]; rfl
theorem sSt : szOf E.P 77 = some 12 := by kernel_rfl
theorem aSt : aggT E.P 77 = some true := by kernel_rfl
set_option maxHeartbeats 2000000 in
theorem add_yes (p : Pb) (hp : PbOk p) (hv : validQ p.q = true) (ka : Option Bool) (A W : List Int) (hk : Enc.Ok ka A) (hA : AOk A) (hL : LOk W) (v : Int) (hvb : 0 ≤ v ∧ v ≤ 1152921504606846976) (h : Heap) (cv : Value) (c : List Int) (hc : ChV h cv c) (u : Nat) (hn : mayQ p.q c.getLast? (u : Int) = true) (hcl : c.length < A.length)
  (hu6 : u < W.length) :
  ∃ e, L E 28 [stV (intE.o ka A) p W v, cv, .int .i64 (u : Int)] h 0 = some (.tuple ⟨[stV (intE.o ka A) p (W.set u (W[u] - A[c.length])) (v + A[c.length]), .bool (decide (0 ≤ W[u] - A[c.length]) && decide (v + A[c.length] ≤ p.most))]⟩, h ++ e) := by
 obtain ⟨hu0, hu63, hm0, hl30, hn36, _⟩ := Cp.validQ_iff.1 hv
 have hlen := hL.len
 have ha := hA.a A[c.length] (List.getElem_mem hcl)
 have hx := hL.b W[u] (List.getElem_mem hu6)
 have h13 := hA.len
 have hu6' : u < 6 := by omega
 have ix : indexAddrT (.sl 3 ⟨some false, some 1⟩) (intE.o ka A) (.int .i64 (c.length : Int)) = some (cptr (.int .i64 A[c.length])) := Enc.index_o (O := intE) hk hcl
 generalize hW1 : W.set u (W[u] - A[c.length]) = W1 at *
 have hlen1 : W1.length = 6 := by rw [← hW1, List.length_set, hlen]
 have hg1 : W1[u]'(by omega) = W[u] - A[c.length] := by subst hW1; rw [List.getElem_set_self]
 have st5 : ∀ z : AObj, storeT (some 1) (h ++ [AObj.cells 77 (stC (intE.o ka A) p W (v + A[c.length])) 0, z]) 0 (.int .i64 (W[u] - A[c.length])) (cAt h.length (5 + u)) = some (h ++ [AObj.cells 77 (stC (intE.o ka A) p W1 (v + A[c.length])) 0, z]) := fun z => by
  rw [obj_store (b := h.length) (lo := 0) app_get0 (by rw [st_len hlen]; omega) (Nat.zero_le _) rfl, app_set0, st_set (by omega), hW1]
 have ld5 : ∀ (z : AObj) (x : Int), loadT ⟨some false, some 1⟩ (h ++ [AObj.cells 77 (stC (intE.o ka A) p W x) 0, z]) (cAt h.length (5 + u)) = some (.int .i64 W[u]) := fun z x => obj_load (b := h.length) app_get0 (st_left hu6)
 generalize A[c.length] = a at *
 generalize W[u] = x at *
 have lS : ∀ y j w z, (stC (intE.o ka A) p W y)[j]? = some w → loadT ⟨some false, some 1⟩ (h ++ [AObj.cells 77 (stC (intE.o ka A) p W y) 0, z]) (.pointer (some ⟨h.length, j, none⟩)) = some w := fun y j w z hj => obj_load (b := h.length) (j := j) app_get0 hj
 have l0 := fun y z => lS y 0 _ z rfl
 have l1 := fun y z => lS y 1 _ z rfl
 have l4 := fun y z => lS y 4 _ z rfl
 have l11 := fun y z => lS y 11 (.int .i64 y) z (by
  unfold stC
  rw [List.getElem?_cons_succ, List.getElem?_append_right (by rw [pb_len]; omega), pb_len, List.getElem?_append_right (by rw [Enc.vals_len]; omega), Enc.vals_len, hlen]; rfl)
 have s11 : ∀ z : AObj, storeT (some 1) (h ++ [AObj.cells 77 (stC (intE.o ka A) p W v) 0, z]) 0 (.int .i64 (v + a)) (.pointer (some ⟨h.length, 11, none⟩)) = some (h ++ [AObj.cells 77 (stC (intE.o ka A) p W (v + a)) 0, z]) := fun z => by
  have := obj_store (b := h.length) (j := 11) (lo := 0) (t := 77) (h := h ++ [AObj.cells 77 (stC (intE.o ka A) p W v) 0, z]) (v := .int .i64 (v + a)) app_get0 (by rw [st_len hlen]; omega) (Nat.zero_le _) rfl
  rw [app_set0, st_setv hlen] at this
  exact this
 have ai := arr_idx (b := h.length) (off := 5) (len := 6) (k := .i64) (g := some false) hu6'
 have fz : ∀ z : AObj, freezeV E.P depth 0 (h ++ [AObj.cells 77 (stC (intE.o ka A) p W1 (v + a)) 0, z]) (.pointer (some ⟨h.length, 0, none⟩)) = some (cptr (.agg ⟨stC (intE.o ka A) p W1 (v + a)⟩), h ++ [AObj.dead, z]) := fun z => by
  have := obj_frz (P := E.P) (lo := 0) (b := h.length) (t := 77) (h := h ++ [AObj.cells 77 (stC (intE.o ka A) p W1 (v + a)) 0, z]) app_get0 (by rw [sSt, st_len hlen1]) aSt (Nat.zero_le _) (st_all Enc.o_set)
  rw [app_set0] at this
  exact this
 have sA : storeT (some 12) (h ++ [AObj.dead, AObj.cells 77 zSt 0]) 0 (.agg ⟨stC (intE.o ka A) p W1 (v + a)⟩) (.pointer (some ⟨h.length + 1, 0, none⟩)) = some (h ++ [AObj.dead, AObj.cells 77 (stC (intE.o ka A) p W1 (v + a)) 0]) :=
  (obj_put (b := h.length + 1) (n := 12) (lo := 0) (t := 77) (c := zSt) app_get1 rfl (st_len hlen1) (by decide) (Nat.zero_le _)).trans (congrArg some app_set1)
 have lR : loadT ⟨some true, some 12⟩ (h ++ [AObj.dead, AObj.cells 77 (stC (intE.o ka A) p W1 (v + a)) 0]) (.pointer (some ⟨h.length + 1, 0, none⟩)) = some (.agg ⟨stC (intE.o ka A) p W1 (v + a)⟩) := obj_all (b := h.length + 1) app_get1 (st_len hlen1)
 have f5 := st_f5 (av := intE.o ka A) (p := p) (v := v + a) hlen1
 have f11 := st_f11 (av := intE.o ka A) (p := p) (v := v + a) hlen1
 have f1 := st_f1 (av := intE.o ka A) (p := p) (v := v + a) hlen1
 have i5 := st_i5 hlen1 hu6'
 have ff := st_fits (av := intE.o ka A) (p := p) (v := v + a) hlen1
 have f2 := pb_f2 p
 rw [hg1] at i5
 unfold zSt at sA
 have cl := fun e => hc.len e
 have w1 : IntKind.i64.wrap (v + a) = v + a := wrap64 (by omega) (by omega)
 have w2 : IntKind.i64.wrap (x - a) = x - a := wrap64 (by omega) (by omega)
 refine ⟨[AObj.dead, AObj.cells 77 (stC (intE.o ka A) p W1 (v + a)) 0], ?_⟩
 have hu0' : ¬ ((u : Int) < 0) := by omega
 have hu6n : ¬ (6 ≤ (u : Int)) := by omega
 rw [may_eq p c (u : Int) (by omega) (by omega), Bool.and_eq_true] at hn
 obtain ⟨z, b1, b2, _⟩ := shr_bit (w := p.uses) (u := (u : Int)) ⟨hu0, hu63⟩ ⟨by omega, by omega⟩
 rw [if_pos hn.1] at b2
 have hn := hn.2
 rw [L_fn F28 rfl]
 unfold stV
 by_cases hne : c = []
 ·subst hne
  have ix : indexAddrT (.sl 3 ⟨some false, some 1⟩) (intE.o ka A) (.int .i64 0) = some (cptr (.int .i64 a)) := ix
  by_cases k1 : a ≤ x
  ·simp -implicitDefEqProofs [r28, p28, cl, hu0', hu6n, l0, l1, l11, b1, b2, ix, s11, w1, ai, ld5, w2, st5, prep_frz, prep_still, fz, ff, f5, f11, f1, f2, i5, sA, lR, k1, rop_loadC, isCp_cptr]
  ·simp -implicitDefEqProofs [r28, p28, cl, hu0', hu6n, l0, l1, l11, b1, b2, ix, s11, w1, ai, ld5, w2, st5, prep_frz, prep_still, fz, ff, f5, i5, sA, lR, k1, rop_loadC, isCp_cptr]
 ·have hl0 : 0 < c.length := List.length_pos_iff.2 hne
  have hl0' : (0 : Int) < c.length := by omega
  have hw : IntKind.i64.wrap ((c.length : Int) - 1) = (c.length : Int) - 1 := wrap64 (by omega) (by omega)
  rw [List.getLast?_eq_some_getLast hne] at hn
  have hn : (!hasP p.never (c.getLast hne, (u : Int))) = true := hn
  have hh : hasP p.never (c.getLast hne, (u : Int)) = false := by simpa using hn
  have cp := contains_pairs p.kn p.never (c.getLast hne, (u : Int)) hp.kn (by have := hp.nn; omega)
  rw [hh] at cp
  have so : ∀ h, reify E.P 8 h (pairR.o p.kn p.never) = some (pairR.o p.kn p.never) := fun h => Rec.o_reify
  have ra : ∀ h a b, reify E.P 8 h (.agg ⟨[.int .i64 a, .int .i64 b]⟩) = some (.agg ⟨[.int .i64 a, .int .i64 b]⟩) := fun h a b => rfl
  have ba : ∀ a b : Int, buildT (.arr ⟨[Value.int .i64 0, Value.int .i64 0]⟩ 1) #[(0, .int .i64 a), (1, .int .i64 b)] = some (.agg ⟨[.int .i64 a, .int .i64 b]⟩) := fun a b => rfl
  obtain ⟨aa, i1, i2⟩ := hc.last [AObj.cells 77 (stC (intE.o ka A) p W v) 0, AObj.cells 77 zSt 0] hne
  unfold zSt at i2
  simp only at cp
  by_cases k1 : a ≤ x
  ·simp -implicitDefEqProofs [r28, p28, cl, hu0', hu6n, l0, l1, l4, l11, b1, b2, hl0, hw, i1, i2, ba, ret0 m51, so, ra, cp, ix, s11, w1, ai, ld5, w2, st5, prep_frz, prep_still, fz, ff, f5, f11, f1, f2, i5, sA, lR, k1, rop_loadC, isCp_cptr]
  ·simp -implicitDefEqProofs [r28, p28, cl, hu0', hu6n, l0, l1, l4, l11, b1, b2, hl0, hw, i1, i2, ba, ret0 m51, so, ra, cp, ix, s11, w1, ai, ld5, w2, st5, prep_frz, prep_still, fz, ff, f5, i5, sA, lR, k1, rop_loadC, isCp_cptr]
end Go.Proofs.Ythkddpgnhaeooaa.Bm
namespace Go.Proofs.Ythkddpgnhaeooaa.Cp
def Small (n : Nat) (t : List Br) : Prop := ∀ b ∈ t, 0 ≤ b.kids ∧ b.kids ≤ (n : Int)
theorem small_bump {n : Nat} {t : List Br} (h : Small n t) (i : Nat) : Small (n + 1) (t.modify i bump) := by
 intro b hb
 obtain ⟨j, hj, rfl⟩ := List.getElem_of_mem hb
 rw [List.getElem_modify]
 have hj' : j < t.length := by rw [modify_len] at hj; exact hj
 have := h t[j] (List.getElem_mem hj')
 by_cases e : i = j
 ·rw [if_pos e]
  show 0 ≤ t[j].kids + 1 ∧ t[j].kids + 1 ≤ ((n + 1 : Nat) : Int)
  omega
 ·rw [if_neg e]; omega
theorem small_enter {P : Pr} {s : Nd} {a : Acc} (h : Small (a.tree.length + 1) a.tree) : Small (enter P s a).tree.length (enter P s a).tree := by
 rw [enter_len, enter_tree]
 intro b hb
 rcases List.mem_append.1 hb with hb | hb
 ·exact h b hb
 ·rw [List.mem_singleton.1 hb]
  exact ⟨Int.le_refl _, by show (0 : Int) ≤ _; omega⟩
theorem small_loop {P : Pr} {f : Nd → Acc → Acc} (hf : ∀ s a, Small (a.tree.length + 1) a.tree → Small (f s a).tree.length (f s a).tree) (s : Nd) (i : Nat) : ∀ (l : List Int) (a : Acc), Small a.tree.length a.tree → Small (loopF f P s i l a).tree.length (loopF f P s i l a).tree
 | [], _, h => h
 | u :: l, a, h => by
  unfold loopF
  split
  ·cases next P s u with
   | none => exact small_loop hf s i l a h
   | some t =>
    refine small_loop hf s i l _ (hf t _ ?_)
    show Small ((a.tree.modify i bump).length + 1) (a.tree.modify i bump)
    rw [modify_len]
    exact small_bump h i
  ·exact h
theorem small_vis (P : Pr) : ∀ (n : Nat) (s : Nd) (a : Acc), Small (a.tree.length + 1) a.tree → Small (vis P n s a).tree.length (vis P n s a).tree
 | 0, s, a, h => small_enter h
 | n + 1, s, a, h => by
  unfold vis
  split
  ·exact small_loop (small_vis P n) s _ us _ (small_enter h)
  ·exact small_enter h
theorem loopF_full {f : Nd → Acc → Acc} {P : Pr} {s : Nd} {i : Nat} {l : List Int} {a : Acc} (h : ¬ a.tree.length ≤ 4000) : loopF f P s i l a = a := by
 cases l with
 | nil => rfl
 | cons u l => exact if_neg h
theorem loopF_none {f : Nd → Acc → Acc} {P : Pr} {s : Nd} {i : Nat} {u : Int} {l : List Int} {a : Acc} (h : a.tree.length ≤ 4000) (hn : next P s u = none) : loopF f P s i (u :: l) a = loopF f P s i l a := by
 rw [loopF, if_pos h, hn]
theorem loopF_some {f : Nd → Acc → Acc} {P : Pr} {s t : Nd} {i : Nat} {u : Int} {l : List Int} {a : Acc} (h : a.tree.length ≤ 4000) (hn : next P s u = some t) : loopF f P s i (u :: l) a = loopF f P s i l (f t ⟨a.val, a.best, a.tree.modify i bump⟩) := by
 rw [loopF, if_pos h, hn]
theorem us_drop {u : Nat} (h : u < 6) : us.drop u = (u : Int) :: us.drop (u + 1) := by
 have : u = 0 ∨ u = 1 ∨ u = 2 ∨ u = 3 ∨ u = 4 ∨ u = 5 := by omega
 rcases this with rfl | rfl | rfl | rfl | rfl | rfl <;> rfl
theorem next_no {q : Q} {s : Nd} {u : Int} (h : mayQ q s.c.getLast? u = false) : next (prQ q) s u = none := by
 unfold next
 cases s.rem with
 | nil => rfl
 | cons a r => exact if_neg fun k => by have k1 : mayQ q s.c.getLast? u = true := k.1; rw [h] at k1; exact absurd k1 (by decide)
theorem next_may {q : Q} {s : Nd} {u a : Int} {r : List Int} (hr : s.rem = a :: r) (h : mayQ q s.c.getLast? u = true) : next (prQ q) s u = if 0 ≤ s.left u - a ∧ s.v + a ≤ q.most then some (take s u a r) else none := by
 unfold next
 rw [hr]
 show (if mayQ q s.c.getLast? u = true ∧ 0 ≤ s.left u - a ∧ s.v + a ≤ q.most then _ else _) = _
 by_cases k : 0 ≤ s.left u - a ∧ s.v + a ≤ q.most
 ·rw [if_pos k, if_pos ⟨h, k⟩]
 ·rw [if_neg k, if_neg fun x => k x.2]
end Go.Proofs.Ythkddpgnhaeooaa.Cp
namespace Go.Proofs.Ythkddpgnhaeooaa.Bm
open Go Go.RowKit
theorem LL_ex {k : List Nat × List Nat} {b : Body} {σ₀ : Slots} {h₀ : Heap} {α : Type} (a₀ : α) (up : α → List (Nat × Value)) (H : α → Heap) (Q : Exit × Slots × Heap → Prop) (I : α → Prop) (ms : α → Nat)
  (hI : I a₀) (e0 : sets (up a₀) (forget k.1 σ₀) = forget k.1 σ₀) (e1 : H a₀ = h₀)
  (step : ∀ (nx : Body) a, I a → (∀ a', ms a' < ms a → I a' → ∃ r, nx (sets (up a') (forget k.1 σ₀)) (H a') = some r ∧ Q r) →
   ∃ r, lopK k.1 k.2 nx (H a).length (b (forget k.1 (sets (up a) (forget k.1 σ₀))) (H a)) = some r ∧ Q r) :
  ∃ r, LL k b σ₀ h₀ = some r ∧ Q r := by
 have key : ∀ n a, ms a = n → I a → ∃ r, LL k b (sets (up a) (forget k.1 σ₀)) (H a) = some r ∧ Q r := by
  intro n
  induction n using Nat.strongRecOn with
  | _ n ih =>
   intro a ha hi
   rw [LL_go]
   exact step (LL k b) a hi fun a' hlt hi' => ih (ms a') (by omega) a' rfl hi'
 have h := key _ a₀ rfl hI
 rw [e0, e1] at h
 have e : LL k b (forget k.1 σ₀) h₀ = LL k b σ₀ h₀ := by
  rw [LL_go, LL_go, forget_twice]
 rw [e] at h
 exact h
open Cp (Q Br Acc bump)
def brR : Rec Br where
 enc b := [.int .i64 b.kids, .int .i64 b.bound]
 m := 1
 len _ := rfl
 set _ := rfl
 bel _ _ := rfl
def visF : Value := .func (.func 26) ⟨[]⟩ ⟨[cAt 5 0, cAt 4 0, cAt 3 0, cAt 1 0, cAt 2 0, cAt 0 0, cAt 6 0]⟩
structure Cs (p : Pb) (ka : Option Bool) (A : List Int) (h : Heap) (a : Acc) (c : List Int) (ob : Option Nat) : Prop where
 len : 8 ≤ h.length
 pr : h[0]? = some (.cells 26 p.cells 0)
 ar : h[1]? = some (.cells 34 [intE.o ka A] 0)
 tr : h[2]? = some (.cells 35 [brR.sl 7 a.tree] 0)
 be : ∃ k, Enc.Ok k a.best ∧ h[3]? = some (.cells 34 [intE.o k a.best] 0)
 ch : ∃ cv, h[4]? = some (.cells 34 [cv] 0) ∧ ((ob = none ∧ c = [] ∧ cv = .slice none 0 0) ∨ ∃ b R, ob = some b ∧ 8 ≤ b ∧ cv = Enc.part b c.length R ∧ h[b]? = some (intE.row 3 R) ∧ R.take c.length = c ∧ c.length ≤ R.length ∧ R ≠ [] ∧ R.length ≤ A.length)
 va : h[5]? = some (.cells 3 [.int .i64 a.val] 0)
 vi : h[6]? = some (.cells 74 [visF] 0)
 row : h[7]? = some (brR.row 60 a.tree)
structure Ext (h : Heap) (ob : Option Nat) (h' : Heap) (ob' : Option Nat) : Prop where
 len : h.length ≤ h'.length
 keep : ∀ b o, 8 ≤ b → ob ≠ some b → h[b]? = some o → h'[b]? = some o
 new : ob' = ob ∨ (ob = none ∧ ∃ b, ob' = some b ∧ h.length ≤ b)
theorem gl {h : Heap} {b : Nat} {o : AObj} (hb : h[b]? = some o) : b < h.length := (List.getElem?_eq_some_iff.1 hb).1
theorem ga {h : Heap} {b : Nat} {o : AObj} (e : Heap) (hb : h[b]? = some o) : (h ++ e)[b]? = some o := by rw [List.getElem?_append_left (gl hb), hb]
theorem gs {h : Heap} {b c : Nat} {o q : AObj} (hb : h[b]? = some o) (hne : c ≠ b) : (h.set c q)[b]? = some o := by rw [List.getElem?_set_ne hne]; exact hb
theorem gq {h : Heap} {b : Nat} {q : AObj} (hb : b < h.length) : (h.set b q)[b]? = some q := by rw [List.getElem?_set_self hb]
theorem Ext.refl {h : Heap} {ob : Option Nat} : Ext h ob h ob := ⟨Nat.le_refl _, fun _ _ _ _ h => h, .inl rfl⟩
theorem Ext.trans {h h1 h2 : Heap} {o o1 o2 : Option Nat} (x : Ext h o h1 o1) (y : Ext h1 o1 h2 o2) : Ext h o h2 o2 := by
 refine ⟨Nat.le_trans x.len y.len, fun b ob hb hn hg => y.keep b ob hb ?_ (x.keep b ob hb hn hg), ?_⟩
 ·rcases x.new with e | ⟨_, b', e, hl⟩
  ·rw [e]; exact hn
  ·rw [e]; intro k
   have := gl hg
   have := Option.some.inj k
   omega
 ·rcases y.new with e | ⟨e, b', e', hl⟩
  ·rw [e]; exact x.new
  ·rcases x.new with k | ⟨k, b2, k2, _⟩
   ·exact .inr ⟨by rw [← k]; exact e, b', e', Nat.le_trans x.len hl⟩
   ·rw [e] at k2; cases k2
theorem Ext.app {h : Heap} {ob : Option Nat} (e : Heap) : Ext h ob (h ++ e) ob := ⟨by simp, fun _ _ _ _ h => ga e h, .inl rfl⟩
theorem Ext.set {h : Heap} {ob : Option Nat} {i : Nat} {q : AObj} (hi : i < 8 ∨ ob = some i) : Ext h ob (h.set i q) ob := by
 refine ⟨by simp, fun b o hb hn hg => gs hg ?_, .inl rfl⟩
 rcases hi with hi | hi
 ·omega
 ·intro e; rw [hi, e] at hn; exact hn rfl
theorem Ext.trim {h h' : Heap} {o o' : Option Nat} (x : Ext h o h' o') (n : Nat) (vs : List Value) (hn : h.length ≤ n) (_hn' : n ≤ h'.length) : Ext h o (trim n vs h') o' := by
 unfold Bm.trim
 split
 ·exact x
 split
 ·refine ⟨by rw [List.length_take]; omega, fun b ob hb hne hg => ?_, x.new⟩
  rw [List.getElem?_take_of_lt (by have := gl hg; omega)]
  exact x.keep b ob hb hne hg
 ·exact x
section
variable {p : Pb} {ka : Option Bool} {A : List Int} {h : Heap} {a : Acc} {c : List Int} {ob : Option Nat}
theorem Cs.app (s : Cs p ka A h a c ob) (e : Heap) : Cs p ka A (h ++ e) a c ob := by
 obtain ⟨h0, h1, h2, h3, ⟨k, h4, h4'⟩, ⟨cv, h5, h6⟩, h7, h8, h9⟩ := s
 refine ⟨by simp; omega, ga e h1, ga e h2, ga e h3, ⟨k, h4, ga e h4'⟩, ⟨cv, ga e h5, ?_⟩, ga e h7, ga e h8, ga e h9⟩
 rcases h6 with h6 | ⟨b, R, q1, q2, q3, q4, q5⟩
 ·exact .inl h6
 ·exact .inr ⟨b, R, q1, q2, q3, ga e q4, q5⟩
theorem Cs.trim (s : Cs p ka A h a c ob) (n : Nat) (vs : List Value) (hn : 8 ≤ n) : Cs p ka A (trim n vs h) a c ob := by
 unfold Bm.trim
 split
 ·exact s
 split
 ·rename_i hl hc
  rw [Bool.and_eq_true] at hc
  have ht : ∀ {b : Nat} {o : AObj}, b < n → h[b]? = some o → (h.take n)[b]? = some o := fun hb ho => by rw [List.getElem?_take_of_lt hb]; exact ho
  obtain ⟨h0, h1, h2, h3, ⟨k, h4, h4'⟩, ⟨cv, h5, h6⟩, h7, h8, h9⟩ := s
  refine ⟨by rw [List.length_take]; omega, ht (by omega) h1, ht (by omega) h2, ht (by omega) h3, ⟨k, h4, ht (by omega) h4'⟩, ⟨cv, ht (by omega) h5, ?_⟩, ht (by omega) h7, ht (by omega) h8, ht (by omega) h9⟩
  rcases h6 with h6 | ⟨b, R, q1, q2, q3, q4, q5⟩
  ·exact .inl h6
  ·have hm := List.all_eq_true.1 hc.2 _ (List.mem_of_getElem? (ht (by omega) h5))
   have hbn : b < n := by
    rw [q3] at hm
    unfold belowO at hm
    simp only [List.all_cons, List.all_nil, Bool.and_true] at hm
    exact of_decide_eq_true hm
   exact .inr ⟨b, R, q1, q2, q3, ht hbn q4, q5⟩
 ·exact s
theorem Cs.setA {b : Acc} (s : Cs p ka A h a c ob) {i : Nat} {q : AObj} (hi : i < 8) (hne : i ≠ 0 ∧ i ≠ 1 ∧ i ≠ 4 ∧ i ≠ 6) (h2 : (h.set i q)[2]? = some (.cells 35 [brR.sl 7 b.tree] 0)) (h3 : ∃ k, Enc.Ok k b.best ∧ (h.set i q)[3]? = some (.cells 34 [intE.o k b.best] 0))
  (h5 : (h.set i q)[5]? = some (.cells 3 [.int .i64 b.val] 0)) (h7 : (h.set i q)[7]? = some (brR.row 60 b.tree)) : Cs p ka A (h.set i q) b c ob := by
 obtain ⟨k0, k1, k2, _, _, ⟨cv, k5, k6⟩, _, k8, _⟩ := s
 refine ⟨by simpa using k0, gs k1 hne.1, gs k2 hne.2.1, h2, h3, ⟨cv, gs k5 hne.2.2.1, ?_⟩, h5, gs k8 hne.2.2.2, h7⟩
 rcases k6 with k6 | ⟨b, R, q1, q2, q3, q4, q5⟩
 ·exact .inl k6
 ·exact .inr ⟨b, R, q1, q2, q3, gs q4 (by omega), q5⟩
theorem Cs.cho (s : Cs p ka A h a c ob) : ∃ cv, (∀ e, loadT ⟨some false, some 1⟩ (h ++ e) (cAt 4 0) = some cv) ∧ ChV h cv c := by
 obtain ⟨cv, h5, h6⟩ := s.ch
 refine ⟨cv, fun e => obj_load (ga e h5) rfl, ?_⟩
 rcases h6 with ⟨_, rfl, rfl⟩ | ⟨b, R, _, _, rfl, q4, q5, q6, _⟩
 ·exact ChV.tree (k := none) Enc.ok_nil
 ·exact ChV.part q4 q5 q6
end
end Go.Proofs.Ythkddpgnhaeooaa.Bm
