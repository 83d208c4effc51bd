/-
 Chapter 25: the statement on zones, walked. Conditions: none but the sizes of what fits in memory.
-/
import Derived.Test.YtcclbpcifohhkaaGreatQT31
namespace Go.Proofs.YtcclbpcifohhkaaGreat.Bm
open Go Go.RowKit
open Rg (Rect Pt Zn areaL comA opL)
open Cp (Q Br prQ validQ best upZ q1)
theorem ex_fst {X : Res} {v : Value} (h : X.map Prod.fst = some v) : ∃ h', X = some (v, h') := by
 cases X with
 | none => cases h
 | some r =>
  obtain ⟨a, b⟩ := r
  have : a = v := Option.some.inj h
  exact ⟨b, by rw [this]⟩
theorem rem64 {P : Program} {t : TypeId} (a b : Nat) (hb : b ≠ 0) : aBin P .rem t (.int .i64 (a : Int)) (.int .i64 (b : Int)) = some (.int .i64 ((a % b : Nat) : Int)) := by
 show (if (b : Int) = 0 then none else some (Value.int .i64 ((a : Int).tmod (b : Int)))) = _
 rw [if_neg (by omega), Int.tmod_eq_emod_of_nonneg (by omega)]; rfl
theorem rem8 {P : Program} {t : TypeId} (a : Nat) : aBin P .rem t (.int .u8 (a : Int)) (.int .u8 6) = some (.int .u8 ((a % 6 : Nat) : Int)) := by
 show (if (6 : Int) = 0 then none else some (Value.int .u8 ((a : Int).tmod (6 : Int)))) = _
 rw [if_neg (by decide), Int.tmod_eq_emod_of_nonneg (by omega)]; rfl
theorem upZ_le (s most : Int) : ∀ n j, upZ s most n j ≤ j + n
 | 0, j => Nat.le_refl _
 | n + 1, j => by
  unfold upZ
  split
  ·have := upZ_le s most n (j + 1); omega
  ·omega
def numZ (s most : Int) (n j : Nat) : Nat := if 0 < s then upZ s most n j else j
theorem take_rep (s : Int) : ∀ n : Nat, (List.replicate n s).takeWhile (fun a => decide (a ≠ 0)) = if s = 0 then [] else List.replicate n s
 | 0 => by split <;> rfl
 | n + 1 => by
  rw [List.replicate_succ, List.takeWhile_cons]
  by_cases h : s = 0
  ·rw [if_pos h, h]; rfl
  ·rw [if_neg h, if_pos (by simpa using h), take_rep s n, if_neg h]
theorem best_room (k : Option Bool) (l : List Rect) (hk : Rec.Ok k l) (rl : regB l = true) {s most : Int} (al : areaL l = s) (h0 : 0 ≤ s) {fc : Nat} (hf : fc ≤ 5) (hm0 : 0 ≤ most) (hm : most ≤ 9223372036854775807) :
  ∃ kb c t, Enc.Ok kb c ∧ c.length = numZ s most fc 0 ∧ pureCall E.P (L E) 9 [lst false (roomE.vals (List.replicate fc (k, l))), .agg ⟨[.int .i64 2, .slice none 0 0, .int .i64 most, .slice none 0 0]⟩] = some (.tuple ⟨[intE.o kb c, .int .i64 (((numZ s most fc 0 : Nat) : Int) * s), t, .int .i64 0]⟩) := by
 have hP : RoomsOk (List.replicate fc (k, l)) := ⟨fun r hr => by rw [List.eq_of_mem_replicate hr]; exact hk, fun r hr => by rw [List.eq_of_mem_replicate hr]; exact (reg_ok rl).2, by rw [List.length_replicate]; omega⟩
 have hA : areasF (lists (List.replicate fc (k, l))) = some (if s = 0 then [] else List.replicate fc s) := by
  unfold areasF lists
  rw [List.map_replicate, List.map_replicate, al, take_rep, if_pos ⟨by rw [List.length_replicate]; omega, List.all_eq_true.2 fun r hr => by rw [List.eq_of_mem_replicate hr]; exact rl⟩]
 have hpb : PbOk ⟨2, none, [], most, none, []⟩ := ⟨fun _ => rfl, fun _ => rfl, ⟨by show (-9223372036854775808 : Int) ≤ 2; omega, by show (2 : Int) ≤ 9223372036854775807; omega⟩, ⟨by show -9223372036854775808 ≤ most; omega, hm⟩, Nat.zero_le _, Nat.zero_le _⟩
 have hv : validQ (q1 most) = true := Cp.validQ_iff.2 ⟨by show (0 : Int) ≤ 2; omega, by show (2 : Int) ≤ 63; omega, hm0, Nat.zero_le _, Nat.zero_le _, rfl⟩
 obtain ⟨kb, h1, h2⟩ := best_ok false _ hP ⟨2, none, [], most, none, []⟩ hpb _ hA hv
 have hq : (Pb.q ⟨2, none, [], most, none, []⟩) = q1 most := rfl
 rw [hq] at h1 h2
 by_cases hs : s = 0
 ·rw [if_pos hs] at h1 h2
  obtain ⟨t, hb⟩ := Cp.bestZ0 hm0
  rw [hb] at h1 h2
  have en : numZ s most fc 0 = 0 := if_neg (by omega)
  refine ⟨kb, [], lst false (brR.vals t), h1 _ rfl, by rw [en]; rfl, ?_⟩
  rw [en]
  have ez : (((0 : Nat) : Int) * s) = 0 := by simp
  rw [ez]
  exact h2
 ·rw [if_neg hs] at h1 h2
  have hp : 0 < s := by omega
  obtain ⟨t, hb⟩ := Cp.bestZ (s := s) (most := most) hp hm0 (f := fc) (by omega)
  rw [hb] at h1 h2
  have en : numZ s most fc 0 = upZ s most fc 0 := if_pos hp
  refine ⟨kb, _, lst false (brR.vals t), h1 _ rfl, by rw [en]; exact List.length_replicate, ?_⟩
  rw [en]
  exact h2
def cor20 (l : List Zn) : Bool := l.all fun z => decide (z.cs.length ≤ 20)
set_option maxHeartbeats 4000000 in
set_option maxRecDepth 20000 in
theorem zone_law (p : Pl) (a : List Rect) (w f most : Int) (hl : p.zs.length ≤ 9223372036854775807) (hw : 0 ≤ w ∧ w ≤ 255) (hf : 0 ≤ f ∧ f ≤ 255) (hm : most ≤ 9223372036854775807) :
  ∃ h', L E 3 [p.val, lst false (rectR.vals a), .int .u8 w, .int .u8 f, .int .i64 most] [] 0 = some (.bool true, h') := by
 refine ex_fst ?_
 have sm := small25_spec
 have lz : ∀ h, lenT .sl h p.zv = some (.int .i64 p.zs.length) := fun h => Rec.tree_len
 have iz : ∀ (j : Nat) (hj : j < p.zs.length), indexAddrT (.sl 36 ⟨some true, some 3⟩) p.zv (.int .i64 (j : Int)) = some (cptr ((znR p.y).val p.zs[j])) := fun j hj => Rec.index_tree rfl hj
 have la : ∀ h, lenT .sl h (lst false (rectR.vals a)) = some (.int .i64 a.length) := fun h => Rec.tree_len
 have ro : ∀ h, reify E.P 8 h (lst false (rectR.vals a)) = some (lst false (rectR.vals a)) := fun h => rfl
 have sa : settled depth (lst false (rectR.vals a)) = true := rfl
 rw [L_fn F3 rfl]
 unfold Pl.val Pl.cells at *
 generalize hZV : p.zv = ZV at *
 by_cases g1 : 16 < a.length
 ·have g1' : 16 < (a.length : Int) := by omega
  generalize lst false (rectR.vals a) = VA at *
  simp -implicitDefEqProofs [r3, p3, ret0 m4, sm, la, g1']
 have g1' : ¬ 16 < (a.length : Int) := by omega
 have qa : pureCall E.P (L E) 5 [lst false (rectR.vals a)] = some (.bool (regB a)) := rright2_spec (some false) a Rec.ok_some (by omega)
 cases ra : regB a
 ·rw [ra] at qa
  generalize lst false (rectR.vals a) = VA at *
  simp -implicitDefEqProofs [r3, p3, ret0 m4, sm, la, g1', ret0 m5, ro, qa]
 rw [ra] at qa
 by_cases g2 : 4 < p.zs.length
 ·have g2' : 4 < (p.zs.length : Int) := by omega
  generalize lst false (rectR.vals a) = VA at *
  simp -implicitDefEqProofs [r3, p3, ret0 m4, sm, la, g1', ret0 m5, ro, qa, lz, g2']
 have g2' : ¬ 4 < (p.zs.length : Int) := by omega
 by_cases g3 : p.zs.length = 0
 ·generalize lst false (rectR.vals a) = VA at *
  simp -implicitDefEqProofs [r3, p3, ret0 m4, sm, la, g1', ret0 m5, ro, qa, lz, g2', g3]
 have g3' : ¬ (p.zs.length : Int) = 0 := by omega
 by_cases g4 : most < 0
 ·generalize lst false (rectR.vals a) = VA at *
  simp -implicitDefEqProofs [r3, p3, ret0 m4, sm, la, g1', ret0 m5, ro, qa, lz, g2', g3, g4]
 have hN : p.zs.length ≤ 4 := by omega
 generalize hVA : lst false (rectR.vals a) = VA at *
 simp -implicitDefEqProofs [r3, p3, ret0 m4, sm, la, g1', ret0 m5, ro, qa, lz, g2', g3, g4]
 rw [LL_for (γ := Unit) p.zs () (fun i _ => [(12, .int .i64 (i : Int))]) (fun _ _ => [plO p ZV])
  (fun _ rest _ => if cor20 rest = true then (.exit 0, [(12, undef)], [plO p ZV]) else (.ret, [(10, .bool true), (12, undef)], [plO p ZV])) (fun _ _ => True) hl trivial]
 ·cases hc : cor20 p.zs
  ·simp -implicitDefEqProofs [k3_5, plO]
  obtain ⟨wn, rfl⟩ : ∃ n : Nat, w = (n : Int) := ⟨w.toNat, by omega⟩
  obtain ⟨fn, rfl⟩ : ∃ n : Nat, f = (n : Int) := ⟨f.toNat, by omega⟩
  have hi : wn % p.zs.length < p.zs.length := Nat.mod_lt _ (by omega)
  have rw1 : ∀ t, aBin E.P .rem t (.int .i64 (wn : Int)) (.int .i64 (p.zs.length : Int)) = some (.int .i64 ((wn % p.zs.length : Nat) : Int)) := fun t => rem64 wn _ g3
  have xi := iz _ hi
  obtain ⟨z, hz⟩ : ∃ z, z = p.zs[wn % p.zs.length] := ⟨_, rfl⟩
  have hcz : z.cs.length ≤ 20 := by
   have := List.all_eq_true.1 hc z (hz ▸ List.getElem_mem hi)
   simpa using this
  rw [← hz, zn_val] at xi
  obtain ⟨i0, hi0⟩ : ∃ i0, i0 = wn % p.zs.length := ⟨_, rfl⟩
  rw [← hi0] at rw1 xi
  have ww : IntKind.i64.wrap (wn : Int) = wn := wrap64 (by omega) (by omega)
  obtain ⟨z', hz'⟩ : ∃ z' : Zn, z' = ⟨⟨⟨[122]⟩⟩, true, z.cs⟩ := ⟨_, rfl⟩
  have hp' : PlOk { p with zs := [z'], x := true } := ⟨by show 1 ≤ 6; omega, fun q hq => by
   rw [List.mem_singleton.1 hq, hz']; show z.cs.length ≤ 64; omega⟩
  obtain ⟨s, hs⟩ : ∃ s, s = comA a (cellsZ z) := ⟨_, rfl⟩
  have ecz : cellsZ z' = cellsZ z := by rw [hz']; rfl
  have hs0 : 0 ≤ s := by rw [hs]; exact Rg.comA_nonneg _ _
  have hs1 : s ≤ 219902325555200 * 16 := by
   have h1 := comA_le (reg_ok (cellsZ_reg z)).1 (reg_ok (cellsZ_reg z)).2 (reg_ok ra).1
   rw [← hs] at h1; omega
  have sh := shares_spec { p with zs := [z'], x := true } hp' (some false) a Rec.ok_some (by omega)
  have esh : sharesV [z'] a = lst false [.int .i64 s] := by
   unfold sharesV sharesL
   rw [ra, if_pos rfl, hs, ← ecz]; rfl
  have sh : pureCall E.P (L E) 6 [.agg ⟨[opV p.d, opV p.t, lst true [(znR p.y).val z'], opV p.r, opV p.c, opV p.v, opV p.s, .int .i64 p.h]⟩, lst false (rectR.vals a)] = some (lst false [.int .i64 s]) := by
   rw [← esh]; exact sh
  have zo := zof_spec { p with zs := [z'], x := true } hp' (some false) a Rec.ok_some (by omega)
  have zo : pureCall E.P (L E) 7 [.agg ⟨[opV p.d, opV p.t, lst true [(znR p.y).val z'], opV p.r, opV p.c, opV p.v, opV p.s, .int .i64 p.h]⟩, lst false (rectR.vals a)] = some (lst false ((namesZ [z'] a).map .string)) := zo
  have sP : settled depth (.agg ⟨[opV p.d, opV p.t, lst true [(znR p.y).val z'], opV p.r, opV p.c, opV p.v, opV p.s, .int .i64 p.h]⟩) = true := Pl.set { p with zs := [z'], x := true }
  have nl : (namesZ [z'] a).length = if 0 < s then 1 else 0 := by
   rw [hz', names_one _ _ _ ra, hs]; rfl
  have lN : ∀ h, lenT .sl h (lst false ((namesZ [z'] a).map .string)) = some (.int .i64 (if 0 < s then 1 else 0)) := fun h => by
   rw [len_lst, List.length_map, nl]; split <;> rfl
  obtain ⟨k, l, e, hk, hcase, hcm⟩ := common25_spec p.y z a ra (by omega)
  have lS : ∀ h, lenT .sl h (lst false [.int .i64 s]) = some (.int .i64 1) := fun h => rfl
  have iS : indexAddrT (.sl 3 ⟨some false, some 1⟩) (lst false [.int .i64 s]) (.int .i64 0) = some (cptr (.int .i64 s)) := rfl
  have ezv : (znR p.y).val z' = .agg ⟨[.string ⟨⟨[122]⟩⟩, .bool true, lst p.y (spanR.vals z.cs)]⟩ := by rw [hz']; rfl
  rw [ezv] at sh zo sP
  rw [zn_val] at hcm
  have szv : settled depth (.agg ⟨[.string z.nm, .bool z.ov, lst p.y (spanR.vals z.cs)]⟩) = true := rfl
  have bz3 : buildT (.fs ⟨[.string ⟨⟨[]⟩⟩, .bool false, .slice none 0 0]⟩ ⟨[(0, 1), (1, 1), (2, 1)]⟩) #[(0, .string ⟨⟨[122]⟩⟩), (1, .bool true), (2, lst p.y (spanR.vals z.cs))] = some (.agg ⟨[.string ⟨⟨[122]⟩⟩, .bool true, lst p.y (spanR.vals z.cs)]⟩) := by cases p.y <;> rfl
  have lz1 : ∀ h, buildSliceT (some ⟨36, 3, 48, .agg ⟨[.string ⟨⟨[]⟩⟩, .bool false, .slice none 0 0]⟩, ⟨some true, some 3⟩⟩) false h 1 #[(0, .agg ⟨[.string ⟨⟨[122]⟩⟩, .bool true, lst p.y (spanR.vals z.cs)]⟩)] = some (lst true [.agg ⟨[.string ⟨⟨[122]⟩⟩, .bool true, lst p.y (spanR.vals z.cs)]⟩], h) := fun h => by
   cases p.y <;> exact (build_lit' (n := 1) (l := [(0, _)]) rfl rfl (by decide) (by decide) (by decide)).trans rfl
  have nb : ∀ g : Bool, aBin E.P .neq 4 (.bool g) (.bool g) = some (.bool false) := fun g => by cases g <;> kernel_rfl
  have so : ∀ k l, settled depth (rectR.o k l) = true := fun _ _ => Rec.o_set
  have fz3 : fitsTT ⟨some true, some 3⟩ (.agg ⟨[.string z.nm, .bool z.ov, lst p.y (spanR.vals z.cs)]⟩) = true := rfl
  rw [hVA] at sh zo
  rw [show rectR.o (some false) a = lst false (rectR.vals a) from rfl, hVA] at hcm
  clear hz hz' hp' esh ezv nl hi0 hi
  generalize lst p.y (spanR.vals z.cs) = VC at *
  generalize lst false ((namesZ [z'] a).map .string) = VN at *
  generalize lst false [.int .i64 s] = VS at *
  rcases hcase with he | ⟨he, rl, al⟩
  ·by_cases hpos : 0 < s
   ·rw [if_pos hpos] at lN
    simp -implicitDefEqProofs [k3_5, plO, lz, rw1, xi, ww, fz3, bz3, lz1, ret1 m6, ret1 m7, sP, sa, sh, zo, lS, iS, lN, hpos, nb, ret1 m8, szv, hcm, he]
   ·rw [if_neg hpos] at lN
    simp -implicitDefEqProofs [k3_5, plO, lz, rw1, xi, ww, fz3, bz3, lz1, ret1 m6, ret1 m7, sP, sa, sh, zo, lS, iS, lN, hpos, nb, ret1 m8, szv, hcm, he]
  subst he
  obtain ⟨fc, hfc⟩ : ∃ fc, fc = fn % 6 := ⟨_, rfl⟩
  have hfc5 : fc ≤ 5 := by omega
  have rw8 : ∀ t, aBin E.P .rem t (.int .u8 (fn : Int)) (.int .u8 6) = some (.int .u8 (fc : Int)) := fun t => by rw [hfc]; exact rem8 fn
  have wf : IntKind.i64.wrap (fc : Int) = fc := wrap64 (by omega) (by omega)
  clear hfc
  have sR1 : szOf E.P 31 = some 1 := by kernel_rfl
  have aR1 : aggT E.P 31 = some false := by kernel_rfl
  have hnew := fun (h : Heap) (σ : Slots) (s : Nat) => newK_nil (P := E.P) (t := 31) (h := h) (σ := σ) (s := s) (n := 0) sR1
  obtain ⟨x, hx⟩ : ∃ x : Option Bool × List Rect, x = (k, l) := ⟨_, rfl⟩
  have ll1 : ∀ h, buildSliceT (some ⟨31, 1, 24, .slice none 0 0, ⟨some false, some 1⟩⟩) false h 1 #[(0, rectR.o k l)] = some (lst true (roomE.vals [x]), h) := fun h => by
   rw [hx]; exact lit_list1 h k l
  obtain ⟨O1, hO1⟩ : ∃ O, O = AObj.cells 30 [opV p.d, opV p.t, lst true [Value.agg ⟨[.string ⟨⟨[122]⟩⟩, .bool true, VC]⟩], opV p.r, opV p.c, opV p.v, opV p.s, .int .i64 p.h] 0 := ⟨_, rfl⟩
  obtain ⟨O2, hO2⟩ : ∃ O, O = AObj.cells 36 [.string z.nm, .bool z.ov, VC] 0 := ⟨_, rfl⟩
  by_cases hpos : 0 < s
  case' pos =>
   rw [if_pos hpos] at lN
   simp -implicitDefEqProofs [k3_5, plO, lz, rw1, xi, ww, fz3, bz3, lz1, ret1 m6, ret1 m7, sP, sa, sh, zo, lS, iS, lN, hpos, nb, ret1 m8, szv, hcm, prep_new, hnew]
  case' neg =>
   rw [if_neg hpos] at lN
   simp -implicitDefEqProofs [k3_5, plO, lz, rw1, xi, ww, fz3, bz3, lz1, ret1 m6, ret1 m7, sP, sa, sh, zo, lS, iS, lN, hpos, nb, ret1 m8, szv, hcm, prep_new, hnew]
  all_goals
   rw [LL_for (γ := Unit) (List.replicate fc ()) () (fun i _ => [(18, Enc.sl 2 (List.replicate i x)), (19, .int .i64 (i : Int))]) (fun i _ => [O1, O2, roomE.row 31 (List.replicate i x)])
    (fun _ _ _ => (.exit 2, [(18, Enc.sl 2 (List.replicate fc x)), (19, undef)], [O1, O2, roomE.row 31 (List.replicate fc x)])) (fun _ _ => True) (by rw [List.length_replicate]; omega) trivial]
   ·have hfz := Enc.frz_sl (O := roomE) (P := E.P) (h := [O1, O2, roomE.row 31 (List.replicate fc x)]) (b := 2) (lo := 0) (t := 31) (l := List.replicate fc x) rfl sR1 aR1 (Nat.zero_le _)
    obtain ⟨H2, hH2⟩ : ∃ H, H = (if (List.replicate fc x).length = 0 then [O1, O2, roomE.row 31 (List.replicate fc x)] else [O1, O2, roomE.row 31 (List.replicate fc x)].set 2 .dead) := ⟨_, rfl⟩
    rw [← hH2] at hfz
    obtain ⟨kb, c, tv, hkb, hcl, hbe⟩ := best_room k l hk rl (s := s) (most := most) (al.trans hs.symm) hs0 hfc5 (by omega) hm
    rw [← hx] at hbe
    have lR : ∀ h, lenT .sl h (lst false (roomE.vals (List.replicate fc x))) = some (.int .i64 fc) := fun h => by
     rw [len_lst, Enc.vals_len, List.length_replicate]
    have sRm : settled depth (lst false (roomE.vals (List.replicate fc x))) = true := rfl
    have sPb : settled depth (.agg ⟨[.int .i64 2, .slice none 0 0, .int .i64 most, .slice none 0 0]⟩) = true := rfl
    have lc : ∀ h, lenT .sl h (intE.o kb c) = some (.int .i64 c.length) := fun h => Enc.o_len hkb
    rw [hcl] at lc
    have hpbB := pb_b2 2 most
    have hn5 : numZ s most fc 0 ≤ 5 := by
     have := upZ_le s most fc 0
     unfold numZ; split <;> omega
    generalize lst false (roomE.vals (List.replicate fc x)) = VR at *
    generalize intE.o kb c = VC2 at *
    generalize Enc.sl 2 (List.replicate fc x) = V0 at *
    simp -implicitDefEqProofs [k3_20, prep_frz, hfz, hpbB, ret1 m9, sRm, sPb, hbe]
    have hmul : ∀ j : Nat, j ≤ 6 → (j : Int) * s ≤ 6 * s := fun j hj => Int.mul_le_mul_of_nonneg_right (by omega) hs0
    have hmul0 : ∀ j : Nat, 0 ≤ (j : Int) * s := fun j => Int.mul_nonneg (by omega) hs0
    rw [LL_rec (α := Nat × Nat) (fc, 0) (fun q => [(24, .int .i64 (q.2 : Int))]) (fun _ => H2) (fun q => (.exit 4, [(24, .int .i64 ((numZ s most q.1 q.2 : Nat) : Int))], H2)) (fun q => q.2 + q.1 = fc) (fun q => q.1)]
    ·have wK : IntKind.i64.wrap (((numZ s most fc 0 : Nat) : Int) * s) = ((numZ s most fc 0 : Nat) : Int) * s := wrap64 (by have := hmul0 (numZ s most fc 0); omega) (by have := hmul (numZ s most fc 0) (by omega); omega)
     dsimp only
     generalize numZ s most fc 0 = K at *
     simp -implicitDefEqProofs [k3_25, lc, iS, wK]
    ·show 0 + fc = fc; omega
    ·simp -implicitDefEqProofs [k3_25]
    ·rfl
    ·intro nx q hq ih
     obtain ⟨n, j⟩ := q
     simp only at hq ih ⊢
     by_cases hj : j < fc
     ·obtain ⟨n, rfl⟩ : ∃ m, n = m + 1 := ⟨n - 1, by omega⟩
      have hj' : (j : Int) < (fc : Int) := by omega
      by_cases hp : 0 < s
      ·have wj : IntKind.i64.wrap ((j : Int) + 1) = (j : Int) + 1 := wrap64 (by omega) (by omega)
       have wm : IntKind.i64.wrap (((j : Int) + 1) * s) = ((j : Int) + 1) * s := wrap64 (by have := hmul0 (j + 1); push_cast at this; omega) (by have := hmul (j + 1) (by omega); push_cast at this; omega)
       by_cases hc : ((j : Int) + 1) * s ≤ most
       ·have e : numZ s most (n + 1) j = numZ s most n (j + 1) := by
         unfold numZ
         rw [if_pos hp, if_pos hp]
         exact if_pos hc
        have ih := ih (n, j + 1) (Nat.lt_succ_self n) (by show j + 1 + n = fc; omega)
        simp only at ih
        have e3 : (((j + 1 : Nat) : Int)) = (j : Int) + 1 := by omega
        rw [e3] at ih
        rw [e]
        generalize numZ s most n (j + 1) = K at *
        simp -implicitDefEqProofs [k3_25] at ih
        simp -implicitDefEqProofs [r3_25, k3_25, lR, hj', iS, hp, wj, wm, hc, ih, trim_le]
       ·have e : numZ s most (n + 1) j = j := by
         unfold numZ
         rw [if_pos hp]
         exact if_neg hc
        rw [e]
        simp -implicitDefEqProofs [r3_25, k3_25, lR, hj', iS, hp, wj, wm, hc, trim_le]
      ·have e : numZ s most (n + 1) j = j := if_neg hp
       rw [e]
       simp -implicitDefEqProofs [r3_25, k3_25, lR, hj', iS, hp, trim_le]
     ·have n0 : n = 0 := by omega
      subst n0
      have e : numZ s most 0 j = j := by unfold numZ; split <;> rfl
      have hj' : ¬ (j : Int) < (fc : Int) := by omega
      rw [e]
      simp -implicitDefEqProofs [r3_25, k3_25, lR, hj', trim_le]
   ·simp -implicitDefEqProofs [k3_20]
    rfl
   ·rw [hO1, hO2]; rfl
   ·intro nx i _ hi _
    rw [List.length_replicate] at hi
    subst hi
    have bl : ∀ R : AObj, List.length [O1, O2, R] = 3 := fun _ => rfl
    simp -implicitDefEqProofs [r3_20, k3_20, rw8, wf, trim_le]
   ·intro nx i u rest _ hi hv hd hwi _ ih
    rw [List.length_replicate] at hi
    have ih := ih () trivial
    have hi' : (i : Int) < (fc : Int) := by omega
    have ap := Enc.app (O := roomE) (el := ⟨31, 1, 24, .slice none 0 0, ⟨some false, some 1⟩⟩) (h := [O1, O2, roomE.row 31 (List.replicate i x)]) (b := 2) (lo := 0) (t := 31) (l := List.replicate i x) (m := [x]) (u := lst true (roomE.vals [x])) rfl rfl Enc.cells_tree (Nat.zero_le _) (by rw [List.length_replicate]; show (i + 1) * 24 ≤ 2 ^ 47; omega)
    rw [← List.replicate_succ'] at ap
    have ap : appendT (some ⟨31, 1, 24, .slice none 0 0, ⟨some false, some 1⟩⟩) [O1, O2, roomE.row 31 (List.replicate i x)] 0 false (Enc.sl 2 (List.replicate i x)) (lst true (roomE.vals [x])) = some (Enc.sl 2 (List.replicate (i + 1) x), [O1, O2, roomE.row 31 (List.replicate (i + 1) x)]) := ap
    have e3 : (((i + 1 : Nat) : Int)) = (i : Int) + 1 := by omega
    rw [e3] at ih
    generalize lst true (roomE.vals [x]) = VL at *
    generalize Enc.sl 2 (List.replicate (i + 1) x) = V2 at *
    generalize Enc.sl 2 (List.replicate i x) = V1 at *
    generalize roomE.row 31 (List.replicate (i + 1) x) = R2 at *
    generalize roomE.row 31 (List.replicate i x) = R1 at *
    simp -implicitDefEqProofs [k3_20] at ih
    simp -implicitDefEqProofs [r3_20, k3_20, rw8, wf, hi', ll1, ap, hwi, ih, trim_le]
 ·simp -implicitDefEqProofs [k3_5, plO]
 ·rfl
 ·intro nx i _ hi _
  simp -implicitDefEqProofs [r3_5, k3_5, hi, lz, trim_le, plO, cor20]
 ·intro nx i z rest _ hi hv hd hwi _ ih
  have ih := ih () trivial
  have hi' : (i : Int) < (p.zs.length : Int) := by omega
  have xi := iz i hi
  rw [hv, zn_val] at xi
  have lc : ∀ h, lenT .sl h (lst p.y (spanR.vals z.cs)) = some (.int .i64 z.cs.length) := fun h => Rec.tree_len
  have ec : cor20 (z :: rest) = (decide (z.cs.length ≤ 20) && cor20 rest) := rfl
  rw [ec]
  by_cases q : z.cs.length ≤ 20
  ·have q' : ¬ 20 < (z.cs.length : Int) := by omega
   rw [decide_eq_true q, Bool.true_and]
   simp -implicitDefEqProofs [k3_5, plO] at ih
   simp -implicitDefEqProofs [r3_5, k3_5, hi', lz, xi, lc, q', hwi, trim_le, plO]
   exact ih
  ·have q' : 20 < (z.cs.length : Int) := by omega
   rw [decide_eq_false q, Bool.false_and, if_neg (by decide)]
   simp -implicitDefEqProofs [r3_5, k3_5, hi', lz, xi, lc, q', trim_le, plO]
end Go.Proofs.YtcclbpcifohhkaaGreat.Bm
