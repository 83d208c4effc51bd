/-
  Chapter 25: the statement that the code tells what the reference tells. Conditions: what the types say of the arguments.
-/
import Derived.Test.YtcnafncmfiogcaaQT27
namespace Go.Proofs.Ytcnafncmfiogcaa.Bm
open Go Go.RowKit
open Cp (Q Br Acc Nd bump prQ mayQ validQ reach enter visR loopR next take us root run fitS fitR inA)
def VisRN (p : Pb) (ka : Option Bool) (A : List Int) (n : Nat) : Prop := ∀ (s : Nd) (a : Acc) (h : Heap) (kc : Option Bool), Enc.Ok kc s.c → s.rem.length = n → Sq p.q A s → Rs p ka A h a →
  ∃ h', L E 50 [cAt 1 0, intE.o kc s.c] h 0 = some (.tuple #[], h') ∧ Rs p ka A h' (visR (prQ p.q) n s a) ∧ h.length ≤ h'.length
theorem trim_len {n : Nat} {vs : List Value} {h : Heap} (hn : n ≤ h.length) : n ≤ (trim n vs h).length := by
  unfold Bm.trim
  split
  · exact hn
  split
  · rw [List.length_take]; omega
  · exact hn
set_option maxHeartbeats 4000000 in
theorem visR_all (p : Pb) (hp : PbOk p) (hv : validQ p.q = true) (ka : Option Bool) (A : List Int) (hka : Enc.Ok ka A) (hA12 : A.length ≤ 12) (hin : inA A = true) (n : Nat) (ih : ∀ m, n = m + 1 → VisRN p ka A m) : VisRN p ka A n := by
  intro s a h kc hkc hn hs hR
  obtain ⟨hrem, hval, hlen⟩ := hs.told
  have hAok : AOk A := ⟨by omega, fun a ha => by have := Cp.inA_iff.1 hin a ha; omega⟩
  obtain ⟨l0, l1, l3, l6, l7⟩ := hR.ld
  have ltl := fun h => Rec.sl_len (R := brR) (h := h) (b := 2) (l := a.tree)
  have valv := value_spec ka kc A s.c hka hkc hAok (by omega)
  rw [← hval] at valv
  have hvb : 0 ≤ s.v ∧ s.v ≤ (s.c.length : Int) * 1099511627776 := by
    rw [hval]
    have h1 := sumB (A.take s.c.length) fun x hx => hAok.a x (List.mem_of_mem_take hx)
    rw [List.length_take, Nat.min_eq_left (by omega)] at h1
    exact h1
  have f0 : fieldAddrT ⟨some true, some 8⟩ (some (0, ⟨some false, some 1⟩)) (cAt 1 0) = some (cAt 1 0) := rfl
  have f1 : fieldAddrT ⟨some true, some 8⟩ (some (1, ⟨some true, some 4⟩)) (cAt 1 0) = some (cAt 1 1) := rfl
  have f12 : fieldAddrT ⟨some true, some 4⟩ (some (2, ⟨some false, some 1⟩)) (cAt 1 1) = some (cAt 1 3) := rfl
  have f6 : fieldAddrT ⟨some true, some 8⟩ (some (6, ⟨some false, some 1⟩)) (cAt 1 0) = some (cAt 1 6) := rfl
  have f7 : fieldAddrT ⟨some true, some 8⟩ (some (7, ⟨some false, some 1⟩)) (cAt 1 0) = some (cAt 1 7) := rfl
  have rA : ∀ h, reify E.P 8 h (intE.o ka A) = some (intE.o ka A) := fun h => Enc.o_reify
  have rc : ∀ h, reify E.P 8 h (intE.o kc s.c) = some (intE.o kc s.c) := fun h => Enc.o_reify
  have rcp : ∀ h, reifyC E.P 7 h p.cells = some p.cells := fun h => reifyC_set (pb_all p)
  have lA := fun h => Enc.o_len (O := intE) (h := h) hka
  have lc := fun h => Enc.o_len (O := intE) (h := h) hkc
  have iA : ∀ (i : Nat) (hi : i < A.length), indexAddrT (.sl 3 ⟨some false, some 1⟩) (intE.o ka A) (.int .i64 (i : Int)) = some (cptr (.int .i64 A[i])) := fun i hi => Enc.index_o (O := intE) hka hi
  rw [L_fn F50 rfl, r50_eq]
  by_cases hf : 4000 < a.tree.length
  · have hf' : (4000 : Int) < a.tree.length := by omega
    have e : visR (prQ p.q) n s a = a := by cases n <;> exact if_pos hf
    rw [e]
    refine ⟨h, ?_, hR, Nat.le_refl _⟩
    simp -implicitDefEqProofs [h50, v50, fstC, sndC, r50, p50, rop_nilT, nil_cAt, f7, l7, ltl, hf']
  have hf' : ¬ (4000 : Int) < a.tree.length := by omega
  obtain ⟨x22, x23, x24, x25, x26, x27, x28, x29, x30, x31, x32, x33, x34, x35, x36, x37, h2, e2, R2, hl2⟩ := enter50 p ka kc A s a h hkc (by omega) hR
  simp -implicitDefEqProofs [h50, v50, fstC, sndC, r50, p50, rop_nilT, nil_cAt, f7, l7, ltl, hf', f0, l0, ret0 m18, rA, rc, valv]
  rw [e2]
  obtain ⟨l0, l1, l3, l6, l7⟩ := R2.ld
  simp only at l6 l7
  have t50e : t50 = sndC (sndC (sndC r50.body)) := rfl
  simp -implicitDefEqProofs [t50e, sndC, r50, lc]
  rw [LL_rec (α := Nat × Int) (s.c.length, s.v) (fun c => [(5, .int .i64 c.2), (6, .int .i64 (c.1 : Int))]) (fun _ => h2) (fun c => (.exit 0, [(5, .int .i64 (c.2 + (A.drop c.1).sum)), (6, undef)], h2)) (fun c => c.1 ≤ A.length ∧ 0 ≤ c.2 ∧ c.2 ≤ (c.1 : Int) * 1099511627776) (fun c => A.length - c.1) ⟨by omega, hvb.1, hvb.2⟩]
  · simp only
    rw [← hrem]
    have hrb : 0 ≤ s.rem.sum ∧ s.rem.sum ≤ (s.rem.length : Int) * 1099511627776 := sumB s.rem fun x hx => hAok.a x (by rw [hrem] at hx; exact List.mem_of_mem_drop hx)
    have bb : buildT (.fs ⟨[.int .i64 0, .int .i64 0]⟩ ⟨[(0, 1), (1, 1)]⟩) #[(1, .int .i64 (min (s.v + s.rem.sum) p.most))] = some (.agg ⟨[.int .i64 0, .int .i64 (min (s.v + s.rem.sum) p.most)]⟩) := rfl
    have lb := lit_br h2 ⟨0, min (s.v + s.rem.sum) p.most⟩
    obtain ⟨h3', ap, h3, st3, R3, hl3⟩ := R2.push ⟨0, min (s.v + s.rem.sum) p.most⟩ (by show a.tree.length ≤ 1000000; omega)
    simp only at ap st3 R3 lb
    obtain ⟨m0, m1, m3, m6, m7⟩ := R3.ld
    simp only at m6 m7
    have lv3 : loadT ⟨some false, some 1⟩ h3 (cAt 1 6) = some (.int .i64 (if a.val < s.v then s.v else a.val)) := m6
    have R3 : Rs p ka A h3 (enter (prQ p.q) s a) := R3
    have re : reach (prQ p.q) s = min (s.v + s.rem.sum) p.most := rfl
    rw [← re] at bb lb ap st3
    have hev : (if a.val < s.v then s.v else a.val) = (enter (prQ p.q) s a).val := rfl
    rw [hev] at lv3
    simp -implicitDefEqProofs [k50_7, rop_nilT, nil_cAt, f1, f12, f6, f7, l3, l7, ltl, minI, ← re, bb, lb, ap, st3, lv3, -append_slice]
    by_cases op : (enter (prQ p.q) s a).val < reach (prQ p.q) s
    case neg =>
      have op' : reach (prQ p.q) s ≤ (enter (prQ p.q) s a).val := by omega
      have hve : visR (prQ p.q) n s a = enter (prQ p.q) s a := by
        cases n with
        | zero => exact if_neg hf
        | succ m => exact (if_neg hf).trans (if_neg op)
      rw [hve]
      refine ⟨h3, ?_, R3, by omega⟩
      simp -implicitDefEqProofs [op']
    have op' : ¬ reach (prQ p.q) s ≤ (enter (prQ p.q) s a).val := by omega
    obtain ⟨m, rfl⟩ : ∃ m, n = m + 1 := by
      refine ⟨n - 1, ?_⟩
      have h1 := Cp.enter_val (prQ p.q) s a
      have h2 := (Cp.upd_ge s a.vb).2
      have h3 : reach (prQ p.q) s ≤ s.v + s.rem.sum := Int.min_le_left _ _
      by_cases hz : n = 0
      · have : s.rem = [] := List.eq_nil_of_length_eq_zero (by omega)
        rw [this] at h3
        simp only [List.sum_nil] at h3
        omega
      · omega
    have hvi : visR (prQ p.q) (m + 1) s a = loopR (visR (prQ p.q) m) (prQ p.q) s a.tree.length us (enter (prQ p.q) s a) := (if_neg hf).trans (if_pos op)
    simp -implicitDefEqProofs [op']
    refine ex_last (K := fun h' => Rs p ka A h' (visR (prQ p.q) (m + 1) s a) ∧ h.length ≤ h'.length) ?_
    refine LL_ex (α := Nat × Acc × Heap) (0, enter (prQ p.q) s a, h3) (fun c => [(8, .int .i64 (c.1 : Int))]) (fun c => c.2.2) (fun r => r.1 = .exit 2 ∧ Rs p ka A r.2.2 (visR (prQ p.q) (m + 1) s a) ∧ h.length ≤ r.2.2.length)
      (fun c => c.1 ≤ 6 ∧ Rs p ka A c.2.2 c.2.1 ∧ h.length ≤ c.2.2.length ∧ (∃ b r, c.2.1.tree = a.tree ++ b :: r ∧ 0 ≤ b.kids ∧ b.kids ≤ (c.1 : Int)) ∧ loopR (visR (prQ p.q) m) (prQ p.q) s a.tree.length (us.drop c.1) c.2.1 = visR (prQ p.q) (m + 1) s a) (fun c => 6 - c.1) ?_ ?_ rfl ?_
    · exact ⟨Nat.zero_le _, R3, (by show h.length ≤ h3.length; omega), ⟨_, [], rfl, Int.le_refl _, Int.le_refl _⟩, hvi.symm⟩
    · simp -implicitDefEqProofs [k50_15]
    · intro nx c hc ihl
      obtain ⟨u, ac, hh⟩ := c
      obtain ⟨g1, g2, g3, g5, g6⟩ := hc
      simp only at g1 g2 g3 g5 g6 ihl ⊢
      by_cases hu6 : u < 6
      case neg =>
        have e6 : u = 6 := by omega
        subst e6
        have g6 : ac = visR (prQ p.q) (m + 1) s a := g6
        simp -implicitDefEqProofs [r50_15, k50_15, trim_le]
        rw [← g6]
        exact ⟨g2, g3⟩
      have hu6' : (u : Int) < 6 := by omega
      have hwu : IntKind.i64.wrap ((u : Int) + 1) = ((u + 1 : Nat) : Int) := (wrap64 (by omega) (by omega)).trans (by omega)
      have dr := Cp.us_drop hu6
      rw [dr] at g6
      have hh3 := g2.len
      obtain ⟨x, h1', ap1, ap2⟩ := next_row hh kc s.c hkc (by omega) (u : Int)
      have fz := frz_row hh (s.c ++ [(u : Int)]) (by simp) 0 (Nat.zero_le _)
      have lin : ∀ h : Heap, buildSliceT (some ⟨3, 1, 8, .int .i64 0, ⟨some false, some 1⟩⟩) false h 1 #[(0, .int .i64 (u : Int))] = some (lst true (intE.vals [(u : Int)]), h) := fun h => lit_int h u
      have RD := g2.app [AObj.dead]
      obtain ⟨d0, d1, d3, d6, d7⟩ := RD.ld
      have fits := rfits_spec p hp ka (some false) A (s.c ++ [(u : Int)]) hka Enc.ok_some (by omega) (by simp only [List.length_append, List.length_cons, List.length_nil]; omega) (fun w hw => by
        rcases List.mem_append.1 hw with k | k
        · have := hs.us w k; omega
        · rw [List.mem_singleton.1 k]; omega)
      rw [hs.fit hv hA12 hin] at fits
      have fits : pureCall E.P (L E) 17 [intE.o ka A, .agg ⟨p.cells⟩, intE.o (some false) (s.c ++ [(u : Int)])] = _ := fits
      have rn : ∀ h, reify E.P 8 h (intE.o (some false) (s.c ++ [(u : Int)])) = some (intE.o (some false) (s.c ++ [(u : Int)])) := fun h => Enc.o_reify
      cases hnx : next (prQ p.q) s (u : Int) with
      | none =>
        rw [hnx] at fits
        simp only [Option.isSome_none] at fits
        rw [loopR_none hnx] at g6
        have ih2 := fun vs => ihl (u + 1, ac, trim hh.length vs (hh ++ [AObj.dead])) (by show 6 - (u + 1) < 6 - u; omega)
          ⟨by show u + 1 ≤ 6; omega, RD.trim _ _ hh3, Nat.le_trans g3 (trim_len (by simp)), (by
            obtain ⟨b, r, q1, q2, q3⟩ := g5
            exact ⟨b, r, q1, q2, by show b.kids ≤ ((u + 1 : Nat) : Int); omega⟩), g6⟩
        simp -implicitDefEqProofs [k50_15, -Int.natCast_add] at ih2
        simp -implicitDefEqProofs [r50_15, k50_15, rop_nilT, nil_cAt, hu6', lin, lit_none, ap1, ap2, prep_frz, fz, f0, f1, d0, d1, ret0 m17, rA, rcp, rn, fits, hwu, -append_lst, -append_slice, -Int.natCast_add]
        exact ih2 _
      | some t =>
        rw [hnx] at fits
        simp only [Option.isSome_some] at fits
        rw [loopR_some hnx] at g6
        obtain ⟨b, r, q1, q2, q3⟩ := g5
        have hit : a.tree.length < ac.tree.length := by rw [q1]; simp
        have hib : ac.tree[a.tree.length] = b := by simp [q1]
        have ltc := fun h => Rec.sl_len (R := brR) (h := h) (b := 2) (l := ac.tree)
        have ig := Rec.index_row (R := brR) (h0 := 2) (t := 41) (g := some true) (b := 2) (l := ac.tree) (i := a.tree.length) (k := .i64) rfl hit
        have fg := Rec.field_row (R := brR) (b := 2) (n := 0) (f := 0) (l := ac.tree) (i := a.tree.length) (k := ⟨some true, some 2⟩) (g := some false)
        have ldg : loadT ⟨some false, some 1⟩ (hh ++ [AObj.dead]) (brR.at_ 2 ac.tree a.tree.length 0) = some (.int .i64 b.kids) := by
          rw [Rec.load_cell (R := brR) RD.row hit (by decide), hib]; rfl
        have hwk : IntKind.i64.wrap (b.kids + 1) = b.kids + 1 := wrap64 (by omega) (by omega)
        obtain ⟨sc, R1⟩ := RD.count a.tree.length hit
        rw [hib] at sc
        generalize hG1 : (hh ++ [AObj.dead]).set 2 (brR.row 41 (ac.tree.modify a.tree.length bump)) = G1 at *
        have hG1l : G1.length = hh.length + 1 := by rw [← hG1]; simp
        obtain ⟨hst, htc, htr⟩ := hs.next hnx
        obtain ⟨h5, r1, R5, hl5⟩ := ih m rfl t ⟨ac.val, ac.best, ac.tree.modify a.tree.length bump⟩ G1 (some false) Enc.ok_some (by omega) hst R1
        rw [htc] at r1
        have rcl : retCall E (L E) 0 false 50 [cAt 1 0, intE.o (some false) (s.c ++ [(u : Int)])] G1 = some (.tuple #[], trim G1.length [.tuple #[]] h5) := by
          rw [ret3t m50, r1]; rfl
        have R6 := R5.trim G1.length [.tuple #[]] (by omega)
        have hl6 : G1.length ≤ (trim G1.length [.tuple #[]] h5).length := trim_len hl5
        obtain ⟨r2, hpre⟩ := visR_pre (prQ p.q) m t ⟨ac.val, ac.best, ac.tree.modify a.tree.length bump⟩
        generalize visR (prQ p.q) m t ⟨ac.val, ac.best, ac.tree.modify a.tree.length bump⟩ = ac2 at *
        generalize trim G1.length [.tuple #[]] h5 = G5 at *
        have ih2 := fun vs => ihl (u + 1, ac2, trim hh.length vs G5) (by show 6 - (u + 1) < 6 - u; omega)
          ⟨by show u + 1 ≤ 6; omega, R6.trim _ _ hh3, Nat.le_trans g3 (trim_len (by omega)), ⟨bump b, r ++ r2, (by
            show ac2.tree = _
            rw [hpre]
            show ac.tree.modify a.tree.length bump ++ r2 = _
            rw [q1, mod_app (Nat.le_refl _), Nat.sub_self]
            simp), (by show 0 ≤ b.kids + 1; omega), (by show b.kids + 1 ≤ ((u + 1 : Nat) : Int); omega)⟩, g6⟩
        simp -implicitDefEqProofs [k50_15, -Int.natCast_add] at ih2
        simp -implicitDefEqProofs [r50_15, k50_15, rop_nilT, nil_cAt, hu6', lin, lit_none, ap1, ap2, prep_frz, fz, f0, f1, f7, d0, d1, d7, ret0 m17, rA, rcp, rn, fits, ig, fg, ldg, hwk, sc, rcl, hwu, -append_lst, -append_slice, -Int.natCast_add]
        exact ih2 _
  · simp -implicitDefEqProofs [k50_7]
  · rfl
  · intro nx c hc ihl
    obtain ⟨i, v⟩ := c
    obtain ⟨g1, g2, g3⟩ := hc
    simp only at g1 g2 g3 ihl ⊢
    by_cases hi : i < A.length
    · have hi' : (i : Int) < A.length := by omega
      have xA := iA i hi
      have ha := hAok.a _ (List.getElem_mem hi)
      have hd : A.drop i = A[i] :: A.drop (i + 1) := List.drop_eq_getElem_cons hi
      rw [hd, List.sum_cons, ← Int.add_assoc]
      generalize A[i] = w at *
      have wv : IntKind.i64.wrap (v + w) = v + w := wrap64 (by omega) (by omega)
      have wi : IntKind.i64.wrap ((i : Int) + 1) = ((i + 1 : Nat) : Int) := (wrap64 (by omega) (by omega)).trans (by omega)
      have ihl := ihl (i + 1, v + w) (by show A.length - (i + 1) < A.length - i; omega) ⟨by show i + 1 ≤ A.length; omega, by show 0 ≤ v + w; omega, by show v + w ≤ ((i + 1 : Nat) : Int) * 1099511627776; omega⟩
      simp -implicitDefEqProofs [k50_7, -Int.natCast_add] at ihl
      simp -implicitDefEqProofs [r50_7, k50_7, rop_nilT, nil_cAt, f0, l0, lA, hi', xA, wv, wi, trim_le, -Int.natCast_add]
      exact ihl
    · have e : i = A.length := by omega
      subst e
      rw [List.drop_of_length_le (Nat.le_refl _)]
      simp -implicitDefEqProofs [r50_7, k50_7, rop_nilT, nil_cAt, f0, l0, lA, trim_le]
end Go.Proofs.Ytcnafncmfiogcaa.Bm
namespace Go.Proofs.Ytcnafncmfiogcaa.Bm
open Go Go.RowKit
open Rg (Rect areaL)
open Cp (Q Br Acc Nd prQ validQ visR root ended best inA)
theorem BvOk.reify {h : Heap} {bv : Value} {l : List Int} (x : BvOk h bv l) : ∃ k, Enc.Ok k l ∧ reify E.P 8 h bv = some (intE.o k l) := by
  rcases x with ⟨k, hk, rfl⟩ | ⟨b, _, rfl, hb⟩
  · exact ⟨k, hk, Enc.o_reify⟩
  · exact ⟨some false, Enc.ok_some, Enc.reify_sl hb sI1 gI1⟩
theorem rbest_bad (x : Bool) (P : Rooms) (hP : RoomsOk P) (p : Pb) (hp : PbOk p) (h : areasF (lists P) = none ∨ validQ p.q = false) :
    pureCall E.P (L E) 23 [roomsV x P, p.val] = some (.tuple ⟨[.slice none 0 0, .int .i64 0, .slice none 0 0, .int .i64 1]⟩) := by
  have ar := rareas_spec x P hP
  have sr : settled depth (roomsV x P) = true := rfl
  have vs := rvalid_spec p hp
  have rcp : ∀ h, reifyC E.P 7 h p.cells = some p.cells := fun h => reifyC_set (pb_all p)
  have pe : p.val = .agg ⟨p.cells⟩ := rfl
  have lp : ∀ t, loadT ⟨some true, some 4⟩ (AObj.cells 26 p.cells 0 :: t) (.pointer (some ⟨0, 0, none⟩)) = some (.agg ⟨p.cells⟩) := fun t => obj_all (b := 0) rfl rfl
  rw [pureCall_fn F23 rfl, pe]
  cases ha : areasF (lists P) with
  | none =>
    rw [ha] at ar
    unfold areasV at ar
    simp -implicitDefEqProofs [r23, p23, ret1 m20, sr, ar]
  | some A =>
    rw [ha] at ar h
    unfold areasV at ar
    have hv : validQ p.q = false := h.resolve_left (by simp)
    rw [hv] at vs
    have vs : pureCall E.P (L E) 16 [.agg ⟨p.cells⟩] = some (.bool false) := vs
    simp -implicitDefEqProofs [r23, p23, ret1 m20, sr, ar, lp, ret0 m16, rcp, vs]
set_option maxHeartbeats 1000000 in
theorem rbest_ok (x : Bool) (P : Rooms) (hP : RoomsOk P) (p : Pb) (hp : PbOk p) (A : List Int) (hA : areasF (lists P) = some A) (hv : validQ p.q = true) :
    ∃ k, (∀ r, best (prQ p.q) A = some r → Enc.Ok k r.2.1) ∧ pureCall E.P (L E) 23 [roomsV x P, p.val] = some (.tuple ⟨bestV k (best (prQ p.q) A)⟩) := by
  have ar := rareas_spec x P hP
  have sr : settled depth (roomsV x P) = true := rfl
  rw [hA] at ar
  have vs := rvalid_spec p hp
  rw [hv] at vs
  obtain ⟨ha1, ha2⟩ := areas_told hA
  have hin : inA A = true := Cp.inA_iff.2 ha2
  let H0 : Heap := [.cells 26 p.cells 0, .cells 78 (seC p (some false) A (.slice none 0 0) (-1) []) 0, brR.row 41 []]
  have R0 : Rs p (some false) A H0 ⟨-1, [], []⟩ := ⟨by simp [H0], ⟨_, rfl, .inl ⟨none, Enc.ok_nil, rfl⟩⟩, rfl⟩
  have V : ∀ n, VisRN p (some false) A n := by
    intro n
    induction n with
    | zero => exact visR_all p hp hv (some false) A Enc.ok_some ha1 hin 0 fun m hm => by omega
    | succ n ih => exact visR_all p hp hv (some false) A Enc.ok_some ha1 hin (n + 1) fun m hm => (show n = m by omega) ▸ ih
  obtain ⟨h', r1, R1, hl1⟩ := V A.length (root (prQ p.q) A) ⟨-1, [], []⟩ H0 none Enc.ok_nil rfl ⟨rfl, fun u hu => by cases hu⟩ R0
  have bv := Cp.best_visR (prQ p.q) A
  generalize visR (prQ p.q) A.length (root (prQ p.q) A) ⟨-1, [], []⟩ = a at *
  have R2 := R1.trim 3 [.tuple #[]] (by decide)
  have rc : retCall E (L E) 0 false 50 [cAt 1 0, .slice none 0 0] H0 = some (.tuple #[], trim 3 [.tuple #[]] h') := by
    have r2 : L E 50 [cAt 1 0, .slice none 0 0] H0 0 = _ := r1
    rw [ret3t m50, r2]; rfl
  generalize trim 3 [.tuple #[]] h' = h at *
  obtain ⟨_, _, _, l6, l7⟩ := R2.ld
  obtain ⟨bw, k1, k2⟩ := R2.se
  have l5 : loadT ⟨some false, some 1⟩ h (cAt 1 5) = some bw := obj_load k1 rfl
  obtain ⟨k, hk, rb⟩ := k2.reify
  have ll := Rec.sl_len (R := brR) (h := h) (b := 2) (l := a.tree)
  have rt := Rec.reify_row (R := brR) (P := E.P) (n := 7) R2.row sB2 aB2
  refine ⟨k, fun r hr => ?_, ?_⟩
  · rw [← bv] at hr
    unfold ended at hr
    split at hr
    · cases hr
    · have := Option.some.inj hr
      subst this; exact hk
  rw [pureCall_fn F23 rfl]
  unfold areasV at ar
  have pe : p.val = .agg ⟨p.cells⟩ := rfl
  have lp : ∀ t, loadT ⟨some true, some 4⟩ (AObj.cells 26 p.cells 0 :: t) (.pointer (some ⟨0, 0, none⟩)) = some (.agg ⟨p.cells⟩) := fun t => obj_all (b := 0) rfl rfl
  rw [pe]
  have vs : pureCall E.P (L E) 16 [.agg ⟨p.cells⟩] = some (.bool true) := vs
  have rcp : ∀ h, reifyC E.P 7 h p.cells = some p.cells := fun h => reifyC_set (pb_all p)
  have bs : buildT (.fs ⟨[.slice none 0 0, .int .i64 0, .slice none 0 0, .int .i64 0, .slice none 0 0, .slice none 0 0, .int .i64 0, .slice none 0 0]⟩ ⟨[(0, 1), (1, 4), (5, 1), (6, 1), (7, 1)]⟩) #[(0, lst false (intE.vals A)), (1, .agg ⟨p.cells⟩), (3, .int .i64 (-1))] = some (.agg ⟨intE.o (some false) A :: (p.cells ++ [.slice none 0 0, .int .i64 (-1), .slice none 0 0])⟩) := rfl
  have q1 : (p.cells ++ [Value.slice none 0 0, Value.int .i64 (-1), Value.slice none 0 0])[6]? = some (Value.slice none 0 0) := rfl
  have q2 : (p.cells ++ [Value.slice none 0 0, Value.int .i64 (-1), Value.slice none 0 0]).set 6 (.slice (some ⟨2, 0, some 0⟩) 0 0) = p.cells ++ [.slice none 0 0, .int .i64 (-1), .slice (some ⟨2, 0, some 0⟩) 0 0] := rfl
  have rc : retCall E (L E) 0 false 50 [.pointer (some ⟨1, 0, none⟩), .slice none 0 0]
      [.cells 26 p.cells 0, .cells 78 (intE.o (some false) A :: (p.cells ++ [.slice none 0 0, .int .i64 (-1), .slice (some ⟨2, 0, some 0⟩) 0 0])) 0, .cells 41 [] 2] = some (.tuple #[], h) := rc
  have nc : ∀ j h, nilT (.pointer (some ⟨1, j, none⟩)) h = some (.pointer (some ⟨1, j, none⟩), h) := fun _ _ => rfl
  have l5 : loadT ⟨some false, some 1⟩ h (.pointer (some ⟨1, 5, none⟩)) = some bw := l5
  have l6 : loadT ⟨some false, some 1⟩ h (.pointer (some ⟨1, 6, none⟩)) = some (.int .i64 a.val) := l6
  have l7 : loadT ⟨some false, some 1⟩ h (.pointer (some ⟨1, 7, none⟩)) = some (brR.sl 2 a.tree) := l7
  rw [← bv]
  unfold ended
  by_cases h4 : 4000 < a.tree.length
  · have h4' : (4000 : Int) < a.tree.length := by omega
    rw [if_pos h4]
    simp -implicitDefEqProofs [r23, p23, ret1 m20, sr, ar, lp, ret0 m16, rcp, vs, prep_newc, newcK, sB2, isNil, bs, q1, q2, rop_nilT, nc, rc, l7, ll, h4', bestV]
  · have h4' : ¬ ((4000 : Int) < a.tree.length) := by omega
    rw [if_neg h4]
    simp -implicitDefEqProofs [r23, p23, ret1 m20, sr, ar, lp, ret0 m16, rcp, vs, prep_newc, newcK, sB2, isNil, bs, q1, q2, rop_nilT, nc, rc, l5, l6, l7, ll, h4', rt, rb, bestV]
end Go.Proofs.Ytcnafncmfiogcaa.Bm
namespace Go.Proofs.Ytcnafncmfiogcaa.Bm
open Go Go.RowKit
open Cp (Q prQ validQ fitR inA us mayQ)
def betF (q : Q) (A best : List Int) : Nat → List Int → Bool
  | 0, _ => false
  | n + 1, from_ => fitR q A from_ && (decide (valF A best.length < valF A from_.length) || decide (valF A from_.length = valF A best.length) && Cp.before from_ best || us.any fun u => betF q A best n (from_ ++ [u]))
theorem fitR_len {q : Q} {A c : List Int} (h : fitR q A c = true) : c.length ≤ A.length ∧ A.length ≤ 12 ∧ inA A = true := by
  unfold fitR at h
  simp only [Bool.and_eq_true, decide_eq_true_eq] at h
  exact ⟨h.2.2.1, h.2.1, h.2.2.2.1⟩
theorem betF_no {q : Q} (hv : validQ q = true) {A : List Int} (h12 : A.length ≤ 12) (hin : inA A = true) {v : Int} {best : List Int} {t : List Cp.Br} (hb : Cp.best (prQ q) A = some (v, best, t)) : valF A best.length = v ∧ fitR q A best = true ∧ ∀ (n : Nat) (c : List Int), betF q A best n c = false := by
  have hA := Cp.inA_iff.1 hin
  have hm : 0 ≤ q.most := (Cp.validQ_iff.1 hv).2.2.1
  obtain ⟨⟨s, h1, h2⟩, h3, h4⟩ := Cp.best_told (P := prQ q) (fun l u h => by
    have h : mayQ q l u = true := h
    have := Cp.may_ge h
    have : u = 0 ∨ u = 1 ∨ u = 2 ∨ u = 3 ∨ u = 4 ∨ u = 5 := by omega
    rcases this with h | h | h | h | h | h <;> rw [h] <;> decide) (fun a ha => by have := hA a ha; omega) hm hb
  have vl : ∀ c s, Cp.run (prQ q) (Cp.root (prQ q) A) c = some s → s.v = valF A c.length ∧ c.length ≤ A.length := fun c s h => by
    obtain ⟨_, k2, k3⟩ := Cp.run_rem h
    have e : (Cp.root (prQ q) A).rem = A := rfl
    have e2 : (Cp.root (prQ q) A).v = 0 := rfl
    rw [e2, Int.zero_add, e] at k2
    rw [e] at k3
    exact ⟨k2, by omega⟩
  have fit : ∀ c, fitR q A c = (decide (c.length ≤ A.length) && (Cp.run (prQ q) (Cp.root (prQ q) A) c).isSome) := fun c => by
    rw [Cp.fit_eq]
    unfold Cp.fitS Cp.fits
    rw [hv, hin, decide_eq_true h12]
    simp only [Bool.true_and]
  have e0 : valF A best.length = v := by rw [← (vl best s h1).1]; exact h2
  refine ⟨e0, by rw [fit, h1, decide_eq_true (vl best s h1).2]; rfl, fun n => ?_⟩
  induction n with
  | zero => intro c; rfl
  | succ n ih =>
    intro c
    rw [betF.eq_2]
    cases hr : Cp.run (prQ q) (Cp.root (prQ q) A) c with
    | none => rw [fit, hr]; simp
    | some x =>
      have k1 := h3 c x hr
      have k2 := (vl c x hr).1
      have k3 : us.any (fun u => betF q A best n (c ++ [u])) = false := by
        rw [List.any_eq_false]; intro u _; rw [ih]; decide
      rw [k3, e0, ← k2, decide_eq_false (by omega), Bool.or_false, Bool.false_or]
      by_cases k4 : x.v = v
      · rw [h4 c x hr k4, Bool.and_false, Bool.and_false]
      · rw [decide_eq_false k4, Bool.false_and, Bool.and_false]
end Go.Proofs.Ytcnafncmfiogcaa.Bm
namespace Go.Proofs.Ytcnafncmfiogcaa.Bm
open Go Go.RowKit
open Rg (Rect)
open Cp (Q Br prQ validQ best)
def rm (n : Int) : Option Bool × List Rect := (some true, [⟨0, 0, n, 1⟩])
def three : Rooms := [rm 10, rm 8, rm 5]
def V3 : Value := lst true [lst true [.agg ⟨[.int .i64 0, .int .i64 0, .int .i64 10, .int .i64 1]⟩], lst true [.agg ⟨[.int .i64 0, .int .i64 0, .int .i64 8, .int .i64 1]⟩], lst true [.agg ⟨[.int .i64 0, .int .i64 0, .int .i64 5, .int .i64 1]⟩]]
theorem three_ok : RoomsOk three := ⟨fun r hr => by
    simp only [three, rm, List.mem_cons, List.not_mem_nil, or_false] at hr
    rcases hr with rfl | rfl | rfl <;> exact Rec.ok_some, fun r hr => by
    simp only [three, rm, List.mem_cons, List.not_mem_nil, or_false] at hr
    rcases hr with rfl | rfl | rfl <;> decide, by decide⟩
theorem three_areas : areasF (lists three) = some [10, 8, 5] := by kernel_rfl
set_option maxRecDepth 100000 in
theorem three_spec : pureCall E.P (L E) 36 [] = some V3 := pureCall_le (evF_L 20) (by kernel_rfl)
set_option maxRecDepth 100000 in
theorem row4_spec : pureCall E.P (L E) 37 [.int .i64 4] = some (lst true [.agg ⟨[.int .i64 0, .int .i64 0, .int .i64 4, .int .i64 1]⟩]) := pureCall_le (evF_L 20) (by kernel_rfl)
def p25a : Pb := ⟨3, none, [], 100, none, []⟩
def p25b : Pb := ⟨3, some true, [(⟨⟨[104, 111, 109, 101]⟩⟩, 12)], 100, some true, [(0, 1)]⟩
def p25c : Pb := ⟨1, none, [], 20, none, []⟩
def p25d : Pb := ⟨3, some true, [(⟨⟨[104, 111, 109, 101]⟩⟩, 9), (⟨⟨[115, 104, 111, 112]⟩⟩, 14)], 100, none, []⟩
theorem p25a_ok : PbOk p25a := ⟨fun _ => rfl, fun _ => rfl, by decide, by decide, by decide, by decide⟩
theorem p25b_ok : PbOk p25b := ⟨Rec.ok_some, Rec.ok_some, by decide, by decide, by decide, by decide⟩
theorem p25c_ok : PbOk p25c := ⟨fun _ => rfl, fun _ => rfl, by decide, by decide, by decide, by decide⟩
theorem p25d_ok : PbOk p25d := ⟨Rec.ok_some, fun _ => rfl, by decide, by decide, by decide, by decide⟩
theorem bs25a : best (prQ p25a.q) [10, 8, 5] = some (23, [0, 0, 0], [⟨2, 23⟩, ⟨2, 23⟩, ⟨2, 23⟩, ⟨0, 23⟩, ⟨0, 23⟩, ⟨0, 23⟩, ⟨0, 23⟩]) := by kernel_rfl
theorem bs25b : best (prQ p25b.q) [10, 8, 5] = some (23, [1, 1, 0], [⟨2, 23⟩, ⟨0, 23⟩, ⟨2, 23⟩, ⟨0, 23⟩, ⟨2, 23⟩, ⟨0, 23⟩, ⟨0, 23⟩]) := by kernel_rfl
theorem bs25c : best (prQ p25c.q) [10, 8, 5] = some (18, [0, 0], [⟨1, 20⟩, ⟨1, 20⟩, ⟨0, 20⟩]) := by kernel_rfl
theorem bs25d : best (prQ p25d.q) [10, 8, 5] = some (18, [1, 0], [⟨1, 23⟩, ⟨1, 23⟩, ⟨0, 23⟩]) := by kernel_rfl
theorem best3 (p : Pb) (hp : PbOk p) (hv : validQ p.q = true) {v : Int} {c : List Int} {t : List Br} (hb : best (prQ p.q) [10, 8, 5] = some (v, c, t)) : ∃ k, Enc.Ok k c ∧ pureCall E.P (L E) 15 [V3, .agg ⟨p.cells⟩] = some (.tuple ⟨[intE.o k c, .int .i64 v, lst false (brR.vals t), .int .i64 0]⟩) := by
  obtain ⟨k, h1, h2⟩ := best_ok true three three_ok p hp [10, 8, 5] three_areas hv
  rw [hb] at h2
  exact ⟨k, h1 _ hb, h2⟩
theorem pb_b2 (a b : Int) : buildT (.fs ⟨[.int .i64 0, .slice none 0 0, .int .i64 0, .slice none 0 0]⟩ ⟨[(0, 1), (1, 1), (2, 1), (3, 1)]⟩) #[(0, .int .i64 a), (2, .int .i64 b)] = some (.agg ⟨[.int .i64 a, .slice none 0 0, .int .i64 b, .slice none 0 0]⟩) := rfl
theorem pb_b3 (a b : Int) (l : List Value) : buildT (.fs ⟨[.int .i64 0, .slice none 0 0, .int .i64 0, .slice none 0 0]⟩ ⟨[(0, 1), (1, 1), (2, 1), (3, 1)]⟩) #[(0, .int .i64 a), (2, .int .i64 b), (1, lst true l)] = some (.agg ⟨[.int .i64 a, lst true l, .int .i64 b, .slice none 0 0]⟩) := rfl
theorem pb_b4 (a b : Int) (l m : List Value) : buildT (.fs ⟨[.int .i64 0, .slice none 0 0, .int .i64 0, .slice none 0 0]⟩ ⟨[(0, 1), (1, 1), (2, 1), (3, 1)]⟩) #[(0, .int .i64 a), (2, .int .i64 b), (1, lst true l), (3, lst true m)] = some (.agg ⟨[.int .i64 a, lst true l, .int .i64 b, lst true m]⟩) := rfl
theorem en_b (a : ByteArray) (b : Int) : buildT (.fs ⟨[.string ⟨⟨[]⟩⟩, .int .i64 0]⟩ ⟨[(0, 1), (1, 1)]⟩) #[(0, .string a), (1, .int .i64 b)] = some (.agg ⟨[.string a, .int .i64 b]⟩) := rfl
theorem sg2 (a b : Int) : settled depth (.agg ⟨[.int .i64 a, .slice none 0 0, .int .i64 b, .slice none 0 0]⟩) = true := rfl
theorem sg3 (a b : Int) (l : List Value) : settled depth (.agg ⟨[.int .i64 a, lst true l, .int .i64 b, .slice none 0 0]⟩) = true := rfl
theorem sg4 (a b : Int) (l m : List Value) : settled depth (.agg ⟨[.int .i64 a, lst true l, .int .i64 b, lst true m]⟩) = true := rfl
theorem lit_e1 (h : Heap) (s : ByteArray) (z : Int) : buildSliceT (some ⟨60, 2, 24, .agg ⟨[.string ⟨⟨[]⟩⟩, .int .i64 0]⟩, ⟨some true, some 2⟩⟩) false h 1 #[(0, .agg ⟨[.string s, .int .i64 z]⟩)] = some (lst true [.agg ⟨[.string s, .int .i64 z]⟩], h) :=
  (build_lit' (n := 1) (l := [(0, .agg ⟨[.string s, .int .i64 z]⟩)]) rfl rfl (by decide) (by decide) (by decide)).trans rfl
theorem lit_e2 (h : Heap) (s t : ByteArray) (z w : Int) : buildSliceT (some ⟨60, 2, 24, .agg ⟨[.string ⟨⟨[]⟩⟩, .int .i64 0]⟩, ⟨some true, some 2⟩⟩) false h 2 #[(0, .agg ⟨[.string s, .int .i64 z]⟩), (1, .agg ⟨[.string t, .int .i64 w]⟩)] = some (lst true [.agg ⟨[.string s, .int .i64 z]⟩, .agg ⟨[.string t, .int .i64 w]⟩], h) :=
  (build_lit' (n := 2) (l := [(0, .agg ⟨[.string s, .int .i64 z]⟩), (1, .agg ⟨[.string t, .int .i64 w]⟩)]) rfl rfl (by decide) (by decide) (by decide)).trans rfl
theorem lit_p1 (h : Heap) (z w : Int) : buildSliceT (some ⟨61, 2, 16, .agg ⟨[.int .i64 0, .int .i64 0]⟩, ⟨some true, some 2⟩⟩) false h 1 #[(0, .agg ⟨[.int .i64 z, .int .i64 w]⟩)] = some (lst true [.agg ⟨[.int .i64 z, .int .i64 w]⟩], h) :=
  (build_lit' (n := 1) (l := [(0, .agg ⟨[.int .i64 z, .int .i64 w]⟩)]) rfl rfl (by decide) (by decide) (by decide)).trans rfl
theorem arr_b (a b : Int) : buildT (.arr ⟨[.int .i64 0, .int .i64 0]⟩ 1) #[(0, .int .i64 a), (1, .int .i64 b)] = some (.agg ⟨[.int .i64 a, .int .i64 b]⟩) := rfl
theorem lit_i3 (h : Heap) (a b c : Int) : buildSliceT (some elInt) false h 3 #[(0, .int .i64 a), (1, .int .i64 b), (2, .int .i64 c)] = some (lst true [.int .i64 a, .int .i64 b, .int .i64 c], h) :=
  (build_lit' (n := 3) (l := [(0, .int .i64 a), (1, .int .i64 b), (2, .int .i64 c)]) rfl rfl (by decide) (by decide) (by decide)).trans rfl
theorem lit_i2 (h : Heap) (a b : Int) : buildSliceT (some elInt) false h 2 #[(0, .int .i64 a), (1, .int .i64 b)] = some (lst true [.int .i64 a, .int .i64 b], h) :=
  (build_lit' (n := 2) (l := [(0, .int .i64 a), (1, .int .i64 b)]) rfl rfl (by decide) (by decide) (by decide)).trans rfl
abbrev R4 : Value := .agg ⟨[.int .i64 0, .int .i64 0, .int .i64 4, .int .i64 1]⟩
abbrev elRs : El := ⟨62, 1, 24, .slice none 0 0, ⟨some false, some 1⟩⟩
theorem lit_r2 (h : Heap) : buildSliceT (some elRs) false h 2 #[(0, .slice none 0 0), (1, lst true [R4])] = some (lst true [.slice none 0 0, lst true [R4]], h) :=
  (build_lit' (n := 2) (l := [(0, .slice none 0 0), (1, lst true [R4])]) rfl rfl (by decide) (by decide) (by decide)).trans rfl
def H5 : AObj := .cells 62 [roomR (rm 10), roomR (rm 8), roomR (rm 5), .slice none 0 0, roomR (rm 4)] 1
theorem app_r2 : appendT (some elRs) [] 0 false V3 (lst true [.slice none 0 0, lst true [R4]]) = some (.slice (some ⟨0, 0, some 5⟩) 5 5, [H5]) := rfl
def five : Rooms := [rm 10, rm 8, rm 5, (none, []), rm 4]
theorem five_ok : RoomsOk five := ⟨fun r hr => by
    simp only [five, rm, List.mem_cons, List.not_mem_nil, or_false] at hr
    rcases hr with rfl | rfl | rfl | rfl | rfl <;> first | exact Rec.ok_some | exact fun _ => rfl, fun r hr => by
    simp only [five, rm, List.mem_cons, List.not_mem_nil, or_false] at hr
    rcases hr with rfl | rfl | rfl | rfl | rfl <;> decide, by decide⟩
theorem five_areas : areasF (lists five) = some [10, 8, 5] := by kernel_rfl
theorem frz5 : frzAll E.P 0 [.slice (some ⟨0, 0, some 5⟩) 5 5] [H5] = some ([roomsV false five], [.dead]) := by kernel_rfl
theorem areas5 : retCall E (L E) 0 false 14 [.slice (some ⟨0, 0, some 5⟩) 5 5] [H5] = some (.tuple ⟨[lst false (intE.vals [10, 8, 5]), .int .i64 0]⟩, [.dead]) := by
  have := areas_spec false five five_ok
  rw [five_areas] at this
  rw [ret4 m14, frz5, Option.bind_some, this]; rfl
theorem ints_of (k : Option Bool) (l : List Int) (hk : Enc.Ok k l) (hl : l.length ≤ 1000000) : pureCall E.P (L E) 21 [intE.o k l, lst true (intE.vals l)] = some (.bool true) := by
  have := ints25 k (some true) l l hk Enc.ok_some hl
  rw [decide_eq_true rfl] at this
  exact this
set_option maxHeartbeats 2000000 in
theorem small25_spec : pureCall E.P (L E) 12 [] = some (.bool true) := by
  obtain ⟨ka, qa, ba⟩ := best3 p25a p25a_ok (by kernel_rfl) bs25a
  obtain ⟨kb, qb, bb⟩ := best3 p25b p25b_ok (by kernel_rfl) bs25b
  obtain ⟨kc, qc, bc⟩ := best3 p25c p25c_ok (by kernel_rfl) bs25c
  obtain ⟨kd, qd, bd⟩ := best3 p25d p25d_ok (by kernel_rfl) bs25d
  have ba : pureCall E.P (L E) 15 [V3, .agg ⟨[.int .i64 3, .slice none 0 0, .int .i64 100, .slice none 0 0]⟩] = _ := ba
  have bb : pureCall E.P (L E) 15 [V3, .agg ⟨[.int .i64 3, lst true [.agg ⟨[.string ⟨⟨[104, 111, 109, 101]⟩⟩, .int .i64 12]⟩], .int .i64 100, lst true [.agg ⟨[.int .i64 0, .int .i64 1]⟩]]⟩] = _ := bb
  have bc : pureCall E.P (L E) 15 [V3, .agg ⟨[.int .i64 1, .slice none 0 0, .int .i64 20, .slice none 0 0]⟩] = _ := bc
  have bd : pureCall E.P (L E) 15 [V3, .agg ⟨[.int .i64 3, lst true [.agg ⟨[.string ⟨⟨[104, 111, 109, 101]⟩⟩, .int .i64 9]⟩, .agg ⟨[.string ⟨⟨[115, 104, 111, 112]⟩⟩, .int .i64 14]⟩], .int .i64 100, .slice none 0 0]⟩] = _ := bd
  have t3 := three_spec
  have rw4 := row4_spec
  have s3 : settled depth V3 = true := rfl
  have b7 : (brR.vals [⟨2, 23⟩, ⟨2, 23⟩, ⟨2, 23⟩, ⟨0, 23⟩, ⟨0, 23⟩, ⟨0, 23⟩, ⟨0, 23⟩]).length = 7 := rfl
  have x7 : indexAddrT (.sl 41 ⟨some true, some 2⟩) (lst false (brR.vals [⟨2, 23⟩, ⟨2, 23⟩, ⟨2, 23⟩, ⟨0, 23⟩, ⟨0, 23⟩, ⟨0, 23⟩, ⟨0, 23⟩])) (.int .i64 0) = some (cptr (.agg ⟨[.int .i64 2, .int .i64 23]⟩)) := rfl
  have l7 : ∀ h, loadT ⟨some true, some 2⟩ h (cptr (.agg ⟨[.int .i64 2, .int .i64 23]⟩)) = some (.agg ⟨[.int .i64 2, .int .i64 23]⟩) := fun _ => rfl
  have bb7 : buildT (.fs ⟨[.int .i64 0, .int .i64 0]⟩ ⟨[(0, 1), (1, 1)]⟩) #[(0, .int .i64 2), (1, .int .i64 23)] = some (.agg ⟨[.int .i64 2, .int .i64 23]⟩) := rfl
  have s4 : settled depth (.int .i64 4) = true := rfl
  have ia : pureCall E.P (L E) 21 [intE.o ka [0, 0, 0], lst true [.int .i64 0, .int .i64 0, .int .i64 0]] = _ := ints_of ka [0, 0, 0] qa (by decide)
  have ib : pureCall E.P (L E) 21 [intE.o kb [1, 1, 0], lst true [.int .i64 1, .int .i64 1, .int .i64 0]] = _ := ints_of kb [1, 1, 0] qb (by decide)
  have ic : pureCall E.P (L E) 21 [intE.o kc [0, 0], lst true [.int .i64 0, .int .i64 0]] = _ := ints_of kc [0, 0] qc (by decide)
  have id : pureCall E.P (L E) 21 [intE.o kd [1, 0], lst true [.int .i64 1, .int .i64 0]] = _ := ints_of kd [1, 0] qd (by decide)
  have i5 : pureCall E.P (L E) 21 [lst false (intE.vals [10, 8, 5]), lst true [.int .i64 10, .int .i64 8, .int .i64 5]] = _ := ints_of (some false) [10, 8, 5] Enc.ok_some (by decide)
  have ra : ∀ h, reify E.P 8 h (intE.o ka [0, 0, 0]) = some (intE.o ka [0, 0, 0]) := fun h => Enc.o_reify
  have rb : ∀ h, reify E.P 8 h (intE.o kb [1, 1, 0]) = some (intE.o kb [1, 1, 0]) := fun h => Enc.o_reify
  have rc : ∀ h, reify E.P 8 h (intE.o kc [0, 0]) = some (intE.o kc [0, 0]) := fun h => Enc.o_reify
  have rd : ∀ h, reify E.P 8 h (intE.o kd [1, 0]) = some (intE.o kd [1, 0]) := fun h => Enc.o_reify
  have beq : aBin E.P .eql 41 (.agg ⟨[.int .i64 2, .int .i64 23]⟩) (.agg ⟨[.int .i64 2, .int .i64 23]⟩) = some (.bool true) := by kernel_rfl
  rw [pureCall_fn F12 rfl]
  simp -implicitDefEqProofs [r12, p12, ret1 m36, t3, ret1 m37, rw4, ret1 m15, s3, s4, pb_b2, pb_b3, pb_b4, en_b, sg2, sg3, sg4, lit_e1, lit_e2, lit_p1, arr_b, ba, bb, bc, bd, lit_i3, lit_i2, lit_r2, app_r2, areas5, ret0 m21, ia, ib, ic, id, i5, ra, rb, rc, rd, beq, b7, x7, l7, bb7]
end Go.Proofs.Ytcnafncmfiogcaa.Bm
namespace Go.Proofs.Ytcnafncmfiogcaa.Bm
open Go Go.RowKit
open Rg (Rect)
open Cp (Q Br Nd VB prQ validQ best sr kidsU conts us inA)
structure Args (P : Rooms) (p : Pb) : Prop where
  ok : ∀ r ∈ P, Rec.Ok r.1 r.2
  len : P.length ≤ maxLen
  kl : Rec.Ok p.kl p.left
  kn : Rec.Ok p.kn p.never
  u : -9223372036854775808 ≤ p.uses ∧ p.uses ≤ 9223372036854775807
  m : -9223372036854775808 ≤ p.most ∧ p.most ≤ 9223372036854775807
def fewB (P : Rooms) (p : Pb) : Bool := P.all (fun r => decide (r.2.length ≤ 16)) && (decide (P.length ≤ 13) && (decide (p.left.length ≤ 40) && decide (p.never.length ≤ 40)))
theorem Args.few {P : Rooms} {p : Pb} (a : Args P p) (x : Bool) : pureCall E.P (L E) 13 [roomsV x P, .agg ⟨p.cells⟩] = some (.bool (fewB P p)) := few_spec x P p a.kl a.kn a.ok a.len
theorem Args.get {P : Rooms} {p : Pb} (a : Args P p) (h : fewB P p = true) : RoomsOk P ∧ PbOk p := by
  unfold fewB at h
  simp only [Bool.and_eq_true, decide_eq_true_eq, List.all_eq_true] at h
  exact ⟨⟨a.ok, h.1, h.2.1⟩, ⟨a.kl, a.kn, a.u, a.m, h.2.2.1, h.2.2.2⟩⟩
theorem rooms_reify (x : Bool) (P : Rooms) (h : Heap) : reify E.P 8 h (roomsV x P) = some (roomsV x P) := by unfold roomsV; rfl
end Go.Proofs.Ytcnafncmfiogcaa.Bm
namespace Go.Proofs.Ytcnafncmfiogcaa.Bm
open Go Go.RowKit
open Rg (Rect)
open Cp (Q Br prQ validQ best fitS fitR)
theorem ub25 : E.P.underlying 4 = some .bool := by kernel_rfl
theorem neqB (a b c d : Int) : aBin E.P .neq 41 (.agg ⟨[.int .i64 a, .int .i64 b]⟩) (.agg ⟨[.int .i64 c, .int .i64 d]⟩) = (allOf [some (a == c), some (b == d)]).map fun b => .bool (!b) := by kernel_rfl
theorem neqB_self (x : Br) : aBin E.P .neq 41 (brR.val x) (brR.val x) = some (.bool false) := by
  rw [br_val, neqB]
  simp [allOf]
set_option maxHeartbeats 1000000 in
theorem tells_law (P : Rooms) (p : Pb) (A c : List Int) (ha : Args P p) (_hA : A.length ≤ maxLen) (_hc : c.length ≤ maxLen) (hcb : ∀ u ∈ c, -9223372036854775808 ≤ u ∧ u ≤ 9223372036854775807) : ∃ h', L E 5 [roomsV false P, p.val, intE.o (some false) A, intE.o (some false) c] [] 0 = some (.bool true, h') := by
  have fw := ha.few false
  have sm := small25_spec
  have rr := rooms_reify false P
  have sr : settled depth (roomsV false P) = true := rfl
  have rcp : ∀ h, reifyC E.P 7 h p.cells = some p.cells := fun h => reifyC_set (pb_all p)
  have pe : p.val = .agg ⟨p.cells⟩ := rfl
  have ps : settled depth (.agg ⟨p.cells⟩) = true := p.set
  have lp : ∀ t, loadT ⟨some true, some 4⟩ (AObj.cells 26 p.cells 0 :: t) (.pointer (some ⟨0, 0, none⟩)) = some (.agg ⟨p.cells⟩) := fun t => obj_all (b := 0) rfl rfl
  have hA' : intE.o (some false) A = lst false (intE.vals A) := rfl
  have hc' : intE.o (some false) c = lst false (intE.vals c) := rfl
  have lA : ∀ h, lenT .sl h (lst false (intE.vals A)) = some (.int .i64 A.length) := fun h => Enc.o_len (O := intE) (k := some false) Enc.ok_some
  have lc : ∀ h, lenT .sl h (lst false (intE.vals c)) = some (.int .i64 c.length) := fun h => Enc.o_len (O := intE) (k := some false) Enc.ok_some
  have rA : ∀ h, reify E.P 8 h (lst false (intE.vals A)) = some (lst false (intE.vals A)) := fun h => rfl
  have rc : ∀ h, reify E.P 8 h (lst false (intE.vals c)) = some (lst false (intE.vals c)) := fun h => rfl
  rw [L_fn F5 rfl, pe, hA', hc']
  cases hF : fewB P p
  · rw [hF] at fw
    simp -implicitDefEqProofs [r5, p5, ret0 m12, sm, ret0 m13, rr, lp, rcp, fw]
  rw [hF] at fw
  obtain ⟨hPo, hp⟩ := ha.get hF
  by_cases q1 : 14 < A.length
  · have q1' : (14 : Int) < A.length := by omega
    simp -implicitDefEqProofs [r5, p5, ret0 m12, sm, ret0 m13, rr, lp, rcp, fw, lA, q1']
  have q1' : ¬ (14 : Int) < A.length := by omega
  by_cases q2 : 14 < c.length
  · have q2' : (14 : Int) < c.length := by omega
    simp -implicitDefEqProofs [r5, p5, ret0 m12, sm, ret0 m13, rr, lp, rcp, fw, lA, lc, q1', q2']
  have q2' : ¬ (14 : Int) < c.length := by omega
  have ar := areas_call false P hPo
  have rar := rareas_spec false P hPo
  have f1 := fits_spec p hp (some false) A c false Enc.ok_some (by omega) (by omega) hcb
  have f2 := rfits_spec p hp (some false) (some false) A c Enc.ok_some Enc.ok_some (by omega) (by omega) hcb
  rw [Cp.fit_eq] at f2
  rw [pe, hA'] at f1 f2
  rw [hc'] at f2
  have bne : ∀ p q, aBin E.P .neq 4 (.bool p) (.bool q) = some (.bool (p != q)) := fun p q => bin_neq_bool ub25
  have it : ∀ k k' l, Enc.Ok k l → Enc.Ok k' l → l.length ≤ 1000000 → pureCall E.P (L E) 21 [intE.o k l, intE.o k' l] = some (.bool true) := fun k k' l h1 h2 h3 => (ints25 k k' l l h1 h2 h3).trans (by rw [decide_eq_true rfl])
  have in0 : pureCall E.P (L E) 21 [.slice none 0 0, .slice none 0 0] = some (.bool true) := it none none [] Enc.ok_nil Enc.ok_nil (by decide)
  cases hA : areasF (lists P) with
  | none =>
    rw [hA] at ar rar
    have bb := best_bad false P hPo p hp (.inl hA)
    have rb := rbest_bad false P hPo p hp (.inl hA)
    rw [pe] at bb rb
    unfold areasV at ar rar
    simp -implicitDefEqProofs [r5, p5, ret0 m12, sm, ret0 m13, rr, lp, rcp, fw, lA, lc, q1', q2', ar, ret1 m20, sr, rar, ret0 m21, in0, ret0 m22, ret0 m17, rA, rc, f1, f2, bne, ret1 m15, ret1 m23, ps, bb, rb]
    rw [LL_go]
    simp -implicitDefEqProofs [r5_13, k5_13, trim_le]
  | some B =>
    rw [hA] at ar rar
    unfold areasV at ar rar
    have h12 := (areas_told hA).1
    have rB : ∀ h, reify E.P 8 h (lst false (intE.vals B)) = some (lst false (intE.vals B)) := fun h => rfl
    have inB : pureCall E.P (L E) 21 [lst false (intE.vals B), lst false (intE.vals B)] = some (.bool true) := it (some false) (some false) B Enc.ok_some Enc.ok_some (by omega)
    cases hv : validQ p.q
    · have bb := best_bad false P hPo p hp (.inr hv)
      have rb := rbest_bad false P hPo p hp (.inr hv)
      rw [pe] at bb rb
      simp -implicitDefEqProofs [r5, p5, ret0 m12, sm, ret0 m13, rr, lp, rcp, fw, lA, lc, q1', q2', ar, ret1 m20, sr, rar, ret0 m21, in0, inB, rB, ret0 m22, ret0 m17, rA, rc, f1, f2, bne, ret1 m15, ret1 m23, ps, bb, rb]
      rw [LL_go]
      simp -implicitDefEqProofs [r5_13, k5_13, trim_le]
    · obtain ⟨k1, h1, bb⟩ := best_ok false P hPo p hp B hA hv
      obtain ⟨k2, h2, rb⟩ := rbest_ok false P hPo p hp B hA hv
      rw [pe] at bb rb
      cases hb : best (prQ p.q) B with
      | none =>
        rw [hb] at bb rb
        unfold bestV at bb rb
        simp only at bb rb
        simp -implicitDefEqProofs [r5, p5, ret0 m12, sm, ret0 m13, rr, lp, rcp, fw, lA, lc, q1', q2', ar, ret1 m20, sr, rar, ret0 m21, in0, inB, rB, ret0 m22, ret0 m17, rA, rc, f1, f2, bne, ret1 m15, ret1 m23, ps, bb, rb]
        rw [LL_go]
        simp -implicitDefEqProofs [r5_13, k5_13, trim_le]
      | some r =>
        obtain ⟨v, x, t⟩ := r
        have h1 : Enc.Ok k1 x := h1 _ hb
        have h2 : Enc.Ok k2 x := h2 _ hb
        rw [hb] at bb rb
        unfold bestV at bb rb
        simp only at bb rb
        have t4 := (Cp.best_sr hb).1
        have hv' := validQ_most hv
        have hx : x.length ≤ B.length := (fitR_len (betF_no hv h12 (Cp.inA_iff.2 (areas_told hA).2) hb).2.1).1
        have inx := it k1 k2 x h1 h2 (by omega)
        have rx1 : ∀ h, reify E.P 8 h (intE.o k1 x) = some (intE.o k1 x) := fun h => Enc.o_reify
        have rx2 : ∀ h, reify E.P 8 h (intE.o k2 x) = some (intE.o k2 x) := fun h => Enc.o_reify
        have lt : ∀ h, lenT .sl h (lst false (brR.vals t)) = some (.int .i64 t.length) := fun h => Rec.o_len (R := brR) (k := some false) Rec.ok_some
        have ix : ∀ (i : Nat) (hi : i < t.length), indexAddrT (.sl 41 ⟨some true, some 2⟩) (lst false (brR.vals t)) (.int .i64 (i : Int)) = some (cptr (brR.val t[i])) := fun i hi => Rec.o_index (R := brR) (s := 2) (t := 41) (kk := .i64) (k := some false) rfl Rec.ok_some hi
        simp -implicitDefEqProofs [r5, p5, ret0 m12, sm, ret0 m13, rr, lp, rcp, fw, lA, lc, q1', q2', ar, ret1 m20, sr, rar, ret0 m21, inB, rB, inx, rx1, rx2, lt, ret0 m22, ret0 m17, rA, rc, f1, f2, bne, ret1 m15, ret1 m23, ps, bb, rb]
        generalize hT : lst false (brR.vals t) = T at *
        rw [LL_for (γ := Unit) t () (fun i _ => [(22, .int .i64 (i : Int))]) (fun _ _ => [.cells 26 p.cells 0]) (fun _ _ _ => (.exit 0, [(22, undef)], [.cells 26 p.cells 0])) (fun _ _ => True) (by omega) trivial]
        · simp -implicitDefEqProofs [k5_13]
        · simp -implicitDefEqProofs [k5_13]
        · rfl
        · intro nx i _ hi _
          simp -implicitDefEqProofs [r5_13, k5_13, lt, hi, trim_le]
        · intro nx i w rest _ hi hw hd hwr _ ih
          have hi' : (i : Int) < (t.length : Int) := by omega
          have ih := ih () trivial
          have xi := ix i hi
          rw [hw] at xi
          have lw : ∀ h, loadT ⟨some true, some 2⟩ h (cptr (brR.val w)) = some (brR.val w) := fun _ => rfl
          have ne := neqB_self w
          simp -implicitDefEqProofs [k5_13] at ih
          simp -implicitDefEqProofs [r5_13, k5_13, lt, hi', xi, lw, ne, hwr, trim_le]
          exact ih
end Go.Proofs.Ytcnafncmfiogcaa.Bm
