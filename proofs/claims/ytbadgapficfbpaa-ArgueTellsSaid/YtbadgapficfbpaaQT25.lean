/-
 Chapter 36: the law that all functions return what the reference returns. Conditions: lists that are not too long.
-/
import Derived.Test.YtbadgapficfbpaaQT24
import Derived.Test.YtbadgapficfbpaaQT22
import Derived.Test.YtbadgapficfbpaaQT20
import Derived.Test.YtbadgapficfbpaaQT19
namespace Go.Proofs.Ytbadgapficfbpaa.Bm
open Go Go.RowKit
theorem firstR_spec {kL : Option Bool} {Lb R g : List Int} {n : Nat} (hg : ∀ i ∈ g, 0 ≤ i ∧ i.toNat < n) (hk : IOk kL Lb) (hL : Lb.length = n) (hR : R.length = n) (hlen : g.length ≤ maxLen) :
  pureCall E.P (L E) 39 [ilist kL Lb, rowT R, rowT g] = some (.int .i64 (firstF Lb R g)) := by
 unfold maxLen at hlen
 have lg : ∀ H, lenT .sl H (rowT g) = some (.int .i64 g.length) := fun H => il_len (k := some false) (l := g) iok_some
 have ig := fun (j : Nat) (hj : j < g.length) => rowT_idxN (e := 3) (l := g) hj
 have f1 : ∀ z, 0 ≤ z → z.toNat < n → indexAddrT (.sl 3 ⟨some false, some 1⟩) (ilist kL Lb) (.int .i64 z) = some (cptr (.int .i64 (getI Lb z))) := fun z q0 q1 => il_idx hk q0 (hL ▸ q1)
 have f2 : ∀ z, 0 ≤ z → z.toNat < n → indexAddrT (.sl 3 ⟨some false, some 1⟩) (rowT R) (.int .i64 z) = some (cptr (.int .i64 (getI R z))) := fun z q0 q1 => rowT_idx q0 (hR ▸ q1)
 rw [pureCall_fn F39 rfl]
 generalize ilist kL Lb = VL at *
 generalize rowT R = VR at *
 generalize rowT g = VG at *
 simp -implicitDefEqProofs [r39, p39]
 rw [LL_for (γ := Int) g (-1) (fun i b => [(7, .int .i64 b), (8, .int .i64 i)]) (fun _ _ => []) (fun _ rest b => (.exit 0, [(7, .int .i64 (rest.foldl (firstS Lb R) b)), (8, undef)], [])) (fun _ b => b < 0 ∨ 0 ≤ b ∧ b.toNat < n) hlen (.inl (by decide))]
 ·simp -implicitDefEqProofs [k39_3, firstF]
 ·simp [k39_3]
 ·rfl
 ·intro nx i b hi _
  simp -implicitDefEqProofs [r39_3, k39_3, lg, hi, trim_le]
 ·intro nx i v rest b hi hv hd hw hb ih
  have hvm := hg v (hv ▸ List.getElem_mem hi)
  have hi2 : (i : Int) < (g.length : Int) := by omega
  have x1 := ig i hi
  rw [hv] at x1
  have y1 := f1 v hvm.1 hvm.2
  have y2 := f2 v hvm.1 hvm.2
  have ih1 := ih v (.inr hvm)
  have ih2 := ih b hb
  rw [List.foldl_cons]
  simp -implicitDefEqProofs [k39_3] at ih1 ih2
  by_cases q1 : getI Lb v = 1
  ·by_cases q2 : b < 0
   ·have hs : firstS Lb R b v = v := by unfold firstS; rw [if_pos ⟨q1, .inl q2⟩]
    rw [hs]
    simp -implicitDefEqProofs [r39_3, k39_3, lg, hi2, x1, hw, y1, q1, q2, trim_le, ih1]
   ·have hb' : 0 ≤ b ∧ b.toNat < n := hb.resolve_left q2
    have y3 := f2 b hb'.1 hb'.2
    by_cases q3 : getI R v < getI R b
    ·have hs : firstS Lb R b v = v := by unfold firstS; rw [if_pos ⟨q1, .inr q3⟩]
     rw [hs]
     simp -implicitDefEqProofs [r39_3, k39_3, lg, hi2, x1, hw, y1, y2, y3, q1, q2, q3, trim_le, ih1]
    ·have hs : firstS Lb R b v = b := by unfold firstS; rw [if_neg (by rintro ⟨_, h | h⟩ <;> contradiction)]
     rw [hs]
     simp -implicitDefEqProofs [r39_3, k39_3, lg, hi2, x1, hw, y1, y2, y3, q1, q2, q3, trim_le, ih2]
  ·have hs : firstS Lb R b v = b := by unfold firstS; rw [if_neg fun h => q1 h.1]
   rw [hs]
   simp -implicitDefEqProofs [r39_3, k39_3, lg, hi2, x1, hw, y1, q1, trim_le, ih2]
theorem firstR_call {kL : Option Bool} {Lb R g : List Int} {n : Nat} (hg : ∀ i ∈ g, 0 ≤ i ∧ i.toNat < n) (hk : IOk kL Lb) (hL : Lb.length = n) (hR : R.length = n) (hlen : g.length ≤ maxLen) {lo : Nat} {st : Bool} {h : Heap} :
  retCall E (L E) lo st 39 [ilist kL Lb, rowT R, rowT g] h = some (.int .i64 (firstF Lb R g), h) := by
 have r1 : ∀ H, reify E.P 8 H (ilist kL Lb) = some (ilist kL Lb) := fun H => il_reify
 have r2 : ∀ l H, reify E.P 8 H (rowT l) = some (rowT l) := fun l H => rfl
 have := firstR_spec hg hk hL hR hlen
 simp -implicitDefEqProofs [ret0 m39, r1, r2, this]
def bfH (s : List Int × List Bool) : Heap := [rowG s.1, bitO s.2]
theorem bfH_bel (s : List Int × List Bool) {n : Nat} : (bfH s).all (belowO n) = true := by
 have h1 := rowG_bel (n := n) (L := s.1)
 have h2 : belowO n (bitO s.2) = true := by
  show (s.2.map Value.bool).all (below 8 n) = true
  simp [List.all_eq_true]
 unfold bfH
 simp only [List.all_cons, List.all_nil, h1, h2]
 rfl
theorem bfH_trim {s : List Int × List Bool} {x : AObj} {vs : List Value} (h : vs.all (below 8 2) = true) : trim 2 vs (bfH s ++ [x]) = bfH s := by
 have e : (bfH s ++ [x]).take 2 = bfH s := rfl
 have := trim_cut (h := bfH s ++ [x]) (n := 2) (vs := vs) (by show ¬ 3 ≤ 2; decide) h (by rw [e]; exact bfH_bel s)
 rw [this, e]
theorem litI (H : Heap) (z : Int) : buildSliceT (some elJ) true H 1 #[(0, .int .i64 z)] = some (Enc.sl H.length [z], H ++ [rowG [z]]) := by
 rw [build_one' (by rfl) rfl rfl, if_pos rfl]; rfl
theorem bf_store {s : List Int × List Bool} {n : Nat} (hn : s.2.length = n) {v : Int} (h0 : 0 ≤ v) (hv : v.toNat < n) : storeT (some 1) (bfH s) 0 (.bool true) (cAt 1 v.toNat) = some (bfH (s.1, s.2.set v.toNat true)) := by
 have := bit_store (h := bfH s) hn h0 hv (k := 1) rfl
 exact this
theorem bf_load {s : List Int × List Bool} {v : Int} (hv : v.toNat < s.2.length) : loadT ⟨some false, some 1⟩ (bfH s) (cAt 1 v.toNat) = some (.bool (s.2.getD v.toNat false)) := by
 refine obj_load (h := bfH s) (t := 4) (c := s.2.map .bool) rfl ?_
 rw [List.getElem?_map, List.getElem?_eq_getElem hv, List.getD_eq_getElem?_getD, List.getElem?_eq_getElem hv]; rfl
theorem bf_app {s : List Int × List Bool} {d : Int} (hl : s.1.length ≤ 1000) : appendT (some elJ) (bfH s ++ [rowG [d]]) 0 false (Enc.sl 0 s.1) (Enc.sl 2 [d]) = some (Enc.sl 0 (s.1 ++ [d]), bfH (s.1 ++ [d], s.2) ++ [rowG [d]]) :=
 Enc.app (O := intE) (el := elJ) (h := bfH s ++ [rowG [d]]) (b := 0) (t := 3) (l := s.1) (m := [d]) rfl rfl (Enc.cells_sl (O := intE) (t := 3) (b := 2) (l := [d]) rfl) (Nat.le_refl _) (by show (s.1.length + 1) * 8 ≤ _; omega)
theorem bf_ix {W : List Int} {i : Nat} (hi : i < W.length) {t : TypeId} {g : Option Bool} {k : IntKind} : indexAddrT (.sl t ⟨g, some 1⟩) (Enc.sl 0 W) (.int k (i : Int)) = some (Enc.at_ 0 W i) := Enc.sl_index hi
theorem bf_ld {s : List Int × List Bool} {i : Nat} (hi : i < s.1.length) {sz : Option Nat} : loadT ⟨some false, sz⟩ (bfH s) (Enc.at_ 0 s.1 i) = some (.int .i64 s.1[i]) := Enc.load_at (O := intE) (t := 3) (h := bfH s) rfl hi
def bfO (s : List Int × List Bool) (o : List Int) : Heap := [rowG s.1, bitO s.2, rowG o]
theorem bfO_app {s : List Int × List Bool} {o : List Int} {d : Int} (hl : o.length ≤ 1000) : appendT (some elJ) (bfO s o ++ [rowG [d]]) 0 false (Enc.sl 2 o) (Enc.sl 3 [d]) = some (Enc.sl 2 (o ++ [d]), bfO s (o ++ [d]) ++ [rowG [d]]) :=
 Enc.app (O := intE) (el := elJ) (h := bfO s o ++ [rowG [d]]) (b := 2) (t := 3) (l := o) (m := [d]) rfl rfl (Enc.cells_sl (O := intE) (t := 3) (b := 3) (l := [d]) rfl) (Nat.zero_le _) (by show (o.length + 1) * 8 ≤ _; omega)
theorem bfO_load {s : List Int × List Bool} {o : List Int} {i : Nat} (hv : i < s.2.length) : loadT ⟨some false, some 1⟩ (bfO s o) (cAt 1 i) = some (.bool s.2[i]) := by
 refine obj_load (h := bfO s o) (t := 4) (c := s.2.map .bool) rfl ?_
 rw [List.getElem?_map, List.getElem?_eq_getElem hv]; rfl
theorem bfO_trim {s : List Int × List Bool} {o : List Int} {x : AObj} {vs : List Value} (h : vs.all (below 8 3) = true) : trim 3 vs (bfO s o ++ [x]) = bfO s o := by
 have e : (bfO s o ++ [x]).take 3 = bfO s o := rfl
 have := trim_cut (h := bfO s o ++ [x]) (n := 3) (vs := vs) (by show ¬ 4 ≤ 3; decide) h (by
  rw [e]
  have h1 := bfH_bel s (n := 3)
  have h2 := rowG_bel (n := 3) (L := o)
  unfold bfH at h1
  unfold bfO
  simp only [List.all_cons, List.all_nil, Bool.and_true, Bool.and_eq_true] at h1 ⊢
  exact ⟨h1.1, h1.2, h2⟩)
 rw [this, e]
set_option maxRecDepth 20000 in
set_option maxHeartbeats 4000000 in
theorem whyR_go (x : Bool) (l : List Claim) (c : Int) (hc : CaseOk l) (hl : l.length ≤ maxLen) (hr : rightB (atts l) = true) (hd : dom l.length c) (h0 : getI (groundF (atts l)).1 c ≠ 0) :
  pureCall E.P (L E) 22 [lst x (l.map Claim.val), .int .i64 c] = some (rowT (whyF (atts l) c)) := by
 obtain ⟨kg, gs⟩ := groundedR_spec x l hc hl hr
 have ats := attackersR_spec x l hc hr
 obtain ⟨hn300, _⟩ := right_at hr
 rw [atts_len] at hn300
 have hGl := graphF_len (atts l)
 have hGi := graphF_in (atts l)
 have hGb := graphF_bound hr
 have hgl := ground_len (A := atts l)
 have hda : dom (atts l).length c := by rw [atts_len]; exact hd
 have hw := whyC_good hr hda h0
 have hbw := bf_why hr hda h0 (f := l.length) (by rw [atts_len]; exact Nat.le_refl _)
 have hgok := good_ok hr
 have hwc : whyC (atts l) c = if getI (groundF (atts l)).1 c = 2 then firstF (groundF (atts l)).1 (groundF (atts l)).2 (getL (graphF (atts l)) c) else c := rfl
 rw [atts_len] at hGl hGi hgl hbw hgok
 have hgd : ∀ z, goodI (atts l) z → dom l.length z := fun z hz => by have := hz.1; rw [atts_len] at this; exact this
 have ll : ∀ h, lenT .sl h (lst x (l.map Claim.val)) = some (.int .i64 l.length) := fun h => by simp
 have sV : settled depth (lst x (l.map Claim.val)) = true := rfl
 have bV : ∀ d n, below (d + 1) n (lst x (l.map Claim.val)) = true := fun _ _ => rfl
 have iB := fun (z : Int) (q0 : 0 ≤ z) (hz : z.toNat < l.length) => graphT_idx (G := graphF (atts l)) (e := 23) q0 (show z.toNat < (graphF (atts l)).length by omega)
 have bB : ∀ d n, below (d + 1) n (lst false ((graphF (atts l)).map rowT)) = true := fun _ _ => rfl
 have hGm : ∀ z : Int, z.toNat < l.length → getL (graphF (atts l)) z ∈ graphF (atts l) := fun z hz => by
  have hz' : z.toNat < (graphF (atts l)).length := by omega
  unfold getL
  rw [List.getD_eq_getElem?_getD, List.getElem?_eq_getElem hz']
  exact List.getElem_mem hz'
 generalize hG : graphF (atts l) = G at *
 obtain ⟨Lb, hLb⟩ : ∃ Lb, Lb = (groundF (atts l)).1 := ⟨_, rfl⟩
 obtain ⟨Rk, hRk⟩ : ∃ Rk, Rk = (groundF (atts l)).2 := ⟨_, rfl⟩
 rw [← hLb, ← hRk] at gs hgl hbw hwc
 rw [← hLb] at h0
 simp only [← hLb, ← hRk] at hgok
 have iL := fun (z : Int) (q0 : 0 ≤ z) (hz : z.toNat < l.length) => il_idx (k := some kg) (l := Lb) (e := 3) iok_some q0 (show z.toNat < Lb.length by omega)
 have fcall := fun (z : Int) (hz : z.toNat < l.length) lo st h => firstR_call (kL := some kg) (Lb := Lb) (R := Rk) (g := getL G z) (n := l.length) (hGi _ (hGm z hz)) iok_some hgl.1 hgl.2 (by have := hGb _ (hGm z hz); unfold maxLen; omega) (lo := lo) (st := st) (h := h)
 have fg : ∀ g : List Int, fitsTT ⟨some false, some 1⟩ (rowT g) = true := fun g => il_fits (k := some false) (l := g)
 have bL : ∀ d n, below (d + 1) n (ilist (some kg) Lb) = true := fun d n => il_bel
 have bT : ∀ d n g, below (d + 1) n (rowT g) = true := fun d n g => rfl
 obtain ⟨F, hF⟩ : ∃ F : Int → Int, F = fun k => firstF Lb Rk (getL G k) := ⟨_, rfl⟩
 have eF : ∀ z, firstF Lb Rk (getL G z) = F z := fun z => by rw [hF]
 rw [← hF] at hbw
 simp only [eF] at fcall hwc hgok
 have c0 : ¬ c < 0 := by have := hd.1; omega
 have c1 : ¬ (l.length : Int) ≤ c := by have := hd.1; have := hd.2; omega
 have iLc := iL c hd.1 hd.2
 have iBc := iB c hd.1 hd.2
 have fcc := fcall c hd.2
 have mk : ∀ H, makeSliceT (some elB) H (.int .i64 (l.length : Int)) (.int .i64 (l.length : Int)) = some (.slice (some ⟨H.length, 0, none⟩) l.length l.length, H ++ [bitO (List.replicate l.length false)]) := fun H => by
  have mk := make_one (h := H) (el := elB) (n := l.length) (k := .i64) (k' := .i64) rfl rfl (by omega) (by decide)
  have ez : List.replicate l.length (Value.bool false) = (List.replicate l.length false).map .bool := by rw [List.map_replicate]
  rw [show elB.z = Value.bool false from rfl, ez] at mk
  exact mk
 obtain ⟨C, hC⟩ : ∃ C, C = whyC (atts l) c := ⟨_, rfl⟩
 rw [← hC] at hw hbw hwc
 have hCd := hgd C hw
 have st0 := bf_store (s := ([C], List.replicate l.length false)) (n := l.length) List.length_replicate hCd.1 hCd.2
 have ixC := made_ixZ (b := 1) (n := l.length) hCd.1 hCd.2 (t := 4) (g := some false) (k := .i64)
 obtain ⟨s0, hs0⟩ : ∃ s0, s0 = (([C], (List.replicate l.length false).set C.toNat true) : List Int × List Bool) := ⟨_, rfl⟩
 have st0 : storeT (some 1) [rowG [C], bitO (List.replicate l.length false)] 0 (.bool true) (cAt 1 C.toNat) = some (bfH s0) := by rw [hs0]; exact st0
 have mk1 : makeSliceT (some elB) [rowG [C]] (.int .i64 (l.length : Int)) (.int .i64 (l.length : Int)) = some (.slice (some ⟨1, 0, none⟩) l.length l.length, [rowG [C], bitO (List.replicate l.length false)]) := mk [rowG [C]]
 have liC : buildSliceT (some elJ) true [] 1 #[(0, .int .i64 C)] = some (Enc.sl 0 [C], [rowG [C]]) := litI [] C
 have start : BfI l.length (goodI (atts l)) s0 := by
  rw [hs0]
  refine ⟨by simp, fun z hz => by rw [List.mem_singleton.1 hz]; exact hw, by show ((List.replicate l.length false).set _ _).length = _; rw [List.length_set, List.length_replicate], fun z hz => ?_⟩
  show ((List.replicate l.length false).set C.toNat true).getD z.toNat false = true ↔ z ∈ [C]
  have hl : C.toNat < (List.replicate l.length false).length := by rw [List.length_replicate]; exact hCd.2
  rw [List.getD_eq_getElem?_getD, List.getElem?_set, List.mem_singleton]
  by_cases e : C.toNat = z.toNat
  ·have : z = C := by have := hCd.1; have := hz.1; omega
   rw [if_pos e, if_pos hl]
   simp [this]
  ·have : ¬ z = C := fun q => e (by rw [q])
   rw [if_neg e, List.getElem?_replicate]
   split <;> simp [this]
 rw [← hs0] at hbw
 have hs01 : s0.1 = [C] := by rw [hs0]
 have hst : ∀ z, goodI (atts l) z → ∀ k ∈ getL G z, goodI (atts l) (F k) := fun z hz k hk => ((hgok z hz).2.2 k hk).2.2
 have bfe := bf_end (F := F) (G := G) (good := goodI (atts l)) hgd hst l.length 0 s0 (by omega) (Nat.zero_le _) start fun j _ h => absurd h (Nat.not_lt_zero j)
 rw [pureCall_fn F22 rfl]
 generalize hVC : lst x (l.map Claim.val) = VC at *
 generalize hVL : ilist (some kg) Lb = VL at *
 generalize hVR : rowT Rk = VR at *
 have bR : ∀ d n, below (d + 1) n VR = true := fun d n => by rw [← hVR]; rfl
 generalize hVB : lst false (G.map rowT) = VB at *
 have hnew := fun (h : Heap) (σ : Slots) (s : Nat) => newK_nil (P := E.P) (t := 3) (h := h) (σ := σ) (s := s) (n := 0) s3
 by_cases q : getI Lb c = 2
 all_goals
  (first
   | (rw [if_pos q] at hwc
      rw [← hwc] at fcc
      simp -implicitDefEqProofs [r22, p22, ret1 m11, ret1 m28, sV, gs, ats, ll, c0, c1, iLc, q, iBc, fg, fcc, liC, mk1, ixC, st0])
   | (rw [if_neg q] at hwc
      rw [hwc] at liC mk1 ixC st0 hs01
      simp -implicitDefEqProofs [r22, p22, ret1 m11, ret1 m28, sV, gs, ats, ll, c0, c1, iLc, h0, q, liC, mk1, ixC, st0]))
  rw [LL_rec (α := Nat × Nat × (List Int × List Bool)) (l.length, 0, s0) (fun a => [(9, Enc.sl 0 a.2.2.1), (11, .int .i64 (a.2.1 : Int))]) (fun a => bfH a.2.2)
   (fun a => (.exit 0, [(9, undef), (11, undef)], bfH (bfF F G a.1 a.2.1 a.2.2))) (fun a => BfI l.length (goodI (atts l)) a.2.2 ∧ a.2.1 ≤ a.2.2.1.length ∧ l.length ≤ a.1 + a.2.1) (fun a => a.1)]
  ·dsimp only
   obtain ⟨sz, hsz⟩ : ∃ sz, sz = bfF F G l.length 0 s0 := ⟨_, rfl⟩
   rw [← hsz] at bfe hbw ⊢
   have hszl := bfe.1.len
   have bl2 : (bfH sz).length = 2 := rfl
   simp -implicitDefEqProofs [k22_11, prep_new, hnew, bl2]
   have hlb : sz.2.length ≤ 1000 := by omega
   have rO := Enc.reifyR_sl (O := intE) (P := E.P) (h := bfO sz (whyF (atts l) c)) (b := 2) (t := 3) (l := whyF (atts l) c) rfl s3 a3
   have rO : reifyR E.P (bfO sz (whyF (atts l) c)) (Enc.sl 2 (whyF (atts l) c)) = some (rowT (whyF (atts l) c)) := rO
   rw [LL_for (γ := List Int) sz.2 [] (fun i o => [(15, Enc.sl 2 o), (16, .int .i64 (i : Int))]) (fun _ o => bfO sz o) (fun i rest o => (.exit 4, [(15, Enc.sl 2 (o ++ idxO i rest)), (16, undef)], bfO sz (o ++ idxO i rest))) (fun i o => o.length ≤ i) (by omega) (Nat.le_refl _)]
   ·rw [List.nil_append, hbw]
    generalize rowT (whyF (atts l) c) = VW at *
    generalize Enc.sl 2 (whyF (atts l) c) = VO at *
    simp -implicitDefEqProofs [k22_23, rO]
   ·simp -implicitDefEqProofs [k22_23]; rfl
   ·rfl
   ·intro nx i o hi _
    have e0 : idxO i [] = [] := rfl
    rw [e0, List.append_nil]
    have hi' : ¬ (i : Int) < (l.length : Int) := by omega
    have bl3 : (bfO sz o).length = 3 := rfl
    simp -implicitDefEqProofs [r22_23, k22_23, hi', bl3, trim_le]
   ·intro nx i b rest o hi hv hd hw hI ih
    have hI : o.length ≤ i := hI
    have hi2 : (i : Int) < (l.length : Int) := by omega
    have y3 := made_ix (b := 1) (n := l.length) (i := i) (by omega) (t := 4) (g := some false) (k := .i64)
    have y4 := bfO_load (s := sz) (o := o) (i := i) hi
    rw [hv] at y4
    have e2 : (((i + 1 : Nat) : Int)) = (i : Int) + 1 := by omega
    have e1 : idxO i (b :: rest) = if b = true then (i : Int) :: idxO (i + 1) rest else idxO (i + 1) rest := rfl
    rw [e1]
    have bl3 : ∀ o, (bfO sz o).length = 3 := fun _ => rfl
    cases b
    ·rw [if_neg (by decide)]
     have ih := ih o (by show o.length ≤ i + 1; omega)
     rw [e2] at ih
     generalize o ++ idxO (i + 1) rest = Z at *
     simp -implicitDefEqProofs [k22_23] at ih
     simp -implicitDefEqProofs [r22_23, k22_23, hi2, y3, y4, bl3, hw, ih, trim_le]
    ·rw [if_pos rfl]
     have ih := ih (o ++ [(i : Int)]) (by show (o ++ [(i : Int)]).length ≤ i + 1; rw [List.length_append, List.length_singleton]; omega)
     rw [e2, List.append_assoc, List.singleton_append] at ih
     generalize o ++ (i : Int) :: idxO (i + 1) rest = Z at *
     have y6 := bfO_app (s := sz) (o := o) (d := (i : Int)) (by omega)
     have y7 := litI (bfO sz o) (i : Int)
     rw [show (bfO sz o).length = 3 from rfl] at y7
     have bW : ∀ W : List Int, below 8 3 (Enc.sl 0 W) = true := fun _ => rfl
     have bWf : below 8 3 (Enc.sl 2 (o ++ [(i : Int)])) = true := rfl
     have bcA : ∀ i, below 8 3 (cAt 1 i) = true := fun _ => rfl
     have tr := fun vs x h => bfO_trim (s := sz) (o := o ++ [(i : Int)]) (x := x) (vs := vs) h
     generalize rowG [(i : Int)] = RW at *
     generalize Enc.sl 2 (o ++ [(i : Int)]) = VW at *
     generalize Enc.sl 3 [(i : Int)] = VF at *
     simp -implicitDefEqProofs [k22_23] at ih
     simp -implicitDefEqProofs [r22_23, k22_23, hi2, y3, y4, y6, y7, bl3, hw, ih, tr, bV, bL, bR, bB, bW, bWf, bcA, bT, -List.all_eq_true, -List.all_map]
  ·exact ⟨start, Nat.zero_le _, Nat.le_refl _⟩
  ·dsimp only
   rw [hs01]
   simp -implicitDefEqProofs [k22_11]
  ·rfl
  ·intro nx a ha ih
   obtain ⟨f, i, s⟩ := a
   obtain ⟨hI1, hI2, hI3⟩ := ha
   simp only at hI1 hI2 hI3 ih ⊢
   have hsm := hI1.small hgd
   by_cases hlt : i < s.1.length
   case neg =>
    have e : bfF F G f i s = s := by
     cases f with
     | zero => rfl
     | succ f => unfold bfF; rw [dif_neg hlt]
    rw [e]
    have g0 : ¬ (i : Int) < (s.1.length : Int) := by omega
    have lsl : ∀ H, lenT .sl H (Enc.sl 0 s.1) = some (.int .i64 s.1.length) := fun H => Enc.sl_len
    have bl2 : (bfH s).length = 2 := rfl
    simp -implicitDefEqProofs [r22_11, k22_11, lsl, g0, bl2, trim_le]
   obtain ⟨f', rfl⟩ : ∃ f', f = f' + 1 := ⟨f - 1, by omega⟩
   have e : bfF F G (f' + 1) i s = bfF F G f' (i + 1) (bfG F (getL G s.1[i]) s) := by
    show (if h : i < s.1.length then _ else _) = _
    rw [dif_pos hlt]
   rw [e]
   have hz := hI1.gd _ (List.getElem_mem hlt)
   have hzd := hgd _ hz
   have hgk := (hgok _ hz).2.2
   obtain ⟨i1, _, t, i3⟩ := hI1.fold hgd (getL G s.1[i]) (hst _ hz)
   have ih := ih (f', i + 1, bfG F (getL G s.1[i]) s) (Nat.lt_succ_self f') ⟨i1, by show i + 1 ≤ (bfG F (getL G s.1[i]) s).1.length; rw [i3, List.length_append]; omega, by show l.length ≤ f' + (i + 1); omega⟩
   simp only at ih
   have x1 := bf_ix (W := s.1) hlt (t := 3) (g := some false) (k := .i64)
   have x2 := bf_ld (s := s) hlt (sz := some 1)
   have x3 := iB _ hzd.1 hzd.2
   have gb := hGb _ (hGm _ hzd.2)
   have wi : IntKind.i64.wrap ((i : Int) + 1) = (i : Int) + 1 := wrap64 (by omega) (by omega)
   have g0 : (i : Int) < (s.1.length : Int) := by omega
   have lsl : ∀ H, lenT .sl H (Enc.sl 0 s.1) = some (.int .i64 s.1.length) := fun H => Enc.sl_len
   have e2 : (((i + 1 : Nat) : Int)) = (i : Int) + 1 := by omega
   rw [e2] at ih
   generalize bfF F G f' (i + 1) (bfG F (getL G s.1[i]) s) = Z at *
   generalize hg : getL G s.1[i] = g at *
   generalize s.1[i] = z at *
   have lg : ∀ H, lenT .sl H (rowT g) = some (.int .i64 g.length) := fun H => il_len (k := some false) (l := g) iok_some
   have ig := fun (j : Nat) (hj : j < g.length) => rowT_idxN (e := 3) (l := g) hj
   have fgg := fg g
   have bg := fun d n => bT d n g
   obtain ⟨B, hB⟩ : ∃ B, B = bfG F g s := ⟨_, rfl⟩
   rw [← hB] at ih
   have bl2 : ∀ s, (bfH s).length = 2 := fun _ => rfl
   generalize rowT g = VG at *
   simp -implicitDefEqProofs [k22_11] at ih
   simp -implicitDefEqProofs [r22_11, k22_11, lsl, g0, x1, x2, x3, fgg]
   rw [LL_for (γ := List Int × List Bool) g s (fun j s => [(9, Enc.sl 0 s.1), (13, .int .i64 (j : Int))]) (fun _ s => bfH s)
    (fun _ rest s => (.exit 2, [(9, Enc.sl 0 (bfG F rest s).1), (13, undef)], bfH (bfG F rest s))) (fun _ s => BfI l.length (goodI (atts l)) s) (by omega) hI1]
   ·rw [← hB]
    simp -implicitDefEqProofs [k22_15, wi, bl2, ih, trim_le]
   ·simp -implicitDefEqProofs [k22_15]
   ·rfl
   ·intro nx2 j s2 hj _
    have e0 : bfG F [] s2 = s2 := rfl
    rw [e0]
    simp -implicitDefEqProofs [r22_15, k22_15, lg, hj, bl2, trim_le]
   ·intro nx2 j v rest s2 hj hvj hdj hwj hJ ih2
    have hvg : v ∈ g := by rw [← hvj]; exact List.getElem_mem hj
    obtain ⟨v0, v1, v2⟩ := hgk v hvg
    have hFd := hgd _ v2
    have hj2 : (j : Int) < (g.length : Int) := by omega
    have y1 := ig j hj
    rw [hvj] at y1
    have y2 := iB v v0 v1
    have fcv := fcall v v1
    have fgv := fg (getL G v)
    have y3 := made_ixZ (b := 1) (n := l.length) hFd.1 hFd.2 (t := 4) (g := some false) (k := .i64)
    have y4 := bf_load (s := s2) (v := F v) (by rw [hJ.len]; exact hFd.2)
    have y5 := bf_store (s := s2) (n := l.length) hJ.len hFd.1 hFd.2
    have hsm2 := hJ.small hgd
    have y6 := bf_app (s := (s2.1, s2.2.set (F v).toNat true)) (d := F v) (by show s2.1.length ≤ 1000; omega)
    have y7 := litI (bfH (s2.1, s2.2.set (F v).toNat true)) (F v)
    have hstep := hJ.step hgd (k := v) v2
    have ih2 := ih2 (bfK F s2 v) hstep.1
    have e3 : (((j + 1 : Nat) : Int)) = (j : Int) + 1 := by omega
    have e4 : bfG F (v :: rest) s2 = bfG F rest (bfK F s2 v) := rfl
    rw [e4]
    rw [e3] at ih2
    rw [show (bfH (s2.1, s2.2.set (F v).toNat true)).length = 2 from rfl] at y7
    simp only at y6
    generalize bfG F rest (bfK F s2 v) = Z2 at *
    generalize rowT (getL G v) = VGv at *
    generalize cAt 1 (F v).toNat = PP at *
    simp -implicitDefEqProofs [k22_15] at ih2
    by_cases qq : s2.2.getD (F v).toNat false = true
    ·have eK : bfK F s2 v = s2 := by unfold bfK; rw [if_pos qq]
     rw [eK] at ih2
     rw [qq] at y4
     simp -implicitDefEqProofs [r22_15, k22_15, lg, hj2, y1, y2, fcv, fgv, y3, y4, bl2, hwj, ih2, trim_le]
    ·have eK : bfK F s2 v = (s2.1 ++ [F v], s2.2.set (F v).toNat true) := by unfold bfK; rw [if_neg qq]
     have qq' : s2.2.getD (F v).toNat false = false := Bool.eq_false_iff.2 qq
     rw [eK] at ih2
     rw [qq'] at y4
     have bW : ∀ W : List Int, below 8 2 (Enc.sl 0 W) = true := fun _ => rfl
     have bWf := bW (s2.1 ++ [F v])
     have bAt : ∀ (W : List Int) i, below 8 2 (Enc.at_ 0 W i) = true := fun _ _ => rfl
     have bcA : ∀ i, below 8 2 (cAt 1 i) = true := fun _ => rfl
     have tr := fun vs x h => bfH_trim (s := (s2.1 ++ [F v], s2.2.set (F v).toNat true)) (x := x) (vs := vs) h
     simp only at ih2 tr
     generalize bfH (s2.1, s2.2.set (F v).toNat true) = HA at *
     generalize rowG [F v] = RW at *
     generalize bfH (s2.1 ++ [F v], s2.2.set (F v).toNat true) = HB at *
     generalize Enc.sl 0 (s2.1 ++ [F v]) = VW at *
     generalize Enc.sl 2 [F v] = VF at *
     simp -implicitDefEqProofs [r22_15, k22_15, lg, hj2, y1, y2, fcv, fgv, y3, y4, y5, y6, y7, bl2, hwj, ih2, tr, bV, bL, bR, bB, bg, bW, bWf, bAt, bcA, bT, -List.all_eq_true, -List.all_map]
theorem whyR_no (x : Bool) (l : List Claim) (c : Int) (hc : CaseOk l) (hl : l.length ≤ maxLen) (hno : ¬ (rightB (atts l) = true ∧ dom l.length c ∧ getI (groundF (atts l)).1 c ≠ 0)) :
  pureCall E.P (L E) 22 [lst x (l.map Claim.val), .int .i64 c] = some (.slice none 0 0) := by
 have ll : ∀ h, lenT .sl h (lst x (l.map Claim.val)) = some (.int .i64 l.length) := fun h => by simp
 have sV : settled depth (lst x (l.map Claim.val)) = true := rfl
 rw [pureCall_fn F22 rfl]
 cases hr : rightB (atts l)
 ·have gs := groundedR_no x l hc hl hr
  generalize lst x (l.map Claim.val) = VC at *
  simp -implicitDefEqProofs [r22, p22, ret1 m11, sV, gs]
 obtain ⟨kg, gs⟩ := groundedR_spec x l hc hl hr
 have hgl := ground_len (A := atts l)
 rw [atts_len] at hgl
 have iL := fun (z : Int) (q0 : 0 ≤ z) (hz : z.toNat < l.length) => il_idx (k := some kg) (l := (groundF (atts l)).1) (e := 3) iok_some q0 (show z.toNat < (groundF (atts l)).1.length by omega)
 generalize lst x (l.map Claim.val) = VC at *
 generalize ilist (some kg) (groundF (atts l)).1 = VL at *
 generalize rowT (groundF (atts l)).2 = VR at *
 by_cases c0 : c < 0
 ·simp -implicitDefEqProofs [r22, p22, ret1 m11, sV, gs, c0]
 by_cases c1 : (l.length : Int) ≤ c
 ·simp -implicitDefEqProofs [r22, p22, ret1 m11, sV, gs, c0, ll, c1]
 have hd : dom l.length c := ⟨by omega, by omega⟩
 have z : getI (groundF (atts l)).1 c = 0 := Classical.byContradiction fun q => hno ⟨hr, hd, q⟩
 have iLc := iL c hd.1 hd.2
 rw [z] at iLc
 simp -implicitDefEqProofs [r22, p22, ret1 m11, sV, gs, c0, ll, c1, iLc]
theorem whyR_spec (x : Bool) (l : List Claim) (c : Int) (hc : CaseOk l) (hl : l.length ≤ maxLen) : ∃ k, IOk k (whyF (atts l) c) ∧ pureCall E.P (L E) 22 [lst x (l.map Claim.val), .int .i64 c] = some (ilist k (whyF (atts l) c)) := by
 by_cases h : rightB (atts l) = true ∧ dom l.length c ∧ getI (groundF (atts l)).1 c ≠ 0
 ·exact ⟨some false, iok_some, whyR_go x l c hc hl h.1 h.2.1 h.2.2⟩
 ·have e : whyF (atts l) c = [] := whyF_no (by rw [atts_len]; exact h)
  rw [e]
  exact ⟨none, fun _ => rfl, whyR_no x l c hc hl h⟩
end Go.Proofs.Ytbadgapficfbpaa.Bm
namespace Go.Proofs.Ytbadgapficfbpaa.Bm
open Go Go.RowKit
def zC : List Value := [Value.int IntKind.i64 0, Value.int IntKind.i64 0, Value.slice none 0 0, Value.int IntKind.i64 0, Value.string ⟨⟨[]⟩⟩, Value.int IntKind.i64 0]
def cC (v : Value) : List Value := [Value.int IntKind.i64 0, Value.int IntKind.i64 0, v, Value.int IntKind.i64 0, Value.string ⟨⟨[]⟩⟩, Value.int IntKind.i64 0]
theorem bC (a : Option Addr) (n c : Nat) : buildT (Bl.fs ⟨zC⟩ ⟨[(0, 1), (1, 1), (2, 1), (3, 1), (4, 1), (5, 1)]⟩) #[(2, Value.slice a n c)] = some (.agg ⟨cC (.slice a n c)⟩) := rfl
theorem bN : buildT (Bl.fs ⟨zC⟩ ⟨[(0, 1), (1, 1), (2, 1), (3, 1), (4, 1), (5, 1)]⟩) #[] = some (.agg ⟨zC⟩) := rfl
def elC : El := ⟨40, 6, 72, .agg ⟨zC⟩, ⟨some true, some 6⟩⟩
def elI : El := ⟨3, 1, 8, .int .i64 0, ⟨some false, some 1⟩⟩
theorem l1 (h : Heap) (a : Addr) (n c : Nat) : buildSliceT (some elC) false h 1 #[(0, .agg ⟨cC (.slice (some a) n c)⟩)] = some (.slice (some ⟨h.length, 0, none⟩) 1 1, h ++ [.cells 40 (cC (.slice (some a) n c)) 0]) :=
 (build_lit' (n := 1) (l := [(0, .agg ⟨cC (.slice (some a) n c)⟩)]) rfl rfl (by decide) (by decide) (by decide)).trans rfl
theorem l2 (h : Heap) (a b : Addr) (n c m d : Nat) : buildSliceT (some elC) false h 2 #[(0, .agg ⟨cC (.slice (some a) n c)⟩), (1, .agg ⟨cC (.slice (some b) m d)⟩)] = some (.slice (some ⟨h.length, 0, none⟩) 2 2, h ++ [.cells 40 (cC (.slice (some a) n c) ++ cC (.slice (some b) m d)) 0]) :=
 (build_lit' (n := 2) (l := [(0, .agg ⟨cC (.slice (some a) n c)⟩), (1, .agg ⟨cC (.slice (some b) m d)⟩)]) rfl rfl (by decide) (by decide) (by decide)).trans rfl
theorem l3 (h : Heap) (a b : Addr) (n c m d : Nat) : buildSliceT (some elC) false h 3 #[(0, .agg ⟨cC (.slice (some a) n c)⟩), (1, .agg ⟨cC (.slice (some b) m d)⟩), (2, .agg ⟨zC⟩)] = some (.slice (some ⟨h.length, 0, none⟩) 3 3, h ++ [.cells 40 (cC (.slice (some a) n c) ++ cC (.slice (some b) m d) ++ zC) 0]) :=
 (build_lit' (n := 3) (l := [(0, .agg ⟨cC (.slice (some a) n c)⟩), (1, .agg ⟨cC (.slice (some b) m d)⟩), (2, .agg ⟨zC⟩)]) rfl rfl (by decide) (by decide) (by decide)).trans rfl
theorem l4 (h : Heap) (a b : Addr) (n c m d : Nat) : buildSliceT (some elC) false h 3 #[(0, .agg ⟨cC (.slice (some a) n c)⟩), (1, .agg ⟨zC⟩), (2, .agg ⟨cC (.slice (some b) m d)⟩)] = some (.slice (some ⟨h.length, 0, none⟩) 3 3, h ++ [.cells 40 (cC (.slice (some a) n c) ++ zC ++ cC (.slice (some b) m d)) 0]) :=
 (build_lit' (n := 3) (l := [(0, .agg ⟨cC (.slice (some a) n c)⟩), (1, .agg ⟨zC⟩), (2, .agg ⟨cC (.slice (some b) m d)⟩)]) rfl rfl (by decide) (by decide) (by decide)).trans rfl
theorem i2 (h : Heap) (a b : Int) : buildSliceT (some elI) true h 2 #[(0, .int .i64 a), (1, .int .i64 b)] = some (.slice (some ⟨h.length, 0, some 2⟩) 2 2, h ++ [.cells 3 [.int .i64 a, .int .i64 b] 1]) :=
 (build_lit' (n := 2) (l := [(0, .int .i64 a), (1, .int .i64 b)]) rfl rfl (by decide) (by decide) (by decide)).trans rfl
theorem i3 (h : Heap) (a b c : Int) : buildSliceT (some elI) true h 3 #[(0, .int .i64 a), (1, .int .i64 b), (2, .int .i64 c)] = some (.slice (some ⟨h.length, 0, some 3⟩) 3 3, h ++ [.cells 3 [.int .i64 a, .int .i64 b, .int .i64 c] 1]) :=
 (build_lit' (n := 3) (l := [(0, .int .i64 a), (1, .int .i64 b), (2, .int .i64 c)]) rfl rfl (by decide) (by decide) (by decide)).trans rfl
def clm (l : List Int) (k : Option Bool) : Claim := ⟨0, 0, k, l, 0, ⟨⟨[]⟩⟩, 0⟩
def chain : List Claim := [clm [1] (some false), clm [2] (some false), clm [] none]
def rw1 (n : Nat) (b : Nat) : Value := .slice (some ⟨b, 0, some n⟩) n n
def rI (l : List Int) : AObj := .cells 3 (l.map (.int .i64)) 1
theorem f1 : freezeV E1.P depth 0 [rI [1], rI [2], .cells 40 (cC (rw1 1 0) ++ cC (rw1 1 1) ++ zC) 0] (.slice (some ⟨2, 0, none⟩) 3 3) = some (lst false (chain.map Claim.val), [.dead, .dead, .dead]) :=
 show freezeV E.P depth 0 _ _ = _ by kernel_rfl
def case2 : List Claim := [clm [1] (some false), clm [0] (some false)]
def case3 : List Claim := [clm [0, 1] (some false), clm [] none, clm [0] (some false)]
def case4 : List Claim := [clm [1] (some false)]
theorem f2 : frzAll E1.P 0 [.slice (some ⟨5, 0, none⟩) 2 2] [.dead, .dead, .dead, rI [1], rI [0], .cells 40 (cC (rw1 1 3) ++ cC (rw1 1 4)) 0] = some ([lst false (case2.map Claim.val)], [.dead, .dead, .dead, .dead, .dead, .dead]) :=
 show frzAll E.P 0 _ _ = _ by kernel_rfl
theorem f3 : frzAll E1.P 0 [.slice (some ⟨8, 0, none⟩) 3 3] [.dead, .dead, .dead, .dead, .dead, .dead, rI [0, 1], rI [0], .cells 40 (cC (rw1 2 6) ++ zC ++ cC (rw1 1 7)) 0] = some ([lst false (case3.map Claim.val)], [.dead, .dead, .dead, .dead, .dead, .dead, .dead, .dead, .dead]) :=
 show frzAll E.P 0 _ _ = _ by kernel_rfl
theorem f4 : frzAll E1.P 0 [.slice (some ⟨10, 0, none⟩) 1 1] [.dead, .dead, .dead, .dead, .dead, .dead, .dead, .dead, .dead, rI [1], .cells 40 (cC (rw1 1 9)) 0] = some ([lst false (case4.map Claim.val)], [.dead, .dead, .dead, .dead, .dead, .dead, .dead, .dead, .dead, .dead, .dead]) :=
 show frzAll E.P 0 _ _ = _ by kernel_rfl
theorem okC {l : List Claim} (h : l.all (fun c => decide (c.k = none → c.att = []) && decide (c.att.length ≤ 10)) = true) : CaseOk l := fun c hc => by
 have := List.all_eq_true.1 h c hc
 simp only [Bool.and_eq_true, decide_eq_true_eq] at this
 exact ⟨this.1, by unfold maxLen; omega⟩
theorem ok1 : CaseOk chain := okC (by decide)
theorem ok2 : CaseOk case2 := okC (by decide)
theorem ok3 : CaseOk case3 := okC (by decide)
theorem ok4 : CaseOk case4 := okC (by decide)
theorem gr1 : pureCall E1.P (L E1) 10 [lst false (chain.map Claim.val)] = some (.tuple #[rowT [1, 2, 1], rowT [1, 2, 3], .int .i64 0]) := lift ((grounded_spec false chain ok1 (by decide)).trans (by kernel_rfl))
theorem gr2 : pureCall E1.P (L E1) 10 [lst false (case2.map Claim.val)] = some (.tuple #[rowT [0, 0], rowT [0, 0], .int .i64 0]) := lift ((grounded_spec false case2 ok2 (by decide)).trans (by kernel_rfl))
theorem gr3 : pureCall E1.P (L E1) 10 [lst false (case3.map Claim.val)] = some (.tuple #[rowT [2, 1, 1], rowT [2, 3, 1], .int .i64 0]) := lift ((grounded_spec false case3 ok3 (by decide)).trans (by kernel_rfl))
theorem gr4 : pureCall E1.P (L E1) 10 [lst false (case4.map Claim.val)] = some (.tuple #[.slice none 0 0, .slice none 0 0, .int .i64 1]) := lift ((grounded_spec false case4 ok4 (by decide)).trans (by kernel_rfl))
theorem int_same (l : List Int) (hl : l.length ≤ maxLen) : pureCall E1.P (L E1) 12 [rowT l, lst false (l.map (.int .i64))] = some (.bool true) := lift ((ints_spec (some false) (some false) l l iok_some iok_some hl).trans (by simp))
theorem why1 : pureCall E1.P (L E1) 21 [lst false (chain.map Claim.val), .int .i64 2] = some (lst false ([0, 2].map (.int .i64))) := (why_spec false chain 2 ok1 (by decide)).trans (by kernel_rfl)
theorem chk1 : pureCall E1.P (L E1) 15 [lst false (chain.map Claim.val), rowT [1, 2, 1], rowT [1, 2, 3]] = some (.int .i64 0) := lift ((check_spec false chain (some false) (some false) [1, 2, 1] [1, 2, 3] ok1 (by decide) iok_some iok_some).trans (by kernel_rfl))
theorem chk2 : pureCall E1.P (L E1) 15 [lst false (chain.map Claim.val), rowT [1, 2, 3], rowT [1, 2, 1]] = some (.int .i64 19) := lift ((check_spec false chain (some false) (some false) [1, 2, 3] [1, 2, 1] ok1 (by decide) iok_some iok_some).trans (by kernel_rfl))
theorem df1 : pureCall E1.P (L E1) 17 [lst false (chain.map Claim.val), lst false [.int .i64 0], .int .i64 2] = some (.bool true) := lift ((defends_spec false chain (some false) [0] 2 ok1 (by decide) iok_some (by decide)).trans (by kernel_rfl))
theorem df2 : pureCall E1.P (L E1) 17 [lst false (chain.map Claim.val), .slice none 0 0, .int .i64 2] = some (.bool false) := lift ((defends_spec false chain none [] 2 ok1 (by decide) (fun _ => rfl) (by decide)).trans (by kernel_rfl))
theorem ad1 : pureCall E1.P (L E1) 19 [lst false (chain.map Claim.val), lst false [.int .i64 2, .int .i64 0]] = some (.bool true) := lift ((admissible_spec false chain (some false) [2, 0] ok1 (by decide) iok_some (by decide)).trans (by kernel_rfl))
theorem ad2 : pureCall E1.P (L E1) 19 [lst false (chain.map Claim.val), lst false [.int .i64 2]] = some (.bool false) := lift ((admissible_spec false chain (some false) [2] ok1 (by decide) iok_some (by decide)).trans (by kernel_rfl))
set_option maxRecDepth 100000 in
theorem rgt0 : pureCall E1.P (L E1) 13 [.slice none 0 0] = some (.bool true) := lift (pureCall_le (evF_L 20) (by kernel_rfl))
theorem s3E : szOf E1.P 3 = some 1 := s3
theorem el3 (n : Nat) (c : List Value) : elemsOf E1.P 3 n c = some c := elems_one (P := E.P) a3 s3
set_option maxRecDepth 20000 in
theorem small_spec : pureCall E1.P (L E1) 8 [] = some (.bool true) := by
 rw [pureCall_fn (fn1 F8) rfl]
 have b1 := bC
 have b2 := bN
 have c1 := l1
 have c2 := l2
 have c3 := l3
 have c4 := l4
 have d2 := i2
 have d3 := i3
 simp only [elC, elI, cC, zC, List.cons_append, List.nil_append] at b1 b2 c1 c2 c3 c4 d2 d3
 have g1 := f1
 have g2 := f2
 have g3 := f3
 have g4 := f4
 have e1 := int_same [1, 2, 1] (by decide)
 have e2 := int_same [1, 2, 3] (by decide)
 have e3 := int_same [0, 0] (by decide)
 have e4 := int_same [2, 1, 1] (by decide)
 have e5 := int_same [2, 3, 1] (by decide)
 have e6 := int_same [0, 2] (by decide)
 have y1 := why1
 unfold rowT at e6
 have n10 : E1.mode 10 = 4 := rfl
 have n12 : E1.mode 12 = 0 := rfl
 have n15 : E1.mode 15 = 0 := rfl
 have n17 : E1.mode 17 = 0 := rfl
 have n19 : E1.mode 19 = 0 := rfl
 have n13 : E1.mode 13 = 0 := rfl
 have n21 : E1.mode 21 = 1 := rfl
 have rt : ∀ n l h, reify E1.P (n + 1) h (rowT l) = some (rowT l) := fun _ _ _ => rfl
 simp only [rI, rw1, cC, zC, List.cons_append, List.nil_append, List.map_cons, List.map_nil] at g1 g2 g3 g4 e1 e2 e3 e4 e5 e6 y1
 simp -implicitDefEqProofs [r8, p8, build_one', Value.cells, b1, b2, c1, c2, c3, c4, d2, d3, prep_frz, g1, g2, g3, g4, ret4 n10, frzAll_lst, gr1, gr2, gr3, gr4,
  ret0 n12, ret0 n13, ret0 n15, ret0 n17, ret0 n19, ret1s n21, rt, s3E, el3, e1, e2, e3, e4, e5, e6, y1, chk1, chk2, df1, df2, ad1, ad2, rgt0]
end Go.Proofs.Ytbadgapficfbpaa.Bm
namespace Go.Proofs.Ytbadgapficfbpaa.Bm
open Go Go.RowKit
theorem few_len {n : Nat} {l : List Claim} (h : fewB n l = true) : l.length ≤ n := by
 unfold fewB at h
 simp only [Bool.and_eq_true, decide_eq_true_eq] at h
 exact h.2
end Go.Proofs.Ytbadgapficfbpaa.Bm
namespace Go.Proofs.Ytbadgapficfbpaa.Bm
open Go Go.RowKit
theorem bin_eqlB (p : Bool) : aBin E1.P .eql 4 (.bool p) (.bool p) = some (.bool true) := by
 rw [show E1.P = E.P from rfl, bin_eql_bool (by kernel_rfl)]
 cases p <;> rfl
theorem whyV_il (l : List Int) : whyV l = ilist (if l = [] then none else some false) l := by
 unfold whyV
 split
 ·rename_i h; rw [h]; rfl
 ·rfl
set_option maxRecDepth 20000 in
set_option maxHeartbeats 4000000 in
theorem tells_spec (x : Bool) (l : List Claim) (Lb Rk S : List Int) (c : Int) (hc : CaseOk l) (hl : l.length ≤ maxLen) : ∃ h', L E1 3 [lst x (l.map Claim.val), rowT Lb, rowT Rk, rowT S, .int .i64 c] [] 0 = some (.bool true, h') := by
 have sm := small_spec
 have fw : pureCall E1.P (L E1) 9 [lst x (l.map Claim.val), .int .i64 40] = _ := lift (few_spec x l 40 (by decide) hc)
 have n8 : E1.mode 8 = 0 := rfl
 have n9 : E1.mode 9 = 0 := rfl
 have n10 : E1.mode 10 = 4 := rfl
 have n11 : E1.mode 11 = 1 := rfl
 have n12 : E1.mode 12 = 0 := rfl
 have n13 : E1.mode 13 = 0 := rfl
 have n14 : E1.mode 14 = 0 := rfl
 have n15 : E1.mode 15 = 0 := rfl
 have n16 : E1.mode 16 = 0 := rfl
 have n17 : E1.mode 17 = 0 := rfl
 have n18 : E1.mode 18 = 0 := rfl
 have n19 : E1.mode 19 = 0 := rfl
 have n20 : E1.mode 20 = 0 := rfl
 have n21 : E1.mode 21 = 1 := rfl
 have n22 : E1.mode 22 = 1 := rfl
 have rt : ∀ l h, reify E1.P 8 h (rowT l) = some (rowT l) := fun _ _ => rfl
 have rV : ∀ h, reify E1.P 8 h (lst x (l.map Claim.val)) = some (lst x (l.map Claim.val)) := fun _ => rfl
 have ri : ∀ k l h, reify E1.P 8 h (ilist k l) = some (ilist k l) := fun k l h => il_reify
 have sV : settled depth (lst x (l.map Claim.val)) = true := rfl
 have sI : ∀ z, settled depth (.int .i64 z) = true := fun _ => rfl
 have lT : ∀ l h, lenT .sl h (rowT l) = some (.int .i64 (l.length : Int)) := fun l h => by unfold rowT; simp
 rw [L_fn (fn1 F3) rfl]
 by_cases hq : fewB 40 l = true ∧ Lb.length ≤ 60 ∧ Rk.length ≤ 60 ∧ S.length ≤ 60
 case neg =>
  generalize lst x (l.map Claim.val) = VC at *
  refine ⟨[], ?_⟩
  cases hf : fewB 40 l
  ·rw [hf] at fw
   simp -implicitDefEqProofs [r3, p3, ret0 n8, sm, ret0 n9, rV, fw]
  ·rw [hf] at fw
   by_cases q1 : Lb.length ≤ 60
   ·have q1' : ¬ (60 : Int) < Lb.length := by omega
    by_cases q2 : Rk.length ≤ 60
    ·have q2' : ¬ (60 : Int) < Rk.length := by omega
     have q3' : (60 : Int) < S.length := by
      have : ¬ S.length ≤ 60 := fun q3 => hq ⟨hf, q1, q2, q3⟩
      omega
     simp -implicitDefEqProofs [r3, p3, ret0 n8, sm, ret0 n9, rV, fw, lT, q1', q2', q3']
    ·have q2' : (60 : Int) < Rk.length := by omega
     simp -implicitDefEqProofs [r3, p3, ret0 n8, sm, ret0 n9, rV, fw, lT, q1', q2']
   ·have q1' : (60 : Int) < Lb.length := by omega
    simp -implicitDefEqProofs [r3, p3, ret0 n8, sm, ret0 n9, rV, fw, lT, q1']
 obtain ⟨hf, q1, q2, q3⟩ := hq
 rw [hf] at fw
 have hn := few_len hf
 have q1' : ¬ (60 : Int) < Lb.length := by omega
 have q2' : ¬ (60 : Int) < Rk.length := by omega
 have q3' : ¬ (60 : Int) < S.length := by omega
 have rs := lift (right_spec x l hc hl)
 have rsR := lift (rightR_spec x l hc hl)
 have gs := lift (grounded_spec x l hc hl)
 have ck : ∀ k A, IOk k A → pureCall E1.P (L E1) 15 [lst x (l.map Claim.val), ilist k A, rowT Rk] = some (.int .i64 (checkF (atts l) A Rk)) := fun k A hk => lift (check_spec x l k (some false) A Rk hc hl hk iok_some)
 have ckR : ∀ k A, IOk k A → pureCall E1.P (L E1) 16 [lst x (l.map Claim.val), ilist k A, rowT Rk] = some (.int .i64 (checkF (atts l) A Rk)) := fun k A hk => lift (checkR_spec x l k (some false) A Rk hc hl hk iok_some)
 have df : pureCall E1.P (L E1) 17 [lst x (l.map Claim.val), rowT S, .int .i64 c] = _ := lift (defends_spec x l (some false) S c hc hl iok_some (by omega))
 have dfR : pureCall E1.P (L E1) 18 [lst x (l.map Claim.val), rowT S, .int .i64 c] = _ := lift (defendsR_spec x l (some false) S c hc hl iok_some (by omega))
 have ad : pureCall E1.P (L E1) 19 [lst x (l.map Claim.val), rowT S] = _ := lift (admissible_spec x l (some false) S hc hl iok_some (by omega))
 have adR : pureCall E1.P (L E1) 20 [lst x (l.map Claim.val), rowT S] = _ := lift (admissibleR_spec x l (some false) S hc hl iok_some (by omega))
 have wy := why_spec x l c hc hl
 obtain ⟨kw, hkw, wyR⟩ := whyR_spec x l c hc hl
 have wyR := lift wyR
 rw [whyV_il] at wy
 have hkw2 : IOk (if whyF (atts l) c = [] then none else some false) (whyF (atts l) c) := fun h => by
  by_cases e : whyF (atts l) c = []
  ·exact e
  ·rw [if_neg e] at h; cases h
 have ci : ∀ k1 k2 A, IOk k1 A → IOk k2 A → A.length ≤ maxLen → pureCall E1.P (L E1) 12 [ilist k1 A, ilist k2 A] = some (.bool true) := fun k1 k2 A h1 h2 hA => by
  have := lift (ints_spec k1 k2 A A h1 h2 hA)
  rw [decide_eq_true rfl] at this
  exact this
 have hwl : (whyF (atts l) c).length ≤ maxLen := by
  by_cases hy : rightB (atts l) = true ∧ dom (atts l).length c ∧ getI (groundF (atts l)).1 c ≠ 0
  ·rw [whyF_go hy.1 hy.2.1 hy.2.2, (sortI_perm _).length_eq]
   have hi := whyS_inv hy.1 hy.2.1 hy.2.2
   have := nodup_dom_len hi.1 fun z hz => (hi.2 z hz).1
   rw [atts_len] at this
   omega
  ·rw [whyF_no hy]; exact Nat.zero_le _
 have ciw := ci _ kw _ hkw2 hkw hwl
 have ck1 := ck (some false) Lb iok_some
 have ckR1 := ckR (some false) Lb iok_some
 have e1 : ilist (some false) Lb = rowT Lb := rfl
 rw [e1] at ck1 ckR1
 cases hr : rightB (atts l)
 ·have gsR := lift (groundedR_no x l hc hl hr)
  rw [hr] at rs rsR gs
  rw [if_neg (by decide)] at gs
  have ci0 := ci none none [] (fun _ => rfl) (fun _ => rfl) (Nat.zero_le _)
  have ck2 := ck none [] (fun _ => rfl)
  have ckR2 := ckR none [] (fun _ => rfl)
  have e0 : ilist none [] = .slice none 0 0 := rfl
  rw [e0] at ci0 ck2 ckR2
  refine ⟨[], ?_⟩
  have ri1 := ri (if whyF (atts l) c = [] then none else some false) (whyF (atts l) c)
  have ri2 := ri kw (whyF (atts l) c)
  have rn : ∀ h, reify E1.P 8 h (.slice none 0 0) = some (.slice none 0 0) := fun _ => rfl
  generalize checkF (atts l) Lb Rk = z1 at *
  generalize checkF (atts l) [] Rk = z2 at *
  generalize ilist (if whyF (atts l) c = [] then none else some false) (whyF (atts l) c) = V1 at *
  generalize ilist kw (whyF (atts l) c) = V2 at *
  have b1 := bin_eqlB (defB (atts l) S c)
  have b2 := bin_eqlB (admB (atts l) S)
  generalize defB (atts l) S c = t1 at *
  generalize admB (atts l) S = t2 at *
  have b0 := bin_eqlB false
  have fz : ∀ lo h, frzAll E1.P lo [lst x (l.map Claim.val)] h = some ([lst x (l.map Claim.val)], h) := fun lo h => frzAll_lst
  generalize lst x (l.map Claim.val) = VC at *
  have rA := rt Lb
  have rB := rt Rk
  have rS := rt S
  have lA := lT Lb
  have lB := lT Rk
  have lS := lT S
  generalize rowT Lb = VA at *
  generalize rowT Rk = VB at *
  generalize rowT S = VS at *
  simp -implicitDefEqProofs [r3, p3, ret0 n8, sm, ret0 n9, rV, fw, lA, lB, lS, q1', q2', q3', ret4 n10, fz, gs, ret1 n11, sV, sI, gsR, ret0 n12, rn, ci0, ret0 n13, rs, ret0 n14, rsR, b0, ret0 n15, rA, rB, ck1, ret0 n16, ckR1, ck2, ckR2, ret0 n17, rS, df, ret0 n18, dfR, b1, ret0 n19, ad, ret0 n20, adR, b2, ret1 n21, wy, ret1 n22, wyR, ri1, ri2, ciw]
 ·obtain ⟨kg, gsR⟩ := groundedR_spec x l hc hl hr
  have gsR := lift gsR
  rw [hr] at rs rsR gs
  rw [if_pos rfl] at gs
  have hgl := ground_len (A := atts l)
  rw [atts_len] at hgl
  have ci1 := ci (some false) (some kg) (groundF (atts l)).1 iok_some iok_some (by unfold maxLen; omega)
  have ci2 := ci (some false) (some false) (groundF (atts l)).2 iok_some iok_some (by unfold maxLen; omega)
  have ck2 := ck (some kg) (groundF (atts l)).1 iok_some
  have ckR2 := ckR (some kg) (groundF (atts l)).1 iok_some
  have e3 : ilist (some false) (groundF (atts l)).1 = rowT (groundF (atts l)).1 := rfl
  have e4 : ilist (some false) (groundF (atts l)).2 = rowT (groundF (atts l)).2 := rfl
  rw [e3] at ci1
  rw [e4] at ci2
  have rg := ri (some kg) (groundF (atts l)).1
  have rg1 := rt (groundF (atts l)).1
  have rg2 := rt (groundF (atts l)).2
  refine ⟨[], ?_⟩
  have ri1 := ri (if whyF (atts l) c = [] then none else some false) (whyF (atts l) c)
  have ri2 := ri kw (whyF (atts l) c)
  generalize checkF (atts l) Lb Rk = z1 at *
  generalize checkF (atts l) (groundF (atts l)).1 Rk = z2 at *
  generalize ilist (if whyF (atts l) c = [] then none else some false) (whyF (atts l) c) = V1 at *
  generalize ilist kw (whyF (atts l) c) = V2 at *
  generalize ilist (some kg) (groundF (atts l)).1 = V3 at *
  generalize rowT (groundF (atts l)).1 = V4 at *
  generalize rowT (groundF (atts l)).2 = V5 at *
  have b1 := bin_eqlB (defB (atts l) S c)
  have b2 := bin_eqlB (admB (atts l) S)
  generalize defB (atts l) S c = t1 at *
  generalize admB (atts l) S = t2 at *
  have b0 := bin_eqlB true
  have fz : ∀ lo h, frzAll E1.P lo [lst x (l.map Claim.val)] h = some ([lst x (l.map Claim.val)], h) := fun lo h => frzAll_lst
  generalize lst x (l.map Claim.val) = VC at *
  have rA := rt Lb
  have rB := rt Rk
  have rS := rt S
  have lA := lT Lb
  have lB := lT Rk
  have lS := lT S
  generalize rowT Lb = VA at *
  generalize rowT Rk = VB at *
  generalize rowT S = VS at *
  simp -implicitDefEqProofs [r3, p3, ret0 n8, sm, ret0 n9, rV, fw, lA, lB, lS, q1', q2', q3', ret4 n10, fz, gs, ret1 n11, sV, sI, gsR, ret0 n12, rg, rg1, rg2, ci1, ci2, ret0 n13, rs, ret0 n14, rsR, b0, ret0 n15, rA, rB, ck1, ret0 n16, ckR1, ck2, ckR2, ret0 n17, rS, df, ret0 n18, dfR, b1, ret0 n19, ad, ret0 n20, adR, b2, ret1 n21, wy, ret1 n22, wyR, ri1, ri2, ciw]
end Go.Proofs.Ytbadgapficfbpaa.Bm
