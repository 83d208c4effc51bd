/-
 The reference of regions: areas, bounds, combinations, moved regions. Conditions: lists that are not too long.
-/
import Derived.Test.YtibmcdmlpobanaaGreatQT26
import Derived.Test.YtibmcdmlpobanaaGreatQT17
import Derived.Test.YtibmcdmlpobanaaGreatQT25
import Derived.Test.YtibmcdmlpobanaaGreatQT24
namespace Go.Proofs.YtibmcdmlpobanaaGreat.Bm
open Go Go.RowKit
open Rg (Rect Slab touchB absorb partsF partsL ofL outT runsF stripsL)
def partR : Rec (List Rect) where
 enc l := [lst false (rectR.vals l)]
 m := 0
 len _ := rfl
 set _ := rfl
 bel _ _ := rfl
def partV (l : List (List Rect)) : List Value := l.map fun m => lst false (rectR.vals m)
theorem parts_flat : ∀ l : List (List Rect), partR.flat l = partV l
 | [] => rfl
 | m :: l => by
  show lst false (rectR.vals m) :: partR.flat l = _
  rw [parts_flat l]; rfl
theorem sR4 : szOf E.P 30 = some 4 := by kernel_rfl
theorem aR4 : aggT E.P 30 = some true := by kernel_rfl
theorem sRs : szOf E.P 22 = some 1 := by kernel_rfl
theorem aRs : aggT E.P 22 = some false := by kernel_rfl
theorem part_reifyR {h : Heap} {b : Nat} {l : List (List Rect)} (hob : h[b]? = some (partR.row 22 l)) : reifyR E.P h (partR.sl b l) = some (lst false (partV l)) := by
 have hs : (partV l).all (settled 8) = true := by unfold partV; simp [List.all_eq_true]
 have e0 : partR.sl b l = .slice (some ⟨b, 0, some l.length⟩) l.length l.length := by unfold Rec.sl; simp [partR]
 show reify E.P 8 h (partR.sl b l) = _
 rw [e0, reify_slice]
 by_cases h0 : l.length = 0
 ·have : l = [] := List.eq_nil_of_length_eq_zero h0
  subst this; rfl
 ·rw [if_neg h0, hob]
  unfold Rec.row
  rw [parts_flat]
  have hl : (partV l).length = l.length := List.length_map _
  show reifyS E.P 7 h (some (.cells 22 (partV l) 1)) _ _ = _
  rw [reifyS_cells, sRs, Option.bind_some, if_pos ⟨by simp [stampOk, hl], Nat.one_pos, by simp [hl]⟩]
  have e : ((partV l).drop 0).take (l.length * 1) = partV l := by rw [List.drop_zero, Nat.mul_one, List.take_of_length_le (by omega)]
  rw [e, reifyC_set hs, Option.bind_some, ← hl, elems_one aRs sRs]; rfl
theorem app_part {h : Heap} {b lo : Nat} {c : List (List Rect)} (m : List Rect) (hob : h[b]? = some (partR.row 22 c)) (hlo : lo ≤ b) (hc : c.length ≤ 1000000) :
  appendT (some ⟨22, 1, 24, .slice none 0 0, ⟨some false, some 1⟩⟩) h lo false (partR.sl b c) (lst true [lst false (rectR.vals m)]) = some (partR.sl b (c ++ [m]), h.set b (partR.row 22 (c ++ [m]))) :=
 Rec.app (R := partR) (m := [m]) rfl hob (cells_lst (by rfl)) hlo (by show (c.length + 1) * 24 ≤ 2 ^ 47; omega)
theorem eq_nil : ∀ (x : Bool) (v : Value) (l : List Value), aBin E.P .eql 22 (lst x (v :: l)) (.slice none 0 0) = some (.bool false)
 | true, v, l => by kernel_rfl
 | false, v, l => by kernel_rfl
theorem app_copy {h : Heap} {lo : Nat} (x : Bool) {a : List Rect} (h0 : a ≠ []) (hl : a.length ≤ 1000000) :
  appendT (some ⟨30, 4, 32, .agg ⟨[.int .i64 0, .int .i64 0, .int .i64 0, .int .i64 0]⟩, ⟨some true, some 4⟩⟩) h lo false (lst true []) (lst x (rectR.vals a)) = some (rectR.sl h.length a, h ++ [rectR.row 30 a]) := by
 have hn : a.length ≠ 0 := fun e => h0 (List.eq_nil_of_length_eq_zero e)
 have hc : sliceCells h 4 (lst x (rectR.vals a)) = some (rectR.flat a, a.length) := Rec.cells_tree (R := rectR) rfl a
 unfold appendT
 simp only [Option.bind_some, hc]
 show (if a.length = 0 then _ else _) = _
 rw [if_neg hn, if_pos ⟨rfl, rfl, by show (0 + a.length) * 32 ≤ 2 ^ 47; omega⟩]
 have hf := Rec.flat_len (R := rectR) (l := a)
 have hm : rectR.m + 1 = 4 := rfl
 unfold Rec.sl Rec.row
 rw [hm] at *
 simp [hf]
 rfl
theorem clone_row (x : Bool) (a : List Rect) (h : Heap) (lo : Nat) (h0 : a ≠ []) (hl : a.length ≤ 1000000) : retCall E (L E) lo false 36 [rectR.o (some x) a] h = some (rectR.sl h.length a, h ++ [rectR.row 30 a]) := by
 have key : L E 36 [rectR.o (some x) a] h lo = some (rectR.sl h.length a, h ++ [rectR.row 30 a]) := by
  have e1 : aBin E.P .eql 22 (lst x (rectR.vals a)) (.slice none 0 0) = some (.bool false) := by
   cases a with
   | nil => exact absurd rfl h0
   | cons r l => exact eq_nil x _ _
  have e2 := fun h => app_copy (h := h) (lo := lo) x h0 hl
  have e3 : ∀ h, buildSliceT (some ⟨30, 4, 32, .agg ⟨[.int .i64 0, .int .i64 0, .int .i64 0, .int .i64 0]⟩, ⟨some true, some 4⟩⟩) false h 0 #[] = some (lst true [], h) := fun h => rfl
  have ho : E.orc 36 = some (cloG E0 36) := rfl
  have hR : rfnOf E0 36 = some r36 := by kernel_rfl
  have he : emptyT [lst x (rectR.vals a)] = false := by
   cases a with
   | nil => exact absurd rfl h0
   | cons r l => cases x <;> rfl
  have e1 : aBin E0.P .eql 22 (lst x (rectR.vals a)) (.slice none 0 0) = some (.bool false) := e1
  show L E _ [lst x (rectR.vals a)] h lo = _
  rw [L_orc ho, cloG_some he, evF_one hR rfl]
  generalize lst x (rectR.vals a) = V at *
  simp -implicitDefEqProofs [r36, p36, padS, e1, e2, e3, -append_lst]
 rw [ret3 m36]
 show ((L E 36 [rectR.o (some x) a] h lo).map _) = _
 rw [key]
 show some (_, trim _ _ _) = _
 rw [trim_no]
 have hn : ¬ (h.length < h.length) := Nat.lt_irrefl _
 exact decide_eq_false hn
theorem trim_no2 {n : Nat} {vs : List Value} {h : Heap} (h2 : vs.all (below 8 n) = false) : trim n vs h = h := by
 unfold trim depth
 split
 ·rfl
 ·rw [h2]; rfl
theorem trim_two {n : Nat} {vs : List Value} {h : Heap} {A B : AObj} (ha : h[0]? = some A) (hb : h[1]? = some B) (hbel : ∀ m, h.length ≤ m → h.all (belowO m) = true) (hv : ∀ m, m ≤ 1 → vs.all (below 8 m) = false) :
  (trim n vs h)[0]? = some A ∧ (trim n vs h)[1]? = some B ∧ ∀ m, (trim n vs h).length ≤ m → (trim n vs h).all (belowO m) = true := by
 by_cases hn : n ≤ 1
 ·rw [trim_no2 (hv n hn)]; exact ⟨ha, hb, hbel⟩
 ·unfold trim
  split
  ·exact ⟨ha, hb, hbel⟩
  split
  ·rename_i hl hc
   rw [Bool.and_eq_true] at hc
   refine ⟨by rw [List.getElem?_take_of_lt (by omega)]; exact ha, by rw [List.getElem?_take_of_lt (by omega)]; exact hb, fun m hm => List.all_eq_true.2 fun o ho => belO_mono (by rw [List.length_take] at hm; omega) (List.all_eq_true.1 hc.2 o ho)⟩
  ·exact ⟨ha, hb, hbel⟩
theorem St.next {bo : Nat} {O : AObj} {h : Heap} {bl bc bi i : Nat} {C part : List Rect} (hS : St bo O h bl bc bi C part i) : St bo O (h ++ [cellV 3 (.int .i64 ((i + 1 : Nat) : Int))]) bl bc h.length C part (i + 1) := by
 obtain ⟨h1, h2, ⟨pv, h3, h4⟩, ⟨n1, n2, n3⟩, hb, o1, o2, o3, o4⟩ := hS
 have q1 := lt_of_get h1
 have q3 := lt_of_get h3
 have q4 := lt_of_get o1
 refine ⟨get_app h1, end0, ⟨pv, get_app h3, ?_⟩, ⟨n1, by omega, by omega⟩, fun n hn => ?_, get_app o1, o2, o3, by omega⟩
 ·rcases h4 with rfl | ⟨bp, rfl, hbp, q, q', _, q''⟩
  ·exact .inl rfl
  ·have := lt_of_get hbp
   exact .inr ⟨bp, rfl, get_app hbp, q, q', by omega, q''⟩
 ·rw [List.length_append, List.length_singleton] at hn
  rw [List.all_append, hb n (by omega)]; rfl
theorem freeze_cell {h : Heap} {bc : Nat} {pv : Value} (h3 : h[bc]? = some (cellV 22 pv)) :
  (settled 8 pv = true → freezeV E.P depth 0 h (ptr bc) = some (cptr pv, h.set bc .dead)) ∧
  ∀ u g, freezeV E.P 7 0 (h.set bc .dead) pv = some (u, g) → settled 8 pv = false → freezeV E.P depth 0 h (ptr bc) = some (cptr u, g) := by
 constructor
 ·intro hs
  show (match h[bc]? with
   | some (.cells t c 0) => _
   | _ => none) = _
  rw [h3]
  show (if _ then _ else _) = _
  rw [if_pos ⟨Nat.zero_le _, rfl, rfl, sRs⟩]
  show Option.bind (if [pv].all (settled 8) = true then _ else _) _ = _
  have e : [pv].all (settled 8) = true := by rw [List.all_cons, hs]; rfl
  rw [e, aRs, if_pos rfl]; rfl
 ·intro u g hf hs
  show (match h[bc]? with
   | some (.cells t c 0) => _
   | _ => none) = _
  rw [h3]
  show (if _ then _ else _) = _
  rw [if_pos ⟨Nat.zero_le _, rfl, rfl, sRs⟩]
  show Option.bind (if [pv].all (settled 8) = true then _ else _) _ = _
  have e : [pv].all (settled 8) = false := by rw [List.all_cons, hs]; rfl
  rw [e, aRs, if_neg Bool.false_ne_true]
  show Option.bind (Option.bind (Option.map _ (freezeV E.P 7 0 (h.set bc .dead) pv)) _) _ = _
  rw [hf]; rfl
theorem part_freeze {bo : Nat} {O : AObj} {h : Heap} {bl bc bi i : Nat} {C part : List Rect} (hS : St bo O h bl bc bi C part i) (hbo : bo = 1) (hbl : bl = 0) : ∃ y g, freezeV E.P depth 0 h (ptr bc) = some (cptr (lst y (rectR.vals part)), g) ∧ g[0]? = h[0]? ∧ g[1]? = h[1]? ∧ (∀ n, g.length ≤ n → g.all (belowO n) = true) := by
 obtain ⟨h1, h2, ⟨pv, h3, h4⟩, ⟨n1, n2, n3⟩, hb, o1, o2, o3, o4⟩ := hS
 subst hbo; subst hbl
 obtain ⟨key1, key2⟩ := freeze_cell h3
 have hd : ∀ n, (h.set bc .dead).length ≤ n → (h.set bc .dead).all (belowO n) = true := fun n hn => all_set (hb n (by rw [List.length_set] at hn; exact hn)) rfl
 rcases h4 with rfl | ⟨bp, rfl, hbp, q1, q2, q3, q4⟩
 ·exact ⟨true, _, key1 rfl, List.getElem?_set_ne (Ne.symm n1), List.getElem?_set_ne (Ne.symm o3), hd⟩
 ·have hf : freezeV E.P 7 0 (h.set bc .dead) (rectR.sl bp part) = some (lst false (rectR.vals part), if part.length = 0 then h.set bc .dead else (h.set bc .dead).set bp .dead) :=
   frz_agg1 (n := 6) (l := rectR.vals part) (s := rectR.m + 1) (get_set hbp q2) sR4 aR4 (Nat.zero_le _) (Rec.vals_flat part).symm Rec.flat_len.symm Rec.vals_len.symm (Nat.succ_pos _) (Rec.vals_agg part) (Rec.flat_set part)
  refine ⟨false, _, key2 _ _ hf rfl, ?_⟩
  by_cases h0 : part.length = 0
  ·rw [if_pos h0]
   exact ⟨List.getElem?_set_ne (Ne.symm n1), List.getElem?_set_ne (Ne.symm o3), hd⟩
  ·rw [if_neg h0]
   exact ⟨(List.getElem?_set_ne q1).trans (List.getElem?_set_ne (Ne.symm n1)), (List.getElem?_set_ne q4).trans (List.getElem?_set_ne (Ne.symm o3)), fun n hn => all_set (hd n (by rw [List.length_set] at hn; exact hn)) rfl⟩
theorem write_row2 {h : Heap} {b lo : Nat} (T : List Slab) (hob : h[b]? = some (slabR.row 56 T)) (hlo : lo ≤ b) (hT : T.length ≤ 10000) (hc : ∀ s ∈ T, s.col.length ≤ 10000) :
  ∃ h', retCall E (L E) lo false 15 [slabR.sl b T] h = some (lst false (rectR.vals (outT (runsF T))), h') ∧ (∀ j, j ≠ b → h'[j]? = h[j]?) ∧ h'.length = h.length ∧ (∀ n, h.all (belowO n) = true → h'.all (belowO n) = true) := by
 obtain ⟨g, f1, l1, n1, u1⟩ := freeze_slab (b := b) (lo := lo) T hob hlo
 refine ⟨g, ?_, n1, l1, u1⟩
 rw [ret4 m15, frzAll_row f1]
 show ((pureCall E.P (L E) 15 [lst false (slabR.vals T)]).map _) = _
 rw [write_spec T hT hc]
 rfl
structure IS where
 off : Nat
 len : Nat
 cap : Nat
 part : List Rect
 i : Nat
 bi : Nat
 h : Heap
structure II (a : List Rect) (O : AObj) (b5 : Nat) (T : List Rect × List Rect) (s : IS) (D : List Rect) : Prop where
 n : D.length = a.length
 oc : s.off + s.cap ≤ a.length
 lc : s.len ≤ s.cap
 st : St 1 O s.h 0 b5 s.bi D s.part s.i
 ip : s.i ≤ s.part.length
 pl : s.part.length + s.len ≤ a.length
 okp : ∀ r ∈ s.part, okR r = true
 okw : ∀ r ∈ winL D s.off s.len, okR r = true
 eq : absorb (a.length + 1) s.i s.part (winL D s.off s.len) = T
theorem win_mem {C : List Rect} {off m k : Nat} (hk : k < m) (h : off + k < C.length) : C[off + k] ∈ winL C off m := by
 unfold winL
 have hl : k < ((C.drop off).take m).length := by rw [List.length_take, List.length_drop]; omega
 have e : ((C.drop off).take m)[k] = C[off + k] := by rw [List.getElem_take, List.getElem_drop]
 rw [← e]
 exact List.getElem_mem hl
theorem absorb_at {n i : Nat} {part left : List Rect} (h : i < part.length) (hp : part.length + left.length ≤ n) : absorb (n + 1) i part left = absorb (n + 1) (i + 1) (part ++ left.filter (touchB part[i])) (left.filter fun s => !touchB part[i] s) := by
 have e : absorb (n + 1) i part left = absorb n (i + 1) (part ++ left.filter (touchB part[i])) (left.filter fun s => !touchB part[i] s) := by
  unfold absorb
  rw [List.getElem?_eq_getElem h]
  cases n <;> rfl
 rw [e]
 have := Rg.filter_both (touchB part[i]) left
 exact (Rg.absorb_more n (n + 1) (i + 1) _ _ (by rw [List.length_append]; omega) (by omega)).symm
theorem absorb_stop {n i : Nat} {part left : List Rect} (h : part.length ≤ i) : absorb (n + 1) i part left = (part, left) := by
 unfold absorb
 rw [List.getElem?_eq_none h]
theorem eq_loop {β : Type} {g : CRes → β} {x : CRes} {w : β} (h : ∃ r, x = some r ∧ g (some r) = w) : g x = w := by
 obtain ⟨r, rfl, h⟩ := h
 exact h
theorem ex_go {g : CRes → CRes} {x : CRes} {P : Exit × Slots × Heap → Prop} (h : ∃ r, x = some r ∧ ∃ v, g (some r) = some v ∧ P v) : ∃ v, g x = some v ∧ P v := by
 obtain ⟨r, rfl, hq⟩ := h
 exact hq
structure OS where
 off : Nat
 len : Nat
 cap : Nat
 done : List (List Rect)
 first : Bool
 h : Heap
structure OI (a : List Rect) (s : OS) (D : List Rect) : Prop where
 n : D.length = a.length
 oc : s.off + s.cap ≤ a.length
 lc : s.len ≤ s.cap
 row : s.h[0]? = some (rectR.row 30 D)
 fst : s.first = true → s.h.length = 1 ∧ s.done = []
 out : s.first = false → s.h[1]? = some (partR.row 22 (s.done.map ofL))
 bel : ∀ n, s.h.length ≤ n → s.h.all (belowO n) = true
 ok : ∀ r ∈ winL D s.off s.len, okR r = true
 eq : partsL a = s.done ++ partsF s.len (winL D s.off s.len)
 dl : s.done.length + s.len ≤ a.length
def outS (first : Bool) (done : List (List Rect)) : Value := if first then .slice none 0 0 else partR.sl 1 (done.map ofL)
theorem newK_out {P : Program} {h : Heap} {σ : Slots} {s b : Nat} {t : TypeId} {l : List (List Rect)} : newK P h σ s t (partR.sl b l) = some (σ, h) := rfl
set_option maxHeartbeats 4000000 in
theorem parts_spec (k : Option Bool) (a : List Rect) (hk : Rec.Ok k a) (h0 : a ≠ []) (ha : a.length ≤ 1000000) : pureCall E.P (L E) 10 [rectR.o k a] = some (if regB a then lst false (partV ((partsL a).map ofL)) else .slice none 0 0) := by
 have hR := right2_spec k a hk ha
 have rf : ∀ h, reify E.P 8 h (rectR.o k a) = some (rectR.o k a) := fun h => Rec.o_reify
 rw [pureCall_fn F10 rfl]
 cases hr : regB a
 ·rw [hr] at hR
  simp -implicitDefEqProofs [r10, p10, ret0 m12, rf, hR]
 rw [hr] at hR
 have hcl := fun x => clone_row x a [] 0 h0 ha
 cases k with
 | none => exact absurd (hk rfl) h0
 | some x =>
  have hcl := hcl x
  have e1 : rectR.sl 0 a = lsl 0 0 a.length a.length a.length := by unfold Rec.sl lsl; rfl
  obtain ⟨hall, hlen, _⟩ := regB_iff.1 hr
  have hw0 : winL a 0 a.length = a := by unfold winL; rw [List.drop_zero, List.take_length]
  simp -implicitDefEqProofs [r10, p10, ret0 m12, rf, hR, hcl, e1]
  refine eq_loop (g := fun x => Option.bind (retK [.tmp 2] (seqC _ _ _ _ (blkK _ x) _)) _) (LL_ex (α := OS) ⟨0, a.length, a.length, [], true, [rectR.row 30 a]⟩ (fun s => [(3, lsl 0 s.off s.len s.cap a.length), (4, outS s.first s.done)]) (fun s => s.h) _ (fun s => ∃ D, OI a s D) (fun s => s.len)
   ⟨a, rfl, by simp, Nat.le_refl _, rfl, fun _ => ⟨rfl, rfl⟩, fun h => absurd h (by show ¬ true = false; decide), fun n _ => by show (belowO n _ && true) = true; rw [Rec.row_bel]; rfl, by rw [hw0]; exact List.all_eq_true.1 hall, by rw [hw0]; rfl, by simp⟩ ?_ rfl ?_)
  ·simp -implicitDefEqProofs [k10_5, outS]
  ·intro nx s hs ih
   obtain ⟨D, hI⟩ := hs
   obtain ⟨off, len, cap, done, first, h⟩ := s
   obtain ⟨i1, i2, i3, i4, i5, i6, i7, i8, i9, i10⟩ := hI
   simp only at i1 i2 i3 i4 i5 i6 i7 i8 i9 i10 ih ⊢
   by_cases hl : 0 < len
   ·have hlen' : (0 : Int) < (len : Int) := by omega
    have hoff : off < D.length := by omega
    have xl : indexAddrT (.sl 30 ⟨some true, some 4⟩) (lsl 0 off len cap a.length) (.int .i64 0) = some (rectR.at_ 0 D off 0) := by
     have := lsl_index (bl := 0) (off := off) (len := len) (cap := cap) (j := 0) (C := D) hl
     rw [i1] at this
     exact this
    obtain ⟨h2, hh2, hl2, hr2, ho2, hb2, hs2⟩ : ∃ h2 : Heap, (if first then h ++ [.cells 22 [] 1] else h) = h2 ∧ 2 ≤ h2.length ∧ h2[0]? = some (rectR.row 30 D) ∧ h2[1]? = some (partR.row 22 (done.map ofL)) ∧ (∀ n, h2.length ≤ n → h2.all (belowO n) = true) ∧ h.length ≤ h2.length := by
     refine ⟨_, rfl, ?_⟩
     cases first
     ·have o1 := i6 rfl
      have := lt_of_get o1
      rw [if_neg Bool.false_ne_true]
      exact ⟨by omega, i4, o1, i7, Nat.le_refl _⟩
     ·obtain ⟨i5a, i5b⟩ := i5 rfl
      subst i5b
      rw [if_pos rfl]
      refine ⟨by rw [List.length_append, i5a]; exact Nat.le_refl _, get_app i4, ?_, fun n hn => ?_, by rw [List.length_append]; omega⟩
      ·rw [List.getElem?_append_right (by omega), i5a]; rfl
      ·rw [List.length_append, List.length_singleton] at hn
       rw [List.all_append, i7 n (by omega)]; rfl
    have ld := Rec.load_row (R := rectR) (n := 4) (b := 0) (l := D) (i := off) rfl hr2 hoff
    rw [rect_val] at ld
    have lf : ∀ h : Heap, h[0]? = some (rectR.row 30 D) → sliceT (.sl 30 ⟨some true, some 4⟩) h (lsl 0 off len cap a.length) (some (.int .i64 1)) none none = some (lsl 0 (off + 1) (len - 1) (cap - 1) a.length) := fun h hh => lsl_from (g := some true) (bl := 0) (off := off) (len := len) (cap := cap) (q := 1) hh i1 (by omega)
    have st5 : ∀ v, cellsOf v = some [v] → storeT (some 1) (h2 ++ [.cells 22 [.slice none 0 0] 0]) 0 v (.pointer (some ⟨h2.length, 0, none⟩)) = some (h2 ++ [cellV 22 v]) := fun v hv => by
     have := cell_store (h := h2 ++ [cellV 22 (.slice none 0 0)]) (b := h2.length) (lo := 0) (t := 22) (u := .slice none 0 0) (v := v) end0 (Nat.zero_le _) hv
     rw [set0] at this
     exact this
    have st6 : ∀ p : AObj, storeT (some 1) (h2 ++ [p, .cells 3 [.int .i64 0] 0]) 0 (.int .i64 0) (.pointer (some ⟨h2.length + 1, 0, none⟩)) = some (h2 ++ [p, cellV 3 (.int .i64 0)]) := fun p => by
     have := cell_store (h := h2 ++ [p, cellV 3 (.int .i64 0)]) (b := h2.length + 1) (lo := 0) (t := 3) (u := .int .i64 0) (v := .int .i64 0) end2 (Nat.zero_le _) rfl
     rw [set2] at this
     exact this
    have lfs := fun q => lf (h2 ++ [q]) (get_app hr2)
    obtain ⟨nh, hnh⟩ : ∃ nh, nh = h.length := ⟨_, rfl⟩
    cases hf : first
    case' false =>
     rw [hf, if_neg Bool.false_ne_true] at hh2
     obtain rfl : h2 = h := hh2.symm
     simp -implicitDefEqProofs [r10_5, k10_5, outS, lsl_len, prep_new, newK_out, hl, hlen', xl, ld, rect_val, lit_rect, lfs, st5, st6, -Prod.exists]
    case' true =>
     rw [hf, if_pos rfl] at hh2
     have e3 : Value.slice (some ⟨h.length, 0, some 0⟩) 0 0 = partR.sl 1 (List.map ofL done) := by
      rw [(i5 hf).1, (i5 hf).2]; rfl
     simp -implicitDefEqProofs [r10_5, k10_5, outS, lsl_len, prep_new, newK_nil sRs, hl, hlen', xl, hh2, ld, rect_val, lit_rect, lfs, st5, st6, e3, -Prod.exists]
    all_goals
     have hwin : winL D off len = D[off] :: winL D (off + 1) (len - 1) := by
      unfold winL
      rw [List.drop_eq_getElem_cons hoff]
      obtain ⟨m, rfl⟩ : ∃ m, len = m + 1 := ⟨len - 1, by omega⟩
      rfl
     have hb5 : ∀ (v w : AObj), (∀ n, belowO n v = true) → (∀ n, belowO n w = true) → ∀ n, (h2 ++ [v, w]).length ≤ n → (h2 ++ [v, w]).all (belowO n) = true := fun v w hv hw n hn => by
      rw [List.length_append] at hn
      have hn : h2.length + 2 ≤ n := hn
      rw [List.all_append, hb2 n (by omega)]
      show (belowO n v && (belowO n w && true)) = true
      rw [hv, hw]; rfl
     have f1 : 0 ≠ h2.length := by omega
     have f2 : 0 ≠ h2.length + 1 := by omega
     have f3 : h2.length ≠ h2.length + 1 := by omega
     have f5 : 1 ≠ h2.length := by omega
     have f6 : 1 ≠ h2.length + 1 := by omega
     refine ex_go (g := fun x => lopK _ _ _ _ (blkK _ (seqC _ _ _ _ (blkK _ x) _))) (LL_ex (α := IS) ⟨off + 1, len - 1, cap - 1, [D[off]], 0, h2.length + 1, h2 ++ [cellV 22 (lst true (rectR.vals [D[off]])), cellV 3 (.int .i64 0)]⟩ (fun s => [(3, lsl 0 s.off s.len s.cap a.length), (6, ptr s.bi)]) (fun s => s.h) _
      (fun s => ∃ D', II a (partR.row 22 (done.map ofL)) h2.length (absorb (a.length + 1) 0 [D[off]] (winL D (off + 1) (len - 1))) s D') (fun s => a.length + 1 - s.i)
      ⟨D, i1, by show off + 1 + (cap - 1) ≤ _; omega, by show len - 1 ≤ cap - 1; omega, ⟨by rw [List.getElem?_append_left (by omega)]; exact hr2, end2, ⟨_, end1, .inl rfl⟩, ⟨f1, f2, f3⟩, hb5 _ _ (fun _ => rfl) (fun _ => rfl), by rw [List.getElem?_append_left (by omega)]; exact ho2, Nat.one_ne_zero, f5, f6⟩, Nat.zero_le _, by show 1 + (len - 1) ≤ _; omega, fun r hr => by
       rw [List.mem_singleton] at hr; subst hr; exact i8 _ (by rw [hwin]; exact List.mem_cons_self ..), fun r hr => i8 r (by rw [hwin]; exact List.mem_cons_of_mem _ hr), rfl⟩ ?_ rfl ?_)
     ·simp -implicitDefEqProofs [k10_9, ptr]
     ·intro nx2 t ht ih2
      obtain ⟨D2, hI⟩ := ht
      obtain ⟨off2, len2, cap2, part, i, bi, h3⟩ := t
      obtain ⟨j1, j2, j3, j4, j5, j6, j7, j8, j9⟩ := hI
      simp only at j1 j2 j3 j4 j5 j6 j7 j8 j9 ih2 ⊢
      have hic := cell_load (sz := some 1) j4.icell
      obtain ⟨pv, hpv, hpv2⟩ := j4.part
      have hpl := cell_load (sz := some 1) hpv
      have lpv : lenT .sl h3 pv = some (.int .i64 part.length) := by
       rcases hpv2 with rfl | ⟨bp, rfl, _⟩
       ·exact Rec.tree_len
       ·exact Rec.sl_len
      by_cases hlt : i < part.length
      ·have hlt' : (i : Int) < (part.length : Int) := by omega
       obtain ⟨⟨rv, h4⟩, hdl, hdel, hlen⟩ := delete j4 hlt (by omega) j3 (by omega) (j7 _ (List.getElem_mem hlt)) (fun k hk hk2 => j8 _ (win_mem hk hk2))
       obtain ⟨D3, d1, d2, d3, d4⟩ := hdel
       simp only at d1 d2 d3 d4 hlen
       subst d2
       rw [j1] at hdl d1
       have hfb := Rg.filter_both (touchB part[i]) (winL D2 off2 len2)
       have hwl := win_len (C := D2) (off := off2) (m := len2) (by omega)
       have ek : keepL part[i] D2 off2 len2 = (winL D2 off2 len2).filter fun s => !touchB part[i] s := rfl
       have et : takeL part[i] D2 off2 len2 = (winL D2 off2 len2).filter (touchB part[i]) := rfl
       have hkl := keep_len (p := part[i]) (C := D2) (off := off2) (m := len2) (by omega)
       have a1 := fun q => cell_load (sz := some 1) (get_app (q := q) d4.icell)
       have a0 := cell_load (sz := some 1) d4.icell
       have sE : ∀ u v, storeT (some 1) (h4 ++ [cellV 3 u]) 0 (.int .i64 v) (ptr h4.length) = some (h4 ++ [cellV 3 (.int .i64 v)]) := fun u v => by
        have := cell_store (h := h4 ++ [cellV 3 u]) (b := h4.length) (lo := 0) (t := 3) (u := u) (v := .int .i64 v) end0 (Nat.zero_le _) rfl
        rw [set0] at this
        exact this
       have lE : ∀ v, loadT ⟨some false, some 1⟩ (h4 ++ [cellV 3 v]) (ptr h4.length) = some v := fun v => cell_load (sz := some 1) end0
       have wi : IntKind.i64.wrap ((i : Int) + 1) = ((i + 1 : Nat) : Int) := (wrap64 (by omega) (by omega)).trans (by omega)
       have hnb : ¬ (h4.length < h3.length) := by omega
       have ih2 := ih2 ⟨off2, (keepL part[i] D2 off2 len2).length, cap2, part ++ takeL part[i] D2 off2 len2, i + 1, h4.length, h4 ++ [cellV 3 (.int .i64 ((i + 1 : Nat) : Int))]⟩ (by show a.length + 1 - (i + 1) < a.length + 1 - i; omega)
        ⟨D3, d1, j2, by show (keepL _ _ _ _).length ≤ cap2; omega, d4.next, by show i + 1 ≤ (part ++ takeL _ _ _ _).length; rw [List.length_append]; omega, by
         show (part ++ takeL _ _ _ _).length + (keepL _ _ _ _).length ≤ _
         rw [List.length_append, ek, et]; omega, fun q hq => by
         rcases List.mem_append.1 hq with hq | hq
         ·exact j7 q hq
         ·exact j8 q (List.mem_filter.1 hq).1, fun q hq => by
         have hq : q ∈ winL D3 off2 (keepL part[i] D2 off2 len2).length := hq
         rw [d3] at hq
         exact j8 q (List.mem_filter.1 hq).1, by
         show absorb (a.length + 1) (i + 1) (part ++ takeL part[i] D2 off2 len2) (winL D3 off2 (keepL part[i] D2 off2 len2).length) = _
         rw [d3, ek, et, ← absorb_at hlt (by omega), j9]⟩
       have ecell : ∀ v, AObj.cells 3 [v] 0 = cellV 3 v := fun _ => rfl
       unfold ptr at hic hpl a0 a1 sE lE
       unfold clo ptr at hdl
       simp -implicitDefEqProofs [k10_9, ptr, -Prod.exists, -Int.natCast_add] at ih2
       simp -implicitDefEqProofs [r10_9, k10_9, ptr, hic, hpl, lpv, hlt, hlt', ret2 m37, hdl, ecell, a0, a1, sE, lE, wi, trim_no2, hnb, -Prod.exists, -Int.natCast_add]
       exact ih2
      ·have hge : ¬ ((i : Int) < (part.length : Int)) := by omega
       obtain ⟨y, g, g1, g2, g3, g4⟩ := part_freeze j4 rfl rfl
       obtain ⟨q1, e1⟩ := strips_one (some y) part Rec.ok_some (by omega) g 0 (Nat.zero_le _) g4
       obtain ⟨h', hw, w1, w2, w3⟩ := write_row2 (h := g ++ [intR.row 3 q1, slabR.row 56 (stripsL part)]) (b := g.length + 1) (lo := 0) (stripsL part) end2 (Nat.zero_le _) (by have := strips_len part; omega) (fun s hs => by have := strips_col part s hs; omega)
       have e : outT (runsF (stripsL part)) = ofL part := rfl
       rw [e] at hw
       unfold ptr at hic hpl g1
       simp -implicitDefEqProofs [r10_9, k10_9, k10_5, r10_5, ptr, hic, hpl, lpv, hlt, hge, -Prod.exists, -Int.natCast_add]
       have l3 := lt_of_get j4.oth.1
       have l0 : 2 ≤ g.length := by
        have : g[1]? = h3[1]? := g3
        rw [j4.oth.1] at this
        have := lt_of_get this
        omega
       have ob : h'[1]? = some (partR.row 22 (done.map ofL)) := by
        rw [w1 1 (by omega), List.getElem?_append_left (by omega), g3]; exact j4.oth.1
       have ol : h'[0]? = some (rectR.row 30 D2) := by
        rw [w1 0 (by omega), List.getElem?_append_left (by omega), g2]; exact j4.left
       have ap := app_part (h := h') (b := 1) (lo := 0) (c := done.map ofL) (ofL part) ob (Nat.zero_le _) (by rw [List.length_map]; omega)
       have li := fun (z : Bool) (l : List Rect) (h : Heap) => lit_list1 (h := h) (k := some z) (l := l)
       unfold Rec.o at e1 li
       simp only at e1 li
       simp -implicitDefEqProofs [r10_5, k10_5, prep_frz, trim_le, g1, li, e1, hw, ap, -Prod.exists, -Int.natCast_add]
       have hW : (winL D (off + 1) (len - 1)).length = len - 1 := win_len (by omega)
       have hT : absorb (len - 1 + 2) 0 [D[off]] (winL D (off + 1) (len - 1)) = (part, winL D2 off2 len2) := by
        rw [← Rg.absorb_more (len - 1 + 2) (a.length + 1) 0 _ _ (by rw [hW, List.length_singleton]; omega) (by omega), ← j9]
        exact absorb_stop (by omega)
       have hTl := Rg.absorb_len (len - 1 + 2) 0 [D[off]] (winL D (off + 1) (len - 1))
       obtain ⟨tt, hTp⟩ := Rg.absorb_part (len - 1 + 2) 0 [D[off]] (winL D (off + 1) (len - 1))
       rw [hT] at hTl hTp
       have hW2 : (winL D2 off2 len2).length = len2 := win_len (by omega)
       rw [hW, hW2, List.length_singleton] at hTl
       have hp1 : 1 ≤ part.length := by
        have hTp : part = [D[off]] ++ tt := hTp
        rw [hTp, List.length_append, List.length_singleton]; omega
       obtain ⟨m, rfl⟩ : ∃ m, len = m + 1 := ⟨len - 1, by omega⟩
       have hl2 : len2 ≤ m := by
        have hTl : part.length + len2 = 1 + (m + 1 - 1) := hTl
        omega
       have heq : partsL a = (done ++ [part]) ++ partsF len2 (winL D2 off2 len2) := by
        rw [i9, hwin]
        show done ++ (absorb ((winL D (off + 1) (m + 1 - 1)).length + 2) 0 [D[off]] (winL D (off + 1) (m + 1 - 1))).1 :: partsF m (absorb ((winL D (off + 1) (m + 1 - 1)).length + 2) 0 [D[off]] (winL D (off + 1) (m + 1 - 1))).2 = _
        rw [hW, hT, List.append_assoc, ← Rg.partsF_more len2 m _ (by omega) hl2]; rfl
       have hal : (h'.set 1 (partR.row 22 ((done.map ofL) ++ [ofL part]))).length = g.length + 2 := by
        rw [List.length_set, w2, List.length_append]; rfl
       have tr := trim_two (n := nh) (vs := blk (rectR.o (some x) a) undef (.slice none 0 0) (lsl 0 off2 len2 cap2 a.length) (partR.sl 1 (List.map ofL done ++ [ofL part])) undef undef (rectR.o (some x) a) (.bool true) (.bool false) (rectR.o (some x) a) (lsl 0 0 a.length a.length a.length) undef undef undef undef (blk undef undef undef undef undef undef undef undef undef undef undef undef undef undef undef undef [undef, undef, undef, undef, undef, undef, undef]))
        (get_set ol Nat.zero_ne_one) (get_setE (q := partR.row 22 ((done.map ofL) ++ [ofL part])) (lt_of_get ob)) (fun n hn => by
         rw [hal] at hn
         refine all_set (w3 n ?_) (Rec.row_bel _)
         rw [List.all_append, g4 n (by omega)]
         show (belowO n (intR.row 3 q1) && (belowO n (slabR.row 56 (stripsL part)) && true)) = true
         rw [Rec.row_bel, Rec.row_bel]; rfl) (fun m hm => by
         refine List.all_eq_false.2 ⟨partR.sl 1 (List.map ofL done ++ [ofL part]), by simp [blk], ?_⟩
         show ¬ (decide (1 < m)) = true
         rw [decide_eq_true_eq]; omega)
       have emap : List.map ofL done ++ [ofL part] = List.map ofL (done ++ [part]) := by rw [List.map_append]; rfl
       rw [← hnh, emap]
       rw [emap] at tr
       revert tr
       generalize trim nh _ _ = H
       intro tr
       have ih := ih ⟨off2, len2, cap2, done ++ [part], false, H⟩ (by show len2 < m + 1; omega) ⟨D2, j1, j2, j3, tr.1, fun h => absurd h Bool.false_ne_true, fun _ => tr.2.1, tr.2.2, j8, heq, by show (done ++ [part]).length + len2 ≤ _; rw [List.length_append, List.length_singleton]; omega⟩
       simp -implicitDefEqProofs [k10_5, outS, -List.map_append, -Prod.exists] at ih
       exact ih
   ·have hl0 : len = 0 := by omega
    subst hl0
    have e2 : partsL a = done := by rw [i9]; show done ++ partsF 0 _ = done; exact List.append_nil _
    cases first
    ·have o1 := i6 rfl
     have rr := part_reifyR o1
     simp -implicitDefEqProofs [r10_5, k10_5, outS, lsl_len, prep_new, newK_out, trim_le, e2, rr]
    ·obtain ⟨i5a, i5b⟩ := i5 rfl
     subst i5b
     simp -implicitDefEqProofs [r10_5, k10_5, outS, lsl_len, prep_new, newK_nil sRs, trim_le, e2]
     rfl
end Go.Proofs.YtibmcdmlpobanaaGreat.Bm
namespace Go.Proofs.YtibmcdmlpobanaaGreat.Rg
def shR (dx dy : Int) (r : Rect) : Rect := ⟨r.x0 + dx, r.y0 + dy, r.x1 + dx, r.y1 + dy⟩
def bj (b r : Rect) : Rect := ⟨min b.x0 r.x0, min b.y0 r.y0, max b.x1 r.x1, max b.y1 r.y1⟩
def bndL : List Rect → Rect
 | [] => ⟨0, 0, 0, 0⟩
 | r :: l => l.foldl bj r
end Go.Proofs.YtibmcdmlpobanaaGreat.Rg
namespace Go.Proofs.YtibmcdmlpobanaaGreat.Bm
open Go Go.RowKit
open Rg (Rect shR bj bndL)
def shiftL (dx dy : Int) (a : List Rect) : List Rect := a.map (shR dx dy)
def shiftX (a : List Rect) (dx dy : Int) : Except Int (List Rect) :=
 if regB a then (if 0 < a.length ∧ (1048576 < max dx dy ∨ min dx dy < -1048576) then .error 3 else if (shiftL dx dy a).all okR then .ok (shiftL dx dy a) else .error 3) else .error 1
def stopS (dx dy : Int) : List Rect → List Rect → Bool × List Rect
 | [], c => (true, c)
 | r :: l, c => if okR (shR dx dy r) then stopS dx dy l (c ++ [shR dx dy r]) else (false, c)
theorem stopS_eq (dx dy : Int) : ∀ (l c : List Rect), (stopS dx dy l c).1 = (shiftL dx dy l).all okR ∧ ((stopS dx dy l c).1 = true → (stopS dx dy l c).2 = c ++ shiftL dx dy l)
 | [], c => ⟨rfl, fun _ => (List.append_nil c).symm⟩
 | r :: l, c => by
  have e : (shiftL dx dy (r :: l)).all okR = (okR (shR dx dy r) && (shiftL dx dy l).all okR) := rfl
  rw [e]
  unfold stopS
  cases h : okR (shR dx dy r)
  ·exact ⟨rfl, fun h => by cases h⟩
  ·obtain ⟨h1, h2⟩ := stopS_eq dx dy l (c ++ [shR dx dy r])
   rw [if_pos rfl]
   refine ⟨by rw [h1]; rfl, fun h => ?_⟩
   rw [h2 h, List.append_assoc]; rfl
def stopQ (s : Bool × List Rect) : Exit × List (Nat × Value) × Heap := if s.1 then (.exit 0, [(8, rectR.sl 0 s.2), (31, undef)], [rectR.row 30 s.2]) else (.ret, [(6, .slice none 0 0), (7, .int .i64 3), (8, rectR.sl 0 s.2), (31, undef)], [rectR.row 30 s.2])
set_option maxHeartbeats 1000000 in
theorem shift_spec (k : Option Bool) (a : List Rect) (dx dy : Int) (hk : Rec.Ok k a) (ha : a.length ≤ 1000000) : pureCall E.P (L E) 24 [rectR.o k a, .int .i64 dx, .int .i64 dy] = some (resL (shiftX a dx dy)) := by
 have hR := right2_spec k a hk ha
 unfold shiftX
 rw [pureCall_fn F24 rfl]
 cases hr : regB a
 ·rw [hr] at hR
  simp -implicitDefEqProofs [r24, p24, ret0 m12, Rec.o_reify, hR, resL]
 rw [hr] at hR
 have hbox : ∀ r ∈ a, r.inBox 1048576 := fun r hr' => okR_iff.1 (List.all_eq_true.1 (regB_iff.1 hr).1 r hr')
 generalize hall : (shiftL dx dy a).all okR = qa
 by_cases h0 : 0 < a.length
 ·have h0' : 0 < (a.length : Int) := by omega
  by_cases h1 : 1048576 < max dx dy
  ·simp -implicitDefEqProofs [r24, p24, ret0 m12, Rec.o_reify, hR, Rec.o_len hk, h0, h0', max_int, min_int6, h1, resL]
  by_cases h2 : min dx dy < -1048576
  ·simp -implicitDefEqProofs [r24, p24, ret0 m12, Rec.o_reify, hR, Rec.o_len hk, h0, h0', max_int, min_int6, h1, h2, resL]
  simp -implicitDefEqProofs [r24, p24, ret0 m12, Rec.o_reify, hR, Rec.o_len hk, h0, h0', max_int, min_int6, h1, h2, prep_new, newK_nil s32]
  rw [LL_for (γ := List Rect) a [] (fun i c => [(8, rectR.sl 0 c), (31, .int .i64 i)]) (fun _ c => [rectR.row 30 c]) (fun _ rest c => stopQ (stopS dx dy rest c)) (fun i c => c.length = i) (by first | omega | decide) rfl]
  ·obtain ⟨q1, q2⟩ := stopS_eq dx dy a []
   rw [hall] at q1
   rw [← q1]
   cases hs : stopS dx dy a [] with
   | mk q c =>
   rw [hs] at q1 q2
   simp only at q1 q2
   cases q
   ·simp -implicitDefEqProofs [k24_7, stopQ, resL]
   ·rw [List.nil_append] at q2
    have q2 := q2 rfl
    rw [q2]
    generalize shiftL dx dy a = F
    have rr := Rec.reify_row (R := rectR) (P := E.P) (h := [rectR.row 30 F]) (b := 0) (n := 7) (t := 30) (l := F) rfl s32 a32
    simp -implicitDefEqProofs [k24_7, stopQ, rr, resL]
  ·simp -implicitDefEqProofs [k24_7, Rec.sl_nil]
  ·rfl
  ·intro nx i c hi _
   simp -implicitDefEqProofs [r24_7, k24_7, hi, Rec.o_len hk, trim_le, stopS, stopQ]
  ·intro nx i r rest c hi hv hd hw hc ih
   have ixi := Rec.o_index (R := rectR) (t := 30) (kk := .i64) (s := 4) rfl hk hi
   rw [hv, rect_val] at ixi
   have hb := hbox r (by rw [← hv]; exact List.getElem_mem hi)
   unfold Rect.inBox at hb
   have w0 : IntKind.i64.wrap (r.x0 + dx) = r.x0 + dx := wrap64 (by omega) (by omega)
   have w1 : IntKind.i64.wrap (r.y0 + dy) = r.y0 + dy := wrap64 (by omega) (by omega)
   have w2 : IntKind.i64.wrap (r.x1 + dx) = r.x1 + dx := wrap64 (by omega) (by omega)
   have w3 : IntKind.i64.wrap (r.y1 + dy) = r.y1 + dy := wrap64 (by omega) (by omega)
   have rs := right_s (shR dx dy r)
   unfold stopS
   cases hok : okR (shR dx dy r)
   ·rw [hok] at rs
    simp only [shR] at rs
    simp -implicitDefEqProofs [r24_7, k24_7, hi, ixi, Rec.o_len hk, w0, w1, w2, w3, b4_all, ret0 m13, rs, stopQ, trim_cut, Rec.sl_bel, Rec.row_bel, Rec.o_bel]
   ·rw [hok] at rs
    have ap := fun q => app_rect (h := [rectR.row 30 c, q]) (b := 0) (lo := 0) (c := c) (shR dx dy r) rfl (Nat.le_refl _) (by omega)
    have ih := ih (c ++ [shR dx dy r]) (by simp; omega)
    rw [if_pos rfl]
    generalize stopQ (stopS dx dy rest (c ++ [shR dx dy r])) = Q at ih ⊢
    simp only [shR] at rs ap ih
    simp -implicitDefEqProofs [k24_7] at ih
    simp -implicitDefEqProofs [r24_7, k24_7, hi, ixi, Rec.o_len hk, w0, w1, w2, w3, b4_all, ret0 m13, rs, lit_rect, ap, hw, trim_cut, Rec.sl_bel, Rec.row_bel, Rec.o_bel]
    exact ih
 ·have ea : a = [] := List.eq_nil_of_length_eq_zero (by omega)
  subst ea
  simp -implicitDefEqProofs [r24, p24, ret0 m12, Rec.o_reify, hR, Rec.o_len hk, prep_new, newK_nil s32]
  rw [LL_for (γ := List Rect) ([] : List Rect) [] (fun i c => [(8, rectR.sl 0 c), (31, .int .i64 i)]) (fun _ c => [rectR.row 30 c]) (fun _ rest c => stopQ (stopS dx dy rest c)) (fun i c => c.length = i) (by first | omega | decide) rfl]
  ·obtain ⟨q1, q2⟩ := stopS_eq dx dy ([] : List Rect) []
   rw [hall] at q1
   rw [← q1]
   cases hs : stopS dx dy ([] : List Rect) [] with
   | mk q c =>
   rw [hs] at q1 q2
   simp only at q1 q2
   cases q
   ·simp -implicitDefEqProofs [k24_7, stopQ, resL]
   ·rw [List.nil_append] at q2
    have q2 := q2 rfl
    rw [q2]
    generalize shiftL dx dy ([] : List Rect) = F
    have rr := Rec.reify_row (R := rectR) (P := E.P) (h := [rectR.row 30 F]) (b := 0) (n := 7) (t := 30) (l := F) rfl s32 a32
    simp -implicitDefEqProofs [k24_7, stopQ, rr, resL]
  ·simp -implicitDefEqProofs [k24_7, Rec.sl_nil]
  ·rfl
  ·intro nx i c hi _
   simp -implicitDefEqProofs [r24_7, k24_7, hi, Rec.o_len hk, trim_le, stopS, stopQ]
  ·intro nx i r rest c hi hv hd hw hc ih
   simp at hi
def bstp (c : Bool × Rect) (r : Rect) : Bool × Rect := (true, if c.1 then bj c.2 r else r)
theorem bstp_true : ∀ (l : List Rect) (b : Rect), l.foldl bstp (true, b) = (true, l.foldl bj b)
 | [], _ => rfl
 | r :: l, b => by rw [List.foldl_cons, List.foldl_cons, ← bstp_true l]; rfl
theorem bstp_eq {l : List Rect} (h0 : l ≠ []) : l.foldl bstp (false, ⟨0, 0, 0, 0⟩) = (true, bndL l) := by
 cases l with
 | nil => exact absurd rfl h0
 | cons r l => exact bstp_true l r
set_option maxHeartbeats 1000000 in
theorem bounds5_spec (k : Option Bool) (a : List Rect) (hk : Rec.Ok k a) (ha : a.length ≤ 1000000) (h0 : a ≠ []) (hall : a.all okR = true) : pureCall E.P (L E) 55 [rectR.o k a] = some (.tuple ⟨[rectR.val (bndL a), .bool true]⟩) := by
 rw [pureCall_fn F55 rfl]
 simp -implicitDefEqProofs [r55, p55, Rec.o_len hk]
 rw [LL_for (γ := Bool × Rect) a (false, ⟨0, 0, 0, 0⟩) (fun i c => [(3, .bool c.1), (8, .int .i64 i)]) (fun _ c => [boxR c.2]) (fun _ rest c => (.exit 0, [(3, .bool (rest.foldl bstp c).1), (8, undef)], [boxR (rest.foldl bstp c).2])) (fun _ _ => True) (by omega) trivial]
 ·rw [bstp_eq h0]
  simp -implicitDefEqProofs [k55_2, boxR, rect_val]
 ·simp -implicitDefEqProofs [k55_2]
 ·rfl
 ·intro nx i c hi _
  simp -implicitDefEqProofs [r55_2, k55_2, hi, trim_le]
 ·intro nx i r rest c hi hv hd hw _ ih
  have ih := ih (bstp c r) trivial
  have ixi := Rec.o_index (R := rectR) (t := 30) (kk := .i64) (s := 4) rfl hk hi
  rw [hv] at ixi
  have hr := right_s r
  have hok : okR r = true := List.all_eq_true.1 hall r (by rw [← hv]; exact List.getElem_mem hi)
  rw [hok] at hr
  rw [List.foldl_cons]
  generalize rest.foldl bstp (bstp c r) = z at *
  obtain ⟨q, b⟩ := c
  simp -implicitDefEqProofs [k55_2] at ih
  cases q
  ·simp -implicitDefEqProofs [bstp, boxR] at ih
   simp -implicitDefEqProofs [r55_2, k55_2, boxR, hi, ixi, rect_val, ret0 m13, hr, hw, trim_le, trim_cut, Rec.o_bel]
   exact ih
  ·simp -implicitDefEqProofs [bstp, bj, boxR] at ih
   simp -implicitDefEqProofs [r55_2, k55_2, boxR, hi, ixi, rect_val, ret0 m13, hr, hw, trim_le, trim_cut, Rec.o_bel, min_int6, max_int, b4_all]
   exact ih
theorem bounds_spec (k : Option Bool) (a : List Rect) (hk : Rec.Ok k a) (ha : a.length ≤ 1000000) (h0 : a ≠ []) (hr : regB a = true) : pureCall E.P (L E) 26 [rectR.o k a] = some (.tuple ⟨[rectR.val (bndL a), .bool true]⟩) := by
 have hR := right2_spec k a hk ha
 rw [hr] at hR
 have hn : ¬ (a.length = 0) := fun e => h0 (List.eq_nil_of_length_eq_zero e)
 have hn' : ¬ ((a.length : Int) = 0) := by omega
 have key := bounds5_spec k a hk ha h0 (regB_iff.1 hr).1
 rw [pureCall_fn F26 rfl]
 rw [rect_val] at key ⊢
 simp -implicitDefEqProofs [r26, p26, padS, b4_none, ret0 m12, ret0 m55, Rec.o_reify, hR, Rec.o_len hk, hn, hn', key]
end Go.Proofs.YtibmcdmlpobanaaGreat.Bm
namespace Go.Proofs.YtibmcdmlpobanaaGreat.Bm
open Go Go.RowKit
open Rg (Rect areaL ofL opL shR bj bndL touchB gapX gapY)
theorem rarea_spec (k : Option Bool) (l : List Rect) (hk : Rec.Ok k l) (hl : l.length ≤ 1000000) : pureCall E.P (L E) 30 [rectR.o k l] = some (.int .i64 (if regB l then areaL l else 0)) := by
 have hr := rright2_spec k l hk hl
 rw [pureCall_fn F30 rfl]
 cases h : regB l
 ·simp -implicitDefEqProofs [r30, p30, ret0 m29, Rec.o_reify, hr, h]
 ·obtain ⟨h1, h2, _⟩ := regB_iff.1 h
  have hok : ∀ r ∈ l, okR r = true := List.all_eq_true.1 h1
  simp -implicitDefEqProofs [r30, p30, ret0 m29, Rec.o_reify, hr, h, Rec.o_len hk]
  rw [LL_for (γ := Int) l 0 (fun i n => [(3, .int .i64 n), (4, .int .i64 i)]) (fun _ _ => []) (fun _ rest n => (.exit 0, [(3, .int .i64 (n + areaL rest)), (4, undef)], [])) (fun i n => 0 ≤ n ∧ n ≤ i * 1099511627776) (by omega) ⟨Int.le_refl _, by omega⟩]
  ·simp -implicitDefEqProofs [k30_5]
  ·simp -implicitDefEqProofs [k30_5]
  ·rfl
  ·intro nx i c hi _
   simp -implicitDefEqProofs [r30_5, k30_5, hi, Rec.o_len hk, trim_le, areaL]
  ·intro nx i r rest n hi hv hd hw hn ih
   have hrr := hok r (by rw [← hv]; exact List.getElem_mem hi)
   have hb := area_bound hrr
   have hbx := okR_iff.1 hrr
   unfold Rect.inBox at hbx
   have ixi := Rec.o_index (R := rectR) (t := 30) (kk := .i64) (s := 4) rfl hk hi
   rw [hv] at ixi
   have e0 : r.area = (r.x1 - r.x0) * (r.y1 - r.y0) := rfl
   have w0 : IntKind.i64.wrap (r.x1 - r.x0) = r.x1 - r.x0 := wrap64 (by omega) (by omega)
   have w2 : IntKind.i64.wrap (r.y1 - r.y0) = r.y1 - r.y0 := wrap64 (by omega) (by omega)
   have w3 : IntKind.i64.wrap ((r.x1 - r.x0) * (r.y1 - r.y0)) = r.area := by rw [← e0]; exact wrap64 (by omega) (by omega)
   have w1 : IntKind.i64.wrap (n + r.area) = n + r.area := wrap64 (by omega) (by omega)
   have ih := ih (n + r.area) ⟨by omega, by push_cast; omega⟩
   have e : n + areaL (r :: rest) = n + r.area + areaL rest := by show n + (r.area + areaL rest) = _; omega
   rw [e]
   simp -implicitDefEqProofs [k30_5] at ih
   simp -implicitDefEqProofs [r30_5, k30_5, hi, ixi, Rec.o_len hk, rect_val, w0, w2, w3, w1, hw, trim_le]
   exact ih
theorem rop_spec (k m : Option Bool) (a b : List Rect) (z : Int) (f : Bool → Bool → Bool) (hz : (z = 0 ∧ f = orF) ∨ (z = 1 ∧ f = andF) ∨ (z = 2 ∧ f = subF)) (hk : Rec.Ok k a) (hm : Rec.Ok m b) (ha : a.length ≤ 1000000) (hb : b.length ≤ 1000000) :
  pureCall E.P (L E) 52 [rectR.o k a, rectR.o m b, .int .i64 z] = some (resL (opR f a b)) := by
 have ra := rright2_spec k a hk ha
 have rb := rright2_spec m b hm hb
 have so : ∀ k l, settled depth (rectR.o k l) = true := fun k l => Rec.o_set
 rw [pureCall_fn F52 rfl]
 unfold opR
 cases h1 : regB a
 ·rw [h1] at ra
  simp -implicitDefEqProofs [r52, p52, ret0 m29, Rec.o_reify, ra, resL]
 rw [h1] at ra
 cases h2 : regB b
 ·rw [h2] at rb
  simp -implicitDefEqProofs [r52, p52, ret0 m29, Rec.o_reify, ra, rb, resL]
 rw [h2] at rb
 obtain ⟨a1, a2, _⟩ := regB_iff.1 h1
 obtain ⟨b1, b2, _⟩ := regB_iff.1 h2
 have ya := ofL_ok' a1
 have yb := ofL_ok' b1
 have hf : f false false = false := by rcases hz with ⟨_, rfl⟩ | ⟨_, rfl⟩ | ⟨_, rfl⟩ <;> rfl
 have fs := form_p k m a b z f hz hk hm (by omega) ya yb
 rw [ref_op f hf ya yb] at fs
 have ll : ∀ h, lenT .sl h (lst false (rectR.vals (opL f a b))) = some (.int .i64 (opL f a b).length) := fun h => Rec.tree_len
 have sz : settled depth (.int .i64 z) = true := rfl
 simp only [Bool.and_self, if_true, limR]
 by_cases h3 : (opL f a b).length ≤ 200
 ·have h3' : ¬ (200 < ((opL f a b).length : Int)) := by omega
  simp -implicitDefEqProofs [r52, p52, ret0 m29, Rec.o_reify, ra, rb, ret1 m18, so, sz, fs, ll, h3, h3', resL]
 ·have h3' : 200 < ((opL f a b).length : Int) := by omega
  simp -implicitDefEqProofs [r52, p52, ret0 m29, Rec.o_reify, ra, rb, ret1 m18, so, sz, fs, ll, h3, h3', resL]
theorem runion_spec (k m : Option Bool) (a b : List Rect) (hk : Rec.Ok k a) (hm : Rec.Ok m b) (ha : a.length ≤ 1000000) (hb : b.length ≤ 1000000) :
  pureCall E.P (L E) 20 [rectR.o k a, rectR.o m b] = some (resL (opR orF a b)) := by
 have key := rop_spec k m a b 0 orF (.inl ⟨rfl, rfl⟩) hk hm ha hb
 have so : ∀ k l, settled depth (rectR.o k l) = true := fun k l => Rec.o_set
 have sz : settled depth (.int .i64 0) = true := rfl
 rw [pureCall_fn F20 rfl]
 cases h : opR orF a b <;> rw [h] at key <;> simp only [resL] at key <;> simp -implicitDefEqProofs [r20, p20, ret1 m52, so, sz, key, resL]
theorem rcommon_spec (k m : Option Bool) (a b : List Rect) (hk : Rec.Ok k a) (hm : Rec.Ok m b) (ha : a.length ≤ 1000000) (hb : b.length ≤ 1000000) :
  pureCall E.P (L E) 22 [rectR.o k a, rectR.o m b] = some (resL (opR andF a b)) := by
 have key := rop_spec k m a b 1 andF (.inr (.inl ⟨rfl, rfl⟩)) hk hm ha hb
 have so : ∀ k l, settled depth (rectR.o k l) = true := fun k l => Rec.o_set
 have sz : settled depth (.int .i64 1) = true := rfl
 rw [pureCall_fn F22 rfl]
 cases h : opR andF a b <;> rw [h] at key <;> simp only [resL] at key <;> simp -implicitDefEqProofs [r22, p22, ret1 m52, so, sz, key, resL]
theorem rminus_spec (k m : Option Bool) (a b : List Rect) (hk : Rec.Ok k a) (hm : Rec.Ok m b) (ha : a.length ≤ 1000000) (hb : b.length ≤ 1000000) :
  pureCall E.P (L E) 23 [rectR.o k a, rectR.o m b] = some (resL (opR subF a b)) := by
 have key := rop_spec k m a b 2 subF (.inr (.inr ⟨rfl, rfl⟩)) hk hm ha hb
 have so : ∀ k l, settled depth (rectR.o k l) = true := fun k l => Rec.o_set
 have sz : settled depth (.int .i64 2) = true := rfl
 rw [pureCall_fn F23 rfl]
 cases h : opR subF a b <;> rw [h] at key <;> simp only [resL] at key <;> simp -implicitDefEqProofs [r23, p23, ret1 m52, so, sz, key, resL]
def mvB (f t d : Int) : Bool := decide (-1048576 ≤ d) && decide (d ≤ 1048576) && decide (0 ≤ f + d) && decide (t + d ≤ 1048576)
theorem moves_spec (f t d : Int) (hf : 0 ≤ f ∧ f ≤ 1048576) (ht : 0 ≤ t ∧ t ≤ 1048576) : pureCall E.P (L E) 54 [.int .i64 f, .int .i64 t, .int .i64 d] = some (.bool (mvB f t d)) := by
 rw [pureCall_fn F54 rfl]
 unfold mvB
 by_cases h1 : -1048576 ≤ d
 case neg => simp -implicitDefEqProofs [r54, p54, h1]
 by_cases h2 : d ≤ 1048576
 case neg => simp -implicitDefEqProofs [r54, p54, h1, h2]
 have w1 : IntKind.i64.wrap (f + d) = f + d := wrap64 (by omega) (by omega)
 have w2 : IntKind.i64.wrap (t + d) = t + d := wrap64 (by omega) (by omega)
 by_cases h3 : 0 ≤ f + d
 case neg => simp -implicitDefEqProofs [r54, p54, h1, h2, w1, h3]
 simp -implicitDefEqProofs [r54, p54, h1, h2, w1, w2, h3]
def mvR (dx dy : Int) (r : Rect) : Bool := mvB r.x0 r.x1 dx && mvB r.y0 r.y1 dy
def stopM (dx dy : Int) : List Rect → List Rect → Bool × List Rect
 | [], c => (true, c)
 | r :: l, c => if mvR dx dy r then stopM dx dy l (c ++ [shR dx dy r]) else (false, c)
theorem stopM_eq (dx dy : Int) : ∀ (l c : List Rect), (stopM dx dy l c).1 = l.all (mvR dx dy) ∧ ((stopM dx dy l c).1 = true → (stopM dx dy l c).2 = c ++ shiftL dx dy l)
 | [], c => ⟨rfl, fun _ => (List.append_nil c).symm⟩
 | r :: l, c => by
  unfold stopM
  rw [List.all_cons]
  cases h : mvR dx dy r
  ·exact ⟨rfl, fun h => by cases h⟩
  ·obtain ⟨h1, h2⟩ := stopM_eq dx dy l (c ++ [shR dx dy r])
   rw [if_pos rfl]
   refine ⟨by rw [h1]; rfl, fun h => ?_⟩
   rw [h2 h, List.append_assoc]; rfl
theorem mv_iff {dx dy : Int} {r : Rect} (h : okR r = true) : mvR dx dy r = (decide (max dx dy ≤ 1048576) && decide (-1048576 ≤ min dx dy) && okR (shR dx dy r)) := by
 have hb := okR_iff.1 h
 unfold Rect.inBox at hb
 rw [Bool.eq_iff_iff]
 unfold mvR mvB okR shR
 simp only [Bool.and_eq_true, decide_eq_true_eq]
 omega
theorem shiftX_mv {a : List Rect} {dx dy : Int} (h : regB a = true) : shiftX a dx dy = if a.all (mvR dx dy) then .ok (shiftL dx dy a) else .error 3 := by
 have hok : ∀ r ∈ a, okR r = true := List.all_eq_true.1 (regB_iff.1 h).1
 unfold shiftX
 rw [if_pos h]
 by_cases h0 : 0 < a.length ∧ (1048576 < max dx dy ∨ min dx dy < -1048576)
 ·rw [if_pos h0]
  obtain ⟨h1, h2⟩ := h0
  obtain ⟨r, l, rfl⟩ := List.exists_cons_of_ne_nil (List.length_pos_iff.1 h1)
  have : (r :: l).all (mvR dx dy) = false := by
   rw [List.all_cons, mv_iff (hok r (List.mem_cons_self ..))]
   have : (decide (max dx dy ≤ 1048576) && decide (-1048576 ≤ min dx dy)) = false := by
    rw [Bool.and_eq_false_iff, decide_eq_false_iff_not, decide_eq_false_iff_not]; omega
   rw [this]; rfl
  rw [this, if_neg (by decide)]
 ·rw [if_neg h0]
  have e : (shiftL dx dy a).all okR = a.all (mvR dx dy) := by
   unfold shiftL
   rw [List.all_map]
   refine Bool.eq_iff_iff.2 ?_
   rw [List.all_eq_true, List.all_eq_true]
   have hp : ∀ r ∈ a, 0 < a.length := fun r hr => List.length_pos_of_mem hr
   constructor
   ·intro q r hr
    have := q r hr
    have hp := hp r hr
    rw [mv_iff (hok r hr)]
    have e1 : decide (max dx dy ≤ 1048576) = true := decide_eq_true (by omega)
    have e2 : decide (-1048576 ≤ min dx dy) = true := decide_eq_true (by omega)
    rw [e1, e2]; exact this
   ·intro q r hr
    have := q r hr
    rw [mv_iff (hok r hr), Bool.and_eq_true] at this
    exact this.2
  rw [e]
def stopR (s : Bool × List Rect) : Exit × List (Nat × Value) × Heap := if s.1 then (.exit 0, [(8, rectR.sl 0 s.2), (9, undef)], [rectR.row 30 s.2]) else (.ret, [(6, .slice none 0 0), (7, .int .i64 3), (8, rectR.sl 0 s.2), (9, undef)], [rectR.row 30 s.2])
set_option maxHeartbeats 1000000 in
theorem rshift_spec (k : Option Bool) (a : List Rect) (dx dy : Int) (hk : Rec.Ok k a) (ha : a.length ≤ 1000000) : pureCall E.P (L E) 25 [rectR.o k a, .int .i64 dx, .int .i64 dy] = some (resL (shiftX a dx dy)) := by
 have hR := rright2_spec k a hk ha
 rw [pureCall_fn F25 rfl]
 cases hr : regB a
 ·rw [hr] at hR
  have e : shiftX a dx dy = .error 1 := by unfold shiftX; rw [hr]; rfl
  rw [e]
  simp -implicitDefEqProofs [r25, p25, ret0 m29, Rec.o_reify, hR, resL]
 rw [hr] at hR
 have hok : ∀ r ∈ a, okR r = true := List.all_eq_true.1 (regB_iff.1 hr).1
 rw [shiftX_mv hr]
 obtain ⟨q0, hq0⟩ : ∃ q, q = a.all (mvR dx dy) := ⟨_, rfl⟩
 rw [← hq0]
 simp -implicitDefEqProofs [r25, p25, ret0 m29, Rec.o_reify, hR, Rec.o_len hk, prep_new, newK_nil s32]
 rw [LL_for (γ := List Rect) a [] (fun i c => [(8, rectR.sl 0 c), (9, .int .i64 i)]) (fun _ c => [rectR.row 30 c]) (fun _ rest c => stopR (stopM dx dy rest c)) (fun i c => c.length = i) (by omega) rfl]
 ·obtain ⟨q1, q2⟩ := stopM_eq dx dy a []
  rw [hq0, ← q1]
  cases hs : stopM dx dy a [] with
  | mk q c =>
  rw [hs] at q1 q2
  simp only at q1 q2
  cases q
  ·simp -implicitDefEqProofs [k25_5, stopR, resL]
  ·rw [List.nil_append] at q2
   have q2 := q2 rfl
   rw [q2]
   generalize shiftL dx dy a = F
   have rr := Rec.reify_row (R := rectR) (P := E.P) (h := [rectR.row 30 F]) (b := 0) (n := 7) (t := 30) (l := F) rfl s32 a32
   simp -implicitDefEqProofs [k25_5, stopR, rr, resL]
 ·simp -implicitDefEqProofs [k25_5, Rec.sl_nil]
 ·rfl
 ·intro nx i c hi _
  simp -implicitDefEqProofs [r25_5, k25_5, hi, Rec.o_len hk, trim_le, stopM, stopR]
 ·intro nx i r rest c hi hv hd hw hc ih
  have ixi := Rec.o_index (R := rectR) (t := 30) (kk := .i64) (s := 4) rfl hk hi
  rw [hv, rect_val] at ixi
  have hrr := hok r (by rw [← hv]; exact List.getElem_mem hi)
  have hb := okR_iff.1 hrr
  unfold Rect.inBox at hb
  have m1 := moves_spec r.x0 r.x1 dx (by omega) (by omega)
  have m2 := moves_spec r.y0 r.y1 dy (by omega) (by omega)
  unfold stopM
  cases h1 : mvB r.x0 r.x1 dx
  ·rw [h1] at m1
   have e : mvR dx dy r = false := by unfold mvR; rw [h1]; rfl
   rw [e, if_neg (by decide)]
   simp -implicitDefEqProofs [r25_5, k25_5, hi, ixi, Rec.o_len hk, ret0 m54, m1, stopR, trim_le]
  rw [h1] at m1
  cases h2 : mvB r.y0 r.y1 dy
  ·rw [h2] at m2
   have e : mvR dx dy r = false := by unfold mvR; rw [h1, h2]; rfl
   rw [e, if_neg (by decide)]
   simp -implicitDefEqProofs [r25_5, k25_5, hi, ixi, Rec.o_len hk, ret0 m54, m1, m2, stopR, trim_le]
  rw [h2] at m2
  have e : mvR dx dy r = true := by unfold mvR; rw [h1, h2]; rfl
  rw [e, if_pos rfl]
  unfold mvB at h1 h2
  simp only [Bool.and_eq_true, decide_eq_true_eq] at h1 h2
  have w0 : IntKind.i64.wrap (r.x0 + dx) = r.x0 + dx := wrap64 (by omega) (by omega)
  have w1 : IntKind.i64.wrap (r.y0 + dy) = r.y0 + dy := wrap64 (by omega) (by omega)
  have w2 : IntKind.i64.wrap (r.x1 + dx) = r.x1 + dx := wrap64 (by omega) (by omega)
  have w3 : IntKind.i64.wrap (r.y1 + dy) = r.y1 + dy := wrap64 (by omega) (by omega)
  have ap := app_rect (h := [rectR.row 30 c]) (b := 0) (lo := 0) (c := c) (shR dx dy r) rfl (Nat.le_refl _) (by omega)
  have ih := ih (c ++ [shR dx dy r]) (by simp; omega)
  generalize stopR (stopM dx dy rest (c ++ [shR dx dy r])) = Q at ih ⊢
  simp only [shR] at ap ih
  simp -implicitDefEqProofs [k25_5] at ih
  simp -implicitDefEqProofs [r25_5, k25_5, hi, ixi, Rec.o_len hk, ret0 m54, m1, m2, w0, w1, w2, w3, b4_all, lit_rect, ap, hw, trim_le]
  exact ih
end Go.Proofs.YtibmcdmlpobanaaGreat.Bm
