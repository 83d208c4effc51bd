/-
  Regions in their form, plain: their order, and the cells at which their rectangles begin. Conditions: none. No program in sight.
-/
import Derived.Test.YteaoeebakmdcnaaQP20
import Derived.Test.YteaoeebakmdcnaaQP19
import Derived.Test.YteaoeebakmdcnaaQP14
namespace Go.Proofs.Yteaoeebakmdcnaa.Bm
open Go Go.RowKit
open Rg (Rect Slab touchB absorb partsF partsL ofL outT runsF stripsL)

/-! ### Rows of lists of rectangles -/
def partR : Rec (List Rect) where
  enc l := [lst false (rectR.vals l)]
  m := 0
  len _ := rfl
  set _ := rfl
  bel _ _ := rfl
def partV (l : List (List Rect)) : List Value := l.map fun m => lst false (rectR.vals m)
theorem parts_flat : ∀ l : List (List Rect), partR.flat l = partV l
  | [] => rfl
  | m :: l => by
    show lst false (rectR.vals m) :: partR.flat l = _
    rw [parts_flat l]; rfl
theorem sR4 : szOf E.P 32 = some 4 := by kernel_rfl
theorem aR4 : aggT E.P 32 = some true := by kernel_rfl
theorem sRs : szOf E.P 22 = some 1 := by kernel_rfl
theorem aRs : aggT E.P 22 = some false := by kernel_rfl
theorem part_reifyR {h : Heap} {b : Nat} {l : List (List Rect)} (hob : h[b]? = some (partR.row 22 l)) : reifyR E.P h (partR.sl b l) = some (lst false (partV l)) := by
  have hs : (partV l).all (settled 8) = true := by unfold partV; simp [List.all_eq_true]
  have e0 : partR.sl b l = .slice (some ⟨b, 0, some l.length⟩) l.length l.length := by unfold Rec.sl; simp [partR]
  show reify E.P 8 h (partR.sl b l) = _
  rw [e0, reify_slice]
  by_cases h0 : l.length = 0
  · have : l = [] := List.eq_nil_of_length_eq_zero h0
    subst this; rfl
  · rw [if_neg h0, hob]
    unfold Rec.row
    rw [parts_flat]
    have hl : (partV l).length = l.length := List.length_map _
    show reifyS E.P 7 h (some (.cells 22 (partV l) 1)) _ _ = _
    rw [reifyS_cells, sRs, Option.bind_some, if_pos ⟨by simp [stampOk, hl], Nat.one_pos, by simp [hl]⟩]
    have e : ((partV l).drop 0).take (l.length * 1) = partV l := by rw [List.drop_zero, Nat.mul_one, List.take_of_length_le (by omega)]
    rw [e, reifyC_set hs, Option.bind_some, ← hl, elems_one aRs sRs]; rfl
theorem app_part {h : Heap} {b lo : Nat} {c : List (List Rect)} (m : List Rect) (hob : h[b]? = some (partR.row 22 c)) (hlo : lo ≤ b) (hc : c.length ≤ 1000000) :
    appendT (some ⟨22, 1, 24, .slice none 0 0, ⟨some false, some 1⟩⟩) h lo false (partR.sl b c) (lst true [lst false (rectR.vals m)]) = some (partR.sl b (c ++ [m]), h.set b (partR.row 22 (c ++ [m]))) :=
  Rec.app (R := partR) (m := [m]) rfl hob (cells_lst (by rfl)) hlo (by show (c.length + 1) * 24 ≤ 2 ^ 47; omega)

/-! ### The list is copied -/
theorem eq_nil : ∀ (x : Bool) (v : Value) (l : List Value), aBin E.P .eql 22 (lst x (v :: l)) (.slice none 0 0) = some (.bool false)
  | true, v, l => by kernel_rfl
  | false, v, l => by kernel_rfl
theorem app_copy {h : Heap} {lo : Nat} (x : Bool) {a : List Rect} (h0 : a ≠ []) (hl : a.length ≤ 1000000) :
    appendT (some ⟨32, 4, 32, .agg ⟨[.int .i64 0, .int .i64 0, .int .i64 0, .int .i64 0]⟩, ⟨some true, some 4⟩⟩) h lo false (lst true []) (lst x (rectR.vals a)) = some (rectR.sl h.length a, h ++ [rectR.row 32 a]) := by
  have hn : a.length ≠ 0 := fun e => h0 (List.eq_nil_of_length_eq_zero e)
  have hc : sliceCells h 4 (lst x (rectR.vals a)) = some (rectR.flat a, a.length) := Rec.cells_tree (R := rectR) rfl a
  unfold appendT
  simp only [Option.bind_some, hc]
  show (if a.length = 0 then _ else _) = _
  rw [if_neg hn, if_pos ⟨rfl, rfl, by show (0 + a.length) * 32 ≤ 2 ^ 47; omega⟩]
  have hf := Rec.flat_len (R := rectR) (l := a)
  have hm : rectR.m + 1 = 4 := rfl
  unfold Rec.sl Rec.row
  rw [hm] at *
  simp [hf]
  rfl
theorem clone_row (x : Bool) (a : List Rect) (h : Heap) (lo : Nat) (h0 : a ≠ []) (hl : a.length ≤ 1000000) : retCall E (L E) lo false 19 [rectR.o (some x) a] h = some (rectR.sl h.length a, h ++ [rectR.row 32 a]) := by
  have key : L E 19 [rectR.o (some x) a] h lo = some (rectR.sl h.length a, h ++ [rectR.row 32 a]) := by
    have e1 : aBin E.P .eql 22 (lst x (rectR.vals a)) (.slice none 0 0) = some (.bool false) := by
      cases a with
      | nil => exact absurd rfl h0
      | cons r l => exact eq_nil x _ _
    have e2 := fun h => app_copy (h := h) (lo := lo) x h0 hl
    have e3 : ∀ h, buildSliceT (some ⟨32, 4, 32, .agg ⟨[.int .i64 0, .int .i64 0, .int .i64 0, .int .i64 0]⟩, ⟨some true, some 4⟩⟩) false h 0 #[] = some (lst true [], h) := fun h => rfl
    rw [L_fn F19 rfl]
    simp -implicitDefEqProofs [r19, padS, Rec.o, e1, e2, e3]
  rw [ret3 m19]
  show ((L E 19 [rectR.o (some x) a] h lo).map _) = _
  rw [key]
  show some (_, trim _ _ _) = _
  rw [trim_no]
  have hn : ¬ (h.length < h.length) := Nat.lt_irrefl _
  exact decide_eq_false hn
theorem trim_no2 {n : Nat} {vs : List Value} {h : Heap} (h2 : vs.all (below 8 n) = false) : trim n vs h = h := by
  unfold trim depth
  split
  · rfl
  · rw [h2]; rfl
/-- Blocks 0 and 1 stay when the rest is cut off, if somebody holds block 1. -/
theorem trim_two {n : Nat} {vs : List Value} {h : Heap} {A B : AObj} (ha : h[0]? = some A) (hb : h[1]? = some B) (hbel : ∀ m, h.length ≤ m → h.all (belowO m) = true) (hv : ∀ m, m ≤ 1 → vs.all (below 8 m) = false) :
    (trim n vs h)[0]? = some A ∧ (trim n vs h)[1]? = some B ∧ ∀ m, (trim n vs h).length ≤ m → (trim n vs h).all (belowO m) = true := by
  by_cases hn : n ≤ 1
  · rw [trim_no2 (hv n hn)]; exact ⟨ha, hb, hbel⟩
  · unfold trim
    split
    · exact ⟨ha, hb, hbel⟩
    split
    · rename_i hl hc
      rw [Bool.and_eq_true] at hc
      refine ⟨by rw [List.getElem?_take_of_lt (by omega)]; exact ha, by rw [List.getElem?_take_of_lt (by omega)]; exact hb, fun m hm => List.all_eq_true.2 fun o ho => belO_mono (by rw [List.length_take] at hm; omega) (List.all_eq_true.1 hc.2 o ho)⟩
    · exact ⟨ha, hb, hbel⟩
theorem St.next {bo : Nat} {O : AObj} {h : Heap} {bl bc bi i : Nat} {C part : List Rect} (hS : St bo O h bl bc bi C part i) : St bo O (h ++ [cellV 3 (.int .i64 ((i + 1 : Nat) : Int))]) bl bc h.length C part (i + 1) := by
  obtain ⟨h1, h2, ⟨pv, h3, h4⟩, ⟨n1, n2, n3⟩, hb, o1, o2, o3, o4⟩ := hS
  have q1 := lt_of_get h1
  have q3 := lt_of_get h3
  have q4 := lt_of_get o1
  refine ⟨get_app h1, end0, ⟨pv, get_app h3, ?_⟩, ⟨n1, by omega, by omega⟩, fun n hn => ?_, get_app o1, o2, o3, by omega⟩
  · rcases h4 with rfl | ⟨bp, rfl, hbp, q, q', _, q''⟩
    · exact .inl rfl
    · have := lt_of_get hbp
      exact .inr ⟨bp, rfl, get_app hbp, q, q', by omega, q''⟩
  · rw [List.length_append, List.length_singleton] at hn
    rw [List.all_append, hb n (by omega)]; rfl
/-- The part is given up for a list. -/
theorem freeze_cell {h : Heap} {bc : Nat} {pv : Value} (h3 : h[bc]? = some (cellV 22 pv)) :
    (settled 8 pv = true → freezeV E.P depth 0 h (ptr bc) = some (cptr pv, h.set bc .dead)) ∧
    ∀ u g, freezeV E.P 7 0 (h.set bc .dead) pv = some (u, g) → settled 8 pv = false → freezeV E.P depth 0 h (ptr bc) = some (cptr u, g) := by
  constructor
  · intro hs
    show (match h[bc]? with
      | some (.cells t c 0) => _
      | _ => none) = _
    rw [h3]
    show (if _ then _ else _) = _
    rw [if_pos ⟨Nat.zero_le _, rfl, rfl, sRs⟩]
    show Option.bind (if [pv].all (settled 8) = true then _ else _) _ = _
    have e : [pv].all (settled 8) = true := by rw [List.all_cons, hs]; rfl
    rw [e, aRs, if_pos rfl]; rfl
  · intro u g hf hs
    show (match h[bc]? with
      | some (.cells t c 0) => _
      | _ => none) = _
    rw [h3]
    show (if _ then _ else _) = _
    rw [if_pos ⟨Nat.zero_le _, rfl, rfl, sRs⟩]
    show Option.bind (if [pv].all (settled 8) = true then _ else _) _ = _
    have e : [pv].all (settled 8) = false := by rw [List.all_cons, hs]; rfl
    rw [e, aRs, if_neg Bool.false_ne_true]
    show Option.bind (Option.bind (Option.map _ (freezeV E.P 7 0 (h.set bc .dead) pv)) _) _ = _
    rw [hf]; rfl
theorem part_freeze {bo : Nat} {O : AObj} {h : Heap} {bl bc bi i : Nat} {C part : List Rect} (hS : St bo O h bl bc bi C part i) (hbo : bo = 1) (hbl : bl = 0) : ∃ y g, freezeV E.P depth 0 h (ptr bc) = some (cptr (lst y (rectR.vals part)), g) ∧ g[0]? = h[0]? ∧ g[1]? = h[1]? ∧ (∀ n, g.length ≤ n → g.all (belowO n) = true) := by
  obtain ⟨h1, h2, ⟨pv, h3, h4⟩, ⟨n1, n2, n3⟩, hb, o1, o2, o3, o4⟩ := hS
  subst hbo; subst hbl
  obtain ⟨key1, key2⟩ := freeze_cell h3
  have hd : ∀ n, (h.set bc .dead).length ≤ n → (h.set bc .dead).all (belowO n) = true := fun n hn => all_set (hb n (by rw [List.length_set] at hn; exact hn)) rfl
  rcases h4 with rfl | ⟨bp, rfl, hbp, q1, q2, q3, q4⟩
  · exact ⟨true, _, key1 rfl, List.getElem?_set_ne (Ne.symm n1), List.getElem?_set_ne (Ne.symm o3), hd⟩
  · have hf : freezeV E.P 7 0 (h.set bc .dead) (rectR.sl bp part) = some (lst false (rectR.vals part), if part.length = 0 then h.set bc .dead else (h.set bc .dead).set bp .dead) :=
      frz_agg1 (n := 6) (l := rectR.vals part) (s := rectR.m + 1) (get_set hbp q2) sR4 aR4 (Nat.zero_le _) (Rec.vals_flat part).symm Rec.flat_len.symm Rec.vals_len.symm (Nat.succ_pos _) (Rec.vals_agg part) (Rec.flat_set part)
    refine ⟨false, _, key2 _ _ hf rfl, ?_⟩
    by_cases h0 : part.length = 0
    · rw [if_pos h0]
      exact ⟨List.getElem?_set_ne (Ne.symm n1), List.getElem?_set_ne (Ne.symm o3), hd⟩
    · rw [if_neg h0]
      exact ⟨(List.getElem?_set_ne q1).trans (List.getElem?_set_ne (Ne.symm n1)), (List.getElem?_set_ne q4).trans (List.getElem?_set_ne (Ne.symm o3)), fun n hn => all_set (hd n (by rw [List.length_set] at hn; exact hn)) rfl⟩
/-- What is written of strips that stand in the heap, and what stays. -/
theorem write_row2 {h : Heap} {b lo : Nat} (T : List Slab) (hob : h[b]? = some (slabR.row 54 T)) (hlo : lo ≤ b) (hT : T.length ≤ 10000) (hc : ∀ s ∈ T, s.col.length ≤ 10000) :
    ∃ h', retCall E (L E) lo false 17 [slabR.sl b T] h = some (lst false (rectR.vals (outT (runsF T))), h') ∧ (∀ j, j ≠ b → h'[j]? = h[j]?) ∧ h'.length = h.length ∧ (∀ n, h.all (belowO n) = true → h'.all (belowO n) = true) := by
  obtain ⟨g, f1, l1, n1, u1⟩ := freeze_slab (b := b) (lo := lo) T hob hlo
  refine ⟨g, ?_, n1, l1, u1⟩
  rw [ret4 m17, frzAll_row f1]
  show ((pureCall E.P (L E) 17 [lst false (slabR.vals T)]).map _) = _
  rw [write_spec T hT hc]
  rfl
structure IS where
  off : Nat
  len : Nat
  cap : Nat
  part : List Rect
  i : Nat
  bi : Nat
  h : Heap
structure II (a : List Rect) (O : AObj) (b5 : Nat) (T : List Rect × List Rect) (s : IS) (D : List Rect) : Prop where
  n : D.length = a.length
  oc : s.off + s.cap ≤ a.length
  lc : s.len ≤ s.cap
  st : St 1 O s.h 0 b5 s.bi D s.part s.i
  ip : s.i ≤ s.part.length
  pl : s.part.length + s.len ≤ a.length
  okp : ∀ r ∈ s.part, okR r = true
  okw : ∀ r ∈ winL D s.off s.len, okR r = true
  eq : absorb (a.length + 1) s.i s.part (winL D s.off s.len) = T
theorem win_mem {C : List Rect} {off m k : Nat} (hk : k < m) (h : off + k < C.length) : C[off + k] ∈ winL C off m := by
  unfold winL
  have hl : k < ((C.drop off).take m).length := by rw [List.length_take, List.length_drop]; omega
  have e : ((C.drop off).take m)[k] = C[off + k] := by rw [List.getElem_take, List.getElem_drop]
  rw [← e]
  exact List.getElem_mem hl
theorem absorb_at {n i : Nat} {part left : List Rect} (h : i < part.length) (hp : part.length + left.length ≤ n) : absorb (n + 1) i part left = absorb (n + 1) (i + 1) (part ++ left.filter (touchB part[i])) (left.filter fun s => !touchB part[i] s) := by
  have e : absorb (n + 1) i part left = absorb n (i + 1) (part ++ left.filter (touchB part[i])) (left.filter fun s => !touchB part[i] s) := by
    unfold absorb
    rw [List.getElem?_eq_getElem h]
    cases n <;> rfl
  rw [e]
  have := Rg.filter_both (touchB part[i]) left
  exact (Rg.absorb_more n (n + 1) (i + 1) _ _ (by rw [List.length_append]; omega) (by omega)).symm
theorem absorb_stop {n i : Nat} {part left : List Rect} (h : part.length ≤ i) : absorb (n + 1) i part left = (part, left) := by
  unfold absorb
  rw [List.getElem?_eq_none h]
theorem eq_loop {β : Type} {g : CRes → β} {x : CRes} {w : β} (h : ∃ r, x = some r ∧ g (some r) = w) : g x = w := by
  obtain ⟨r, rfl, h⟩ := h
  exact h
theorem ex_go {g : CRes → CRes} {x : CRes} {P : Exit × Slots × Heap → Prop} (h : ∃ r, x = some r ∧ ∃ v, g (some r) = some v ∧ P v) : ∃ v, g x = some v ∧ P v := by
  obtain ⟨r, rfl, hq⟩ := h
  exact hq
/-- Where the parts stand while they are gathered. -/
structure OS where
  off : Nat
  len : Nat
  cap : Nat
  done : List (List Rect)
  first : Bool
  h : Heap
structure OI (a : List Rect) (s : OS) (D : List Rect) : Prop where
  n : D.length = a.length
  oc : s.off + s.cap ≤ a.length
  lc : s.len ≤ s.cap
  row : s.h[0]? = some (rectR.row 32 D)
  fst : s.first = true → s.h.length = 1 ∧ s.done = []
  out : s.first = false → s.h[1]? = some (partR.row 22 (s.done.map ofL))
  bel : ∀ n, s.h.length ≤ n → s.h.all (belowO n) = true
  ok : ∀ r ∈ winL D s.off s.len, okR r = true
  eq : partsL a = s.done ++ partsF s.len (winL D s.off s.len)
  dl : s.done.length + s.len ≤ a.length
def outS (first : Bool) (done : List (List Rect)) : Value := if first then .slice none 0 0 else partR.sl 1 (done.map ofL)
theorem newK_out {P : Program} {h : Heap} {σ : Slots} {s b : Nat} {t : TypeId} {l : List (List Rect)} : newK P h σ s t (partR.sl b l) = some (σ, h) := rfl
set_option maxHeartbeats 4000000 in
theorem parts_spec (k : Option Bool) (a : List Rect) (hk : Rec.Ok k a) (h0 : a ≠ []) (ha : a.length ≤ 1000000) : pureCall E.P (L E) 7 [rectR.o k a] = some (if regB a then lst false (partV ((partsL a).map ofL)) else .slice none 0 0) := by
  have hR := right2_spec k a hk ha
  have rf : ∀ h, reify E.P 8 h (rectR.o k a) = some (rectR.o k a) := fun h => Rec.o_reify
  rw [pureCall_fn F7 rfl]
  cases hr : regB a
  · rw [hr] at hR
    simp -implicitDefEqProofs [r7, p7, ret0 m8, rf, hR]
  rw [hr] at hR
  have hcl := fun x => clone_row x a [] 0 h0 ha
  cases k with
  | none => exact absurd (hk rfl) h0
  | some x =>
    have hcl := hcl x
    have e1 : rectR.sl 0 a = lsl 0 0 a.length a.length a.length := by unfold Rec.sl lsl; rfl
    obtain ⟨hall, hlen, _⟩ := regB_iff.1 hr
    have hw0 : winL a 0 a.length = a := by unfold winL; rw [List.drop_zero, List.take_length]
    simp -implicitDefEqProofs [r7, p7, ret0 m8, rf, hR, hcl, e1]
    refine eq_loop (g := fun x => Option.bind (retK [.tmp 2] (seqC _ _ _ _ (blkK _ x) _)) _) (LL_ex (α := OS) ⟨0, a.length, a.length, [], true, [rectR.row 32 a]⟩ (fun s => [(3, lsl 0 s.off s.len s.cap a.length), (4, outS s.first s.done)]) (fun s => s.h) _ (fun s => ∃ D, OI a s D) (fun s => s.len)
      ⟨a, rfl, by simp, Nat.le_refl _, rfl, fun _ => ⟨rfl, rfl⟩, fun h => absurd h (by show ¬ true = false; decide), fun n _ => by show (belowO n _ && true) = true; rw [Rec.row_bel]; rfl, by rw [hw0]; exact List.all_eq_true.1 hall, by rw [hw0]; rfl, by simp⟩ ?_ rfl ?_)
    · simp -implicitDefEqProofs [k7_5, outS]
    · intro nx s hs ih
      obtain ⟨D, hI⟩ := hs
      obtain ⟨off, len, cap, done, first, h⟩ := s
      obtain ⟨i1, i2, i3, i4, i5, i6, i7, i8, i9, i10⟩ := hI
      simp only at i1 i2 i3 i4 i5 i6 i7 i8 i9 i10 ih ⊢
      by_cases hl : 0 < len
      · have hlen' : (0 : Int) < (len : Int) := by omega
        have hoff : off < D.length := by omega
        have xl : indexAddrT (.sl 32 ⟨some true, some 4⟩) (lsl 0 off len cap a.length) (.int .i64 0) = some (rectR.at_ 0 D off 0) := by
          have := lsl_index (bl := 0) (off := off) (len := len) (cap := cap) (j := 0) (C := D) hl
          rw [i1] at this
          exact this
        obtain ⟨h2, hh2, hl2, hr2, ho2, hb2, hs2⟩ : ∃ h2 : Heap, (if first then h ++ [.cells 22 [] 1] else h) = h2 ∧ 2 ≤ h2.length ∧ h2[0]? = some (rectR.row 32 D) ∧ h2[1]? = some (partR.row 22 (done.map ofL)) ∧ (∀ n, h2.length ≤ n → h2.all (belowO n) = true) ∧ h.length ≤ h2.length := by
          refine ⟨_, rfl, ?_⟩
          cases first
          · have o1 := i6 rfl
            have := lt_of_get o1
            rw [if_neg Bool.false_ne_true]
            exact ⟨by omega, i4, o1, i7, Nat.le_refl _⟩
          · obtain ⟨i5a, i5b⟩ := i5 rfl
            subst i5b
            rw [if_pos rfl]
            refine ⟨by rw [List.length_append, i5a]; exact Nat.le_refl _, get_app i4, ?_, fun n hn => ?_, by rw [List.length_append]; omega⟩
            · rw [List.getElem?_append_right (by omega), i5a]; rfl
            · rw [List.length_append, List.length_singleton] at hn
              rw [List.all_append, i7 n (by omega)]; rfl
        have ld := Rec.load_row (R := rectR) (n := 4) (b := 0) (l := D) (i := off) rfl hr2 hoff
        rw [rect_val] at ld
        have lf : ∀ h : Heap, h[0]? = some (rectR.row 32 D) → sliceT (.sl 32 ⟨some true, some 4⟩) h (lsl 0 off len cap a.length) (some (.int .i64 1)) none none = some (lsl 0 (off + 1) (len - 1) (cap - 1) a.length) := fun h hh => lsl_from (g := some true) (bl := 0) (off := off) (len := len) (cap := cap) (q := 1) hh i1 (by omega)
        have st5 : ∀ v, cellsOf v = some [v] → storeT (some 1) (h2 ++ [.cells 22 [.slice none 0 0] 0]) 0 v (.pointer (some ⟨h2.length, 0, none⟩)) = some (h2 ++ [cellV 22 v]) := fun v hv => by
          have := cell_store (h := h2 ++ [cellV 22 (.slice none 0 0)]) (b := h2.length) (lo := 0) (t := 22) (u := .slice none 0 0) (v := v) end0 (Nat.zero_le _) hv
          rw [set0] at this
          exact this
        have st6 : ∀ p : AObj, storeT (some 1) (h2 ++ [p, .cells 3 [.int .i64 0] 0]) 0 (.int .i64 0) (.pointer (some ⟨h2.length + 1, 0, none⟩)) = some (h2 ++ [p, cellV 3 (.int .i64 0)]) := fun p => by
          have := cell_store (h := h2 ++ [p, cellV 3 (.int .i64 0)]) (b := h2.length + 1) (lo := 0) (t := 3) (u := .int .i64 0) (v := .int .i64 0) end2 (Nat.zero_le _) rfl
          rw [set2] at this
          exact this
        have lfs := fun q => lf (h2 ++ [q]) (get_app hr2)
        obtain ⟨nh, hnh⟩ : ∃ nh, nh = h.length := ⟨_, rfl⟩
        cases hf : first
        case' false =>
          rw [hf, if_neg Bool.false_ne_true] at hh2
          obtain rfl : h2 = h := hh2.symm
          simp -implicitDefEqProofs [r7_5, k7_5, outS, lsl_len, prep_new, newK_out, hl, hlen', xl, ld, rect_val, lit_rect, lfs, st5, st6, -Prod.exists]
        case' true =>
          rw [hf, if_pos rfl] at hh2
          have e3 : Value.slice (some ⟨h.length, 0, some 0⟩) 0 0 = partR.sl 1 (List.map ofL done) := by
            rw [(i5 hf).1, (i5 hf).2]; rfl
          simp -implicitDefEqProofs [r7_5, k7_5, outS, lsl_len, prep_new, newK_nil sRs, hl, hlen', xl, hh2, ld, rect_val, lit_rect, lfs, st5, st6, e3, -Prod.exists]
        all_goals
          have hwin : winL D off len = D[off] :: winL D (off + 1) (len - 1) := by
            unfold winL
            rw [List.drop_eq_getElem_cons hoff]
            obtain ⟨m, rfl⟩ : ∃ m, len = m + 1 := ⟨len - 1, by omega⟩
            rfl
          have hb5 : ∀ (v w : AObj), (∀ n, belowO n v = true) → (∀ n, belowO n w = true) → ∀ n, (h2 ++ [v, w]).length ≤ n → (h2 ++ [v, w]).all (belowO n) = true := fun v w hv hw n hn => by
            rw [List.length_append] at hn
            have hn : h2.length + 2 ≤ n := hn
            rw [List.all_append, hb2 n (by omega)]
            show (belowO n v && (belowO n w && true)) = true
            rw [hv, hw]; rfl
          have f1 : 0 ≠ h2.length := by omega
          have f2 : 0 ≠ h2.length + 1 := by omega
          have f3 : h2.length ≠ h2.length + 1 := by omega
          have f5 : 1 ≠ h2.length := by omega
          have f6 : 1 ≠ h2.length + 1 := by omega
          refine ex_go (g := fun x => lopK _ _ _ _ (blkK _ (seqC _ _ _ _ (blkK _ x) _))) (LL_ex (α := IS) ⟨off + 1, len - 1, cap - 1, [D[off]], 0, h2.length + 1, h2 ++ [cellV 22 (lst true (rectR.vals [D[off]])), cellV 3 (.int .i64 0)]⟩ (fun s => [(3, lsl 0 s.off s.len s.cap a.length), (6, ptr s.bi)]) (fun s => s.h) _
            (fun s => ∃ D', II a (partR.row 22 (done.map ofL)) h2.length (absorb (a.length + 1) 0 [D[off]] (winL D (off + 1) (len - 1))) s D') (fun s => a.length + 1 - s.i)
            ⟨D, i1, by show off + 1 + (cap - 1) ≤ _; omega, by show len - 1 ≤ cap - 1; omega, ⟨by rw [List.getElem?_append_left (by omega)]; exact hr2, end2, ⟨_, end1, .inl rfl⟩, ⟨f1, f2, f3⟩, hb5 _ _ (fun _ => rfl) (fun _ => rfl), by rw [List.getElem?_append_left (by omega)]; exact ho2, Nat.one_ne_zero, f5, f6⟩, Nat.zero_le _, by show 1 + (len - 1) ≤ _; omega, fun r hr => by
              rw [List.mem_singleton] at hr; subst hr; exact i8 _ (by rw [hwin]; exact List.mem_cons_self ..), fun r hr => i8 r (by rw [hwin]; exact List.mem_cons_of_mem _ hr), rfl⟩ ?_ rfl ?_)
          · simp -implicitDefEqProofs [k7_9, ptr]
          · intro nx2 t ht ih2
            obtain ⟨D2, hI⟩ := ht
            obtain ⟨off2, len2, cap2, part, i, bi, h3⟩ := t
            obtain ⟨j1, j2, j3, j4, j5, j6, j7, j8, j9⟩ := hI
            simp only at j1 j2 j3 j4 j5 j6 j7 j8 j9 ih2 ⊢
            have hic := cell_load (sz := some 1) j4.icell
            obtain ⟨pv, hpv, hpv2⟩ := j4.part
            have hpl := cell_load (sz := some 1) hpv
            have lpv : lenT .sl h3 pv = some (.int .i64 part.length) := by
              rcases hpv2 with rfl | ⟨bp, rfl, _⟩
              · exact Rec.tree_len
              · exact Rec.sl_len
            by_cases hlt : i < part.length
            · have hlt' : (i : Int) < (part.length : Int) := by omega
              obtain ⟨⟨rv, h4⟩, hdl, hdel, hlen⟩ := delete j4 hlt (by omega) j3 (by omega) (j7 _ (List.getElem_mem hlt)) (fun k hk hk2 => j8 _ (win_mem hk hk2))
              obtain ⟨D3, d1, d2, d3, d4⟩ := hdel
              simp only at d1 d2 d3 d4 hlen
              subst d2
              rw [j1] at hdl d1
              have hfb := Rg.filter_both (touchB part[i]) (winL D2 off2 len2)
              have hwl := win_len (C := D2) (off := off2) (m := len2) (by omega)
              have ek : keepL part[i] D2 off2 len2 = (winL D2 off2 len2).filter fun s => !touchB part[i] s := rfl
              have et : takeL part[i] D2 off2 len2 = (winL D2 off2 len2).filter (touchB part[i]) := rfl
              have hkl := keep_len (p := part[i]) (C := D2) (off := off2) (m := len2) (by omega)
              have a1 := fun q => cell_load (sz := some 1) (get_app (q := q) d4.icell)
              have a0 := cell_load (sz := some 1) d4.icell
              have sE : ∀ u v, storeT (some 1) (h4 ++ [cellV 3 u]) 0 (.int .i64 v) (ptr h4.length) = some (h4 ++ [cellV 3 (.int .i64 v)]) := fun u v => by
                have := cell_store (h := h4 ++ [cellV 3 u]) (b := h4.length) (lo := 0) (t := 3) (u := u) (v := .int .i64 v) end0 (Nat.zero_le _) rfl
                rw [set0] at this
                exact this
              have lE : ∀ v, loadT ⟨some false, some 1⟩ (h4 ++ [cellV 3 v]) (ptr h4.length) = some v := fun v => cell_load (sz := some 1) end0
              have wi : IntKind.i64.wrap ((i : Int) + 1) = ((i + 1 : Nat) : Int) := (wrap64 (by omega) (by omega)).trans (by omega)
              have hnb : ¬ (h4.length < h3.length) := by omega
              have ih2 := ih2 ⟨off2, (keepL part[i] D2 off2 len2).length, cap2, part ++ takeL part[i] D2 off2 len2, i + 1, h4.length, h4 ++ [cellV 3 (.int .i64 ((i + 1 : Nat) : Int))]⟩ (by show a.length + 1 - (i + 1) < a.length + 1 - i; omega)
                ⟨D3, d1, j2, by show (keepL _ _ _ _).length ≤ cap2; omega, d4.next, by show i + 1 ≤ (part ++ takeL _ _ _ _).length; rw [List.length_append]; omega, by
                  show (part ++ takeL _ _ _ _).length + (keepL _ _ _ _).length ≤ _
                  rw [List.length_append, ek, et]; omega, fun q hq => by
                  rcases List.mem_append.1 hq with hq | hq
                  · exact j7 q hq
                  · exact j8 q (List.mem_filter.1 hq).1, fun q hq => by
                  have hq : q ∈ winL D3 off2 (keepL part[i] D2 off2 len2).length := hq
                  rw [d3] at hq
                  exact j8 q (List.mem_filter.1 hq).1, by
                  show absorb (a.length + 1) (i + 1) (part ++ takeL part[i] D2 off2 len2) (winL D3 off2 (keepL part[i] D2 off2 len2).length) = _
                  rw [d3, ek, et, ← absorb_at hlt (by omega), j9]⟩
              have ecell : ∀ v, AObj.cells 3 [v] 0 = cellV 3 v := fun _ => rfl
              unfold ptr at hic hpl a0 a1 sE lE
              unfold clo ptr at hdl
              simp -implicitDefEqProofs [k7_9, ptr, -Prod.exists, -Int.natCast_add] at ih2
              simp -implicitDefEqProofs [r7_9, k7_9, ptr, hic, hpl, lpv, hlt, hlt', ret2 m20, hdl, ecell, a0, a1, sE, lE, wi, trim_no2, hnb, -Prod.exists, -Int.natCast_add]
              exact ih2
            · have hge : ¬ ((i : Int) < (part.length : Int)) := by omega
              obtain ⟨y, g, g1, g2, g3, g4⟩ := part_freeze j4 rfl rfl
              obtain ⟨q1, e1⟩ := strips_one (some y) part Rec.ok_some (by omega) g 0 (Nat.zero_le _) g4
              obtain ⟨h', hw, w1, w2, w3⟩ := write_row2 (h := g ++ [intR.row 3 q1, slabR.row 54 (stripsL part)]) (b := g.length + 1) (lo := 0) (stripsL part) end2 (Nat.zero_le _) (by have := strips_len part; omega) (fun s hs => by have := strips_col part s hs; omega)
              have e : outT (runsF (stripsL part)) = ofL part := rfl
              rw [e] at hw
              unfold ptr at hic hpl g1
              simp -implicitDefEqProofs [r7_9, k7_9, k7_5, r7_5, ptr, hic, hpl, lpv, hlt, hge, -Prod.exists, -Int.natCast_add]
              have l3 := lt_of_get j4.oth.1
              have l0 : 2 ≤ g.length := by
                have : g[1]? = h3[1]? := g3
                rw [j4.oth.1] at this
                have := lt_of_get this
                omega
              have ob : h'[1]? = some (partR.row 22 (done.map ofL)) := by
                rw [w1 1 (by omega), List.getElem?_append_left (by omega), g3]; exact j4.oth.1
              have ol : h'[0]? = some (rectR.row 32 D2) := by
                rw [w1 0 (by omega), List.getElem?_append_left (by omega), g2]; exact j4.left
              have ap := app_part (h := h') (b := 1) (lo := 0) (c := done.map ofL) (ofL part) ob (Nat.zero_le _) (by rw [List.length_map]; omega)
              have li := fun (z : Bool) (l : List Rect) (h : Heap) => lit_list1 (h := h) (k := some z) (l := l)
              unfold Rec.o at e1 li
              simp only at e1 li
              simp -implicitDefEqProofs [r7_5, k7_5, prep_frz, trim_le, g1, li, e1, hw, ap, -Prod.exists, -Int.natCast_add]
              have hW : (winL D (off + 1) (len - 1)).length = len - 1 := win_len (by omega)
              have hT : absorb (len - 1 + 2) 0 [D[off]] (winL D (off + 1) (len - 1)) = (part, winL D2 off2 len2) := by
                rw [← Rg.absorb_more (len - 1 + 2) (a.length + 1) 0 _ _ (by rw [hW, List.length_singleton]; omega) (by omega), ← j9]
                exact absorb_stop (by omega)
              have hTl := Rg.absorb_len (len - 1 + 2) 0 [D[off]] (winL D (off + 1) (len - 1))
              obtain ⟨tt, hTp⟩ := Rg.absorb_part (len - 1 + 2) 0 [D[off]] (winL D (off + 1) (len - 1))
              rw [hT] at hTl hTp
              have hW2 : (winL D2 off2 len2).length = len2 := win_len (by omega)
              rw [hW, hW2, List.length_singleton] at hTl
              have hp1 : 1 ≤ part.length := by
                have hTp : part = [D[off]] ++ tt := hTp
                rw [hTp, List.length_append, List.length_singleton]; omega
              obtain ⟨m, rfl⟩ : ∃ m, len = m + 1 := ⟨len - 1, by omega⟩
              have hl2 : len2 ≤ m := by
                have hTl : part.length + len2 = 1 + (m + 1 - 1) := hTl
                omega
              have heq : partsL a = (done ++ [part]) ++ partsF len2 (winL D2 off2 len2) := by
                rw [i9, hwin]
                show done ++ (absorb ((winL D (off + 1) (m + 1 - 1)).length + 2) 0 [D[off]] (winL D (off + 1) (m + 1 - 1))).1 :: partsF m (absorb ((winL D (off + 1) (m + 1 - 1)).length + 2) 0 [D[off]] (winL D (off + 1) (m + 1 - 1))).2 = _
                rw [hW, hT, List.append_assoc, ← Rg.partsF_more len2 m _ (by omega) hl2]; rfl
              have hal : (h'.set 1 (partR.row 22 ((done.map ofL) ++ [ofL part]))).length = g.length + 2 := by
                rw [List.length_set, w2, List.length_append]; rfl
              have tr := trim_two (n := nh) (vs := blk (rectR.o (some x) a) undef (.slice none 0 0) (lsl 0 off2 len2 cap2 a.length) (partR.sl 1 (List.map ofL done ++ [ofL part])) undef undef (rectR.o (some x) a) (.bool true) (.bool false) (rectR.o (some x) a) (lsl 0 0 a.length a.length a.length) undef undef undef undef (blk undef undef undef undef undef undef undef undef undef undef undef undef undef undef undef undef [undef, undef, undef, undef, undef, undef, undef]))
                (get_set ol Nat.zero_ne_one) (get_setE (q := partR.row 22 ((done.map ofL) ++ [ofL part])) (lt_of_get ob)) (fun n hn => by
                  rw [hal] at hn
                  refine all_set (w3 n ?_) (Rec.row_bel _)
                  rw [List.all_append, g4 n (by omega)]
                  show (belowO n (intR.row 3 q1) && (belowO n (slabR.row 54 (stripsL part)) && true)) = true
                  rw [Rec.row_bel, Rec.row_bel]; rfl) (fun m hm => by
                  refine List.all_eq_false.2 ⟨partR.sl 1 (List.map ofL done ++ [ofL part]), by simp [blk], ?_⟩
                  show ¬ (decide (1 < m)) = true
                  rw [decide_eq_true_eq]; omega)
              have emap : List.map ofL done ++ [ofL part] = List.map ofL (done ++ [part]) := by rw [List.map_append]; rfl
              rw [← hnh, emap]
              rw [emap] at tr
              revert tr
              generalize trim nh _ _ = H
              intro tr
              have ih := ih ⟨off2, len2, cap2, done ++ [part], false, H⟩ (by show len2 < m + 1; omega) ⟨D2, j1, j2, j3, tr.1, fun h => absurd h Bool.false_ne_true, fun _ => tr.2.1, tr.2.2, j8, heq, by show (done ++ [part]).length + len2 ≤ _; rw [List.length_append, List.length_singleton]; omega⟩
              simp -implicitDefEqProofs [k7_5, outS, -List.map_append, -Prod.exists] at ih
              exact ih
      · have hl0 : len = 0 := by omega
        subst hl0
        have e2 : partsL a = done := by rw [i9]; show done ++ partsF 0 _ = done; exact List.append_nil _
        cases first
        · have o1 := i6 rfl
          have rr := part_reifyR o1
          simp -implicitDefEqProofs [r7_5, k7_5, outS, lsl_len, prep_new, newK_out, trim_le, e2, rr]
        · obtain ⟨i5a, i5b⟩ := i5 rfl
          subst i5b
          simp -implicitDefEqProofs [r7_5, k7_5, outS, lsl_len, prep_new, newK_nil sRs, trim_le, e2]
          rfl
end Go.Proofs.Yteaoeebakmdcnaa.Bm

namespace Go.Proofs.Yteaoeebakmdcnaa.Rg

/-- A rectangle moved. -/
def shR (dx dy : Int) (r : Rect) : Rect := ⟨r.x0 + dx, r.y0 + dy, r.x1 + dx, r.y1 + dy⟩
/-! ### Bounds -/
def bj (b r : Rect) : Rect := ⟨min b.x0 r.x0, min b.y0 r.y0, max b.x1 r.x1, max b.y1 r.y1⟩
def bndL : List Rect → Rect
  | [] => ⟨0, 0, 0, 0⟩
  | r :: l => l.foldl bj r
end Go.Proofs.Yteaoeebakmdcnaa.Rg

namespace Go.Proofs.Yteaoeebakmdcnaa.Bm
open Go Go.RowKit

section
variable {P : Program} {t : TypeId}
end

end Go.Proofs.Yteaoeebakmdcnaa.Bm

namespace Go.Proofs.Yteaoeebakmdcnaa.Bm
open Go Go.RowKit
open Rg (Rect shR bj bndL)

/-! ### Bounds -/
end Go.Proofs.Yteaoeebakmdcnaa.Bm

namespace Go.Proofs.Yteaoeebakmdcnaa.Bm
open Go Go.RowKit
open Rg (Rect areaL cell opL ofL norm Det cell_det shR bndL partsL)

/-! ### Plain: what the operations answer -/
theorem box_mono {l : List Rect} {n m : Int} (h : ∀ r ∈ l, r.inBox n) (hm : n ≤ m) : ∀ r ∈ l, r.inBox m := fun r hr => by
  have := h r hr
  unfold Rect.inBox at this ⊢
  omega
theorem box_ok {l : List Rect} {n : Int} (h : ∀ r ∈ l, r.inBox n) (hn : n ≤ 1048576) : l.all okR = true := List.all_eq_true.2 fun r hr => okR_iff.2 (box_mono h hn r hr)
/-- Lists whose cells are known are regions if they are short. -/
structure Reg (l : List Rect) (S : Int → Int → Bool) : Prop where
  form : Rg.Form l
  cell : ∀ x y, cell l x y = S x y
  ok : ∀ r ∈ l, r.inBox 1048576
  len : l.length ≤ 200
theorem Reg.right {l : List Rect} {S : Int → Int → Bool} (h : Reg l S) : regB l = true := regB_iff.2 ⟨box_ok h.ok (Int.le_refl _), h.len, h.form⟩
theorem Reg.norm {l : List Rect} {S : Int → Int → Bool} (h : Reg l S) : norm S = l := Rg.norm_eq h.form h.cell
theorem of_reg {l : List Rect} (h : l.all okR = true) (hl : l.length ≤ 14) : ∃ c, ofR l = .ok c ∧ Reg c (cell l) := by
  have hy := ofL_ok' h
  have hb : ∀ r ∈ l, r.inBox 1048576 := fun r hr => okR_iff.1 (List.all_eq_true.1 h r hr)
  obtain ⟨hf, hc⟩ := Rg.ofL_ok hy
  have hlen : (ofL l).length ≤ 200 := by
    have h1 := Rg.form_bound (R := l) (fun r hr => by have := hb r hr; unfold Rect.inBox at this; omega) (cell_det l) hf hc
    have h2 : l.length * l.length ≤ 14 * 14 := Nat.mul_le_mul hl hl
    omega
  refine ⟨ofL l, ?_, hf, hc, hf.box fun x y hxy => Rg.cell_box hb (by rw [← hc]; exact hxy), hlen⟩
  unfold ofR
  rw [if_pos h, if_neg (by omega), if_pos hlen]
/-! ### The walk -/
theorem frzL (h : Heap) (x : Bool) (l : List Rect) : frzAll E.P 0 [lst x (rectR.vals l)] h = some ([lst x (rectR.vals l)], h) := frzAll_row (frz_set8 rfl rfl)
theorem of_l (x : Bool) (l : List Rect) (hl : l.length ≤ 1000000) : pureCall E.P (L E) 6 [lst x (rectR.vals l)] = some (resL (ofR l)) := of_spec (some x) l Rec.ok_some hl
theorem right_l (x : Bool) (l : List Rect) (hl : l.length ≤ 1000000) : pureCall E.P (L E) 8 [lst x (rectR.vals l)] = some (.bool (regB l)) := right2_spec (some x) l Rec.ok_some hl
theorem area_l (x : Bool) (l : List Rect) (hl : l.length ≤ 1000000) : pureCall E.P (L E) 11 [lst x (rectR.vals l)] = some (.int .i64 (if regB l then areaL l else 0)) := area2_spec (some x) l Rec.ok_some hl
theorem same_l (x y : Bool) (l r : List Rect) (hl : l.length ≤ 1000000) : pureCall E.P (L E) 9 [lst x (rectR.vals l), lst y (rectR.vals r)] = some (.bool (decide (l = r))) := same_rects (some x) (some y) l r Rec.ok_some Rec.ok_some hl
theorem rf_l (h : Heap) (x : Bool) (l : List Rect) : reify E.P 8 h (lst x (rectR.vals l)) = some (lst x (rectR.vals l)) := rfl
theorem set_l (x : Bool) (l : List Rect) : settled depth (lst x (rectR.vals l)) = true := rfl
theorem len_l (h : Heap) (x : Bool) (l : List Rect) : lenT .sl h (lst x (rectR.vals l)) = some (.int .i64 l.length) := Rec.tree_len

theorem of_bad {l : List Rect} (h : l.all okR = false) : ofR l = .error 1 := by
  unfold ofR; rw [h]; rfl

/-! ### Moving -/
theorem parts_l (z : Bool) (l : List Rect) (hl : l.length ≤ 1000000) (h0 : l ≠ []) (hr : regB l = true) : pureCall E.P (L E) 7 [lst z (rectR.vals l)] = some (lst false (partV ((partsL l).map ofL))) :=
  (parts_spec (some z) l Rec.ok_some h0 hl).trans (by rw [hr, if_pos rfl])
end Go.Proofs.Yteaoeebakmdcnaa.Bm

namespace Go.Proofs.Yteaoeebakmdcnaa.Rg

theorem filter_perm {α : Type} (p : α → Bool) : ∀ l : List α, (l.filter p ++ l.filter (fun a => !p a)).Perm l
  | [] => .refl _
  | a :: l => by
    have ih := filter_perm p l
    cases h : p a
    · rw [List.filter_cons_of_neg (by simp [h]), List.filter_cons_of_pos (by simp [h])]
      exact List.perm_middle.trans (ih.cons a)
    · rw [List.filter_cons_of_pos h, List.filter_cons_of_neg (by simp [h])]
      exact ih.cons a
theorem absorb_perm : ∀ (n i : Nat) (part left : List Rect), ((absorb n i part left).1 ++ (absorb n i part left).2).Perm (part ++ left)
  | 0, _, _, _ => .refl _
  | n + 1, i, part, left => by
    unfold absorb
    cases h : part[i]? with
    | none => exact .refl _
    | some r =>
      refine (absorb_perm n (i + 1) _ _).trans ?_
      rw [List.append_assoc]
      exact (filter_perm (touchB r) left).append_left part
theorem absorb_sub : ∀ (n i : Nat) (part left : List Rect), (absorb n i part left).2.Sublist left
  | 0, _, _, _ => .refl _
  | n + 1, i, part, left => by
    unfold absorb
    cases h : part[i]? with
    | none => exact .refl _
    | some r => exact (absorb_sub n (i + 1) _ _).trans List.filter_sublist
theorem absorb_conn {C : Rect → Prop} : ∀ (n i : Nat) (part left : List Rect), (∀ r ∈ part, C r) → (∀ r s, r ∈ (absorb n i part left).1 → s ∈ (absorb n i part left).1 → C r → touchB r s = true → C s) → ∀ r ∈ (absorb n i part left).1, C r
  | 0, _, _, _, h, _ => h
  | n + 1, i, part, left, h, k => by
    unfold absorb at k ⊢
    cases hi : part[i]? with
    | none => exact h
    | some q =>
      rw [hi] at k
      simp only at k ⊢
      obtain ⟨t, e⟩ := absorb_part n (i + 1) (part ++ left.filter (touchB q)) (left.filter fun s => !touchB q s)
      have hq := List.mem_of_getElem? hi
      refine absorb_conn n (i + 1) _ _ (fun r hr => ?_) k
      rcases List.mem_append.1 hr with hr | hr
      · exact h r hr
      · exact k q r (by rw [e]; simp [hq]) (by rw [e]; exact List.mem_append_left _ (List.mem_append_right _ hr)) (h q hq) (List.mem_filter.1 hr).2
theorem absorb_shut : ∀ (n i : Nat) (part left : List Rect), part.length + left.length ≤ i + n → (∀ (j : Nat) (hj : j < part.length), j < i → ∀ s ∈ left, touchB part[j] s = false) → ∀ r ∈ (absorb n i part left).1, ∀ s ∈ (absorb n i part left).2, touchB r s = false
  | 0, i, part, left, hl, h => fun r hr s hs => by
    obtain ⟨j, hj, rfl⟩ := List.mem_iff_getElem.1 hr
    have hj : j < part.length := hj
    exact h j hj (by omega) s hs
  | n + 1, i, part, left, hl, h => by
    unfold absorb
    cases hi : part[i]? with
    | none =>
      have hi := List.getElem?_eq_none_iff.1 hi
      intro r hr s hs
      obtain ⟨j, hj, rfl⟩ := List.mem_iff_getElem.1 hr
      exact h j hj (Nat.lt_of_lt_of_le hj hi) s hs
    | some q =>
      obtain ⟨hlt, rfl⟩ := List.getElem?_eq_some_iff.1 hi
      have hf := filter_both (touchB part[i]) left
      refine absorb_shut n (i + 1) _ _ (by rw [List.length_append]; omega) fun j hj hji s hs => ?_
      rw [List.getElem_append_left (by omega)]
      have hs' := List.mem_filter.1 hs
      by_cases e : j = i
      · subst e
        simpa using hs'.2
      · exact h j (by omega) (by omega) s hs'.1
/-- What the parts of a list are. -/
structure PF (a : List Rect) (P : List (List Rect)) : Prop where
  perm : P.flatten.Perm a
  sep : P.Pairwise fun p q => ∀ r ∈ p, ∀ s ∈ q, touchB r s = false
  conn : ∀ p ∈ P, ∃ h t, p = h :: t ∧ ∀ C : Rect → Prop, C h → (∀ r s, r ∈ p → s ∈ p → C r → touchB r s = true → C s) → ∀ r ∈ p, C r
  least : ∀ R : Rect → Rect → Prop, a.Pairwise R → (∀ p ∈ P, ∀ h t, p = h :: t → ∀ s ∈ t, R h s) ∧ P.Pairwise fun p q => ∀ h t, p = h :: t → ∀ s ∈ q, R h s
theorem partsF_pf : ∀ (n : Nat) (a : List Rect), a.length ≤ n → PF a (partsF n a)
  | 0, a, h => by
    have : a = [] := List.eq_nil_of_length_eq_zero (by omega)
    subst this
    exact ⟨.refl _, .nil, fun p hp => absurd hp List.not_mem_nil, fun R _ => ⟨fun p hp => absurd hp List.not_mem_nil, .nil⟩⟩
  | n + 1, [], _ => ⟨.refl _, .nil, fun p hp => absurd hp List.not_mem_nil, fun R _ => ⟨fun p hp => absurd hp List.not_mem_nil, .nil⟩⟩
  | n + 1, r :: l, h => by
    have hperm := absorb_perm (l.length + 2) 0 [r] l
    have hsub := absorb_sub (l.length + 2) 0 [r] l
    have hshut := absorb_shut (l.length + 2) 0 [r] l (by rw [List.length_singleton]; omega) fun j _ hj => absurd hj (Nat.not_lt_zero j)
    have hconn := fun C => absorb_conn (C := C) (l.length + 2) 0 [r] l
    obtain ⟨t, ht⟩ := absorb_part (l.length + 2) 0 [r] l
    have hlen := absorb_len (l.length + 2) 0 [r] l
    unfold partsF
    generalize hX : absorb (l.length + 2) 0 [r] l = X at *
    obtain ⟨p, q⟩ := X
    simp only at *
    have ht : p = r :: t := ht
    subst ht
    rw [List.length_cons] at h hlen
    have ih := partsF_pf n q (by simp only [List.length_singleton] at hlen; omega)
    have hqP : ∀ u ∈ partsF n q, ∀ s ∈ u, s ∈ q := fun u hu s hs => ih.perm.mem_iff.1 (List.mem_flatten.2 ⟨u, hu, hs⟩)
    have hp' : (t ++ q).Perm l := (List.perm_cons r).1 hperm
    refine ⟨?_, List.pairwise_cons.2 ⟨fun u hu x hx s hs => hshut x hx s (hqP u hu s hs), ih.sep⟩, fun u hu => ?_, fun R hR => ?_⟩
    · exact (List.Perm.append_left _ ih.perm).trans hperm
    · rcases List.mem_cons.1 hu with rfl | hu
      · refine ⟨r, t, rfl, fun C hC hcl => hconn C (fun s hs => by rw [List.mem_singleton.1 hs]; exact hC) hcl⟩
      · exact ih.conn u hu
    · obtain ⟨k1, k2⟩ := List.pairwise_cons.1 hR
      obtain ⟨i1, i2⟩ := ih.least R (k2.sublist hsub)
      refine ⟨fun u hu g w e s hs => ?_, List.pairwise_cons.2 ⟨fun u hu g w e s hs => ?_, i2⟩⟩
      · rcases List.mem_cons.1 hu with rfl | hu
        · injection e with e1 e2
          subst e1; subst e2
          exact k1 s (hp'.mem_iff.1 (List.mem_append_left _ hs))
        · exact i1 u hu g w e s hs
      · injection e with e1 e2
        subst e1
        exact k1 s (hp'.mem_iff.1 (List.mem_append_right _ (hqP u hu s hs)))
theorem parts_pf (a : List Rect) : PF a (partsL a) := partsF_pf _ a (Nat.le_refl _)
end Go.Proofs.Yteaoeebakmdcnaa.Rg

namespace Go.Proofs.Yteaoeebakmdcnaa.Rg

/-! ### Order -/
def ordR (r s : Rect) : Prop := r.x1 ≤ s.x0 ∨ (r.x0 = s.x0 ∧ r.x1 = s.x1 ∧ r.y1 < s.y0)
theorem canS_pair : ∀ {c : List (Int × Int)} {b : Int}, canS b c → c.Pairwise (fun u v => u.2 < v.1) ∧ ∀ u ∈ c, b < u.1
  | [], _, _ => ⟨.nil, fun u hu => absurd hu List.not_mem_nil⟩
  | (f, t) :: c, b, h => by
    obtain ⟨h1, h2, h3⟩ := h
    obtain ⟨k1, k2⟩ := canS_pair h3
    refine ⟨List.pairwise_cons.2 ⟨fun u hu => k2 u hu, k1⟩, fun u hu => ?_⟩
    rcases List.mem_cons.1 hu with rfl | hu
    · exact h1
    · have := k2 u hu; omega
theorem Can.pair : ∀ {c : List (Int × Int)}, Can c → c.Pairwise (fun u v => u.2 < v.1)
  | [], _ => .nil
  | (f, t) :: c, h => by
    obtain ⟨k1, k2⟩ := canS_pair h.2
    exact List.pairwise_cons.2 ⟨fun u hu => k2 u hu, k1⟩
theorem emit_mem {s : Slab} {r : Rect} (h : r ∈ emit s) : ∃ u ∈ s.col, r = ⟨s.x0, u.1, s.x1, u.2⟩ := by
  obtain ⟨u, hu, rfl⟩ := List.mem_map.1 h
  exact ⟨u, hu, rfl⟩
theorem canT_ord : ∀ {T : List Slab} {b : Int} {c : List (Int × Int)}, canT b c T → (outT T).Pairwise ordR ∧ ∀ r ∈ outT T, b ≤ r.x0
  | [], _, _, _ => ⟨.nil, fun r hr => absurd hr List.not_mem_nil⟩
  | s :: T, b, c, h => by
    obtain ⟨h1, h2, h3, h4, h5, h6⟩ := h
    obtain ⟨k1, k2⟩ := canT_ord h6
    have e : outT (s :: T) = emit s ++ outT T := rfl
    rw [e]
    refine ⟨List.pairwise_append.2 ⟨?_, k1, fun r hr q hq => ?_⟩, fun r hr => ?_⟩
    · unfold emit
      rw [List.pairwise_map]
      exact h4.pair.imp fun huv => .inr ⟨rfl, rfl, huv⟩
    · obtain ⟨u, _, rfl⟩ := emit_mem hr
      exact .inl (k2 q hq)
    · rcases List.mem_append.1 hr with hr | hr
      · obtain ⟨u, _, rfl⟩ := emit_mem hr
        exact h1
      · have := k2 r hr; omega
theorem Form.ord {l : List Rect} (h : Form l) : l.Pairwise ordR := by
  obtain ⟨b, T, h1, rfl⟩ := h
  exact (canT_ord h1).1
/-- Cells in their order. -/
def ltC (x y u v : Int) : Prop := x < u ∨ (x = u ∧ y < v)
theorem ord_lt {r s : Rect} (hr : r.x0 < r.x1 ∧ r.y0 < r.y1) (h : ordR r s) : ltC r.x0 r.y0 s.x0 s.y0 := by
  unfold ordR at h; unfold ltC; omega
theorem ord_apart {r s : Rect} (h : ordR r s) {x y : Int} (h1 : r.has x y = true) (h2 : s.has x y = true) : False := by
  unfold Rect.has at h1 h2
  simp only [Bool.and_eq_true, decide_eq_true_eq] at h1 h2
  unfold ordR at h
  omega
theorem has_iff {r : Rect} {x y : Int} : r.has x y = true ↔ r.x0 ≤ x ∧ x < r.x1 ∧ r.y0 ≤ y ∧ y < r.y1 := by
  unfold Rect.has
  simp only [Bool.and_eq_true, decide_eq_true_eq]
  exact ⟨fun h => ⟨h.1.1, h.1.2, h.2.1, h.2.2⟩, fun h => ⟨⟨h.1, h.2.1⟩, h.2.2.1, h.2.2.2⟩⟩
theorem cell_iff {l : List Rect} {x y : Int} : cell l x y = true ↔ ∃ r ∈ l, r.has x y = true := List.any_eq_true

/-! ### Where rectangles begin -/
def start (S : Int → Int → Bool) (x y : Int) : Prop := S x y = true ∧ S x (y - 1) = false ∧ ∃ z, S x z ≠ S (x - 1) z
theorem canS_start : ∀ {c : List (Int × Int)} {b : Int}, canS b c → (∀ u ∈ c, hasS c u.1 = true ∧ hasS c (u.1 - 1) = false) ∧ ∀ y, hasS c y = true → hasS c (y - 1) = false → ∃ u ∈ c, u.1 = y
  | [], _, _ => ⟨fun u hu => absurd hu List.not_mem_nil, fun y h => by cases h⟩
  | (f, t) :: c, b, h => by
    obtain ⟨h1, h2, h3⟩ := h
    obtain ⟨k1, k2⟩ := canS_start h3
    obtain ⟨_, k3⟩ := canS_pair h3
    refine ⟨fun u hu => ?_, fun y hy hy1 => ?_⟩
    · rcases List.mem_cons.1 hu with rfl | hu
      · rw [hasS_cons, hasS_cons, canS_low h3 (y := f - 1) (by omega)]
        simp
        omega
      · obtain ⟨q1, q2⟩ := k1 u hu
        have := k3 u hu
        rw [hasS_cons, hasS_cons, q1, q2]
        simp
        omega
    · rw [hasS_cons] at hy hy1
      cases hc : hasS c y
      · rw [hc] at hy
        simp only [Bool.or_false, Bool.and_eq_true, decide_eq_true_eq] at hy
        have hy1 : (decide (f ≤ y - 1) && decide (y - 1 < t)) = false := (Bool.or_eq_false_iff.1 hy1).1
        simp only [Bool.and_eq_false_iff, decide_eq_false_iff_not] at hy1
        exact ⟨(f, t), List.mem_cons_self .., by show f = y; omega⟩
      · obtain ⟨u, hu, e⟩ := k2 y hc (Bool.or_eq_false_iff.1 hy1).2
        exact ⟨u, List.mem_cons_of_mem _ hu, e⟩
theorem Can.low {c : List (Int × Int)} (h : Can c) : ∃ b, canS b c := by
  obtain ⟨b, h1, _⟩ := low_ex c []
  exact ⟨b, canS_ex h b h1⟩
theorem canT_start {S : Int → Int → Bool} : ∀ {T : List Slab} {b : Int} {c : List (Int × Int)}, canT b c T → Can c → (∀ x z, b ≤ x → S x z = cellT T x z) → (∀ z, S (b - 1) z = hasS c z) →
    (∀ r ∈ outT T, start S r.x0 r.y0) ∧ ∀ x y, b ≤ x → start S x y → ∃ r ∈ outT T, r.x0 = x ∧ r.y0 = y
  | [], b, c, _, _, hS, _ => ⟨fun r hr => absurd hr List.not_mem_nil, fun x y hx h => by
      have := h.1
      rw [hS x y hx] at this
      cases this⟩
  | s :: T, b, c, h, hcan, hS, hc => by
    obtain ⟨h1, h2, h3, h4, h5, h6⟩ := h
    have tail : ∀ x z, s.x1 ≤ x → S x z = cellT T x z := fun x z hx => by
      rw [hS x z (by omega), cellT_cons]
      have : decide (x < s.x1) = false := decide_eq_false (by omega)
      rw [this]; simp
    have inn : ∀ x z, s.x0 ≤ x → x < s.x1 → S x z = hasS s.col z := fun x z hx hx2 => by
      rw [hS x z (by omega), cellT_cons, canT_low h6 hx2, decide_eq_true hx, decide_eq_true hx2]; simp
    have low : ∀ x z, b ≤ x → x < s.x0 → S x z = false := fun x z hx hx2 => by
      rw [hS x z hx, cellT_cons, canT_low h6 (by omega)]
      have : decide (s.x0 ≤ x) = false := decide_eq_false (by omega)
      rw [this]; simp
    have ih := canT_start (S := S) h6 h4 tail fun z => inn _ z (by omega) (by omega)
    have diff : ∃ z, S s.x0 z ≠ S (s.x0 - 1) z := by
      by_cases e : b = s.x0
      · refine Classical.byContradiction fun hn => h5 e ?_
        refine h4.unique hcan fun z => Classical.byContradiction fun hz => hn ⟨z, ?_⟩
        rw [inn s.x0 z (Int.le_refl _) h2, ← e, hc z]
        exact hz
      · obtain ⟨z, hz⟩ := h4.some h3
        refine ⟨z, ?_⟩
        rw [inn s.x0 z (Int.le_refl _) h2, low _ z (by omega) (by omega), hz]
        decide
    obtain ⟨b', hb'⟩ := h4.low
    obtain ⟨st1, st2⟩ := canS_start hb'
    have e : outT (s :: T) = emit s ++ outT T := rfl
    rw [e]
    refine ⟨fun r hr => ?_, fun x y hx hs => ?_⟩
    · rcases List.mem_append.1 hr with hr | hr
      · obtain ⟨u, hu, rfl⟩ := emit_mem hr
        obtain ⟨q1, q2⟩ := st1 u hu
        exact ⟨(inn s.x0 u.1 (Int.le_refl _) h2).trans q1, (inn s.x0 (u.1 - 1) (Int.le_refl _) h2).trans q2, diff⟩
      · exact ih.1 r hr
    · by_cases hx0 : x < s.x0
      · have := hs.1
        rw [low x y hx hx0] at this
        cases this
      by_cases hx1 : x < s.x1
      · by_cases hxe : x = s.x0
        · subst hxe
          have q1 := hs.1
          have q2 := hs.2.1
          rw [inn s.x0 y (Int.le_refl _) h2] at q1
          rw [inn s.x0 (y - 1) (Int.le_refl _) h2] at q2
          obtain ⟨u, hu, rfl⟩ := st2 y q1 q2
          exact ⟨⟨s.x0, u.1, s.x1, u.2⟩, List.mem_append_left _ (List.mem_map.2 ⟨u, hu, rfl⟩), rfl, rfl⟩
        · obtain ⟨z, hz⟩ := hs.2.2
          rw [inn x z (by omega) hx1, inn (x - 1) z (by omega) (by omega)] at hz
          exact absurd rfl hz
      · obtain ⟨r, hr, k⟩ := ih.2 x y (by omega) hs
        exact ⟨r, List.mem_append_right _ hr, k⟩
theorem Form.start {l : List Rect} (h : Form l) : (∀ r ∈ l, start (cell l) r.x0 r.y0) ∧ ∀ x y, start (cell l) x y → ∃ r ∈ l, r.x0 = x ∧ r.y0 = y := by
  obtain ⟨b, T, h1, rfl⟩ := h
  have key := canT_start (S := cell (outT T)) h1 trivial (fun x z _ => cell_outT T x z) fun z => by rw [cell_outT]; exact canT_low h1 (by omega)
  refine ⟨key.1, fun x y hs => ?_⟩
  by_cases hx : b ≤ x
  · exact key.2 x y hx hs
  · have := hs.1
    rw [cell_outT, canT_low h1 (by omega)] at this
    cases this
/-- The first rectangle begins with the least cell. -/
theorem least_cell {h : Rect} {t : List Rect} (hp : ∀ r ∈ h :: t, r.x0 < r.x1 ∧ r.y0 < r.y1) (ho : ∀ s ∈ t, ordR h s) {x y : Int} (hc : cell (h :: t) x y = true) : h.x0 < x ∨ (h.x0 = x ∧ h.y0 ≤ y) := by
  obtain ⟨r, hr, hr2⟩ := cell_iff.1 hc
  have := has_iff.1 hr2
  rcases List.mem_cons.1 hr with rfl | hr
  · omega
  · have h1 := hp h (List.mem_cons_self ..)
    have h2 := ho r hr
    unfold ordR at h2
    omega
theorem corner_has {r : Rect} (h : r.x0 < r.x1 ∧ r.y0 < r.y1) : r.has r.x0 r.y0 = true := has_iff.2 ⟨Int.le_refl _, h.1, Int.le_refl _, h.2⟩
end Go.Proofs.Yteaoeebakmdcnaa.Rg
