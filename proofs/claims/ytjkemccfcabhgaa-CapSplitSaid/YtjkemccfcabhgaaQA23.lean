/-
  Chapter 32: the laws' arguments as data, and what is known of other functions. Conditions: none.
-/
import Derived.Test.YtjkemccfcabhgaaQA22
import Derived.Test.YtjkemccfcabhgaaQA15
import Derived.Test.YtjkemccfcabhgaaChecked
import Derived.Shelf.RegionOpenPlain
import Derived.WalkKit
import Derived.Deep.LoopGhost
import Derived.Lib.Walk
import Derived.Lib.SliceRun
import Derived.Test.YtjkemccfcabhgaaQA14
import Derived.Shelf.Sort.Plain
import Derived.Shelf.Slices.In.SortNone
import Derived.Shelf.Slices.CompactI
import Derived.Test.YtjkemccfcabhgaaRows
namespace Go.Proofs.Ytjkemccfcabhgaa.Bm
open Go Go.RowKit
open Rg (Rect Pt)
open Cw (limited limited_in)
def newB (lot : Int) (p : Ph) : List Pd := p.vs.map fun v => ⟨lot, v⟩
def newE (p : Ph) : List (ByteArray × Int) := p.gs.map fun e => (e.1, -limited e.2)
def builtT (t : Tw) (lot : Int) (p : Ph) : Tw := { t with kb := some (t.bs ++ newB lot p).isEmpty, bs := t.bs ++ newB lot p, ke := some (t.es ++ newE p).isEmpty, es := t.es ++ newE p }
abbrev elPd : El := ⟨66, 10, 80, .agg ⟨[.int .i64 0, .int .i64 0, .int .i64 0, .int .i64 0, .int .i64 0, .int .i64 0, .int .i64 0, .int .i64 0, .int .i64 0, .bool false]⟩, ⟨some true, some 10⟩⟩
theorem sPd : szOf E.P 66 = some 10 := by kernel_rfl
theorem aPd : aggT E.P 66 = some true := by kernel_rfl
theorem bel_lz {α : Type} {R : Rec α} {b d : Nat} {l : List α} (h : l ≠ []) : below (d + 1) b (lz R b l) = false := by
  rw [lz_ne h]
  exact decide_eq_false (Nat.lt_irrefl _)
theorem set_lz {α : Type} {R : Rec α} {b d : Nat} {l : List α} (h : l ≠ []) : settled (d + 1) (lz R b l) = false := by
  rw [lz_ne h]; rfl
theorem op_reify' {n : Nat} {h : Heap} {o : Op} : reify E.P (n + 1) h (opV o) = some (opV o) := op_reify
theorem belO_tw1 {t : Tw} {VT V W : Value} {n : Nat} (h : below 8 n V = false) : belowO n (twO t VT V W) = false := by
  have h' : below depth n V = false := h
  show List.all _ _ = false
  simp only [List.all_cons, h', Bool.false_and, Bool.and_false]
theorem belO_tw2 {t : Tw} {VT V W : Value} {n : Nat} (h : below 8 n W = false) : belowO n (twO t VT V W) = false := by
  have h' : below depth n W = false := h
  show List.all _ _ = false
  simp only [List.all_cons, h', Bool.false_and, Bool.and_false]
theorem tails (bs : List Pd) (es : List (ByteArray × Int)) : ∃ P1 Q1 : Heap, lzH pdR 66 bs ++ lzH entR 68 es = P1 ++ (lzH pdR 66 bs ++ Q1) ∧ (bs ≠ [] ∨ Q1 = []) ∧ lz pdR 3 bs = lz pdR (3 + P1.length) bs ∧
    ∀ ac : List Pd, (bs ≠ [] → ac ≠ []) → ∃ P2 Q2 : Heap, P1 ++ (lzH pdR 66 ac ++ Q1) = P2 ++ (lzH entR 68 es ++ Q2) ∧ (es ≠ [] ∨ Q2 = []) ∧ lz entR (3 + (lzH pdR 66 bs).length) es = lz entR (3 + P2.length) es ∧
      ∀ ae : List (ByteArray × Int), (es ≠ [] → ae ≠ []) → ∃ P3 Q3 : Heap, P2 ++ (lzH entR 68 ae ++ Q2) = P3 ++ (lzH pdR 66 ac ++ Q3) ∧ lz pdR (3 + P1.length) ac = lz pdR (3 + P3.length) ac := by
  by_cases hb : bs = []
  · subst hb
    rw [lzH_nil]
    by_cases he : es = []
    · subst he
      rw [lzH_nil]
      refine ⟨[], [], rfl, .inr rfl, rfl, fun ac _ => ⟨lzH pdR 66 ac, [], by simp, .inr rfl, rfl, fun ae _ => ⟨[], lzH entR 68 ae, by simp, rfl⟩⟩⟩
    · refine ⟨lzH entR 68 es, [], by simp, .inr rfl, rfl, fun ac _ => ⟨[], lzH pdR 66 ac, by simp, .inl he, rfl, fun ae ha => ⟨lzH entR 68 ae, [], by simp, ?_⟩⟩⟩
      rw [lzH_ne he, lzH_ne (ha he)]; rfl
  · by_cases he : es = []
    · subst he
      rw [lzH_nil]
      refine ⟨[], [], by simp, .inr rfl, rfl, fun ac _ => ⟨lzH pdR 66 ac, [], by simp, .inr rfl, rfl, fun ae _ => ⟨[], lzH entR 68 ae, by simp, rfl⟩⟩⟩
    · refine ⟨[], lzH entR 68 es, by simp, .inl hb, rfl, fun ac ha => ⟨lzH pdR 66 ac, [], by simp, .inl he, ?_, fun ae _ => ⟨[], lzH entR 68 ae, by simp, rfl⟩⟩⟩
      rw [lzH_ne hb, lzH_ne (ha hb)]; rfl
theorem pd_build (lot : Int) (v : Vo) : buildT (.fs ⟨[.int .i64 0, .int .i64 0, .int .i64 0, .int .i64 0, .int .i64 0, .int .i64 0, .int .i64 0, .int .i64 0, .int .i64 0, .bool false]⟩ ⟨[(0, 1), (1, 9)]⟩) #[(0, .int .i64 lot), (1, .agg ⟨[.int .i64 v.b.x0, .int .i64 v.b.y0, .int .i64 v.b.x1, .int .i64 v.b.y1, .int .i64 v.z0, .int .i64 v.z1, .int .i64 v.u, .int .i64 v.n, .bool v.x]⟩)] = some (pdR.val ⟨lot, v⟩) := by kernel_rfl
theorem pd_lit (h : Heap) (p : Pd) : buildSliceT (some elPd) false h 1 #[(0, pdR.val p)] = some (lst true (pdR.vals [p]), h) :=
  (build_lit' (n := 1) rfl rfl (by decide) (by decide) (by decide)).trans rfl
theorem en_build (a : ByteArray) (b : Int) : buildT (.fs ⟨[.string ⟨⟨[]⟩⟩, .int .i64 0]⟩ ⟨[(0, 1), (1, 1)]⟩) #[(0, .string a), (1, .int .i64 b)] = some (entR.val (a, b)) := rfl
theorem en_lit (h : Heap) (p : ByteArray × Int) : buildSliceT (some elE) false h 1 #[(0, entR.val p)] = some (lst true (entR.vals [p]), h) :=
  (build_lit' (n := 1) rfl rfl (by decide) (by decide) (by decide)).trans rfl
def twZ : AObj := .cells 37 [.slice none 0 0, .slice none 0 0, .slice none 0 0, .slice none 0 0, .slice none 0 0, .slice none 0 0, .slice none 0 0, .int .i64 0, .slice none 0 0, .slice none 0 0, .slice none 0 0, .slice none 0 0, .slice none 0 0] 0
set_option maxHeartbeats 4000000 in
theorem built_spec (t : Tw) (ht : TwFew t) (lot : Int) (f : Ph) (hf : PhOk f) (hw : PhFew f) : pureCall E.P (L E) 17 [twV t, .int .i64 lot, phR.val f] = some (twV (builtT t lot f)) := by
  have hlb := ht.lb
  have hle := ht.le
  have lv := fun h => Rec.o_len (R := volR) (h := h) hf.kv
  have iv := fun (i : Nat) (hi : i < f.vs.length) => Rec.o_index (R := volR) (s := 9) (t := 64) (kk := .i64) rfl hf.kv hi
  have lg := fun h => Rec.o_len (R := entR) (h := h) hf.kg
  have ig := fun (i : Nat) (hi : i < f.gs.length) => oe_ld f.kg f.gs i hf.kg hi
  have lit1 : ∀ h, buildSliceT (some elPd) true h 0 #[] = some (lst true [], h) := fun h => build_none'.trans rfl
  have lit2 : ∀ h, buildSliceT (some elE) true h 0 #[] = some (lst true [], h) := fun h => build_none'.trans rfl
  have ap1 := fun h => app_cp (R := pdR) (el := elPd) (h := h) (l := t.bs) (k := t.kb) ht.kb rfl rfl (by show t.bs.length * 80 ≤ 2 ^ 47; omega)
  have ap2 := fun h => app_cp (R := entR) (el := elE) (h := h) (l := t.es) (k := t.ke) ht.ke rfl rfl (by show t.es.length * 24 ≤ 2 ^ 47; omega)
  have co1 := fun b => cellsOf_lz (R := pdR) (b := b) (l := t.bs)
  have co2 := fun b => cellsOf_lz (R := entR) (b := b) (l := t.es)
  rw [ph_val, pureCall_fn F17 rfl]
  unfold twV twC
  have b0 : ∀ n, settled (n + 1) (tbR.o t.p.kt t.p.ts) = true := fun n => Rec.o_set
  have b1 : ∀ n h, reify E.P (n + 1) h (tbR.o t.p.kt t.p.ts) = some (tbR.o t.p.kt t.p.ts) := fun n h => Rec.o_reify
  generalize hVT : tbR.o t.p.kt t.p.ts = VT at *
  generalize pdR.o t.kb t.bs = VB at *
  generalize entR.o t.ke t.es = VE at *
  generalize volR.o f.kv f.vs = VV at *
  generalize entR.o f.kg f.gs = VG at *
  simp -implicitDefEqProofs [r17, p17, lit1, lit2, ap1, ap2, co1, co2, -append_lst]
  obtain ⟨P1, Q1, h1, h2, h3, h4⟩ := tails t.bs t.es
  rw [h1, show (lzH pdR 66 t.bs).length + 1 + 1 + 1 = 3 + (lzH pdR 66 t.bs).length by omega, h3]
  obtain ⟨VE2, hVE2⟩ : ∃ V, V = lz entR (3 + (lzH pdR 66 t.bs).length) t.es := ⟨_, rfl⟩
  rw [← hVE2]
  generalize hV1 : lz pdR (3 + P1.length) t.bs = VS1
  rw [LL_for (γ := List Pd) f.vs t.bs (fun i ac => [(7, .int .i64 i)]) (fun _ ac => twO t VT (lz pdR (3 + P1.length) ac) VE2 :: phO VV VG :: twZ :: (P1 ++ (lzH pdR 66 ac ++ Q1))) (fun i rest ac => (.exit 0, [(7, undef)], twO t VT (lz pdR (3 + P1.length) (ac ++ rest.map fun v => ⟨lot, v⟩)) VE2 :: phO VV VG :: twZ :: (P1 ++ (lzH pdR 66 (ac ++ rest.map fun v => ⟨lot, v⟩) ++ Q1)))) (fun i ac => ac.length ≤ 1000 + i ∧ (t.bs ≠ [] → ac ≠ [])) (by have := hw.vs; omega) ⟨by omega, fun h => h⟩]
  · have eB : (f.vs.map fun v => (⟨lot, v⟩ : Pd)) = newB lot f := rfl
    rw [eB]
    obtain ⟨P2, Q2, g1, g2, g3, g4⟩ := h4 (t.bs ++ newB lot f) (fun h => by simp [h])
    rw [g1]
    rw [hVE2, g3] at *
    have eb1 : (builtT t lot f).bs = t.bs ++ newB lot f := rfl
    have eb2 : (builtT t lot f).es = t.es ++ newE f := rfl
    have eb3 : (builtT t lot f).kb = some (t.bs ++ newB lot f).isEmpty := rfl
    have eb4 : (builtT t lot f).ke = some (t.es ++ newE f).isEmpty := rfl
    have eb5 : (builtT t lot f).p = t.p := rfl
    have eb6 : (builtT t lot f).land = t.land := rfl
    have eb7 : (builtT t lot f).eas = t.eas := rfl
    have eb8 : (builtT t lot f).win = t.win := rfl
    rw [eb1, eb2, eb3, eb4, eb5, eb6, eb7, eb8]
    generalize t.bs ++ newB lot f = ac1 at *
    unfold twO phO twZ
    simp -implicitDefEqProofs [k17_4]
    rw [LL_for (γ := List (ByteArray × Int)) f.gs t.es (fun i ac => [(8, .int .i64 i)]) (fun _ ac => twO t VT (lz pdR (3 + P1.length) ac1) (lz entR (3 + P2.length) ac) :: phO VV VG :: twZ :: (P2 ++ (lzH entR 68 ac ++ Q2))) (fun i rest ac => (.exit 2, [(8, undef)], twO t VT (lz pdR (3 + P1.length) ac1) (lz entR (3 + P2.length) (ac ++ rest.map fun e => (e.1, -limited e.2))) :: phO VV VG :: twZ :: (P2 ++ (lzH entR 68 (ac ++ rest.map fun e => (e.1, -limited e.2)) ++ Q2)))) (fun i ac => ac.length ≤ 1000 + i ∧ (t.es ≠ [] → ac ≠ [])) (by have := hw.gs; omega) ⟨by omega, fun h => h⟩]
    · have eE : (f.gs.map fun e => (e.1, -limited e.2)) = newE f := rfl
      rw [eE]
      obtain ⟨P3, Q3, u1, u2⟩ := g4 (t.es ++ newE f) (fun h => by simp [h])
      generalize t.es ++ newE f = ae1 at *
      have r1 := fun A B C n => reify_lz (R := pdR) (A := A) (B := B) (C := C) (P := P3) (Q := Q3) (l := ac1) (t := 66) (n := n) sPd aPd
      have r2 := fun A B C n => reify_lz (R := entR) (A := A) (B := B) (C := C) (P := P2) (Q := Q2) (l := ae1) (t := 68) (n := n) sEn aEn
      rw [← u1, ← u2] at r1
      unfold twO phO twZ
      simp -implicitDefEqProofs [k17_8]
      rw [hVT]
      by_cases e1 : ac1 = [] ∧ ae1 = []
      · obtain ⟨rfl, rfl⟩ := e1
        rw [lz_nil, lz_nil, reifyC_set (by simp only [List.all_cons, op_set, b0, set_int, List.all_nil, Bool.and_true, Bool.true_and]; rfl)]
        rfl
      · have hs : (settled 8 (lz pdR (3 + P1.length) ac1) && settled 8 (lz entR (3 + P2.length) ae1)) = false := by
          by_cases q : ac1 = []
          · have q2 : ae1 ≠ [] := fun h => e1 ⟨q, h⟩
            rw [set_lz q2, Bool.and_false]
          · rw [set_lz q, Bool.false_and]
        rw [reifyC_map (by simp only [List.all_cons, op_set, b0, set_int, List.all_nil, Bool.and_true, Bool.true_and]; exact hs)]
        simp only [mapR_cons, mapR_nil, op_reify', b1, reify_int, r1, r2, Option.bind_some, Option.map_some]
        done
    · simp -implicitDefEqProofs [k17_8]
    · rfl
    · intro nx i ac hi _
      rw [List.map_nil, List.append_nil]
      unfold twO phO twZ
      simp -implicitDefEqProofs [r17_8, k17_8, hi, lg, trim_le]
    · intro nx i v rest ac hi hv hd hw2 ha ih
      have hi2 : ((i : Int) < f.gs.length) := by omega
      have x1 := ig i hi
      rw [hv] at x1
      have hlm := limited_in v.2
      have hs := limited_spec32 v.2
      have ew : IntKind.i64.wrap (-limited v.2) = -limited v.2 := wrap64 (by omega) (by omega)
      have bd := en_build v.1 (-limited v.2)
      have lt := fun h => en_lit h (v.1, -limited v.2)
      have hok : ac ≠ [] ∨ Q2 = [] := g2.elim (fun h => .inl (ha.2 h)) .inr
      have ap := fun A B C => app_lz (R := entR) (el := elE) (A := A) (B := B) (C := C) (P := P2) (Q := Q2) (acc := ac) (x := (v.1, -limited v.2)) (h := A :: B :: C :: (P2 ++ (lzH entR 68 ac ++ Q2))) (b := 3 + P2.length) (v := lz entR (3 + P2.length) ac) rfl rfl rfl rfl (by show (ac.length + 1) * 24 ≤ 2 ^ 47; have := hw.gs; have := ha.1; omega) hok
      have co := cellsOf_lz (R := entR) (b := 3 + P2.length) (l := ac ++ [(v.1, -limited v.2)])
      have ih := ih (ac ++ [(v.1, -limited v.2)]) ⟨by rw [List.length_append]; have := ha.1; simp; omega, fun h => by simp⟩
      rw [List.map_cons, show ac ++ (v.1, -limited v.2) :: rest.map (fun e => (e.1, -limited e.2)) = (ac ++ [(v.1, -limited v.2)]) ++ rest.map fun e => (e.1, -limited e.2) by simp]
      have tr := fun vs => trim_lz (R := entR) (t := 68) (A := twO t VT (lz pdR (3 + P1.length) ac1) (lz entR (3 + P2.length) ac)) (A' := twO t VT (lz pdR (3 + P1.length) ac1) (lz entR (3 + P2.length) (ac ++ [(v.1, -limited v.2)]))) (B := phO VV VG) (C := twZ) (P := P2) (Q := Q2) (acc := ac) (x := (v.1, -limited v.2)) (n := P2.length + ((lzH entR 68 ac).length + Q2.length) + 1 + 1 + 1) (vs := vs) (by simp) hok (fun _ => belO_tw2 (bel_lz (by simp)))
      unfold twO phO twZ at *
      simp -implicitDefEqProofs [k17_8, -List.append_assoc] at ih
      simp -implicitDefEqProofs [r17_8, k17_8, hi2, lg, x1, ret0 m20, hs, ew, bd, lt, ap, co, hw2, tr, -List.append_assoc]
      with_reducible exact ih
  · simp -implicitDefEqProofs [k17_4]
  · rw [hV1]; rfl
  · intro nx i ac hi _
    rw [List.map_nil, List.append_nil]
    unfold twO phO twZ
    simp -implicitDefEqProofs [r17_4, k17_4, hi, lv, trim_le]
    done
  · intro nx i v rest ac hi hv hd hw2 ha ih
    have hi2 : ((i : Int) < f.vs.length) := by omega
    have x1 := iv i hi
    rw [hv, vol_val] at x1
    have bd := pd_build lot v
    have lt := fun h => pd_lit h ⟨lot, v⟩
    have hok : ac ≠ [] ∨ Q1 = [] := h2.elim (fun h => .inl (ha.2 h)) .inr
    have ap := fun A B C => app_lz (R := pdR) (el := elPd) (A := A) (B := B) (C := C) (P := P1) (Q := Q1) (acc := ac) (x := ⟨lot, v⟩) (h := A :: B :: C :: (P1 ++ (lzH pdR 66 ac ++ Q1))) (b := 3 + P1.length) (v := lz pdR (3 + P1.length) ac) rfl rfl rfl rfl (by show (ac.length + 1) * 80 ≤ 2 ^ 47; have := hw.vs; have := ha.1; omega) hok
    have co := cellsOf_lz (R := pdR) (b := 3 + P1.length) (l := ac ++ [⟨lot, v⟩])
    have ih := ih (ac ++ [⟨lot, v⟩]) ⟨by rw [List.length_append]; have := ha.1; simp; omega, fun h => by simp⟩
    rw [List.map_cons, show ac ++ (⟨lot, v⟩ : Pd) :: rest.map (fun v => ⟨lot, v⟩) = (ac ++ [⟨lot, v⟩]) ++ rest.map fun v => ⟨lot, v⟩ by simp]
    have tr := fun vs => trim_lz (R := pdR) (t := 66) (A := twO t VT (lz pdR (3 + P1.length) ac) VE2) (A' := twO t VT (lz pdR (3 + P1.length) (ac ++ [⟨lot, v⟩])) VE2) (B := phO VV VG) (C := twZ) (P := P1) (Q := Q1) (acc := ac) (x := ⟨lot, v⟩) (n := P1.length + ((lzH pdR 66 ac).length + Q1.length) + 1 + 1 + 1) (vs := vs) (by simp) hok (fun _ => belO_tw1 (bel_lz (by simp)))
    unfold twO phO twZ at *
    simp -implicitDefEqProofs [k17_4, -List.append_assoc] at ih
    simp -implicitDefEqProofs [r17_4, k17_4, hi2, lv, x1, bd, lt, ap, co, hw2, tr, -List.append_assoc]
    with_reducible exact ih
end Go.Proofs.Ytjkemccfcabhgaa.Bm
namespace Go.Proofs.Ytjkemccfcabhgaa.Bm
open Go Go.RowKit Go.Lib
theorem iVol : ∃ i, Try.prog.info? 64 = some i ∧ i.zero = some (.agg #[.int .i64 0, .int .i64 0, .int .i64 0, .int .i64 0, .int .i64 0, .int .i64 0, .int .i64 0, .int .i64 0, .bool false]) ∧ i.size = 9 ∧ i.bytes = 72 := by
  have h : (Try.prog.info? 64).map (fun i => (i.zero, i.size, i.bytes)) = some (some (.agg #[.int .i64 0, .int .i64 0, .int .i64 0, .int .i64 0, .int .i64 0, .int .i64 0, .int .i64 0, .int .i64 0, .bool false]), 9, 72) := by kernel_rfl
  obtain ⟨i, h1, h2⟩ := Option.map_eq_some_iff.1 h
  simp only [Prod.mk.injEq] at h2
  exact ⟨i, h1, h2.1, h2.2.1, h2.2.2⟩
theorem tVol : Try.prog.underlying 75 = some (.slice 64) := by kernel_rfl
set_option maxHeartbeats 2000000 in
set_option maxRecDepth 100000 in
theorem clone_zeroVol (a : Addr) (c : Nat) (w : World) :
    Calls Try.prog 40 #[.slice (some a) 0 c] w fun e w' => ∃ a' c', e = .returned (.slice (some a') 0 c') ∧ Below w.heap.size w w' := by
  obtain ⟨i0, hi, hz0, hz1, hz2⟩ := iVol
  have q22 : ∀ (w : World) (a : Option Addr) (n c n' c' : Nat), (binOp .eql 75 (.slice a n c) (.slice none n' c')).run Try.prog w = .ok (.bool a.isNone) w := fun w a n c n' c' => Lib.run_eql_slice_nil w _ _ a n c n' c' tVol
  have u22 : ∀ w, Sem.run Try.prog (underlying 75) w = .ok (TypeDesc.slice 64) w := run_underlying tVol
  go_enter Try.func40, Try.ntmps40
  go_wp2_with (at_builtin; refine wpList_append_own _ rfl _ _ 75 rfl w.heap.size 64 i0 (.agg #[.int .i64 0, .int .i64 0, .int .i64 0, .int .i64 0, .int .i64 0, .int .i64 0, .int .i64 0, .int .i64 0, .bool false]) 9 72 tVol hi hz0 hz1 hz2 rfl (by decide) _ _ _ rfl (World.ownsRow_made w #[] 0 (Nat.le_refl _) (Nat.zero_le _) rfl) a 0 c [] rfl rfl (by intro j u hj; simp at hj) (by intro u hu; cases hu) (by unfold maxLen; omega) (by omega) (by simp) ?_)
  intro v' w1 hown hgrow hnil
  go_wp2
  go_ret
  have hne : v' ≠ .slice none 0 0 := by first | exact hnil | (intro e; exact absurd (hnil.1 e).1 (by simp))
  have hbel : Below w.heap.size w w1 := ((Below.refl _ w).alloc (Nat.le_refl _) _).grown hgrow (by simp) (by intro k hk; simp [Value.ownBlock] at hk; omega)
  rcases hown.2 with ⟨e, _⟩ | ⟨g, cap, cur, e, _⟩
  · exact absurd e hne
  · exact ⟨_, cap, by rw [e]; rfl, hbel⟩
theorem clone_nilVol (w : World) : Calls Try.prog 40 #[.slice none 0 0] w fun e w' => e = .returned (.slice none 0 0) ∧ w' = w := by
  have q22 : ∀ (w : World) (a : Option Addr) (n c n' c' : Nat), (binOp .eql 75 (.slice a n c) (.slice none n' c')).run Try.prog w = .ok (.bool a.isNone) w := fun w a n c n' c' => Lib.run_eql_slice_nil w _ _ a n c n' c' tVol
  go_enter Try.func40, Try.ntmps40
  go_wp2
  go_ret
  exact ⟨rfl, rfl⟩
theorem conCloVol : CloCon Try.prog 40 := ⟨⟨_, Try.func40, rfl⟩, clone_zeroVol, clone_nilVol⟩
theorem iEnt : ∃ i, Try.prog.info? 68 = some i ∧ i.zero = some (.agg #[.string ⟨⟨[]⟩⟩, .int .i64 0]) ∧ i.size = 2 ∧ i.bytes = 24 := by
  have h : (Try.prog.info? 68).map (fun i => (i.zero, i.size, i.bytes)) = some (some (.agg #[.string ⟨⟨[]⟩⟩, .int .i64 0]), 2, 24) := by kernel_rfl
  obtain ⟨i, h1, h2⟩ := Option.map_eq_some_iff.1 h
  simp only [Prod.mk.injEq] at h2
  exact ⟨i, h1, h2.1, h2.2.1, h2.2.2⟩
theorem tEnt : Try.prog.underlying 35 = some (.slice 68) := by kernel_rfl
set_option maxHeartbeats 2000000 in
set_option maxRecDepth 100000 in
theorem clone_zeroEnt (a : Addr) (c : Nat) (w : World) :
    Calls Try.prog 41 #[.slice (some a) 0 c] w fun e w' => ∃ a' c', e = .returned (.slice (some a') 0 c') ∧ Below w.heap.size w w' := by
  obtain ⟨i0, hi, hz0, hz1, hz2⟩ := iEnt
  have q22 : ∀ (w : World) (a : Option Addr) (n c n' c' : Nat), (binOp .eql 35 (.slice a n c) (.slice none n' c')).run Try.prog w = .ok (.bool a.isNone) w := fun w a n c n' c' => Lib.run_eql_slice_nil w _ _ a n c n' c' tEnt
  have u22 : ∀ w, Sem.run Try.prog (underlying 35) w = .ok (TypeDesc.slice 68) w := run_underlying tEnt
  go_enter Try.func41, Try.ntmps41
  go_wp2_with (at_builtin; refine wpList_append_own _ rfl _ _ 35 rfl w.heap.size 68 i0 (.agg #[.string ⟨⟨[]⟩⟩, .int .i64 0]) 2 24 tEnt hi hz0 hz1 hz2 rfl (by decide) _ _ _ rfl (World.ownsRow_made w #[] 0 (Nat.le_refl _) (Nat.zero_le _) rfl) a 0 c [] rfl rfl (by intro j u hj; simp at hj) (by intro u hu; cases hu) (by unfold maxLen; omega) (by omega) (by simp) ?_)
  intro v' w1 hown hgrow hnil
  go_wp2
  go_ret
  have hne : v' ≠ .slice none 0 0 := by first | exact hnil | (intro e; exact absurd (hnil.1 e).1 (by simp))
  have hbel : Below w.heap.size w w1 := ((Below.refl _ w).alloc (Nat.le_refl _) _).grown hgrow (by simp) (by intro k hk; simp [Value.ownBlock] at hk; omega)
  rcases hown.2 with ⟨e, _⟩ | ⟨g, cap, cur, e, _⟩
  · exact absurd e hne
  · exact ⟨_, cap, by rw [e]; rfl, hbel⟩
theorem clone_nilEnt (w : World) : Calls Try.prog 41 #[.slice none 0 0] w fun e w' => e = .returned (.slice none 0 0) ∧ w' = w := by
  have q22 : ∀ (w : World) (a : Option Addr) (n c n' c' : Nat), (binOp .eql 35 (.slice a n c) (.slice none n' c')).run Try.prog w = .ok (.bool a.isNone) w := fun w a n c n' c' => Lib.run_eql_slice_nil w _ _ a n c n' c' tEnt
  go_enter Try.func41, Try.ntmps41
  go_wp2
  go_ret
  exact ⟨rfl, rfl⟩
theorem conCloEnt : CloCon Try.prog 41 := ⟨⟨_, Try.func41, rfl⟩, clone_zeroEnt, clone_nilEnt⟩
end Go.Proofs.Ytjkemccfcabhgaa.Bm
namespace Go.Proofs.Ytjkemccfcabhgaa
open Go Go.RowKit Go.Shelf Go.Sort
def lays189_ren : Go.Shelf.Ren := ⟨fun | 189 => 44 | 125 => 56 | 257 => 55 | 128 => 71 | 129 => 72 | 294 => 62 | 295 => 63 | 296 => 64 | 297 => 65 | 298 => 66 | 299 => 67 | 216 => 68 | 300 => 69 | 301 => 70 | 328 => 74 | 329 => 75 | 330 => 76 | 331 => 77 | 332 => 78 | 215 => 73 | 343 => 79 | n => n, fun | 28 => 47 | 3 => 3 | 46 => 126 | 0 => 0 | 51 => 142 | 53 => 144 | 4 => 4 | 183 => 134 | 182 => 133 | 131 => 139 | 5 => 5 | 9 => 9 | 218 => 146 | 222 => 150 | 228 => 152 | 229 => 153 | n => n, fun | n => n⟩
theorem lays189 : Go.Proofs.Lays.n189 Try.prog lays189_ren := {
  mixed := by kernel_rfl
  f125 := Try.func56.trans (congrArg some (by kernel_rfl))
  f128 := Try.func71.trans (congrArg some (by kernel_rfl))
  f129 := Try.func72.trans (congrArg some (by kernel_rfl))
  f189 := Try.func44.trans (congrArg some (by kernel_rfl))
  f215 := Try.func73.trans (congrArg some (by kernel_rfl))
  f216 := Try.func68.trans (congrArg some (by kernel_rfl))
  f257 := Try.func55.trans (congrArg some (by kernel_rfl))
  f294 := Try.func62.trans (congrArg some (by kernel_rfl))
  f295 := Try.func63.trans (congrArg some (by kernel_rfl))
  f296 := Try.func64.trans (congrArg some (by kernel_rfl))
  f297 := Try.func65.trans (congrArg some (by kernel_rfl))
  f298 := Try.func66.trans (congrArg some (by kernel_rfl))
  f299 := Try.func67.trans (congrArg some (by kernel_rfl))
  f300 := Try.func69.trans (congrArg some (by kernel_rfl))
  f301 := Try.func70.trans (congrArg some (by kernel_rfl))
  f328 := Try.func74.trans (congrArg some (by kernel_rfl))
  f329 := Try.func75.trans (congrArg some (by kernel_rfl))
  f330 := Try.func76.trans (congrArg some (by kernel_rfl))
  f331 := Try.func77.trans (congrArg some (by kernel_rfl))
  f332 := Try.func78.trans (congrArg some (by kernel_rfl))
  f343 := Try.func79.trans (congrArg some (by kernel_rfl))
  t0 := Try.underlying0
  a0 := Try.isAgg0
  z0 := Try.sizeOf0
  v0 := Try.zeroValue0
  t3 := Try.underlying3
  a3 := Try.isAgg3
  z3 := Try.sizeOf3
  v3 := Try.zeroValue3
  t4 := Try.underlying4
  a4 := Try.isAgg4
  z4 := Try.sizeOf4
  v4 := Try.zeroValue4
  t5 := Try.underlying5
  a5 := Try.isAgg5
  z5 := Try.sizeOf5
  v5 := Try.zeroValue5
  t9 := Try.underlying9
  a9 := Try.isAgg9
  z9 := Try.sizeOf9
  v9 := Try.zeroValue9
  t28 := Try.underlying47
  a28 := Try.isAgg47
  z28 := Try.sizeOf47
  v28 := Try.zeroValue47
  t46 := Try.underlying126
  a46 := Try.isAgg126
  z46 := Try.sizeOf126
  v46 := Try.zeroValue126
  t51 := Try.underlying142
  a51 := Try.isAgg142
  z51 := Try.sizeOf142
  v51 := Try.zeroValue142
  t53 := Try.underlying144
  a53 := Try.isAgg144
  z53 := Try.sizeOf144
  v53 := Try.zeroValue144
  t131 := Try.underlying139
  a131 := Try.isAgg139
  z131 := Try.sizeOf139
  v131 := Try.zeroValue139
  t182 := Try.underlying133
  a182 := Try.isAgg133
  z182 := Try.sizeOf133
  v182 := Try.zeroValue133
  t183 := Try.underlying134
  a183 := Try.isAgg134
  z183 := Try.sizeOf134
  v183 := Try.zeroValue134
  t218 := Try.underlying146
  a218 := Try.isAgg146
  z218 := Try.sizeOf146
  v218 := Try.zeroValue146
  t222 := Try.underlying150
  a222 := Try.isAgg150
  z222 := Try.sizeOf150
  v222 := Try.zeroValue150
  t228 := Try.underlying152
  a228 := Try.isAgg152
  z228 := Try.sizeOf152
  v228 := Try.zeroValue152
  t229 := Try.underlying153
  a229 := Try.isAgg153
  z229 := Try.sizeOf153
  v229 := Try.zeroValue153 }
theorem conSort : Bm.SortCon Try.prog 44 Bm.sortI none where
  row blk off cap zs w hH hblk hsz _ := by
    rw [← Bm.sortI_eq]
    exact Any.slices_Sort_int lays189 blk off cap zs w hH hblk hsz
  none p cap w := Any.slices_Sort_int_none lays189 p cap w
  dfd := ⟨_, Try.func44, rfl⟩
  len := Bm.sortI_len
  cut := fun _ h => by cases h
end Go.Proofs.Ytjkemccfcabhgaa
namespace Go.Proofs.Ytjkemccfcabhgaa
open Go Go.RowKit Go.Shelf Go.Sort
def laysNm220_ren : Go.Shelf.Ren := ⟨fun | 20 => 45 | n => n, fun | 22 => 47 | 3 => 3 | 4 => 4 | 0 => 0 | n => n, fun | n => n⟩
theorem laysNm220 : Go.Proofs.Lays2.n20 Try.prog laysNm220_ren := {
  mixed := by kernel_rfl
  f20 := Try.func45.trans (congrArg some (by kernel_rfl))
  t0 := Try.underlying0
  a0 := Try.isAgg0
  z0 := Try.sizeOf0
  v0 := Try.zeroValue0
  t3 := Try.underlying3
  a3 := Try.isAgg3
  z3 := Try.sizeOf3
  v3 := Try.zeroValue3
  t4 := Try.underlying4
  a4 := Try.isAgg4
  z4 := Try.sizeOf4
  v4 := Try.zeroValue4
  t22 := Try.underlying47
  a22 := Try.isAgg47
  z22 := Try.sizeOf47
  v22 := Try.zeroValue47
  i3 := by kernel_rfl }
theorem conComp : Bm.SortCon Try.prog 45 Bm.compF (some Bm.compN) where
  row blk off cap zs w hH hblk hsz hc := (Any.slices_Compact_int laysNm220 blk off cap zs w hH (by omega) hc).mono fun e w' h => by
    rw [Bm.compact_eq] at h
    exact ⟨h.1, h.2.imp fun n k => ⟨#[], by rw [k]; exact (grow_empty _).symm⟩⟩
  none p cap w := Any.slices_Compact_int_empty laysNm220 p cap w
  dfd := ⟨_, Try.func45, rfl⟩
  len := Bm.compF_len
  cut := fun m h zs => by cases h; exact Bm.compG_len zs none
end Go.Proofs.Ytjkemccfcabhgaa
namespace Go.Proofs.Ytjkemccfcabhgaa.Bm
open Go Go.RowKit
open Rg (Rect)
theorem okE : OkProg E.P := okProg_of (by kernel_rfl) (by kernel_rfl)
theorem laidE : laidOutB E.P = true := by kernel_rfl
theorem mapsE : mapsRowed E.P = true := by kernel_rfl
noncomputable def tlE : List TypeId := closeT E.P 8 [37, 38, 41, 49, 3]
theorem closedE : closedT E.P tlE = true := by kernel_rfl
theorem in37 : 37 ∈ tlE := List.contains_iff_mem.1 (by kernel_rfl)
theorem in38 : 38 ∈ tlE := List.contains_iff_mem.1 (by kernel_rfl)
theorem in41 : 41 ∈ tlE := List.contains_iff_mem.1 (by kernel_rfl)
theorem in3 : 3 ∈ tlE := List.contains_iff_mem.1 (by kernel_rfl)
theorem u4 : E.P.underlying 4 = some .bool := by kernel_rfl
def i64ok (z : Int) : Prop := -9223372036854775808 ≤ z ∧ z ≤ 9223372036854775807
theorem recs_of {α : Type} (R : Rec α) {Q : α → Prop} {n : Nat} {t e : TypeId} {c : List Value} (hu : E.P.underlying t = some (.slice e)) (ge : aggT E.P e = some true) (hb : ∀ (m : Nat) (x : List Value), Wt E.P m e x → ∃ a, x = R.enc a ∧ Q a) (h : Wt E.P n t c) : ∃ l : List α, c = [lst false (R.vals l)] ∧ l.length ≤ maxLen ∧ ∀ a ∈ l, Q a := by
  obtain ⟨ls, rfl, h2, h3⟩ := wt_slice hu h
  obtain ⟨rs, rfl, k2⟩ := choose_list (cells := R.enc) (Q := Q) ls fun x hx => by
    obtain ⟨m, hm⟩ := h3 x hx
    exact hb m x hm
  refine ⟨rs, ?_, by simpa using h2, k2⟩
  have e : ∀ l : List α, (l.map R.enc).map (elemV E.P e) = R.vals l := by
    intro l
    induction l with
    | nil => rfl
    | cons r l ih =>
      rw [List.map_cons, List.map_cons, ih]
      unfold elemV
      rw [if_pos ge]
      rfl
  rw [e]
theorem ui : E.P.underlying 3 = some (.int .i64) := by kernel_rfl
theorem uB' : E.P.underlying 4 = some .bool := by kernel_rfl
theorem uSt : E.P.underlying 9 = some .string := by kernel_rfl
theorem nint : E.P.cellsOf 3 = 1 := by kernel_rfl
theorem nstring : E.P.cellsOf 9 = 1 := by kernel_rfl
theorem nbool : E.P.cellsOf 4 = 1 := by kernel_rfl
theorem uLEntry : E.P.underlying 35 = some (.slice 68) := by kernel_rfl
theorem nLEntry : E.P.cellsOf 35 = 1 := by kernel_rfl
theorem uLVolume : E.P.underlying 75 = some (.slice 64) := by kernel_rfl
theorem nLVolume : E.P.cellsOf 75 = 1 := by kernel_rfl
theorem uLPhase : E.P.underlying 54 = some (.slice 77) := by kernel_rfl
theorem nLPhase : E.P.cellsOf 54 = 1 := by kernel_rfl
theorem uLRight : E.P.underlying 38 = some (.slice 58) := by kernel_rfl
theorem gLRight : aggT E.P 38 = some false := by kernel_rfl
theorem uLPoint : E.P.underlying 39 = some (.slice 84) := by kernel_rfl
theorem nLPoint : E.P.cellsOf 39 = 1 := by kernel_rfl
theorem uLPlaced : E.P.underlying 34 = some (.slice 66) := by kernel_rfl
theorem nLPlaced : E.P.cellsOf 34 = 1 := by kernel_rfl
theorem uLTable : E.P.underlying 23 = some (.slice 89) := by kernel_rfl
theorem nLTable : E.P.cellsOf 23 = 1 := by kernel_rfl
theorem uLDef : E.P.underlying 22 = some (.slice 174) := by kernel_rfl
theorem nLDef : E.P.cellsOf 22 = 1 := by kernel_rfl
theorem uLZone : E.P.underlying 24 = some (.slice 176) := by kernel_rfl
theorem nLZone : E.P.cellsOf 24 = 1 := by kernel_rfl
theorem uLRule : E.P.underlying 25 = some (.slice 181) := by kernel_rfl
theorem nLRule : E.P.cellsOf 25 = 1 := by kernel_rfl
theorem uLCap : E.P.underlying 26 = some (.slice 41) := by kernel_rfl
theorem nLCap : E.P.cellsOf 26 = 1 := by kernel_rfl
theorem uLView : E.P.underlying 27 = some (.slice 185) := by kernel_rfl
theorem nLView : E.P.cellsOf 27 = 1 := by kernel_rfl
theorem uLPoint3 : E.P.underlying 28 = some (.slice 183) := by kernel_rfl
theorem nLPoint3 : E.P.cellsOf 28 = 1 := by kernel_rfl
theorem uLLot : E.P.underlying 31 = some (.slice 187) := by kernel_rfl
theorem nLLot : E.P.cellsOf 31 = 1 := by kernel_rfl
theorem uLEasement : E.P.underlying 32 = some (.slice 189) := by kernel_rfl
theorem nLEasement : E.P.cellsOf 32 = 1 := by kernel_rfl
theorem uLWindow : E.P.underlying 33 = some (.slice 191) := by kernel_rfl
theorem nLWindow : E.P.cellsOf 33 = 1 := by kernel_rfl
theorem fRect : fsOf E.P 60 = some [(0, 3), (1, 3), (2, 3), (3, 3)] := by kernel_rfl
theorem nRect : E.P.cellsOf 60 = 4 := by kernel_rfl
theorem rect_of {n : Nat} {c : List Value} (h : Wt E.P n 60 c) : ∃ v : Rect, c = [.int .i64 v.x0, .int .i64 v.y0, .int .i64 v.x1, .int .i64 v.y1] := by
  obtain ⟨hl, hf⟩ := wt_struct fRect h
  rw [nRect] at hl
  obtain ⟨a0, c, rfl⟩ := List.exists_cons_of_length_eq_add_one hl; have hl := Nat.succ.inj hl
  obtain ⟨a1, c, rfl⟩ := List.exists_cons_of_length_eq_add_one hl; have hl := Nat.succ.inj hl
  obtain ⟨a2, c, rfl⟩ := List.exists_cons_of_length_eq_add_one hl; have hl := Nat.succ.inj hl
  obtain ⟨a3, c, rfl⟩ := List.exists_cons_of_length_eq_add_one hl; have hl := Nat.succ.inj hl
  obtain rfl := List.eq_nil_of_length_eq_zero hl
  obtain ⟨m0, q0⟩ := hf (0, 3) (by simp)
  replace q0 : Wt E.P m0 3 [a0] := by simpa [nint] using q0
  obtain ⟨m1, q1⟩ := hf (1, 3) (by simp)
  replace q1 : Wt E.P m1 3 [a1] := by simpa [nint] using q1
  obtain ⟨m2, q2⟩ := hf (2, 3) (by simp)
  replace q2 : Wt E.P m2 3 [a2] := by simpa [nint] using q2
  obtain ⟨m3, q3⟩ := hf (3, 3) (by simp)
  replace q3 : Wt E.P m3 3 [a3] := by simpa [nint] using q3
  obtain ⟨v0, e, h0⟩ := wt_int ui q0; obtain rfl := List.singleton_inj.1 e
  obtain ⟨v1, e, h1⟩ := wt_int ui q1; obtain rfl := List.singleton_inj.1 e
  obtain ⟨v2, e, h2⟩ := wt_int ui q2; obtain rfl := List.singleton_inj.1 e
  obtain ⟨v3, e, h3⟩ := wt_int ui q3; obtain rfl := List.singleton_inj.1 e
  exact ⟨⟨v0, v1, v2, v3⟩, rfl⟩
theorem fBox : fsOf E.P 62 = some [(0, 60), (4, 3), (5, 3)] := by kernel_rfl
theorem nBox : E.P.cellsOf 62 = 6 := by kernel_rfl
theorem box_of {n : Nat} {c : List Value} (h : Wt E.P n 62 c) : ∃ v : (Rect × Int × Int), c = [.int .i64 v.1.x0, .int .i64 v.1.y0, .int .i64 v.1.x1, .int .i64 v.1.y1, .int .i64 v.2.1, .int .i64 v.2.2] := by
  obtain ⟨hl, hf⟩ := wt_struct fBox h
  rw [nBox] at hl
  obtain ⟨a0, c, rfl⟩ := List.exists_cons_of_length_eq_add_one hl; have hl := Nat.succ.inj hl
  obtain ⟨a1, c, rfl⟩ := List.exists_cons_of_length_eq_add_one hl; have hl := Nat.succ.inj hl
  obtain ⟨a2, c, rfl⟩ := List.exists_cons_of_length_eq_add_one hl; have hl := Nat.succ.inj hl
  obtain ⟨a3, c, rfl⟩ := List.exists_cons_of_length_eq_add_one hl; have hl := Nat.succ.inj hl
  obtain ⟨a4, c, rfl⟩ := List.exists_cons_of_length_eq_add_one hl; have hl := Nat.succ.inj hl
  obtain ⟨a5, c, rfl⟩ := List.exists_cons_of_length_eq_add_one hl; have hl := Nat.succ.inj hl
  obtain rfl := List.eq_nil_of_length_eq_zero hl
  obtain ⟨m0, q0⟩ := hf (0, 60) (by simp)
  replace q0 : Wt E.P m0 60 [a0, a1, a2, a3] := by simpa [nRect] using q0
  obtain ⟨m1, q1⟩ := hf (4, 3) (by simp)
  replace q1 : Wt E.P m1 3 [a4] := by simpa [nint] using q1
  obtain ⟨m2, q2⟩ := hf (5, 3) (by simp)
  replace q2 : Wt E.P m2 3 [a5] := by simpa [nint] using q2
  obtain ⟨v0, e⟩ := rect_of q0
  simp only [List.cons.injEq, List.cons.injEq, and_true] at e; obtain ⟨rfl, rfl, rfl, rfl⟩ := e
  obtain ⟨v1, e, h1⟩ := wt_int ui q1; obtain rfl := List.singleton_inj.1 e
  obtain ⟨v2, e, h2⟩ := wt_int ui q2; obtain rfl := List.singleton_inj.1 e
  exact ⟨⟨v0, v1, v2⟩, rfl⟩
theorem fVolume : fsOf E.P 64 = some [(0, 62), (6, 3), (7, 3), (8, 4)] := by kernel_rfl
theorem nVolume : E.P.cellsOf 64 = 9 := by kernel_rfl
theorem gVolume : aggT E.P 64 = some true := by kernel_rfl
theorem vol_of {n : Nat} {c : List Value} (h : Wt E.P n 64 c) : ∃ v : Vo, c = volC v := by
  obtain ⟨hl, hf⟩ := wt_struct fVolume h
  rw [nVolume] at hl
  obtain ⟨a0, c, rfl⟩ := List.exists_cons_of_length_eq_add_one hl; have hl := Nat.succ.inj hl
  obtain ⟨a1, c, rfl⟩ := List.exists_cons_of_length_eq_add_one hl; have hl := Nat.succ.inj hl
  obtain ⟨a2, c, rfl⟩ := List.exists_cons_of_length_eq_add_one hl; have hl := Nat.succ.inj hl
  obtain ⟨a3, c, rfl⟩ := List.exists_cons_of_length_eq_add_one hl; have hl := Nat.succ.inj hl
  obtain ⟨a4, c, rfl⟩ := List.exists_cons_of_length_eq_add_one hl; have hl := Nat.succ.inj hl
  obtain ⟨a5, c, rfl⟩ := List.exists_cons_of_length_eq_add_one hl; have hl := Nat.succ.inj hl
  obtain ⟨a6, c, rfl⟩ := List.exists_cons_of_length_eq_add_one hl; have hl := Nat.succ.inj hl
  obtain ⟨a7, c, rfl⟩ := List.exists_cons_of_length_eq_add_one hl; have hl := Nat.succ.inj hl
  obtain ⟨a8, c, rfl⟩ := List.exists_cons_of_length_eq_add_one hl; have hl := Nat.succ.inj hl
  obtain rfl := List.eq_nil_of_length_eq_zero hl
  obtain ⟨m0, q0⟩ := hf (0, 62) (by simp)
  replace q0 : Wt E.P m0 62 [a0, a1, a2, a3, a4, a5] := by simpa [nBox] using q0
  obtain ⟨m1, q1⟩ := hf (6, 3) (by simp)
  replace q1 : Wt E.P m1 3 [a6] := by simpa [nint] using q1
  obtain ⟨m2, q2⟩ := hf (7, 3) (by simp)
  replace q2 : Wt E.P m2 3 [a7] := by simpa [nint] using q2
  obtain ⟨m3, q3⟩ := hf (8, 4) (by simp)
  replace q3 : Wt E.P m3 4 [a8] := by simpa [nbool] using q3
  obtain ⟨v0, e⟩ := box_of q0
  simp only [List.cons.injEq, List.cons.injEq, and_true] at e; obtain ⟨rfl, rfl, rfl, rfl, rfl, rfl⟩ := e
  obtain ⟨v1, e, h1⟩ := wt_int ui q1; obtain rfl := List.singleton_inj.1 e
  obtain ⟨v2, e, h2⟩ := wt_int ui q2; obtain rfl := List.singleton_inj.1 e
  obtain ⟨v3, e⟩ := wt_bool uB' q3; obtain rfl := List.singleton_inj.1 e
  exact ⟨⟨v0.1, v0.2.1, v0.2.2, v1, v2, v3⟩, rfl⟩
theorem fPlaced : fsOf E.P 66 = some [(0, 3), (1, 64)] := by kernel_rfl
theorem nPlaced : E.P.cellsOf 66 = 10 := by kernel_rfl
theorem gPlaced : aggT E.P 66 = some true := by kernel_rfl
theorem pd_of {n : Nat} {c : List Value} (h : Wt E.P n 66 c) : ∃ v : Pd, c = pdR.enc v := by
  obtain ⟨hl, hf⟩ := wt_struct fPlaced h
  rw [nPlaced] at hl
  obtain ⟨a0, c, rfl⟩ := List.exists_cons_of_length_eq_add_one hl; have hl := Nat.succ.inj hl
  obtain ⟨a1, c, rfl⟩ := List.exists_cons_of_length_eq_add_one hl; have hl := Nat.succ.inj hl
  obtain ⟨a2, c, rfl⟩ := List.exists_cons_of_length_eq_add_one hl; have hl := Nat.succ.inj hl
  obtain ⟨a3, c, rfl⟩ := List.exists_cons_of_length_eq_add_one hl; have hl := Nat.succ.inj hl
  obtain ⟨a4, c, rfl⟩ := List.exists_cons_of_length_eq_add_one hl; have hl := Nat.succ.inj hl
  obtain ⟨a5, c, rfl⟩ := List.exists_cons_of_length_eq_add_one hl; have hl := Nat.succ.inj hl
  obtain ⟨a6, c, rfl⟩ := List.exists_cons_of_length_eq_add_one hl; have hl := Nat.succ.inj hl
  obtain ⟨a7, c, rfl⟩ := List.exists_cons_of_length_eq_add_one hl; have hl := Nat.succ.inj hl
  obtain ⟨a8, c, rfl⟩ := List.exists_cons_of_length_eq_add_one hl; have hl := Nat.succ.inj hl
  obtain ⟨a9, c, rfl⟩ := List.exists_cons_of_length_eq_add_one hl; have hl := Nat.succ.inj hl
  obtain rfl := List.eq_nil_of_length_eq_zero hl
  obtain ⟨m0, q0⟩ := hf (0, 3) (by simp)
  replace q0 : Wt E.P m0 3 [a0] := by simpa [nint] using q0
  obtain ⟨m1, q1⟩ := hf (1, 64) (by simp)
  replace q1 : Wt E.P m1 64 [a1, a2, a3, a4, a5, a6, a7, a8, a9] := by simpa [nVolume] using q1
  obtain ⟨v0, e, h0⟩ := wt_int ui q0; obtain rfl := List.singleton_inj.1 e
  obtain ⟨v1, e⟩ := vol_of q1
  simp only [volC, List.cons.injEq, and_true] at e; obtain ⟨rfl, rfl, rfl, rfl, rfl, rfl, rfl, rfl, rfl⟩ := e
  exact ⟨⟨v0, v1⟩, rfl⟩
theorem fEntry : fsOf E.P 68 = some [(0, 9), (1, 3)] := by kernel_rfl
theorem nEntry : E.P.cellsOf 68 = 2 := by kernel_rfl
theorem gEntry : aggT E.P 68 = some true := by kernel_rfl
theorem ent_of {n : Nat} {c : List Value} (h : Wt E.P n 68 c) : ∃ v : (ByteArray × Int), c = entR.enc v := by
  obtain ⟨hl, hf⟩ := wt_struct fEntry h
  rw [nEntry] at hl
  obtain ⟨a0, c, rfl⟩ := List.exists_cons_of_length_eq_add_one hl; have hl := Nat.succ.inj hl
  obtain ⟨a1, c, rfl⟩ := List.exists_cons_of_length_eq_add_one hl; have hl := Nat.succ.inj hl
  obtain rfl := List.eq_nil_of_length_eq_zero hl
  obtain ⟨m0, q0⟩ := hf (0, 9) (by simp)
  replace q0 : Wt E.P m0 9 [a0] := by simpa [nstring] using q0
  obtain ⟨m1, q1⟩ := hf (1, 3) (by simp)
  replace q1 : Wt E.P m1 3 [a1] := by simpa [nint] using q1
  obtain ⟨v0, e, h0⟩ := wt_str uSt q0; obtain rfl := List.singleton_inj.1 e
  obtain ⟨v1, e, h1⟩ := wt_int ui q1; obtain rfl := List.singleton_inj.1 e
  exact ⟨⟨v0, v1⟩, rfl⟩
theorem ents_of {n : Nat} {c : List Value} (h : Wt E.P n 35 c) : ∃ l : List (ByteArray × Int), c = [lst false (entR.vals l)] ∧ l.length ≤ maxLen ∧ ∀ a ∈ l, (fun _ => True) a :=
  recs_of entR (Q := fun _ => True) uLEntry gEntry (fun _m _x hx => (ent_of hx).imp fun _a h => ⟨h, trivial⟩) h
theorem vols_of {n : Nat} {c : List Value} (h : Wt E.P n 75 c) : ∃ l : List Vo, c = [lst false (volR.vals l)] ∧ l.length ≤ maxLen ∧ ∀ a ∈ l, (fun _ => True) a :=
  recs_of volR (Q := fun _ => True) uLVolume gVolume (fun _m _x hx => (vol_of hx).imp fun _a h => ⟨h, trivial⟩) h
theorem pds_of {n : Nat} {c : List Value} (h : Wt E.P n 34 c) : ∃ l : List Pd, c = [lst false (pdR.vals l)] ∧ l.length ≤ maxLen ∧ ∀ a ∈ l, (fun _ => True) a :=
  recs_of pdR (Q := fun _ => True) uLPlaced gPlaced (fun _m _x hx => (pd_of hx).imp fun _a h => ⟨h, trivial⟩) h
theorem fPhase : fsOf E.P 77 = some [(0, 75), (1, 35)] := by kernel_rfl
theorem nPhase : E.P.cellsOf 77 = 2 := by kernel_rfl
theorem gPhase : aggT E.P 77 = some true := by kernel_rfl
theorem ph_of {n : Nat} {c : List Value} (h : Wt E.P n 77 c) : ∃ v : Ph, c = phR.enc v ∧ PhOk v := by
  obtain ⟨hl, hf⟩ := wt_struct fPhase h
  rw [nPhase] at hl
  obtain ⟨a0, c, rfl⟩ := List.exists_cons_of_length_eq_add_one hl; have hl := Nat.succ.inj hl
  obtain ⟨a1, c, rfl⟩ := List.exists_cons_of_length_eq_add_one hl; have hl := Nat.succ.inj hl
  obtain rfl := List.eq_nil_of_length_eq_zero hl
  obtain ⟨m0, q0⟩ := hf (0, 75) (by simp)
  replace q0 : Wt E.P m0 75 [a0] := by simpa [nLVolume] using q0
  obtain ⟨m1, q1⟩ := hf (1, 35) (by simp)
  replace q1 : Wt E.P m1 35 [a1] := by simpa [nLEntry] using q1
  obtain ⟨v0, e, h0, g0⟩ := vols_of q0; obtain rfl := List.singleton_inj.1 e
  obtain ⟨v1, e, h1, g1⟩ := ents_of q1; obtain rfl := List.singleton_inj.1 e
  exact ⟨⟨some false, v0, some false, v1⟩, rfl, ⟨Rec.ok_some, Rec.ok_some⟩⟩
theorem phs_of {n : Nat} {c : List Value} (h : Wt E.P n 54 c) : ∃ l : List Ph, c = [lst false (phR.vals l)] ∧ l.length ≤ maxLen ∧ ∀ a ∈ l, (PhOk) a :=
  recs_of phR (Q := PhOk) uLPhase gPhase (fun _m _x hx => ph_of hx) h
theorem fDrawing : fsOf E.P 56 = some [(0, 3), (1, 54)] := by kernel_rfl
theorem nDrawing : E.P.cellsOf 56 = 2 := by kernel_rfl
theorem drw_of {n : Nat} {c : List Value} (h : Wt E.P n 56 c) : ∃ v : (Int × List Ph), c = [.int .i64 v.1, lst false (phR.vals v.2)] ∧ ∀ a ∈ v.2, PhOk a := by
  obtain ⟨hl, hf⟩ := wt_struct fDrawing h
  rw [nDrawing] at hl
  obtain ⟨a0, c, rfl⟩ := List.exists_cons_of_length_eq_add_one hl; have hl := Nat.succ.inj hl
  obtain ⟨a1, c, rfl⟩ := List.exists_cons_of_length_eq_add_one hl; have hl := Nat.succ.inj hl
  obtain rfl := List.eq_nil_of_length_eq_zero hl
  obtain ⟨m0, q0⟩ := hf (0, 3) (by simp)
  replace q0 : Wt E.P m0 3 [a0] := by simpa [nint] using q0
  obtain ⟨m1, q1⟩ := hf (1, 54) (by simp)
  replace q1 : Wt E.P m1 54 [a1] := by simpa [nLPhase] using q1
  obtain ⟨v0, e, h0⟩ := wt_int ui q0; obtain rfl := List.singleton_inj.1 e
  obtain ⟨v1, e, h1, g1⟩ := phs_of q1; obtain rfl := List.singleton_inj.1 e
  exact ⟨⟨v0, v1⟩, rfl, g1⟩
theorem fRight : fsOf E.P 58 = some [(0, 3), (1, 3), (2, 56), (4, 3), (5, 3), (6, 4)] := by kernel_rfl
theorem nRight : E.P.cellsOf 58 = 7 := by kernel_rfl
theorem gRight : aggT E.P 58 = some true := by kernel_rfl
theorem rt_of {n : Nat} {c : List Value} (h : Wt E.P n 58 c) : ∃ v : Rt, c = rtR.enc v ∧ RtOk v := by
  obtain ⟨hl, hf⟩ := wt_struct fRight h
  rw [nRight] at hl
  obtain ⟨a0, c, rfl⟩ := List.exists_cons_of_length_eq_add_one hl; have hl := Nat.succ.inj hl
  obtain ⟨a1, c, rfl⟩ := List.exists_cons_of_length_eq_add_one hl; have hl := Nat.succ.inj hl
  obtain ⟨a2, c, rfl⟩ := List.exists_cons_of_length_eq_add_one hl; have hl := Nat.succ.inj hl
  obtain ⟨a3, c, rfl⟩ := List.exists_cons_of_length_eq_add_one hl; have hl := Nat.succ.inj hl
  obtain ⟨a4, c, rfl⟩ := List.exists_cons_of_length_eq_add_one hl; have hl := Nat.succ.inj hl
  obtain ⟨a5, c, rfl⟩ := List.exists_cons_of_length_eq_add_one hl; have hl := Nat.succ.inj hl
  obtain ⟨a6, c, rfl⟩ := List.exists_cons_of_length_eq_add_one hl; have hl := Nat.succ.inj hl
  obtain rfl := List.eq_nil_of_length_eq_zero hl
  obtain ⟨m0, q0⟩ := hf (0, 3) (by simp)
  replace q0 : Wt E.P m0 3 [a0] := by simpa [nint] using q0
  obtain ⟨m1, q1⟩ := hf (1, 3) (by simp)
  replace q1 : Wt E.P m1 3 [a1] := by simpa [nint] using q1
  obtain ⟨m2, q2⟩ := hf (2, 56) (by simp)
  replace q2 : Wt E.P m2 56 [a2, a3] := by simpa [nDrawing] using q2
  obtain ⟨m3, q3⟩ := hf (4, 3) (by simp)
  replace q3 : Wt E.P m3 3 [a4] := by simpa [nint] using q3
  obtain ⟨m4, q4⟩ := hf (5, 3) (by simp)
  replace q4 : Wt E.P m4 3 [a5] := by simpa [nint] using q4
  obtain ⟨m5, q5⟩ := hf (6, 4) (by simp)
  replace q5 : Wt E.P m5 4 [a6] := by simpa [nbool] using q5
  obtain ⟨v0, e, h0⟩ := wt_int ui q0; obtain rfl := List.singleton_inj.1 e
  obtain ⟨v1, e, h1⟩ := wt_int ui q1; obtain rfl := List.singleton_inj.1 e
  obtain ⟨v2, e, g2⟩ := drw_of q2
  simp only [List.cons.injEq, List.cons.injEq, and_true] at e; obtain ⟨rfl, rfl⟩ := e
  obtain ⟨v3, e, h3⟩ := wt_int ui q3; obtain rfl := List.singleton_inj.1 e
  obtain ⟨v4, e, h4⟩ := wt_int ui q4; obtain rfl := List.singleton_inj.1 e
  obtain ⟨v5, e⟩ := wt_bool uB' q5; obtain rfl := List.singleton_inj.1 e
  exact ⟨⟨v0, v1, v2.1, some false, v2.2, v3, v4, v5⟩, rfl, ⟨Rec.ok_some, g2⟩⟩
theorem rts_of {n : Nat} {c : List Value} (h : Wt E.P n 38 c) : ∃ l : List Rt, c = [lst false (rtR.vals l)] ∧ l.length ≤ maxLen ∧ ∀ a ∈ l, (RtOk) a :=
  recs_of rtR (Q := RtOk) uLRight gRight (fun _m _x hx => rt_of hx) h
theorem fTable : fsOf E.P 89 = some [(0, 9), (1, 35), (2, 3)] := by kernel_rfl
theorem nTable : E.P.cellsOf 89 = 3 := by kernel_rfl
theorem gTable : aggT E.P 89 = some true := by kernel_rfl
theorem tb_of {n : Nat} {c : List Value} (h : Wt E.P n 89 c) : ∃ v : Tb, c = tbR.enc v ∧ Rec.Ok v.kr v.rs := by
  obtain ⟨hl, hf⟩ := wt_struct fTable h
  rw [nTable] at hl
  obtain ⟨a0, c, rfl⟩ := List.exists_cons_of_length_eq_add_one hl; have hl := Nat.succ.inj hl
  obtain ⟨a1, c, rfl⟩ := List.exists_cons_of_length_eq_add_one hl; have hl := Nat.succ.inj hl
  obtain ⟨a2, c, rfl⟩ := List.exists_cons_of_length_eq_add_one hl; have hl := Nat.succ.inj hl
  obtain rfl := List.eq_nil_of_length_eq_zero hl
  obtain ⟨m0, q0⟩ := hf (0, 9) (by simp)
  replace q0 : Wt E.P m0 9 [a0] := by simpa [nstring] using q0
  obtain ⟨m1, q1⟩ := hf (1, 35) (by simp)
  replace q1 : Wt E.P m1 35 [a1] := by simpa [nLEntry] using q1
  obtain ⟨m2, q2⟩ := hf (2, 3) (by simp)
  replace q2 : Wt E.P m2 3 [a2] := by simpa [nint] using q2
  obtain ⟨v0, e, h0⟩ := wt_str uSt q0; obtain rfl := List.singleton_inj.1 e
  obtain ⟨v1, e, h1, g1⟩ := ents_of q1; obtain rfl := List.singleton_inj.1 e
  obtain ⟨v2, e, h2⟩ := wt_int ui q2; obtain rfl := List.singleton_inj.1 e
  exact ⟨⟨v0, some false, v1, v2⟩, rfl, Rec.ok_some⟩
theorem tbs_of {n : Nat} {c : List Value} (h : Wt E.P n 23 c) : ∃ l : List Tb, c = [lst false (tbR.vals l)] ∧ l.length ≤ maxLen ∧ ∀ a ∈ l, (fun v => Rec.Ok v.kr v.rs) a :=
  recs_of tbR (Q := fun v => Rec.Ok v.kr v.rs) uLTable gTable (fun _m _x hx => tb_of hx) h
theorem fPlan : fsOf E.P 30 = some [(0, 22), (1, 23), (2, 24), (3, 25), (4, 26), (5, 27), (6, 28), (7, 3)] := by kernel_rfl
theorem nPlan : E.P.cellsOf 30 = 8 := by kernel_rfl
theorem pn_of {n : Nat} {c : List Value} (h : Wt E.P n 30 c) : ∃ v : Pn, c = pnC v ∧ v.ts.length ≤ maxLen ∧ Rec.Ok v.kt v.ts ∧ ∀ b ∈ v.ts, Rec.Ok b.kr b.rs := by
  obtain ⟨hl, hf⟩ := wt_struct fPlan h
  rw [nPlan] at hl
  obtain ⟨a0, c, rfl⟩ := List.exists_cons_of_length_eq_add_one hl; have hl := Nat.succ.inj hl
  obtain ⟨a1, c, rfl⟩ := List.exists_cons_of_length_eq_add_one hl; have hl := Nat.succ.inj hl
  obtain ⟨a2, c, rfl⟩ := List.exists_cons_of_length_eq_add_one hl; have hl := Nat.succ.inj hl
  obtain ⟨a3, c, rfl⟩ := List.exists_cons_of_length_eq_add_one hl; have hl := Nat.succ.inj hl
  obtain ⟨a4, c, rfl⟩ := List.exists_cons_of_length_eq_add_one hl; have hl := Nat.succ.inj hl
  obtain ⟨a5, c, rfl⟩ := List.exists_cons_of_length_eq_add_one hl; have hl := Nat.succ.inj hl
  obtain ⟨a6, c, rfl⟩ := List.exists_cons_of_length_eq_add_one hl; have hl := Nat.succ.inj hl
  obtain ⟨a7, c, rfl⟩ := List.exists_cons_of_length_eq_add_one hl; have hl := Nat.succ.inj hl
  obtain rfl := List.eq_nil_of_length_eq_zero hl
  obtain ⟨m0, q0⟩ := hf (0, 22) (by simp)
  replace q0 : Wt E.P m0 22 [a0] := by simpa [nLDef] using q0
  obtain ⟨m1, q1⟩ := hf (1, 23) (by simp)
  replace q1 : Wt E.P m1 23 [a1] := by simpa [nLTable] using q1
  obtain ⟨m2, q2⟩ := hf (2, 24) (by simp)
  replace q2 : Wt E.P m2 24 [a2] := by simpa [nLZone] using q2
  obtain ⟨m3, q3⟩ := hf (3, 25) (by simp)
  replace q3 : Wt E.P m3 25 [a3] := by simpa [nLRule] using q3
  obtain ⟨m4, q4⟩ := hf (4, 26) (by simp)
  replace q4 : Wt E.P m4 26 [a4] := by simpa [nLCap] using q4
  obtain ⟨m5, q5⟩ := hf (5, 27) (by simp)
  replace q5 : Wt E.P m5 27 [a5] := by simpa [nLView] using q5
  obtain ⟨m6, q6⟩ := hf (6, 28) (by simp)
  replace q6 : Wt E.P m6 28 [a6] := by simpa [nLPoint3] using q6
  obtain ⟨m7, q7⟩ := hf (7, 3) (by simp)
  replace q7 : Wt E.P m7 3 [a7] := by simpa [nint] using q7
  obtain ⟨v0, e, h0⟩ := wt_list uLDef q0; obtain rfl := List.singleton_inj.1 e
  obtain ⟨v1, e, h1, g1⟩ := tbs_of q1; obtain rfl := List.singleton_inj.1 e
  obtain ⟨v2, e, h2⟩ := wt_list uLZone q2; obtain rfl := List.singleton_inj.1 e
  obtain ⟨v3, e, h3⟩ := wt_list uLRule q3; obtain rfl := List.singleton_inj.1 e
  obtain ⟨v4, e, h4⟩ := wt_list uLCap q4; obtain rfl := List.singleton_inj.1 e
  obtain ⟨v5, e, h5⟩ := wt_list uLView q5; obtain rfl := List.singleton_inj.1 e
  obtain ⟨v6, e, h6⟩ := wt_list uLPoint3 q6; obtain rfl := List.singleton_inj.1 e
  obtain ⟨v7, e, h7⟩ := wt_int ui q7; obtain rfl := List.singleton_inj.1 e
  exact ⟨⟨some (false, v0), some false, v1, some (false, v2), some (false, v3), some (false, v4), some (false, v5), some (false, v6), v7⟩, rfl, h1, Rec.ok_some, g1⟩
theorem fTown : fsOf E.P 37 = some [(0, 30), (8, 31), (9, 32), (10, 33), (11, 34), (12, 35)] := by kernel_rfl
theorem nTown : E.P.cellsOf 37 = 13 := by kernel_rfl
theorem gTown : aggT E.P 37 = some true := by kernel_rfl
theorem tw_of {n : Nat} {c : List Value} (h : Wt E.P n 37 c) : ∃ v : Tw, c = twC v ∧ v.p.ts.length ≤ maxLen ∧ TwOk v := by
  obtain ⟨hl, hf⟩ := wt_struct fTown h
  rw [nTown] at hl
  obtain ⟨a0, c, rfl⟩ := List.exists_cons_of_length_eq_add_one hl; have hl := Nat.succ.inj hl
  obtain ⟨a1, c, rfl⟩ := List.exists_cons_of_length_eq_add_one hl; have hl := Nat.succ.inj hl
  obtain ⟨a2, c, rfl⟩ := List.exists_cons_of_length_eq_add_one hl; have hl := Nat.succ.inj hl
  obtain ⟨a3, c, rfl⟩ := List.exists_cons_of_length_eq_add_one hl; have hl := Nat.succ.inj hl
  obtain ⟨a4, c, rfl⟩ := List.exists_cons_of_length_eq_add_one hl; have hl := Nat.succ.inj hl
  obtain ⟨a5, c, rfl⟩ := List.exists_cons_of_length_eq_add_one hl; have hl := Nat.succ.inj hl
  obtain ⟨a6, c, rfl⟩ := List.exists_cons_of_length_eq_add_one hl; have hl := Nat.succ.inj hl
  obtain ⟨a7, c, rfl⟩ := List.exists_cons_of_length_eq_add_one hl; have hl := Nat.succ.inj hl
  obtain ⟨a8, c, rfl⟩ := List.exists_cons_of_length_eq_add_one hl; have hl := Nat.succ.inj hl
  obtain ⟨a9, c, rfl⟩ := List.exists_cons_of_length_eq_add_one hl; have hl := Nat.succ.inj hl
  obtain ⟨a10, c, rfl⟩ := List.exists_cons_of_length_eq_add_one hl; have hl := Nat.succ.inj hl
  obtain ⟨a11, c, rfl⟩ := List.exists_cons_of_length_eq_add_one hl; have hl := Nat.succ.inj hl
  obtain ⟨a12, c, rfl⟩ := List.exists_cons_of_length_eq_add_one hl; have hl := Nat.succ.inj hl
  obtain rfl := List.eq_nil_of_length_eq_zero hl
  obtain ⟨m0, q0⟩ := hf (0, 30) (by simp)
  replace q0 : Wt E.P m0 30 [a0, a1, a2, a3, a4, a5, a6, a7] := by simpa [nPlan] using q0
  obtain ⟨m1, q1⟩ := hf (8, 31) (by simp)
  replace q1 : Wt E.P m1 31 [a8] := by simpa [nLLot] using q1
  obtain ⟨m2, q2⟩ := hf (9, 32) (by simp)
  replace q2 : Wt E.P m2 32 [a9] := by simpa [nLEasement] using q2
  obtain ⟨m3, q3⟩ := hf (10, 33) (by simp)
  replace q3 : Wt E.P m3 33 [a10] := by simpa [nLWindow] using q3
  obtain ⟨m4, q4⟩ := hf (11, 34) (by simp)
  replace q4 : Wt E.P m4 34 [a11] := by simpa [nLPlaced] using q4
  obtain ⟨m5, q5⟩ := hf (12, 35) (by simp)
  replace q5 : Wt E.P m5 35 [a12] := by simpa [nLEntry] using q5
  obtain ⟨v0, e, g0⟩ := pn_of q0
  simp only [pnC, List.cons.injEq, and_true] at e; obtain ⟨rfl, rfl, rfl, rfl, rfl, rfl, rfl, rfl⟩ := e
  obtain ⟨v1, e, h1⟩ := wt_list uLLot q1; obtain rfl := List.singleton_inj.1 e
  obtain ⟨v2, e, h2⟩ := wt_list uLEasement q2; obtain rfl := List.singleton_inj.1 e
  obtain ⟨v3, e, h3⟩ := wt_list uLWindow q3; obtain rfl := List.singleton_inj.1 e
  obtain ⟨v4, e, h4, g4⟩ := pds_of q4; obtain rfl := List.singleton_inj.1 e
  obtain ⟨v5, e, h5, g5⟩ := ents_of q5; obtain rfl := List.singleton_inj.1 e
  exact ⟨⟨v0, some (false, v1), some (false, v2), some (false, v3), some false, v4, some false, v5⟩, rfl, g0.1, ⟨g0.2.1, g0.2.2, Rec.ok_some, Rec.ok_some⟩⟩
theorem fPoint : fsOf E.P 84 = some [(0, 3), (1, 3)] := by kernel_rfl
theorem nPoint : E.P.cellsOf 84 = 2 := by kernel_rfl
theorem gPoint : aggT E.P 84 = some true := by kernel_rfl
theorem pt_of {n : Nat} {c : List Value} (h : Wt E.P n 84 c) : ∃ v : (Int × Int), c = spanR.enc v := by
  obtain ⟨hl, hf⟩ := wt_struct fPoint h
  rw [nPoint] at hl
  obtain ⟨a0, c, rfl⟩ := List.exists_cons_of_length_eq_add_one hl; have hl := Nat.succ.inj hl
  obtain ⟨a1, c, rfl⟩ := List.exists_cons_of_length_eq_add_one hl; have hl := Nat.succ.inj hl
  obtain rfl := List.eq_nil_of_length_eq_zero hl
  obtain ⟨m0, q0⟩ := hf (0, 3) (by simp)
  replace q0 : Wt E.P m0 3 [a0] := by simpa [nint] using q0
  obtain ⟨m1, q1⟩ := hf (1, 3) (by simp)
  replace q1 : Wt E.P m1 3 [a1] := by simpa [nint] using q1
  obtain ⟨v0, e, h0⟩ := wt_int ui q0; obtain rfl := List.singleton_inj.1 e
  obtain ⟨v1, e, h1⟩ := wt_int ui q1; obtain rfl := List.singleton_inj.1 e
  exact ⟨⟨v0, v1⟩, rfl⟩
theorem pts_of {n : Nat} {c : List Value} (h : Wt E.P n 39 c) : ∃ l : List (Int × Int), c = [lst false (spanR.vals l)] ∧ l.length ≤ maxLen ∧ ∀ a ∈ l, (fun _ => True) a :=
  recs_of spanR (Q := fun _ => True) uLPoint gPoint (fun _m _x hx => (pt_of hx).imp fun _a h => ⟨h, trivial⟩) h
theorem fCap : fsOf E.P 41 = some [(0, 9), (1, 3), (2, 3), (3, 39)] := by kernel_rfl
theorem nCap : E.P.cellsOf 41 = 4 := by kernel_rfl
theorem gCap : aggT E.P 41 = some true := by kernel_rfl
theorem cc_of {n : Nat} {c : List Value} (h : Wt E.P n 41 c) : ∃ v : Cc, c = ccC v ∧ i64ok v.lim := by
  obtain ⟨hl, hf⟩ := wt_struct fCap h
  rw [nCap] at hl
  obtain ⟨a0, c, rfl⟩ := List.exists_cons_of_length_eq_add_one hl; have hl := Nat.succ.inj hl
  obtain ⟨a1, c, rfl⟩ := List.exists_cons_of_length_eq_add_one hl; have hl := Nat.succ.inj hl
  obtain ⟨a2, c, rfl⟩ := List.exists_cons_of_length_eq_add_one hl; have hl := Nat.succ.inj hl
  obtain ⟨a3, c, rfl⟩ := List.exists_cons_of_length_eq_add_one hl; have hl := Nat.succ.inj hl
  obtain rfl := List.eq_nil_of_length_eq_zero hl
  obtain ⟨m0, q0⟩ := hf (0, 9) (by simp)
  replace q0 : Wt E.P m0 9 [a0] := by simpa [nstring] using q0
  obtain ⟨m1, q1⟩ := hf (1, 3) (by simp)
  replace q1 : Wt E.P m1 3 [a1] := by simpa [nint] using q1
  obtain ⟨m2, q2⟩ := hf (2, 3) (by simp)
  replace q2 : Wt E.P m2 3 [a2] := by simpa [nint] using q2
  obtain ⟨m3, q3⟩ := hf (3, 39) (by simp)
  replace q3 : Wt E.P m3 39 [a3] := by simpa [nLPoint] using q3
  obtain ⟨v0, e, h0⟩ := wt_str uSt q0; obtain rfl := List.singleton_inj.1 e
  obtain ⟨v1, e, h1⟩ := wt_int ui q1; obtain rfl := List.singleton_inj.1 e
  obtain ⟨v2, e, h2⟩ := wt_int ui q2; obtain rfl := List.singleton_inj.1 e
  obtain ⟨v3, e, h3, g3⟩ := pts_of q3; obtain rfl := List.singleton_inj.1 e
  exact ⟨⟨v0, v1, v2, false, v3⟩, rfl, i64_wf h2⟩
theorem townV {n : Nat} {c : List Value} (h : Wt E.P n 37 c) : ∃ t : Tw, elemV E.P 37 c = twV t ∧ t.p.ts.length ≤ maxLen ∧ TwOk t := by
  obtain ⟨t, rfl, k⟩ := tw_of h
  exact ⟨t, by simp only [elemV, gTown, if_true]; rfl, k⟩
theorem rightsV {n : Nat} {c : List Value} (h : Wt E.P n 38 c) : ∃ l : List Rt, elemV E.P 38 c = lst false (rtR.vals l) ∧ l.length ≤ maxLen ∧ ∀ r ∈ l, RtOk r := by
  obtain ⟨l, rfl, h1, h2⟩ := rts_of h
  exact ⟨l, by simp [elemV, gLRight], h1, h2⟩
theorem capV {n : Nat} {c : List Value} (h : Wt E.P n 41 c) : ∃ k : Cc, elemV E.P 41 c = ccV k ∧ i64ok k.lim := by
  obtain ⟨t, rfl, k⟩ := cc_of h
  exact ⟨t, by simp only [elemV, gCap, if_true]; rfl, k⟩
theorem gint : aggT E.P 3 = some false := by kernel_rfl
theorem intV {n : Nat} {c : List Value} (h : Wt E.P n 3 c) : ∃ z : Int, elemV E.P 3 c = .int .i64 z ∧ i64ok z := by
  obtain ⟨z, rfl, hz⟩ := wt_int ui h
  exact ⟨z, by simp [elemV, gint], i64_wf hz⟩
theorem orcE : OrcSound E := by
  have h00 : ∀ f, E0.orc f = none := fun _ => rfl
  have key : ∀ g k, E.orc g = some k → (∃ F N, k = inG F N ∧ SortCon E.P g F N) ∨ (k = cloG E0 g ∧ CloCon E.P g) := fun g k h => by
    rw [E_orc] at h
    by_cases h0 : g = 40
    · subst h0; simp at h; exact .inr ⟨h.symm, conCloVol⟩
    by_cases h4 : g = 41
    · subst h4; simp at h; exact .inr ⟨h.symm, conCloEnt⟩
    by_cases h1 : g = 44
    · subst h1; simp at h; exact .inl ⟨_, _, h.symm, conSort⟩
    by_cases h2 : g = 45
    · subst h2; simp at h; exact .inl ⟨_, _, h.symm, conComp⟩
    simp only [h0, h1, h2, h4, if_false] at h; cases h
  refine ⟨fun g k hg args h lo r _ => ?_, fun g k hg args h lo v h' hr hlo B M w args' hs hv => ?_, fun g k hg args h lo v h' hr hlo => ?_⟩
  · rcases key g k hg with ⟨F, N, _, hC⟩ | ⟨_, hC⟩
    · exact hC.dfd
    · exact hC.dfd
  · rcases key g k hg with ⟨F, N, rfl, hC⟩ | ⟨rfl, hC⟩
    · exact in_sound hC hr hlo args' hs hv
    · exact cloG_sound (E₀ := E0) okE rfl rfl h00 hC hr hlo args' hs hv
  · rcases key g k hg with ⟨F, N, rfl, _⟩ | ⟨rfl, _⟩
    · exact inG_keep hr
    · exact cloG_keep h00 hr hlo
end Go.Proofs.Ytjkemccfcabhgaa.Bm
