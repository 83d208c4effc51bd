/-
 Chapter 27: choices among the names of an alternative. Conditions: few alternatives; a heap that names only itself.
-/
import Derived.Test.YtgefjhjmkejjbaaDoorQB19
namespace Go.Proofs.YtgefjhjmkejjbaaDoor.Bm
open Go Go.RowKit
open Co (ltB rem maskF)
abbrev ptr (b : Nat) : Value := .pointer (some ⟨b, 0, none⟩)
def nilT (v : Value) (h : Heap) : Res := match v with
 | .pointer (some a) => some (.pointer (some a), h)
 | .func (.yield 2) a b => some (.func (.yield 2) a b, h)
 | .func (.func f) fst cap => some (.func (.func f) fst cap, h)
 | _ => none
theorem rop_nilT {E : Env} {C : Callee} {lo : Nat} {st : Bool} {ρ : Operand → Value} {h : Heap} {x : Operand} : ropR E C lo st (.nilCheck x) ρ h = nilT (ρ x) h := rfl
theorem nilT_ptr {a : Addr} {h : Heap} : nilT (.pointer (some a)) h = some (.pointer (some a), h) := rfl
theorem uStr : E.P.underlying 9 = some .string := by kernel_rfl
theorem ba_beq (a b : ByteArray) : (a == b) = decide (a = b) := by
 rw [Bool.eq_iff_iff, decide_eq_true_iff]
 obtain ⟨x⟩ := a
 obtain ⟨y⟩ := b
 show (x == y) = true ↔ _
 rw [beq_iff_eq, ByteArray.mk.injEq]
theorem strK : KeyEnc E.P 9 Value.string where
 flat _ := rfl
 ok s := by unfold keyOk; rw [uStr]
 eq a b := by
  unfold aKeyEq
  rw [uStr]
  show some (a == b) = _
  rw [ba_beq]
 bits s := by
  show (s == s) = true
  rw [ba_beq, decide_eq_true rfl]
def als (A : List (Option Bool × List ByteArray)) : List (List ByteArray) := A.map (·.2)
structure Pb (h : Heap) (b r m : Nat) (K : Option Bool) (A : List (Option Bool × List ByteArray)) (ns : List ByteArray) : Prop where
 obj : h[b]? = some (.cells 63 [listE.o K A, Enc.sl r ns, .map (some m)] 0)
 row : h[r]? = some (strE.row 9 ns)
 map : ∃ tb, h[m]? = some (mapB Value.string tb) ∧ ∀ s, (aget tb s).getD (setV 0) = setV (maskF (als A) s)
 k : Enc.Ok K A
 ka : ∀ a ∈ A, Enc.Ok a.1 a.2
 few : A.length ≤ 8
 small : ∀ a ∈ A, a.2.length ≤ 12
 lot : ns.length ≤ 96
section
variable {h : Heap} {b r m : Nat} {K : Option Bool} {A : List (Option Bool × List ByteArray)} {ns : List ByteArray}
theorem Pb.of (p : Pb h b r m K A ns) {h' : Heap} (hb : h'[b]? = h[b]?) (hr : h'[r]? = h[r]?) (hm : h'[m]? = h[m]?) : Pb h' b r m K A ns :=
 ⟨by rw [hb]; exact p.obj, by rw [hr]; exact p.row, by obtain ⟨tb, h1, h2⟩ := p.map; exact ⟨tb, by rw [hm]; exact h1, h2⟩, p.k, p.ka, p.few, p.small, p.lot⟩
theorem get_app {h e : Heap} {o : Nat} {x : AObj} (ho : h[o]? = some x) : (h ++ e)[o]? = some x := by
 rw [List.getElem?_append_left (List.getElem?_eq_some_iff.1 ho).1]; exact ho
theorem Pb.app (p : Pb h b r m K A ns) (e : Heap) : Pb (h ++ e) b r m K A ns :=
 ⟨get_app p.obj, get_app p.row, by obtain ⟨tb, h1, h2⟩ := p.map; exact ⟨tb, get_app h1, h2⟩, p.k, p.ka, p.few, p.small, p.lot⟩
theorem mask_small (A : List (Option Bool × List ByteArray)) (hA : A.length ≤ 8) (s : ByteArray) : maskF (als A) s < 2 ^ 64 := by
 refine lt_of_bits fun i hi => ?_
 cases q : (maskF (als A) s).testBit i
 ·rfl
 ·have := Co.mask_lt _ _ q
  unfold als at this
  rw [List.length_map] at this
  omega
theorem Pb.look (p : Pb h b r m K A ns) (s : ByteArray) : lookupT E.P (some ⟨9, some (.int .u64 0)⟩) h (.map (some m)) (.string s) false = some (setV (maskF (als A) s)) := by
 obtain ⟨tb, h1, h2⟩ := p.map
 have h2 := h2 s
 cases hg : aget tb s with
 | none =>
  rw [hg] at h2
  rw [lookup_none (zv := .int .u64 0) strK rfl h1 hg, ← h2]; rfl
 | some v =>
  rw [hg] at h2
  have h2 : v = setV (maskF (als A) s) := h2
  rw [lookup_some (z := some (.int .u64 0)) strK rfl h1 hg, h2]; rfl
theorem Pb.l0 (p : Pb h b r m K A ns) {sz : Option Nat} : loadT ⟨some false, sz⟩ h (ptr b) = some (listE.o K A) := obj_load p.obj rfl
theorem Pb.l1 (p : Pb h b r m K A ns) {sz : Option Nat} : loadT ⟨some false, sz⟩ h (.pointer (some ⟨b, 1, none⟩)) = some (Enc.sl r ns) := obj_load p.obj rfl
theorem Pb.l2 (p : Pb h b r m K A ns) {sz : Option Nat} : loadT ⟨some false, sz⟩ h (.pointer (some ⟨b, 2, none⟩)) = some (.map (some m)) := obj_load p.obj rfl
abbrev Box (h : Heap) (x : Nat) (t : TypeId) (v : Value) : Prop := h[x]? = some (.cells t [v] 0)
theorem box_load {x : Nat} {t : TypeId} {v : Value} (hx : Box h x t v) {sz : Option Nat} : loadT ⟨some false, sz⟩ h (ptr x) = some v := obj_load hx rfl
theorem apart1_spec (p : Pb h b r m K A ns) {x y k : Nat} (hx : Box h x 43 (ptr b)) (hy : Box h y 3 (.int .i64 (k : Int))) (hk : k < 64) (s : ByteArray) :
  Rd 86 [.string s, ptr x, ptr y] h (.bool ((maskF (als A) s).testBit k)) := by
 intro lo st
 have l2 := fun sz => p.l2 (sz := sz)
 have lk := p.look s
 have lx := fun sz => box_load hx (sz := sz)
 have ly := fun sz => box_load hy (sz := sz)
 have ms := mask_small A p.few s
 have b1 := bin_shrU (P := E.P) (t := 58) (a := maskF (als A) s) hk
 have ha : maskF (als A) s >>> k < 2 ^ 64 := Nat.lt_of_le_of_lt (by rw [Nat.shiftRight_eq_div_pow]; exact Nat.div_le_self _ _) ms
 have b2 := bin_andU (P := E.P) (t := 58) (a := maskF (als A) s >>> k) (b := 1) ha (by omega)
 have b3 := mk_eq (P := E.P) (t := 58) (a := (maskF (als A) s >>> k) &&& 1) (b := 1)
 rw [bit_at] at b2 b3
 have e1 : setV 1 = .int .u64 1 := rfl
 rw [e1] at b2 b3
 rw [ret5 m86, L_fn F86 rfl]
 simp -implicitDefEqProofs [r86, p86, rop_nilT, nilT_ptr, lx, ly, l2, lk, b1, b2, b3, trim_le, frz_set8]
end
end Go.Proofs.YtgefjhjmkejjbaaDoor.Bm
namespace Go.Proofs.YtgefjhjmkejjbaaDoor.Bm
open Go Go.RowKit
open Co (ltB rem maskF apartF)
def WF (h : Heap) : Prop := h.all (belowO h.length) = true
theorem trim_wf {h e : Heap} (hw : WF h) {v : Value} (hv : below depth h.length v = true) : trim h.length [v] (h ++ e) = h := by
 unfold Bm.trim
 split
 ·rename_i q
  rw [List.length_append] at q
  have : e = [] := List.eq_nil_of_length_eq_zero (by omega)
  rw [this, List.append_nil]
 ·rw [List.take_left, if_pos]
  rw [Bool.and_eq_true]
  exact ⟨by simp [hv], hw⟩
section
variable {h : Heap} {b r m : Nat} {K : Option Bool} {A : List (Option Bool × List ByteArray)} {ns : List ByteArray}
theorem alt_at {A : List (Option Bool × List ByteArray)} {i : Nat} (hi : i < A.length) : (als A).getD i [] = A[i].2 := by
 unfold als
 simp [List.getD, hi]
theorem apart_spec (p : Pb h b r m K A ns) (hw : WF h) {i k : Nat} (hi : i < A.length) (hk : k < 64) :
  Rd 64 [ptr b, .int .i64 (i : Int), .int .i64 (k : Int)] h (.bool (apartF (als A) i k)) := by
 intro lo st
 have pe := p.app [.cells 43 [ptr b] 0, .cells 3 [.int .i64 (k : Int)] 0]
 have hx : Box (h ++ [.cells 43 [ptr b] 0, .cells 3 [.int .i64 (k : Int)] 0]) h.length 43 (ptr b) := by
  unfold Box; rw [List.getElem?_append_right (Nat.le_refl _)]; simp
 have hy : Box (h ++ [.cells 43 [ptr b] 0, .cells 3 [.int .i64 (k : Int)] 0]) (h.length + 1) 3 (.int .i64 (k : Int)) := by
  unfold Box; rw [List.getElem?_append_right (Nat.le_add_right _ _)]; simp
 have cf := containsFS A[i].1 A[i].2 (p.ka _ (List.getElem_mem hi)) (Nat.le_trans (p.small _ (List.getElem_mem hi)) (by omega)) (.func (.func 86) ⟨[]⟩ ⟨[ptr h.length, ptr (h.length + 1)]⟩)
  (fun s => (maskF (als A) s).testBit k) _ fun s _ => Cl.of (apart1_spec pe hx hy hk s)
 unfold Rd at cf
 have l0 := fun sz => pe.l0 (sz := sz)
 have lx := fun sz => box_load hx (sz := sz)
 have ix := Enc.index_o (O := listE) (t := 23) (k := .i64) p.k hi
 have le : ∀ h sz, loadT ⟨some false, sz⟩ h (cptr (listE.e A[i])) = some (strE.o A[i].1 A[i].2) := fun h sz => Enc.load_e (O := listE) _
 have tw := fun e v => trim_wf (e := e) hw (v := .bool v) rfl
 unfold apartF
 rw [alt_at hi]
 generalize listE.o K A = VA at *
 generalize cptr (listE.e A[i]) = VE at *
 generalize strE.o A[i].1 A[i].2 = VS at *
 rw [ret5 m64, L_fn F64 rfl]
 simp -implicitDefEqProofs [r64, p64, rop_nilT, nilT_ptr, lx, l0, ix, le, cf, tw, frz_set8]
end
end Go.Proofs.YtgefjhjmkejjbaaDoor.Bm
namespace Go.Proofs.YtgefjhjmkejjbaaDoor.Bm
open Go Go.RowKit
open Co (ltB rem maskF apartF allF)
section
variable {h : Heap} {b r m : Nat} {K : Option Bool} {A : List (Option Bool × List ByteArray)} {ns : List ByteArray}
theorem all_lt {A : List (Option Bool × List ByteArray)} (hA : A.length ≤ 8) : allF (als A) < 2 ^ 64 := by
 refine lt_of_bits fun i hi => ?_
 rw [Co.all_bit, decide_eq_false]
 unfold als
 rw [List.length_map]; omega
theorem bin_subU {P : Program} {t : TypeId} {n : Nat} (h : n < 64) : aBin P .sub t (setV (2 ^ n)) (.int .u64 1) = some (setV (2 ^ n - 1)) := by
 show some (Value.int .u64 (IntKind.u64.wrap (((2 ^ n : Nat) : Int) - 1))) = _
 have h1 : 0 < 2 ^ n := Nat.pow_pos (by omega)
 have h2 : 2 ^ n < 2 ^ 64 := Nat.pow_lt_pow_right (by omega) h
 have e : (((2 ^ n : Nat) : Int) - 1) = ((2 ^ n - 1 : Nat) : Int) := by omega
 rw [e, wrapU (by omega)]; rfl
theorem all_spec (p : Pb h b r m K A ns) : Rd 37 [ptr b] h (setV (allF (als A))) := by
 intro lo st
 have l0 := fun sz => p.l0 (sz := sz)
 have ll : ∀ h, lenT .sl h (listE.o K A) = some (.int .i64 A.length) := fun h => Enc.o_len p.k
 have hf := p.few
 have b1 := bin_shlU (P := E.P) (t := 58) (n := A.length) (by omega)
 have b2 := bin_subU (P := E.P) (t := 58) (n := A.length) (by omega)
 have ea : allF (als A) = 2 ^ A.length - 1 := by unfold allF als; rw [List.length_map]
 have e1 : setV 1 = .int .u64 1 := rfl
 rw [e1] at b1
 have fz : ∀ lo, freezeV E.P depth lo h (setV (2 ^ A.length - 1)) = some (setV (2 ^ A.length - 1), h) := fun _ => rfl
 rw [ea]
 generalize listE.o K A = VA at *
 generalize setV (2 ^ A.length - 1) = V at *
 rw [ret5 m37, L_fn F37 rfl]
 simp -implicitDefEqProofs [r37, p37, rop_nilT, nilT_ptr, l0, ll, b1, b2, trim_le, fz]
theorem packed1_spec (p : Pb h b r m K A ns) (hw : WF h) {x y i k : Nat} (hx : Box h x 43 (ptr b)) (hy : Box h y 3 (.int .i64 (i : Int))) (hi : i < A.length) (hk : k < 64) :
  Rd 72 [.int .i64 (k : Int), ptr x, ptr y] h (.bool (!apartF (als A) i k)) := by
 intro lo st
 have ap := apart_spec p hw hi hk
 unfold Rd at ap
 have lx := fun sz => box_load hx (sz := sz)
 have ly := fun sz => box_load hy (sz := sz)
 rw [ret5 m72, L_fn F72 rfl]
 simp -implicitDefEqProofs [r72, p72, lx, ly, ap, trim_le, frz_set8]
theorem pack11_spec (p : Pb h b r m K A ns) (hw : WF h) {x y i k : Nat} (hx : Box h x 43 (ptr b)) (hy : Box h y 3 (.int .i64 (i : Int))) (hi : i < A.length) (hk : k < 64) :
  Rd 63 [.int .i64 (k : Int), ptr x, ptr y] h (.bool (!apartF (als A) i k)) := by
 intro lo st
 have ap := apart_spec p hw hi hk
 unfold Rd at ap
 have lx := fun sz => box_load hx (sz := sz)
 have ly := fun sz => box_load hy (sz := sz)
 rw [ret5 m63, L_fn F63 rfl]
 simp -implicitDefEqProofs [r63, p63, lx, ly, ap, trim_le, frz_set8]
theorem replace1_spec (p : Pb h b r m K A ns) {x y z i o : Nat} {ka : Option Bool} {a : List ByteArray} (hka : Enc.Ok ka a) (hx : Box h x 58 (setV o)) (hy : Box h y 43 (ptr b)) (hz : Box h z 23 (strE.o ka a)) (ho : o < 2 ^ 64) (hi : i < a.length) :
  Rd 73 [.int .i64 (i : Int), ptr x, ptr y, ptr z] h (.bool (decide (rem o (maskF (als A) a[i]) = 0))) := by
 intro lo st
 have l2 := fun sz => p.l2 (sz := sz)
 have lk := p.look a[i]
 have lx := fun sz => box_load hx (sz := sz)
 have ly := fun sz => box_load hy (sz := sz)
 have lz := fun sz => box_load hz (sz := sz)
 have ix := Enc.index_o (O := strE) (t := 9) (k := .i64) hka hi
 have le : ∀ h sz, loadT ⟨some false, sz⟩ h (cptr (strE.e a[i])) = some (.string a[i]) := fun h sz => Enc.load_e (O := strE) _
 have b1 := bin_remU (P := E.P) (t := 58) ho (mask_small A p.few a[i])
 have b2 := mk_eq (P := E.P) (t := 58) (a := rem o (maskF (als A) a[i])) (b := 0)
 have e0 : setV 0 = .int .u64 0 := rfl
 rw [e0] at b2
 generalize strE.o ka a = VA at *
 generalize cptr (strE.e a[i]) = VE at *
 rw [ret5 m73, L_fn F73 rfl]
 simp -implicitDefEqProofs [r73, p73, rop_nilT, nilT_ptr, lx, ly, lz, l2, lk, ix, le, b1, b2, trim_le, frz_set8]
theorem hits1_spec {x : Nat} {kc : Option Bool} {c : List ByteArray} (hkc : Enc.Ok kc c) (hl : c.length ≤ 1000000) (hx : Box h x 23 (strE.o kc c)) (s : ByteArray) :
  Rd 32 [.string s, ptr x] h (.bool (c.any fun a => decide (s = a))) := by
 intro lo st
 have lx := fun sz => box_load hx (sz := sz)
 have cs := contains_strs kc c s hkc hl
 have rf : ∀ h, reify E.P 8 h (strE.o kc c) = some (strE.o kc c) := fun h => Enc.o_reify
 generalize strE.o kc c = VA at *
 rw [ret5 m32, L_fn F32 rfl]
 simp -implicitDefEqProofs [r32, p32, ret0 m33, lx, cs, rf, trim_le, frz_set8]
theorem indices1_spec {x : Nat} {n : Nat} (hx : Box h x 3 (.int .i64 (n : Int))) (i : Int) :
  Rd 71 [.int .i64 i, ptr x] h (.bool (decide (i < 0) || decide ((n : Int) ≤ i))) := by
 intro lo st
 have lx := fun sz => box_load hx (sz := sz)
 rw [ret5 m71, L_fn F71 rfl]
 by_cases q : i < 0
 ·simp -implicitDefEqProofs [r71, p71, q, trim_le, frz_set8]
 ·simp -implicitDefEqProofs [r71, p71, lx, q, trim_le, frz_set8]
end
end Go.Proofs.YtgefjhjmkejjbaaDoor.Bm
namespace Go.Proofs.YtgefjhjmkejjbaaDoor.Bm
open Go Go.RowKit
open Co (ltB ascB rem maskF apartF allF)
def ltZ (a b : Int) : Bool := decide (a < b)
theorem ascI_spec (k : Option Bool) (l : List Int) (hk : Enc.Ok k l) (hl : l.length ≤ 1000000) : pureCall E.P (L E) 70 [intE.o k l] = some (.bool (ascB ltZ l)) := by
 have ll : ∀ h, lenT .sl h (intE.o k l) = some (.int .i64 l.length) := fun h => Enc.o_len hk
 have il : ∀ (i : Nat) (hi : i < l.length), indexAddrT (.sl 3 ⟨some false, some 1⟩) (intE.o k l) (.int .i64 (i : Int)) = some (cptr (.int .i64 l[i])) := fun i hi => Enc.index_o hk hi
 generalize intE.o k l = VL at *
 rw [pureCall_fn F70 rfl]
 simp -implicitDefEqProofs [r70, p70]
 rw [LL_for (γ := Unit) (l.drop 1) () (fun i _ => [(3, .int .i64 ((i : Int) + 1))]) (fun _ _ => []) (fun i rest _ => if ascB ltZ (l.drop i) then (.exit 0, [(3, undef)], []) else (.ret, [(2, .bool false), (3, undef)], [])) (fun _ _ => True) (by rw [List.length_drop]; omega) trivial]
 ·by_cases q : ascB ltZ l = true
  ·simp -implicitDefEqProofs [k70_2, q]
  ·simp -implicitDefEqProofs [k70_2, q]
 ·simp -implicitDefEqProofs [k70_2]
 ·rfl
 ·intro nx i c hi _
  rw [List.length_drop] at hi
  have h1 : ¬ ((i : Int) + 1 < l.length) := by omega
  have e : ascB ltZ (l.drop i) = true := by
   have : (l.drop i).length ≤ 1 := by rw [List.length_drop]; omega
   match hd : l.drop i, this with
   | [], _ => rfl
   | [_], _ => rfl
   | _ :: _ :: _, h => simp at h
  simp -implicitDefEqProofs [r70_2, k70_2, ll, h1, e, trim_le]
 ·intro nx i v rest c hi hv hd hw _ ih
  have ih := ih () trivial
  rw [List.length_drop] at hi
  have h1 : ((i : Int) + 1 < l.length) := by omega
  have x1 := il i (by omega)
  have x2 := il (i + 1) (by omega)
  have w1 : IntKind.i64.wrap (i : Int) = (i : Int) := wrap64 (by omega) (by omega)
  have w2 : IntKind.i64.wrap ((i : Int) + 1 + 1) = (i : Int) + 1 + 1 := wrap64 (by omega) (by omega)
  have ec : (((i + 1 : Nat) : Int)) = (i : Int) + 1 := by omega
  rw [ec] at ih x2
  have e : ascB ltZ (l.drop i) = (ltZ l[i] l[i + 1] && ascB ltZ (l.drop (i + 1))) := by
   rw [List.drop_eq_getElem_cons (show i < l.length by omega), List.drop_eq_getElem_cons (show i + 1 < l.length by omega)]
   rfl
  rw [e]
  simp -implicitDefEqProofs [k70_2] at ih
  generalize l[i] = a at *
  generalize l[i + 1] = b at *
  by_cases q : a < b
  ·have q1 : ltZ a b = true := decide_eq_true q
   have q2 : ¬ b ≤ a := by omega
   simp -implicitDefEqProofs [r70_2, k70_2, ll, h1, x1, x2, w1, w2, q1, q2, trim_le, ih]
  ·have q1 : ltZ a b = false := decide_eq_false q
   have q2 : b ≤ a := by omega
   simp -implicitDefEqProofs [r70_2, k70_2, ll, h1, x1, x2, w1, q1, q2, trim_le]
def idxOk (l : List Int) (n : Nat) : Bool := ascB ltZ l && !l.any fun i => decide (i < 0) || decide ((n : Int) ≤ i)
theorem indices_spec (k : Option Bool) (l : List Int) (hk : Enc.Ok k l) (hl : l.length ≤ 1000000) (n : Nat) : pureCall E.P (L E) 52 [intE.o k l, .int .i64 (n : Int)] = some (.bool (idxOk l n)) := by
 have ha := ascI_spec k l hk hl
 have hx : Box [AObj.cells 3 [.int .i64 (n : Int)] 0] 0 3 (.int .i64 (n : Int)) := rfl
 have cf := containsFI k l hk hl (.func (.func 71) ⟨[]⟩ ⟨[ptr 0]⟩) (fun i => decide (i < 0) || decide ((n : Int) ≤ i)) _ fun s _ => Cl.of (indices1_spec hx s)
 unfold Rd at cf
 have rf : ∀ h, reify E.P 8 h (intE.o k l) = some (intE.o k l) := fun h => Enc.o_reify
 unfold idxOk
 generalize intE.o k l = VL at *
 rw [pureCall_fn F52 rfl]
 cases q : ascB ltZ l
 ·rw [q] at ha
  simp -implicitDefEqProofs [r52, p52, ret0 m70, rf, ha]
 ·rw [q] at ha
  simp -implicitDefEqProofs [r52, p52, ret0 m70, rf, ha, cf]
end Go.Proofs.YtgefjhjmkejjbaaDoor.Bm
namespace Go.Proofs.YtgefjhjmkejjbaaDoor.Bm
open Go Go.RowKit
open Co (ltB rem maskF apartF allF packedF)
theorem below_mono : ∀ (d : Nat) {n m : Nat} {v : Value}, n ≤ m → below d n v = true → below d m v = true
 | 0, _, _, _, _, h => absurd h Bool.false_ne_true
 | d + 1, n, m, v, hnm, h => by
  have ih : ∀ l : List Value, l.all (below d n) = true → l.all (below d m) = true := fun l hl => List.all_eq_true.2 fun x hx => below_mono d hnm (List.all_eq_true.1 hl x hx)
  unfold below at h ⊢
  split at h
  ·exact decide_eq_true (by have := of_decide_eq_true h; omega)
  ·exact decide_eq_true (by have := of_decide_eq_true h; omega)
  ·exact decide_eq_true (by have := of_decide_eq_true h; omega)
  ·exact ih _ h
  ·exact ih _ h
  ·rfl
  ·rw [Bool.and_eq_true] at h ⊢; exact ⟨ih _ h.1, ih _ h.2⟩
  ·exact below_mono d hnm h
  ·simp_all
theorem belO_mono {n m : Nat} {o : AObj} (hnm : n ≤ m) (h : belowO n o = true) : belowO m o = true := by
 unfold belowO at h ⊢
 cases o with
 | cells t c g => exact List.all_eq_true.2 fun x hx => below_mono _ hnm (List.all_eq_true.1 h x hx)
 | dead => rfl
 | map es k =>
  refine List.all_eq_true.2 fun x hx => ?_
  have := List.all_eq_true.1 h x hx
  rw [Bool.and_eq_true] at this ⊢
  exact ⟨below_mono _ hnm this.1, below_mono _ hnm this.2⟩
theorem WF.snoc {h : Heap} (hw : WF h) {o : AObj} (ho : belowO (h.length + 1) o = true) : WF (h ++ [o]) := by
 unfold WF at *
 rw [List.length_append, List.length_singleton, List.all_append, Bool.and_eq_true]
 refine ⟨List.all_eq_true.2 fun x hx => belO_mono (Nat.le_succ _) (List.all_eq_true.1 hw x hx), by simp [ho]⟩
theorem Pb.lt {h : Heap} {b r m : Nat} {K : Option Bool} {A : List (Option Bool × List ByteArray)} {ns : List ByteArray} (p : Pb h b r m K A ns) : b < h.length := (List.getElem?_eq_some_iff.1 p.obj).1
theorem box_snoc {h : Heap} {t : TypeId} {v : Value} : Box (h ++ [.cells t [v] 0]) h.length t v := by
 unfold Box; rw [List.getElem?_append_right (Nat.le_refl _)]; simp
theorem trim_wfs {h e : Heap} (hw : WF h) {vs : List Value} (hv : vs.all (below depth h.length) = true) : trim h.length vs (h ++ e) = h := by
 unfold Bm.trim
 split
 ·rename_i q
  rw [List.length_append] at q
  have : e = [] := List.eq_nil_of_length_eq_zero (by omega)
  rw [this, List.append_nil]
 ·rw [List.take_left, if_pos]
  rw [Bool.and_eq_true]
  exact ⟨hv, hw⟩
def castL (K : List Nat) : List Int := K.map Int.ofNat
theorem cast_len (K : List Nat) : (castL K).length = K.length := List.length_map _
theorem cast_get {K : List Nat} {i : Nat} (hi : i < K.length) : (castL K)[i]'(by rw [cast_len]; exact hi) = (K[i] : Int) := by unfold castL; rw [List.getElem_map]; rfl
theorem cast_take (K : List Nat) (i : Nat) : (castL K).take i = castL (K.take i) := by unfold castL; rw [List.map_take]
section
variable {h : Heap} {b r m : Nat} {K : Option Bool} {A : List (Option Bool × List ByteArray)} {ns : List ByteArray}
set_option maxHeartbeats 1000000 in
theorem packed_spec (p : Pb h b r m K A ns) (hw : WF h) (x : Bool) (L : List Nat) (hL : ∀ i ∈ L, i < A.length) (hl : L.length ≤ 1000) {o : Nat} (ho : o < 2 ^ 64) :
  Rd 53 [ptr b, intE.o (some x) (castL L), setV o] h (.bool (packedF (als A) o [] L)) := by
 intro lo st
 have hwp : WF (h ++ [AObj.cells 43 [ptr b] 0]) := hw.snoc (by have := p.lt; simp [belO_cells, below]; omega)
 have ll : ∀ h, lenT .sl h (intE.o (some x) (castL L)) = some (.int .i64 L.length) := fun h => by rw [Enc.o_len Enc.ok_some, cast_len]
 have il : ∀ (i : Nat) (hi : i < L.length), indexAddrT (.sl 3 ⟨some false, some 1⟩) (intE.o (some x) (castL L)) (.int .i64 (i : Int)) = some (cptr (.int .i64 (L[i] : Int))) := fun i hi => by
  rw [Enc.index_o Enc.ok_some (by rw [cast_len]; exact hi), cast_get hi]; rfl
 have tk : ∀ (H : Heap) (i : Nat), i ≤ L.length → sliceT (.sl 3 ⟨some false, some 1⟩) H (intE.o (some x) (castL L)) none (some (.int .i64 (i : Int))) none = some (intE.o (some (x && i == L.length)) (castL (L.take i))) := fun H i hi => by
  have := Enc.take_tree (O := intE) (h := H) (x := x) (l := castL L) (t := 3) (g := some false) (n := i) (k := .i64) (by rw [cast_len]; exact hi)
  rw [cast_take, cast_len] at this
  exact this
 have tw := fun e v => trim_wf (e := e) hw (v := .bool v) rfl
 have tw2 : ∀ (e : Heap) (v : Bool), trim h.length [.bool v] (h ++ AObj.cells 43 [ptr b] 0 :: e) = h := fun e v => tw _ v
 have hsz := p.few
 have bV : ∀ n, below 8 n (intE.o (some x) (castL L)) = true := fun n => Enc.o_bel
 have bO : ∀ n, below 8 n (setV o) = true := fun n => rfl
 have hb : b < h.length + 1 := by have := p.lt; omega
 have tr : ∀ (vs : List Value) (e : Heap), vs.all (below 8 (h.length + 1)) = true → trim (h.length + 1) vs (h ++ AObj.cells 43 [ptr b] 0 :: e) = h ++ [AObj.cells 43 [ptr b] 0] := fun vs e hvs => by
  have := trim_wfs (h := h ++ [AObj.cells 43 [ptr b] 0]) (e := e) hwp (vs := vs) (by rw [List.length_append]; exact hvs)
  rw [List.length_append, List.append_assoc] at this
  exact this
 generalize intE.o (some x) (castL L) = VL at *
 rw [ret5 m53, L_fn F53 rfl]
 simp -implicitDefEqProofs [r53, p53, ll]
 rw [LL_for (γ := Unit) L () (fun i _ => [(11, .int .i64 (i : Int))]) (fun _ _ => h ++ [AObj.cells 43 [ptr b] 0])
  (fun i rest _ => if packedF (als A) o (L.take i) rest then (.exit 0, [(11, undef)], h ++ [AObj.cells 43 [ptr b] 0]) else (.ret, [(6, .bool false), (11, undef)], h ++ [AObj.cells 43 [ptr b] 0])) (fun _ _ => True) (by omega) trivial]
 ·rw [List.take_zero]
  by_cases q : packedF (als A) o [] L = true
  ·simp -implicitDefEqProofs [k53_2, q, tw, frz_set8]
  ·simp -implicitDefEqProofs [k53_2, q, tw, frz_set8]
 ·simp -implicitDefEqProofs [k53_2]
 ·rfl
 ·intro nx i c hi _
  have e : ∀ acc, packedF (als A) o acc [] = true := fun _ => rfl
  simp -implicitDefEqProofs [r53_2, k53_2, hi, e, trim_le]
 ·intro nx i v rest c hi hv hd hw1 _ ih
  have ih := ih () trivial
  have hi2 : ((i : Int) < L.length) := by omega
  have x1 := il i hi
  rw [hv] at x1
  have x2 := tk (h ++ [AObj.cells 43 [ptr b] 0] ++ [AObj.cells 3 [.int .i64 (v : Int)] 0]) i (by omega)
  have hvA : v < A.length := hL v (by rw [← hv]; exact List.getElem_mem hi)
  have e : packedF (als A) o (L.take i) (v :: rest) = (o.testBit v && ((L.take i).all (apartF (als A) v) && packedF (als A) o (L.take (i + 1)) rest)) := by
   rw [← List.take_append_getElem hi, hv]; rfl
  have ec : (((i + 1 : Nat) : Int)) = (i : Int) + 1 := by omega
  rw [ec] at ih
  rw [e]
  have b1 := bin_shrU (P := E.P) (t := 58) (a := o) (n := v) (by omega)
  have ha : o >>> v < 2 ^ 64 := Nat.lt_of_le_of_lt (by rw [Nat.shiftRight_eq_div_pow]; exact Nat.div_le_self _ _) ho
  have b2 := bin_andU (P := E.P) (t := 58) (a := o >>> v) (b := 1) ha (by omega)
  have c0 : aBin E.P .eql 58 (setV 0) (.int .u64 0) = some (.bool true) := mk_eq (a := 0) (b := 0)
  have c1 : aBin E.P .eql 58 (setV 1) (.int .u64 0) = some (.bool false) := mk_eq (a := 1) (b := 0)
  rw [bit_at] at b2
  have e1 : setV 1 = .int .u64 1 := rfl
  rw [e1] at b2
  have hy : Box (h ++ [AObj.cells 43 [ptr b] 0] ++ [AObj.cells 3 [.int .i64 (v : Int)] 0]) (h.length + 1) 3 (.int .i64 (v : Int)) := by
   have := box_snoc (h := h ++ [AObj.cells 43 [ptr b] 0]) (t := 3) (v := .int .i64 (v : Int))
   rw [List.length_append] at this
   exact this
  have hx : Box (h ++ [AObj.cells 43 [ptr b] 0] ++ [AObj.cells 3 [.int .i64 (v : Int)] 0]) h.length 43 (ptr b) := get_app box_snoc
  have st1 := obj_store (lo := h.length) (v := .int .i64 (v : Int)) (show (h ++ [AObj.cells 43 [ptr b] 0] ++ [AObj.cells 3 [.int .i64 0] 0])[h.length + 1]? = some (AObj.cells 3 [.int .i64 0] 0) from by
   have := box_snoc (h := h ++ [AObj.cells 43 [ptr b] 0]) (t := 3) (v := .int .i64 0)
   rw [List.length_append] at this
   exact this) (j := 0) (by simp) (by omega) rfl
  have es : (h ++ [AObj.cells 43 [ptr b] 0] ++ [AObj.cells 3 [.int .i64 0] 0]).set (h.length + 1) (AObj.cells 3 [.int .i64 (v : Int)] 0) = h ++ [AObj.cells 43 [ptr b] 0] ++ [AObj.cells 3 [.int .i64 (v : Int)] 0] := by
   rw [List.set_append_right _ _ (by simp)]
   simp
  rw [show ([Value.int .i64 0].set 0 (.int .i64 (v : Int))) = [.int .i64 (v : Int)] from rfl, es] at st1
  have hwp2 : WF (h ++ [AObj.cells 43 [ptr b] 0] ++ [AObj.cells 3 [.int .i64 (v : Int)] 0]) := hwp.snoc rfl
  have lt1 : ∀ z ∈ castL (L.take i), ∃ n : Nat, z = (n : Int) ∧ n < A.length := fun z hz => by
   obtain ⟨n, hn, rfl⟩ := List.mem_map.1 hz
   exact ⟨n, rfl, hL n (List.mem_of_mem_take hn)⟩
  have cf := containsFI (some (x && i == L.length)) (castL (L.take i)) Enc.ok_some (by rw [cast_len, List.length_take]; omega) (.func (.func 72) ⟨[]⟩ ⟨[ptr h.length, ptr (h.length + 1)]⟩)
   (fun z => !apartF (als A) v z.toNat) _ fun z hz => Cl.of (by
    obtain ⟨n, rfl, hn⟩ := lt1 z hz
    exact packed1_spec ((p.app _).app _) hwp2 hx hy hvA (by omega))
  unfold Rd at cf
  have ea : (castL (L.take i)).any (fun z => !apartF (als A) v z.toNat) = !(L.take i).all (apartF (als A) v) := by
   unfold castL
   rw [List.any_map, List.not_all_eq_any_not]
   rfl
  rw [ea] at cf
  have ly := fun sz => box_load hy (sz := sz)
  rw [List.append_assoc] at st1 cf x2 ly
  simp only [List.cons_append, List.nil_append, cAt] at st1 cf x2 ly
  simp -implicitDefEqProofs [k53_2] at ih
  cases q : o.testBit v
  ·simp -implicitDefEqProofs [r53_2, k53_2, hi2, x1, st1, ly, b1, b2, c0, q, bV, bO, hb, tr]
  ·cases q2 : (L.take i).all (apartF (als A) v)
   ·simp -implicitDefEqProofs [r53_2, k53_2, hi2, x1, st1, ly, b1, b2, c1, q, x2, cf, q2, bV, bO, hb, tr]
   ·simp -implicitDefEqProofs [r53_2, k53_2, hi2, x1, st1, ly, b1, b2, c1, q, x2, cf, q2, bV, bO, hb, tr, hw1, ih]
end
end Go.Proofs.YtgefjhjmkejjbaaDoor.Bm
namespace Go.Proofs.YtgefjhjmkejjbaaDoor.Bm
open Go Go.RowKit
def lowBit (n : Nat) : Nat := ((List.range 8).find? fun i => n.testBit i).getD 64
def tzI (n : Nat) : Nat := ((n &&& (18446744073709551616 - n)) * 285870213051353865) % 18446744073709551616 / 288230376151711744
set_option maxRecDepth 1000000 in
theorem tz_all : (List.range 255).all (fun n => tab64[tzI (n + 1)]? == some (Int.ofNat (lowBit (n + 1)))) = true := by kernel_rfl
set_option maxRecDepth 1000000 in
theorem tz_in : (List.range 255).all (fun n => decide (tzI (n + 1) < 64)) = true := by kernel_rfl
theorem tz_at {n : Nat} (h0 : n ≠ 0) (h : n < 256) : tzI n < 64 ∧ tab64[tzI n]? = some (lowBit n : Int) := by
 obtain ⟨k, rfl⟩ : ∃ k, n = k + 1 := ⟨n - 1, by omega⟩
 have hk : k < 255 := by omega
 exact ⟨of_decide_eq_true (List.all_eq_true.1 tz_in k (List.mem_range.2 hk)), eq_of_beq (List.all_eq_true.1 tz_all k (List.mem_range.2 hk))⟩
theorem un_negU {n : Nat} (h0 : n ≠ 0) (h : n < 256) : aUn .neg (setV n) = some (setV (18446744073709551616 - n)) := by
 show some (Value.int .u64 (IntKind.u64.wrap (0 - (n : Int)))) = _
 have : IntKind.u64.wrap (0 - (n : Int)) = ((18446744073709551616 - n : Nat) : Int) := by
  unfold IntKind.wrap
  simp [IntKind.bits, IntKind.signed]
  omega
 rw [this]; rfl
theorem bin_mulU {P : Program} {t : TypeId} {a : Nat} : aBin P .mul t (setV a) (.int .u64 285870213051353865) = some (setV (a * 285870213051353865 % 18446744073709551616)) := by
 show some (Value.int .u64 (IntKind.u64.wrap ((a : Int) * 285870213051353865))) = _
 have : IntKind.u64.wrap ((a : Int) * 285870213051353865) = ((a * 285870213051353865 % 18446744073709551616 : Nat) : Int) := by
  unfold IntKind.wrap
  simp [IntKind.bits, IntKind.signed]
 rw [this]; rfl
theorem bin_shr58 {P : Program} {t : TypeId} {a : Nat} : aBin P .shr t (setV a) (.int .u64 58) = some (setV (a / 288230376151711744)) := by
 show some (Value.int .u64 (Int.fdiv (a : Int) (2 ^ 58))) = _
 have : Int.fdiv (a : Int) (2 ^ 58) = ((a / 288230376151711744 : Nat) : Int) := by
  rw [Int.fdiv_eq_ediv_of_nonneg _ (by decide)]
  exact (Int.natCast_ediv a 288230376151711744).symm
 rw [this]; rfl
end Go.Proofs.YtgefjhjmkejjbaaDoor.Bm
namespace Go.Proofs.YtgefjhjmkejjbaaDoor.Bm
open Go Go.RowKit
open Co (ltB rem maskF apartF allF)
def betterF (e o i k : Nat) : Bool := decide (rem e o = 0) && (!decide (o = e) || decide (k < i))
section
variable {h : Heap} {b r m : Nat} {K : Option Bool} {A : List (Option Bool × List ByteArray)} {ns : List ByteArray}
set_option maxHeartbeats 1000000 in
theorem choices1_spec (p : Pb h b r m K A ns) {x1 x2 x3 x4 x5 o e i k : Nat} {ka : Option Bool} {a : List ByteArray} (hka : Enc.Ok ka a) (h1 : Box h x1 43 (ptr b)) (h2 : Box h x2 23 (strE.o ka a))
  (h3 : Box h x3 58 (setV o)) (h4 : Box h x4 58 (setV e)) (h5 : Box h x5 3 (.int .i64 (i : Int))) (ho : o < 2 ^ 64) (he : e < 2 ^ 64) (hk : k < a.length) :
  Rd 67 [.int .i64 (k : Int), ptr x1, ptr x2, ptr x3, ptr x4, ptr x5] h (.bool (betterF e (maskF (als A) a[k] &&& o) i k)) := by
 intro lo st
 have l2 := fun sz => p.l2 (sz := sz)
 have lk := p.look a[k]
 have y1 := fun sz => box_load h1 (sz := sz)
 have y2 := fun sz => box_load h2 (sz := sz)
 have y3 := fun sz => box_load h3 (sz := sz)
 have y4 := fun sz => box_load h4 (sz := sz)
 have y5 := fun sz => box_load h5 (sz := sz)
 have ix := Enc.index_o (O := strE) (t := 9) (k := .i64) hka hk
 have le : ∀ h sz, loadT ⟨some false, sz⟩ h (cptr (strE.e a[k])) = some (.string a[k]) := fun h sz => Enc.load_e (O := strE) _
 have b1 := bin_andU (P := E.P) (t := 58) (mask_small A p.few a[k]) ho
 have hq : maskF (als A) a[k] &&& o < 2 ^ 64 := and_lt (mask_small A p.few a[k])
 generalize maskF (als A) a[k] &&& o = q at *
 have b2 := bin_remU (P := E.P) (t := 58) he hq
 have b3 := mk_eq (P := E.P) (t := 58) (a := rem e q) (b := 0)
 have e0 : setV 0 = .int .u64 0 := rfl
 rw [e0] at b3
 have b4 := mk_neq (P := E.P) (t := 58) (a := q) (b := e)
 have c0 : aBin E.P .eql 58 (setV 0) (.int .u64 0) = some (.bool true) := mk_eq (a := 0) (b := 0)
 generalize strE.o ka a = VA at *
 generalize cptr (strE.e a[k]) = VE at *
 unfold betterF
 rw [ret5 m67, L_fn F67 rfl]
 by_cases c1 : rem e q = 0
 ·by_cases c2 : q = e
  ·subst c2
   simp -implicitDefEqProofs [r67, p67, rop_nilT, nilT_ptr, y1, y2, y3, y4, y5, l2, lk, ix, le, b1, b2, b4, c0, c1, trim_le, frz_set8]
  ·simp -implicitDefEqProofs [r67, p67, rop_nilT, nilT_ptr, y1, y2, y3, y4, l2, lk, ix, le, b1, b2, b4, c0, c1, c2, trim_le, frz_set8]
 ·simp -implicitDefEqProofs [r67, p67, rop_nilT, nilT_ptr, y1, y2, y3, y4, l2, lk, ix, le, b1, b2, b3, c1, trim_le, frz_set8]
end
end Go.Proofs.YtgefjhjmkejjbaaDoor.Bm
namespace Go.Proofs.YtgefjhjmkejjbaaDoor.Bm
open Go Go.RowKit
open Co (ltB rem maskF apartF allF replF)
section
variable {h : Heap} {b r m : Nat} {K : Option Bool} {A : List (Option Bool × List ByteArray)} {ns : List ByteArray}
def repB (ls : List (List ByteArray)) (o : Nat) (a : List ByteArray) (N : List Nat) (x : ByteArray) : Bool := N.any fun k => decide (rem (maskF ls x &&& o) (maskF ls (a.getD k ⟨⟨[]⟩⟩)) = 0)
set_option maxHeartbeats 1000000 in
theorem replace_spec (p : Pb h b r m K A ns) (hw : WF h) (x : Bool) (N : List Nat) {ka : Option Bool} {a : List ByteArray} (hka : Enc.Ok ka a) (hN : ∀ i ∈ N, i < a.length) (hl : N.length ≤ 1000) (hla : a.length ≤ 1000) {o : Nat} (ho : o < 2 ^ 64) :
  Rd 54 [ptr b, strE.o ka a, intE.o (some x) (castL N), setV o] h (.bool (a.all (repB (als A) o a N))) := by
 intro lo st
 have hwp : WF (h ++ [AObj.cells 43 [ptr b] 0] ++ [AObj.cells 23 [strE.o ka a] 0]) := (hw.snoc (by have := p.lt; simp [belO_cells, below]; omega)).snoc (by
  rw [belO_cells, List.all_cons, List.all_nil, Bool.and_true]; exact Enc.o_bel)
 rw [List.append_assoc] at hwp
 have bx : Box (h ++ [AObj.cells 43 [ptr b] 0, AObj.cells 23 [strE.o ka a] 0]) h.length 43 (ptr b) := by
  unfold Box; rw [List.getElem?_append_right (Nat.le_refl _)]; simp
 have by_ : Box (h ++ [AObj.cells 43 [ptr b] 0, AObj.cells 23 [strE.o ka a] 0]) (h.length + 1) 23 (strE.o ka a) := by
  unfold Box; rw [List.getElem?_append_right (Nat.le_add_right _ _)]; simp
 have ll : ∀ h, lenT .sl h (strE.o ka a) = some (.int .i64 a.length) := fun h => Enc.o_len hka
 have il : ∀ (i : Nat) (hi : i < a.length), indexAddrT (.sl 9 ⟨some false, some 1⟩) (strE.o ka a) (.int .i64 (i : Int)) = some (cptr (.string a[i])) := fun i hi => Enc.index_o hka hi
 have tw := fun e v => trim_wf (e := e) hw (v := .bool v) rfl
 have bV : ∀ n, below 8 n (intE.o (some x) (castL N)) = true := fun n => Enc.o_bel
 have bS : ∀ n, below 8 n (strE.o ka a) = true := fun n => Enc.o_bel
 have bO : ∀ n, below 8 n (setV o) = true := fun n => rfl
 have hb : b < h.length + 2 := by have := p.lt; omega
 have tr : ∀ (vs : List Value) (e : Heap), vs.all (below 8 (h.length + 2)) = true → trim (h.length + 2) vs (h ++ AObj.cells 43 [ptr b] 0 :: AObj.cells 23 [strE.o ka a] 0 :: e) = h ++ [AObj.cells 43 [ptr b] 0, AObj.cells 23 [strE.o ka a] 0] := fun vs e hvs => by
  have := trim_wfs (h := h ++ [AObj.cells 43 [ptr b] 0, AObj.cells 23 [strE.o ka a] 0]) (e := e) hwp (vs := vs) (by rw [List.length_append]; exact hvs)
  rw [List.length_append, List.append_assoc] at this
  exact this
 have lx := fun sz => box_load bx (sz := sz)
 have ly := fun sz => box_load by_ (sz := sz)
 have p2 := p.app [AObj.cells 43 [ptr b] 0, AObj.cells 23 [strE.o ka a] 0]
 have l2 := fun sz => p2.l2 (sz := sz)
 have key : ∀ v : ByteArray, ∃ W, W = h ++ [AObj.cells 43 [ptr b] 0, AObj.cells 23 [strE.o ka a] 0, AObj.cells 58 [setV (maskF (als A) v &&& o)] 0] ∧
   Rd 62 [intE.o (some x) (castL N), .func (.func 73) ⟨[]⟩ ⟨[ptr (h.length + 2), ptr h.length, ptr (h.length + 1)]⟩] W (.bool (repB (als A) o a N v)) := by
  intro v
  refine ⟨_, rfl, ?_⟩
  have q1 : Box (h ++ [AObj.cells 43 [ptr b] 0, AObj.cells 23 [strE.o ka a] 0, AObj.cells 58 [setV (maskF (als A) v &&& o)] 0]) (h.length + 2) 58 (setV (maskF (als A) v &&& o)) := by
   unfold Box; rw [List.getElem?_append_right (Nat.le_add_right _ _)]; simp
  have q2 : Box (h ++ [AObj.cells 43 [ptr b] 0, AObj.cells 23 [strE.o ka a] 0, AObj.cells 58 [setV (maskF (als A) v &&& o)] 0]) h.length 43 (ptr b) := by
   unfold Box; rw [List.getElem?_append_right (Nat.le_refl _)]; simp
  have q3 : Box (h ++ [AObj.cells 43 [ptr b] 0, AObj.cells 23 [strE.o ka a] 0, AObj.cells 58 [setV (maskF (als A) v &&& o)] 0]) (h.length + 1) 23 (strE.o ka a) := by
   unfold Box; rw [List.getElem?_append_right (Nat.le_add_right _ _)]; simp
  have cf := containsFI (some x) (castL N) Enc.ok_some (by rw [cast_len]; omega) (.func (.func 73) ⟨[]⟩ ⟨[ptr (h.length + 2), ptr h.length, ptr (h.length + 1)]⟩)
   (fun z => decide (rem (maskF (als A) v &&& o) (maskF (als A) (a.getD z.toNat ⟨⟨[]⟩⟩)) = 0)) _ fun z hz => Cl.of (by
    obtain ⟨n, hn, rfl⟩ := List.mem_map.1 hz
    have hna := hN n hn
    have := replace1_spec (p.app _) hka q1 q2 q3 (and_lt (mask_small A p.few v)) hna
    have eg : a.getD (Int.ofNat n).toNat ⟨⟨[]⟩⟩ = a[n] := by
     show a.getD n _ = _
     rw [List.getD_eq_getElem?_getD, List.getElem?_eq_getElem hna]; rfl
    rw [eg]
    exact this)
  have ea : (castL N).any (fun z => decide (rem (maskF (als A) v &&& o) (maskF (als A) (a.getD z.toNat ⟨⟨[]⟩⟩)) = 0)) = repB (als A) o a N v := by
   unfold castL repB
   rw [List.any_map]; rfl
  rw [ea] at cf
  exact cf
 have lk := fun v => p2.look v
 have co : cellsOf (strE.o ka a) = some [strE.o ka a] := Enc.o_cellsOf
 have mb : ∀ v, aBin E.P .and 58 (setV (maskF (als A) v)) (setV o) = some (setV (maskF (als A) v &&& o)) := fun v => bin_andU (mask_small A p.few v) ho
 have st1 : ∀ v : ByteArray, storeT (some 1) (h ++ [AObj.cells 43 [ptr b] 0, AObj.cells 23 [strE.o ka a] 0, AObj.cells 58 [.int .u64 0] 0]) h.length (setV (maskF (als A) v &&& o)) (ptr (h.length + 2)) =
   some (h ++ [AObj.cells 43 [ptr b] 0, AObj.cells 23 [strE.o ka a] 0, AObj.cells 58 [setV (maskF (als A) v &&& o)] 0]) := fun v => by
  have := obj_store (h := h ++ [AObj.cells 43 [ptr b] 0, AObj.cells 23 [strE.o ka a] 0, AObj.cells 58 [.int .u64 0] 0]) (b := h.length + 2) (j := 0) (t := 58) (c := [.int .u64 0]) (lo := h.length) (v := setV (maskF (als A) v &&& o))
   (by rw [List.getElem?_append_right (Nat.le_add_right _ _)]; simp) (by simp) (by omega) rfl
  rw [List.set_append_right _ _ (by omega)] at this
  simpa [cAt] using this
 generalize strE.o ka a = VS at *
 generalize intE.o (some x) (castL N) = VN at *
 rw [ret5 m54, L_fn F54 rfl]
 simp -implicitDefEqProofs [r54, p54, co, ly, ll]
 rw [LL_for (γ := Unit) a () (fun i _ => [(14, .int .i64 (i : Int))]) (fun _ _ => h ++ [AObj.cells 43 [ptr b] 0, AObj.cells 23 [VS] 0])
  (fun i rest _ => if rest.all (repB (als A) o a N) then (.exit 0, [(14, undef)], h ++ [AObj.cells 43 [ptr b] 0, AObj.cells 23 [VS] 0]) else (.ret, [(8, .bool false), (14, undef)], h ++ [AObj.cells 43 [ptr b] 0, AObj.cells 23 [VS] 0])) (fun _ _ => True) (by omega) trivial]
 ·by_cases q : a.all (repB (als A) o a N) = true
  ·simp -implicitDefEqProofs [k54_2, q, tw, frz_set8, -List.all_eq_true]
  ·simp -implicitDefEqProofs [k54_2, q, tw, frz_set8, -List.all_eq_true]
 ·simp -implicitDefEqProofs [k54_2]
 ·rfl
 ·intro nx i c hi _
  simp -implicitDefEqProofs [r54_2, k54_2, hi, trim_le]
 ·intro nx i v rest c hi hv hd hw1 _ ih
  have ih := ih () trivial
  have hi2 : ((i : Int) < a.length) := by omega
  have x1 := il i hi
  rw [hv] at x1
  obtain ⟨W, hW, cf⟩ := key v
  subst hW
  unfold Rd at cf
  have ec : (((i + 1 : Nat) : Int)) = (i : Int) + 1 := by omega
  rw [ec] at ih
  have st1 := st1 v
  have lk := lk v
  have mb := mb v
  simp -implicitDefEqProofs [k54_2, -List.all_eq_true] at ih
  rw [List.all_cons]
  cases q : repB (als A) o a N v
  ·simp -implicitDefEqProofs [r54_2, k54_2, rop_nilT, nilT_ptr, hi2, x1, lx, l2, lk, mb, st1, cf, q, bV, bS, bO, hb, tr, -List.all_eq_true]
  ·simp -implicitDefEqProofs [r54_2, k54_2, rop_nilT, nilT_ptr, hi2, x1, lx, l2, lk, mb, st1, cf, q, bV, bS, bO, hb, tr, hw1, ih, -List.all_eq_true]
end
end Go.Proofs.YtgefjhjmkejjbaaDoor.Bm
namespace Go.Proofs.YtgefjhjmkejjbaaDoor.Bm
open Go Go.RowKit
open Co (ltB rem maskF apartF allF)
def freeI (p : Nat → Bool) (i : Nat) : Nat → List Unit → Bool
 | _, [] => true
 | j, _ :: r => (decide (j = i) || !p j) && freeI p i (j + 1) r
theorem freeI_all (p : Nat → Bool) (i : Nat) : ∀ (n j : Nat), freeI p i j (List.replicate n ()) = (List.range n).all fun k => decide (j + k = i) || !p (j + k)
 | 0, j => rfl
 | n + 1, j => by
  show ((decide (j = i) || !p j) && freeI p i (j + 1) (List.replicate n ())) = _
  rw [freeI_all p i n (j + 1), List.range_succ_eq_map, List.all_cons, List.all_map]
  congr 1
  congr 1
  funext k
  simp only [Function.comp, Nat.succ_eq_add_one]
  rw [show j + 1 + k = j + (k + 1) by omega]
set_option maxHeartbeats 1000000 in
theorem free_loop {h : Heap} {lo : Nat} {F : Value} {p : Nat → Bool} {n i x : Nat} (hn : n ≤ 1000) (hF : ∀ k, k < n → Cl F [.int .i64 (k : Int)] h (.bool (p k))) (hx : Box h x 3 (.int .i64 (i : Int)))
  (y0 y1 y2 y3 y4 y5 y6 y7 y9 y10 y13 y14 y15 : Value) (z0 z1 z2 z3 z4 z5 z6 z7 z8 z9 z10 z11 z12 z13 z14 : Value) (w1 w2 w3 w4 w5 w6 w7 w8 w9 w10 w11 w12 w13 w14 w15 : Value) (rest : Slots) :
  LL k46_9 (evR E (L E) LL lo r46_9)
   (blk y0 y1 y2 y3 y4 y5 y6 y7 (ptr x) y9 y10 F (.bool true) y13 y14 y15 (blk z0 z1 z2 z3 z4 z5 z6 z7 z8 z9 z10 z11 z12 z13 z14 (.int .i64 (n : Int)) (blk (.int .i64 0) w1 w2 w3 w4 w5 w6 w7 w8 w9 w10 w11 w12 w13 w14 w15 rest))) h =
  fin (forget k46_9.1 (blk y0 y1 y2 y3 y4 y5 y6 y7 (ptr x) y9 y10 F (.bool true) y13 y14 y15 (blk z0 z1 z2 z3 z4 z5 z6 z7 z8 z9 z10 z11 z12 z13 z14 (.int .i64 (n : Int)) (blk (.int .i64 0) w1 w2 w3 w4 w5 w6 w7 w8 w9 w10 w11 w12 w13 w14 w15 rest))))
   (.exit 2, [(12, .bool (freeI p i 0 (List.replicate n ()))), (32, undef)], h) := by
 have lx := fun sz => box_load hx (sz := sz)
 rw [LL_for (γ := Bool) (List.replicate n ()) true (fun j c => [(12, .bool c), (32, .int .i64 (j : Int))]) (fun _ _ => h) (fun j rest c => (.exit 2, [(12, .bool (c && freeI p i j rest)), (32, undef)], h)) (fun _ _ => True) (by rw [List.length_replicate]; omega) trivial]
 ·rw [Bool.true_and]
 ·simp -implicitDefEqProofs [k46_9]
 ·rfl
 ·intro nx j c hj _
  rw [List.length_replicate] at hj
  subst hj
  have e : ∀ j, freeI p i j [] = true := fun _ => rfl
  simp -implicitDefEqProofs [r46_9, k46_9, e, trim_le]
 ·intro nx j v rest2 c hj hv hd hw1 _ ih
  rw [List.length_replicate] at hj
  have ih := fun c' => ih c' trivial
  have hj2 : ((j : Int) < n) := by omega
  have cl := hF j hj
  unfold Cl at cl
  have ec : (((j + 1 : Nat) : Int)) = (j : Int) + 1 := by omega
  rw [ec] at ih
  have ef : freeI p i j (v :: rest2) = ((decide (j = i) || !p j) && freeI p i (j + 1) rest2) := rfl
  rw [ef]
  simp -implicitDefEqProofs [k46_9] at ih
  cases c
  ·simp -implicitDefEqProofs [r46_9, k46_9, hj2, hw1, trim_le, ih]
  ·by_cases q : j = i
   ·subst q
    simp -implicitDefEqProofs [r46_9, k46_9, hj2, lx, hw1, trim_le, ih]
   ·have q2 : ¬ (j : Int) = (i : Int) := by omega
    cases q3 : p j
    ·rw [q3] at cl
     simp -implicitDefEqProofs [r46_9, k46_9, hj2, lx, q, q2, cl, hw1, trim_le, ih]
    ·rw [q3] at cl
     simp -implicitDefEqProofs [r46_9, k46_9, hj2, lx, q, q2, cl, hw1, trim_le, ih]
end Go.Proofs.YtgefjhjmkejjbaaDoor.Bm
namespace Go.Proofs.YtgefjhjmkejjbaaDoor.Bm
open Go Go.RowKit
open Co (ltB rem maskF apartF allF)
theorem get_at {h L : Heap} {k : Nat} {x : AObj} (hx : L[k]? = some x) : (h ++ L)[h.length + k]? = some x := by
 rw [List.getElem?_append_right (Nat.le_add_right _ _), Nat.add_sub_cancel_left]; exact hx
theorem set_at {h L : Heap} {k : Nat} {x : AObj} : (h ++ L).set (h.length + k) x = h ++ L.set k x := by
 rw [List.set_append_right _ _ (Nat.le_add_right _ _), Nat.add_sub_cancel_left]
abbrev elInt : El := ⟨3, 1, 8, .int .i64 0, ⟨some false, some 1⟩⟩
def inQ (ls : List (List ByteArray)) (o : Nat) (a : List ByteArray) (k : Nat) : Nat := maskF ls (a.getD k ⟨⟨[]⟩⟩) &&& o
def freeQ (ls : List (List ByteArray)) (o : Nat) (a : List ByteArray) (i : Nat) : Bool := freeI (fun k => betterF (inQ ls o a i) (inQ ls o a k) i k) i 0 (List.replicate a.length ())
section
variable {h : Heap} {b r m : Nat} {K : Option Bool} {A : List (Option Bool × List ByteArray)} {ns : List ByteArray}
def chH (b : Nat) (VS : Value) (o : Nat) (c : List Nat) (e : Heap) : Heap := AObj.cells 43 [ptr b] 0 :: AObj.cells 23 [VS] 0 :: AObj.cells 58 [setV o] 0 :: intE.row 3 (castL c) :: e
theorem inQ_at (ls : List (List ByteArray)) (o : Nat) {a : List ByteArray} {k : Nat} (hk : k < a.length) : inQ ls o a k = maskF ls a[k] &&& o := by
 unfold inQ
 rw [List.getD_eq_getElem?_getD, List.getElem?_eq_getElem hk]; rfl
def moreC (ls : List (List ByteArray)) (o : Nat) (a : List ByteArray) (i n : Nat) : List Nat := (List.range' i n).filter (freeQ ls o a)
theorem moreC_cons (ls : List (List ByteArray)) (o : Nat) (a : List ByteArray) (i n : Nat) : moreC ls o a i (n + 1) = (if freeQ ls o a i = true then [i] else []) ++ moreC ls o a (i + 1) n := by
 unfold moreC
 rw [List.range'_succ, List.filter_cons]
 split <;> rfl
theorem chH_len {VS : Value} {o : Nat} {c : List Nat} {e : Heap} : (chH b VS o c e).length = e.length + 4 := rfl
theorem chH_app {VS : Value} {o : Nat} {c : List Nat} {e f : Heap} : chH b VS o c e ++ f = chH b VS o c (e ++ f) := rfl
set_option maxHeartbeats 2000000 in
theorem choices_spec (p : Pb h b r m K A ns) (hw : WF h) {ka : Option Bool} {a : List ByteArray} (hka : Enc.Ok ka a) (hla : a.length ≤ 1000) {o : Nat} (ho : o < 2 ^ 64) :
  Rd 46 [ptr b, strE.o ka a, setV o] h (intE.o (some false) (castL (moreC (als A) o a 0 a.length))) := by
 intro lo st
 have hb : b < h.length := p.lt
 have ll : ∀ h, lenT .sl h (strE.o ka a) = some (.int .i64 a.length) := fun h => Enc.o_len hka
 have il : ∀ (i : Nat) (hi : i < a.length), indexAddrT (.sl 9 ⟨some false, some 1⟩) (strE.o ka a) (.int .i64 (i : Int)) = some (cptr (.string a[i])) := fun i hi => Enc.index_o hka hi
 have co : cellsOf (strE.o ka a) = some [strE.o ka a] := Enc.o_cellsOf
 have bS : ∀ n, below 8 n (strE.o ka a) = true := fun n => Enc.o_bel
 have wf0 : ∀ c, WF (h ++ chH b (strE.o ka a) o c []) := fun c => by
  have h1 : WF (h ++ [AObj.cells 43 [ptr b] 0]) := hw.snoc (by simp [belO_cells, below]; omega)
  have h2 := h1.snoc (o := AObj.cells 23 [strE.o ka a] 0) (by rw [belO_cells, List.all_cons, List.all_nil, Bool.and_true]; exact bS _)
  have h3 := h2.snoc (o := AObj.cells 58 [setV o] 0) rfl
  have h4 := h3.snoc (o := intE.row 3 (castL c)) Enc.row_bel
  rw [List.append_assoc, List.append_assoc, List.append_assoc] at h4
  exact h4
 have tr : ∀ (c : List Nat) (vs : List Value) (e : Heap), vs.all (below 8 (h.length + 4)) = true → trim (h.length + 4) vs (h ++ chH b (strE.o ka a) o c e) = h ++ chH b (strE.o ka a) o c [] := fun c vs e hvs => by
  have := trim_wfs (e := e) (wf0 c) (vs := vs) (by rw [List.length_append]; exact hvs)
  rw [List.length_append, List.append_assoc] at this
  exact this
 have bx : ∀ c e, Box (h ++ chH b (strE.o ka a) o c e) h.length 43 (ptr b) := fun c e => by
  have := get_at (h := h) (L := chH b (strE.o ka a) o c e) (k := 0) (x := AObj.cells 43 [ptr b] 0) rfl
  exact this
 have by_ : ∀ c e, Box (h ++ chH b (strE.o ka a) o c e) (h.length + 1) 23 (strE.o ka a) := fun c e => get_at (k := 1) rfl
 have bz : ∀ c e, Box (h ++ chH b (strE.o ka a) o c e) (h.length + 2) 58 (setV o) := fun c e => get_at (k := 2) rfl
 have hrow : ∀ c e, (h ++ chH b (strE.o ka a) o c e)[h.length + 3]? = some (intE.row 3 (castL c)) := fun c e => get_at (k := 3) rfl
 have mb : ∀ v, aBin E.P .and 58 (setV (maskF (als A) v)) (setV o) = some (setV (maskF (als A) v &&& o)) := fun v => bin_andU (mask_small A p.few v) ho
 have pe := fun c e => p.app (chH b (strE.o ka a) o c e)
 have cl : ∀ (c : List Nat) (i : Nat), i < a.length → ∀ k, k < a.length → Cl (.func (.func 67) ⟨[]⟩ ⟨[ptr h.length, ptr (h.length + 1), ptr (h.length + 2), ptr (h.length + 5), ptr (h.length + 4)]⟩)
   [.int .i64 (k : Int)] (h ++ chH b (strE.o ka a) o c [AObj.cells 3 [.int .i64 (i : Int)] 0, AObj.cells 58 [setV (inQ (als A) o a i)] 0]) (.bool (betterF (inQ (als A) o a i) (inQ (als A) o a k) i k)) := fun c i hi k hk => Cl.of (by
  have := choices1_spec (e := inQ (als A) o a i) (i := i) (pe c [AObj.cells 3 [.int .i64 (i : Int)] 0, AObj.cells 58 [setV (inQ (als A) o a i)] 0]) hka (bx c _) (by_ c _) (bz c _) (x4 := h.length + 5) (x5 := h.length + 4) (get_at (k := 5) rfl) (get_at (k := 4) rfl) ho
   (by rw [inQ_at _ _ hi]; exact and_lt (mask_small A p.few _)) hk
  rw [inQ_at (als A) o hk]
  exact this)
 have lx := fun c e sz => box_load (bx c e) (sz := sz)
 have ly := fun c e sz => box_load (by_ c e) (sz := sz)
 have lz := fun c e sz => box_load (bz c e) (sz := sz)
 have l2 := fun c e sz => (pe c e).l2 (sz := sz)
 have lk := fun c e v => (pe c e).look v
 have st1 : ∀ (c : List Nat) (i : Nat), storeT (some 1) (h ++ chH b (strE.o ka a) o c [AObj.cells 3 [.int .i64 0] 0]) h.length (.int .i64 (i : Int)) (ptr (h.length + 4)) = some (h ++ chH b (strE.o ka a) o c [AObj.cells 3 [.int .i64 (i : Int)] 0]) := fun c i => by
  have := obj_store (h := h ++ chH b (strE.o ka a) o c [AObj.cells 3 [.int .i64 0] 0]) (b := h.length + 4) (j := 0) (t := 3) (c := [.int .i64 0]) (lo := h.length) (v := .int .i64 (i : Int)) (get_at (k := 4) rfl) (by simp) (by omega) rfl
  rw [set_at] at this
  exact this
 have st2 : ∀ (c : List Nat) (i : Nat) (x : AObj), storeT (some 1) (h ++ chH b (strE.o ka a) o c [x, AObj.cells 58 [.int .u64 0] 0]) h.length (setV i) (ptr (h.length + 5)) = some (h ++ chH b (strE.o ka a) o c [x, AObj.cells 58 [setV i] 0]) := fun c i x => by
  have := obj_store (h := h ++ chH b (strE.o ka a) o c [x, AObj.cells 58 [.int .u64 0] 0]) (b := h.length + 5) (j := 0) (t := 58) (c := [.int .u64 0]) (lo := h.length) (v := setV i) (get_at (k := 5) rfl) (by simp) (by omega) rfl
  rw [set_at] at this
  exact this
 have h0 : h ++ [AObj.cells 43 [ptr b] 0, AObj.cells 23 [strE.o ka a] 0, AObj.cells 58 [setV o] 0, AObj.cells 3 [] 1] = h ++ chH b (strE.o ka a) o [] [] := rfl
 have sI : szOf E.P 3 = some 1 := by kernel_rfl
 have co2 : ∀ n, cellsOf (setV n) = some [setV n] := fun _ => rfl
 have hnew := fun (h : Heap) (σ : Slots) (s : Nat) => newK_nil (P := E.P) (t := 3) (h := h) (σ := σ) (s := s) (n := 0) sI
 generalize hVS : strE.o ka a = VS at *
 rw [ret5 m46, L_fn F46 rfl]
 simp -implicitDefEqProofs [r46, p46, co, co2, ll, prep_new, hnew]
 have fz : ∀ c, ∃ e, freezeV E.P depth h.length (h ++ chH b VS o c []) (Enc.sl (h.length + 3) (castL c)) = some (intE.o (some false) (castL c), h ++ e) := fun c => by
  have := Enc.frz_sl (P := E.P) (O := intE) (l := castL c) (lo := h.length) (hrow c []) sI (by kernel_rfl) (by omega)
  rw [set_at] at this
  rw [this]
  split
  ·exact ⟨_, rfl⟩
  ·exact ⟨_, rfl⟩
 have tl : ∀ (c : List Nat) (e : Heap), trim h.length [intE.o (some false) (castL c)] (h ++ e) = h := fun c e => trim_wfs hw (by rw [List.all_cons, List.all_nil, Bool.and_true]; exact Enc.o_bel)
 rw [LL_for (γ := List Nat) a [] (fun i c => [(7, Enc.sl (h.length + 3) (castL c)), (16, .int .i64 (i : Int))]) (fun _ c => h ++ chH b VS o c [])
  (fun i rest c => (.exit 0, [(7, Enc.sl (h.length + 3) (castL (c ++ moreC (als A) o a i rest.length))), (16, undef)], h ++ chH b VS o (c ++ moreC (als A) o a i rest.length) [])) (fun i c => c.length ≤ i) (by omega) (Nat.le_refl _)]
 ·rw [List.nil_append]
  obtain ⟨e, fz⟩ := fz (moreC (als A) o a 0 a.length)
  have tl := tl (moreC (als A) o a 0 a.length) e
  generalize Enc.sl (h.length + 3) (castL (moreC (als A) o a 0 a.length)) = VR at *
  simp -implicitDefEqProofs [k46_3, fz, tl]
 ·simp -implicitDefEqProofs [k46_3]; rfl
 ·exact h0.symm
 ·intro nx i c hi _
  simp -implicitDefEqProofs [r46_3, k46_3, hi, moreC, trim_le, chH_len]
 ·intro nx i v rest c hi hv hd hw1 hci ih
  have hi2 : ((i : Int) < a.length) := by omega
  have x1 := il i hi
  rw [hv] at x1
  have ec : (((i + 1 : Nat) : Int)) = (i : Int) + 1 := by omega
  rw [ec] at ih
  have s1 := st1 c i
  have s2 := st2 c (inQ (als A) o a i) (AObj.cells 3 [.int .i64 (i : Int)] 0)
  have lk1 := lk c [AObj.cells 3 [.int .i64 (i : Int)] 0] v
  have mb1 := mb v
  have eiq : maskF (als A) v &&& o = inQ (als A) o a i := by rw [inQ_at _ _ hi, hv]
  rw [eiq] at mb1
  have fl := free_loop (h := h ++ chH b VS o c [AObj.cells 3 [.int .i64 (i : Int)] 0, AObj.cells 58 [setV (inQ (als A) o a i)] 0]) (lo := h.length) (F := (.func (.func 67) #[] #[ptr h.length, ptr (h.length + 1), ptr (h.length + 2), ptr (h.length + 5), ptr (h.length + 4)]))
   (p := fun k => betterF (inQ (als A) o a i) (inQ (als A) o a k) i k) (n := a.length) (i := i) (x := h.length + 4) hla (cl c i hi) (get_at (k := 4) rfl)
  have eq : freeI (fun k => betterF (inQ (als A) o a i) (inQ (als A) o a k) i k) i 0 (List.replicate a.length ()) = freeQ (als A) o a i := rfl
  rw [eq] at fl
  have l8 : ∀ sz, loadT ⟨some false, sz⟩ (h ++ chH b VS o c [AObj.cells 3 [.int .i64 (i : Int)] 0, AObj.cells 58 [setV (inQ (als A) o a i)] 0]) (ptr (h.length + 4)) = some (.int .i64 (i : Int)) := fun sz => box_load (get_at (k := 4) rfl)
  have ap : appendT (some elInt) (h ++ chH b VS o c [AObj.cells 3 [.int .i64 (i : Int)] 0, AObj.cells 58 [setV (inQ (als A) o a i)] 0]) h.length false (Enc.sl (h.length + 3) (castL c)) (lst true (intE.vals [(i : Int)])) = some (Enc.sl (h.length + 3) (castL (c ++ [i])), h ++ chH b VS o (c ++ [i]) [AObj.cells 3 [.int .i64 (i : Int)] 0, AObj.cells 58 [setV (inQ (als A) o a i)] 0]) := by
   have := Enc.app (O := intE) (el := elInt) (lo := h.length) (m := [(i : Int)]) rfl (hrow c [AObj.cells 3 [.int .i64 (i : Int)] 0, AObj.cells 58 [setV (inQ (als A) o a i)] 0]) (Enc.cells_tree (O := intE) (x := true)) (by omega) (by rw [cast_len]; show (c.length + 1) * 8 ≤ _; omega)
   rw [set_at] at this
   refine this.trans ?_
   have e : castL c ++ [(i : Int)] = castL (c ++ [i]) := by unfold castL; rw [List.map_append]; rfl
   rw [e]; rfl
  have li : ∀ H, buildSliceT (some elInt) false H 1 #[(0, .int .i64 (i : Int))] = some (lst true (intE.vals [(i : Int)]), H) := fun H => Enc.lit (O := intE) (i : Int) rfl rfl rfl
  simp -implicitDefEqProofs [k46_3, -Int.natCast_add] at ih
  have hb4 : b < h.length + 4 := by omega
  have kb : ∀ c, below 8 (h.length + 4) (Enc.sl (h.length + 3) (castL c)) = true := fun c => Enc.sl_bel (d := 7) (by omega)
  have bO : ∀ n, below 8 n (setV o) = true := fun n => rfl
  rw [List.length_cons, moreC_cons]
  cases q : freeQ (als A) o a i
  ·have ih := ih c (by omega)
   rw [q] at fl
   simp -implicitDefEqProofs [r46_3, k46_3, rop_nilT, nilT_ptr, hi2, x1, s1, s2, lx, ly, lz, l2, lk1, mb1, ll, fl, chH_len, chH_app]
   simp -implicitDefEqProofs [k46_9, tr, bS, bO, kb, hb4, hw1, ih, -Int.natCast_add]
  ·have ih := ih (c ++ [i]) (by rw [List.length_append]; simp; omega)
   rw [q] at fl
   simp -implicitDefEqProofs [r46_3, k46_3, rop_nilT, nilT_ptr, hi2, x1, s1, s2, lx, ly, lz, l2, lk1, mb1, ll, fl, chH_len, chH_app]
   simp -implicitDefEqProofs [k46_9, l8, li, ap, tr, bS, bO, kb, hb4, hw1, ih, -Int.natCast_add]
end
end Go.Proofs.YtgefjhjmkejjbaaDoor.Bm
