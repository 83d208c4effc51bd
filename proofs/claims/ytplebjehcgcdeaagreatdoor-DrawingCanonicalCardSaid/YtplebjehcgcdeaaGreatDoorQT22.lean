/-
 More is known of some functions: what the machine did before it does still. Conditions: what was known is known.
-/
import Derived.Test.YtplebjehcgcdeaaGreatDoorQT21
import Derived.Test.YtplebjehcgcdeaaGreatDoorQT16
import Derived.Test.YtplebjehcgcdeaaGreatDoorQT17
namespace Go.Proofs.YtplebjehcgcdeaaGreatDoor.Bm
open Go Go.RowKit
open Dw (encI encN encT encL)
abbrev tB : TypeId := 96
abbrev tU8 : TypeId := 5
def u8E : Enc UInt8 := ⟨fun c => .int .u8 c.toNat, fun _ => rfl, fun _ _ => rfl, fun _ _ _ => rfl, fun _ _ => rfl⟩
theorem sU8 : szOf E.P tU8 = some 1 := by kernel_rfl
theorem mCp : E.mode 116 = 2 := by kernel_rfl
theorem mBs : E.mode 52 = 2 := by kernel_rfl
theorem set_same {h : Heap} {b : Nat} {o : AObj} (hob : h[b]? = some o) : h.set b o = h := by
 apply List.ext_getElem?
 intro i
 rw [List.getElem?_set]
 by_cases e : b = i
 ·subst e
  rw [if_pos rfl, if_pos (ob_lt hob), hob]
 ·rw [if_neg e]
def bdC (b r : Nat) (u : Bool) (l : List UInt8) : AObj := .cells tB [if u then .pointer (some ⟨b, 0, none⟩) else .pointer none, Enc.sl r l] 0
theorem cpc_call {h : Heap} {b r lo : Nat} {u : Bool} {l : List UInt8} (hob : h[b]? = some (bdC b r u l)) (hlo : lo ≤ b) : retCall E (L E) lo false 116 [rdP b] h = some (.tuple #[], h.set b (bdC b r true l)) := by
 rw [ret2 mCp, L_orc (g := cpcG tB) rfl]
 unfold cpcG
 simp only [hob]
 cases u with
 | true =>
  have e : h.set b (bdC b r true l) = h := set_same hob
  rw [e]
  unfold bdC
  simp [plainA, hlo]
 | false =>
  unfold bdC
  simp [plainA, hlo]
theorem write_call {h : Heap} {b r lo : Nat} {u : Bool} {l s : List UInt8} (hob : h[b]? = some (bdC b r u l)) (hor : h[r]? = some (u8E.row tU8 l)) (hbr : b ≠ r) (hlo : lo ≤ b) (hlr : lo ≤ r) (hl : l.length + s.length ≤ 1000000) :
  retCall E (L E) lo false 48 [rdP b, .string ⟨⟨s⟩⟩] h = some (.tuple #[.int .i64 s.length, .nilIface], (h.set b (bdC b r true (l ++ s))).set r (u8E.row tU8 (l ++ s))) := by
 have cp := cpc_call hob hlo
 have hb := ob_lt hob
 have hr := ob_lt hor
 have h1 : (h.set b (bdC b r true l))[b]? = some (bdC b r true l) := List.getElem?_set_self hb
 have h2 : (h.set b (bdC b r true l))[r]? = some (u8E.row tU8 l) := by rw [List.getElem?_set_ne hbr]; exact hor
 have ld : loadT ⟨some false, some 1⟩ (h.set b (bdC b r true l)) (.pointer (some ⟨b, 1, none⟩)) = some (Enc.sl r l) := obj_load (j := 1) h1 rfl
 have ap : appendT (some ⟨tU8, 1, 1, .int .u8 0, ⟨some false, some 1⟩⟩) (h.set b (bdC b r true l)) lo false (Enc.sl r l) (lst true (bytesV ⟨⟨s⟩⟩)) = some (Enc.sl r (l ++ s), (h.set b (bdC b r true l)).set r (u8E.row tU8 (l ++ s))) :=
  Enc.app (O := u8E) (m := s) rfl h2 (Enc.cells_tree (O := u8E) (x := true) (l := s)) hlr (by show (l.length + s.length) * 1 ≤ 2 ^ 47; omega)
 have h3 : ((h.set b (bdC b r true l)).set r (u8E.row tU8 (l ++ s)))[b]? = some (bdC b r true l) := by rw [List.getElem?_set_ne (Ne.symm hbr)]; exact h1
 have st : storeT (some 1) ((h.set b (bdC b r true l)).set r (u8E.row tU8 (l ++ s))) lo (Enc.sl r (l ++ s)) (.pointer (some ⟨b, 1, none⟩)) = some ((h.set b (bdC b r true (l ++ s))).set r (u8E.row tU8 (l ++ s))) := by
  have := obj_store (j := 1) (lo := lo) (v := Enc.sl r (l ++ s)) h3 (by simp) hlo rfl
  unfold cAt at this
  rw [this, List.set_comm _ _ (Ne.symm hbr), List.set_set]; rfl
 rw [ret2 m48, L_fn F48 rfl]
 simp -implicitDefEqProofs [r48, padS, cp, rop_nilCheck, rd_f1, ld, append_str, ap, st, str_size, flat_nilI]
theorem string_call {h : Heap} {b r lo : Nat} {u : Bool} {l : List UInt8} (hob : h[b]? = some (bdC b r u l)) (hor : h[r]? = some (u8E.row tU8 l)) (hlr : lo ≤ r) (h0 : l ≠ []) (hl : l.length ≤ 1000000) :
  retCall E (L E) lo false 52 [rdP b] h = some (.string ⟨⟨l⟩⟩, h.set r .dead) := by
 rw [ret2 mBs, L_orc (g := bstG tB tU8) rfl]
 have hn : l.length ≠ 0 := fun e => h0 (List.eq_nil_of_length_eq_zero e)
 have e1 : bytesL (u8E.vals l) = some l := bytesL_row ⟨⟨l⟩⟩
 have e2 : rdN h ⟨r, 0, some l.length⟩ l.length = some (u8E.vals l) := by
  unfold rdN
  rw [Enc.row_of hor rfl, Option.bind_some]
  show (if 0 + l.length ≤ (u8E.vals l).length then some (((u8E.vals l).drop 0).take l.length) else none) = _
  rw [Enc.vals_len, if_pos (by omega), List.drop_zero, List.take_of_length_le (by rw [Enc.vals_len]; exact Nat.le_refl _)]
 have hor' : h[r]? = some (.cells tU8 (u8E.vals l) (0 + 1)) := hor
 have c1 : (tB == tB && plainA { block := b, off := 0, spot := none } && l.length != 0 && decide (l.length ≤ 9223372036854775807) && 0 == 0 && decide (lo ≤ r)) = true := by
  have h63 : l.length ≤ 9223372036854775807 := by omega
  simp [plainA, hn, h63, hlr]
 unfold bstG bdC Enc.sl at *
 simp only [hob, hor']
 rw [if_pos c1, if_pos (by simp), e2, Option.bind_some, e1]; rfl
theorem int_pure {n : Int} (hn : Dw.inR n) : pureCall E.P (L E) 117 [.int .i64 n] = some (.string ⟨⟨encI n⟩⟩) := by
 have it := ito_pure hn
 have hl := Dw.ito_len hn
 have ad := sv_add (P := E.P) (t := 9) (a := Bm.itoL n) (b := [59]) (by simp only [List.length_singleton]; change (Bm.itoL n).length ≤ 20 at hl; omega)
 have e : encI n = Bm.itoL n ++ [59] := rfl
 rw [pureCall_fn F117 rfl, e]
 generalize Bm.itoL n = l at *
 simp -implicitDefEqProofs [r117, padS, ret0 mIt, it, ad]
theorem num_pure {n : Int} (hn : Dw.inR n) : pureCall E.P (L E) 49 [.int .i64 n] = some (.string ⟨⟨encN n⟩⟩) := by
 have ip := int_pure hn
 unfold encN
 rw [pureCall_fn F49 rfl]
 by_cases h : n < 0
 ·rw [if_pos h]
  simp -implicitDefEqProofs [r49, padS, h]
 ·rw [if_neg h]
  simp -implicitDefEqProofs [r49, padS, h, ret0 m117, ip]
theorem text_pure {t : List UInt8} (ht : t.length ≤ 1000000) : pureCall E.P (L E) 51 [.string ⟨⟨t⟩⟩] = some (.string ⟨⟨encT t⟩⟩) := by
 have hn : Dw.inR (t.length : Int) := ⟨by omega, by omega⟩
 have it := ito_pure hn
 have hl : (Bm.itoL t.length).length ≤ 20 := Dw.ito_len hn
 have a1 := sv_add (P := E.P) (t := 9) (a := Bm.itoL t.length) (b := [58]) (by simp only [List.length_singleton]; omega)
 have a2 := sv_add (P := E.P) (t := 9) (a := Bm.itoL t.length ++ [58]) (b := t) (by simp only [List.length_append, List.length_singleton]; omega)
 have a3 := sv_add (P := E.P) (t := 9) (a := Bm.itoL t.length ++ [58] ++ t) (b := [44]) (by simp only [List.length_append, List.length_singleton]; omega)
 have e : encT t = Bm.itoL t.length ++ [58] ++ t ++ [44] := by unfold encT; simp
 rw [pureCall_fn F51 rfl, e]
 generalize Bm.itoL t.length = l at *
 simp -implicitDefEqProofs [r51, padS, ret0 mIt, str_size, it, a1, a2, a3, -List.append_assoc]
end Go.Proofs.YtplebjehcgcdeaaGreatDoor.Bm
namespace Go.Proofs.YtplebjehcgcdeaaGreatDoor.Bm
open Go Go.RowKit
open Dw (encI encN encT encL)
theorem atom_ptr0 : atom (.pointer none) = true := rfl
theorem encI_len {n : Int} (h : Dw.inR n) : (encI n).length ≤ 21 := by
 have := Dw.ito_len h
 unfold encI
 rw [List.length_append, List.length_singleton]; omega
theorem encIs_len : ∀ {l : List Int}, (∀ n ∈ l, Dw.inR n) → (l.flatMap encI).length ≤ 21 * l.length
 | [], _ => Nat.le_refl _
 | n :: l, h => by
  rw [List.flatMap_cons, List.length_append, List.length_cons]
  have h1 := encI_len (h n (by simp))
  have h2 := encIs_len (l := l) fun m hm => h m (List.mem_cons_of_mem _ hm)
  omega
theorem bd_new {r : Nat} (σ : Slots) (X : Heap) (hr : X.length = r) : newcK E.P 0 (X ++ [.cells tB [.pointer none, .slice none 0 0] 0]) σ 1 tU8 (.pointer (some ⟨r, 0, none⟩)) = some (σ, X ++ [bdC r (r + 1) false [], u8E.row tU8 []]) := by
 subst hr
 have ho : (X ++ [AObj.cells tB [.pointer none, .slice none 0 0] 0])[X.length]? = some (.cells tB [.pointer none, .slice none 0 0] 0) := by rw [List.getElem?_append_right (Nat.le_refl _), Nat.sub_self]; rfl
 have := newcK_cell (P := E.P) (σ := σ) (lo := 0) (t := tU8) (d := 1) (off := 0) (n := 0) (sp := none) ho rfl sU8 (Nat.zero_le _)
 rw [this, List.set_append_right _ _ (Nat.le_refl _), Nat.sub_self, List.append_assoc, List.length_append]; rfl
def LH (c : List UInt8) : Heap := [bdC 0 1 true c, u8E.row tU8 c]
theorem LH_write {c s : List UInt8} (hl : c.length + s.length ≤ 1000000) : retCall E (L E) 0 false 48 [rdP 0, .string ⟨⟨s⟩⟩] (LH c) = some (.tuple #[.int .i64 s.length, .nilIface], LH (c ++ s)) :=
 write_call (b := 0) (r := 1) (u := true) rfl rfl (by decide) (Nat.zero_le _) (Nat.zero_le _) hl
theorem list_pure {x : Bool} {l : List Int} (h : ∀ n ∈ l, Dw.inR n) (hl : l.length ≤ 10000) : pureCall E.P (L E) 118 [lst x (intE.vals l), .func (.func 117) #[] #[]] = some (.string ⟨⟨encL l⟩⟩) := by
 have hn : Dw.inR (l.length : Int) := ⟨by omega, by omega⟩
 have it := ito_pure hn
 have hil : (Bm.itoL l.length).length ≤ 20 := Dw.ito_len hn
 have a1 := sv_add (P := E.P) (t := 9) (a := Bm.itoL l.length) (b := [91]) (by simp only [List.length_singleton]; omega)
 have ll : ∀ h, lenT .sl h (lst x (intE.vals l)) = some (.int .i64 l.length) := fun h => by rw [len_lst, Enc.vals_len]
 have ix := fun (i : Nat) (hi : i < l.length) => Enc.index_tree (O := intE) (x := x) (t := 3) (k := .i64) hi
 have cN := fun σ => bd_new (r := 0) σ [] rfl
 have w1 : retCall E (L E) 0 false 48 [rdP 0, .string ⟨⟨Bm.itoL l.length ++ [91]⟩⟩] [bdC 0 1 false [], u8E.row tU8 []] = some (.tuple #[.int .i64 (Bm.itoL l.length ++ [91]).length, .nilIface], LH (Bm.itoL l.length ++ [91])) :=
  write_call (b := 0) (r := 1) (u := false) (l := []) rfl rfl (by decide) (Nat.zero_le _) (Nat.zero_le _) (by simp only [List.length_append, List.length_nil, List.length_singleton]; omega)
 have hT := encIs_len h
 have eL : encL l = Bm.itoL l.length ++ [91] ++ l.flatMap encI ++ [93] := by unfold encL; simp
 rw [pureCall_fn F118 rfl, eL]
 generalize hI : Bm.itoL l.length ++ [91] = c0 at *
 have hc0 : c0.length ≤ 21 := by rw [← hI]; simp only [List.length_append, List.length_singleton]; omega
 have hc1 : c0 ≠ [] := by rw [← hI]; simp
 simp only [List.nil_append] at cN
 generalize Bm.itoL l.length = cI at *
 generalize lst x (intE.vals l) = VL at *
 simp -implicitDefEqProofs [r118, p118, prep_newc, cN, ll, ret0 mIt, it, a1, w1, atom_ptr0, -List.append_assoc]
 rw [LL_for (γ := List UInt8) l c0 (fun i _ => [(15, .int .i64 (i : Int))]) (fun _ c => LH c) (fun _ rest c => (.exit 0, [(15, undef)], LH (c ++ rest.flatMap encI))) (fun i c => c.length + ((l.drop i).flatMap encI).length ≤ 300000) (by omega) (by rw [List.drop_zero]; omega)]
 ·have sc := string_call (h := LH (c0 ++ l.flatMap encI)) (b := 0) (r := 1) (lo := 0) (u := true) rfl rfl (Nat.zero_le _) (by simp [hc1]) (by rw [List.length_append]; omega)
  have a3 := sv_add (P := E.P) (t := 9) (a := c0 ++ l.flatMap encI) (b := [93]) (by simp only [List.length_append, List.length_singleton]; omega)
  generalize c0 ++ l.flatMap encI = S at *
  simp -implicitDefEqProofs [k118_4, sc, a3]
 ·simp -implicitDefEqProofs [k118_4]
 ·rfl
 ·intro nx i c hi _
  simp -implicitDefEqProofs [r118_4, k118_4, hi, ll, trim_le]
 ·intro nx i z rest c hi hv hd hw hinv ih
  rw [hd, List.flatMap_cons, List.length_append] at hinv
  have hd2 : l.drop (i + 1) = rest := by
   have := congrArg List.tail hd
   simpa [List.tail_drop] using this
  have xi := ix i hi
  rw [hv] at xi
  have ip := int_pure (h z (by rw [← hv]; exact List.getElem_mem hi))
  have wr := LH_write (c := c) (s := encI z) (by omega)
  have ih := ih (c ++ encI z) (by rw [hd2, List.length_append]; omega)
  have le : ∀ h, loadT ⟨some false, some 1⟩ h (cptr (intE.e z)) = some (.int .i64 z) := fun h => rfl
  rw [List.flatMap_cons, ← List.append_assoc]
  generalize encI z = ez at *
  generalize intE.e z = vz at *
  have lenL : ∀ c, (LH c).length = 2 := fun c => rfl
  simp -implicitDefEqProofs [k118_4, -List.append_assoc] at ih
  simp -implicitDefEqProofs [r118_4, k118_4, hi, ll, xi, le, ret0 m117, ip, wr, hw, lenL, trim_le, -List.append_assoc]
  exact ih
theorem nums_pure {x : Bool} {l : List Int} (h : ∀ n ∈ l, Dw.inR n) (hl : l.length ≤ 10000) : pureCall E.P (L E) 50 [lst x (intE.vals l)] = some (.string ⟨⟨encL l⟩⟩) := by
 have lp := list_pure (x := x) h hl
 have rl : ∀ h, reify E.P 8 h (lst x (intE.vals l)) = some (lst x (intE.vals l)) := fun h => rfl
 rw [pureCall_fn F50 rfl]
 generalize lst x (intE.vals l) = VL at *
 simp -implicitDefEqProofs [r50, padS, rl, ret0 m118, lp]
end Go.Proofs.YtplebjehcgcdeaaGreatDoor.Bm
namespace Go.Proofs.YtplebjehcgcdeaaGreatDoor.Bm
open Go Go.RowKit
open Dw (Vol Ent Phs Drw encI encN encT encL encV encE encP formB rightV)
theorem encN_len {n : Int} (h : Dw.inR n) : (encN n).length ≤ 21 := by
 unfold encN
 split
 ·exact Nat.zero_le _
 ·exact encI_len h
theorem encV_len {v : Vol} (h : v.inR) : (encV v).length ≤ 220 := by
 have h1 := encIs_len h
 have h2 : v.nums.length = 9 := by unfold Dw.Vol.nums; rfl
 have h3 : (Bm.itoL v.nums.length).length ≤ 20 := Dw.ito_len ⟨by omega, by omega⟩
 unfold encV encL
 simp only [List.length_append, List.length_cons, List.length_nil]
 change (Dw.itoL v.nums.length).length ≤ 20 at h3
 omega
theorem encE_len {e : Ent} (h : e.1.length ≤ 20) (hn : Dw.inR e.2) : (encE e).length ≤ 63 := by
 have h1 := encN_len hn
 have h3 : (Bm.itoL e.1.length).length ≤ 20 := Dw.ito_len ⟨by omega, by omega⟩
 change (Dw.itoL e.1.length).length ≤ 20 at h3
 unfold encE encT
 simp only [List.length_append, List.length_cons, List.length_nil]
 omega
theorem flat_le {α : Type} {f : α → List UInt8} {k : Nat} : ∀ {l : List α}, (∀ a ∈ l, (f a).length ≤ k) → (l.flatMap f).length ≤ k * l.length
 | [], _ => by simp
 | a :: l, h => by
  rw [List.flatMap_cons, List.length_append, List.length_cons, Nat.mul_add, Nat.mul_one]
  have h1 := h a (by simp)
  have h2 := flat_le (f := f) (k := k) (l := l) fun b hb => h b (List.mem_cons_of_mem _ hb)
  omega
structure PhOk (p : Phs) : Prop where
 nv : p.vols.length ≤ 40
 vs : ∀ v ∈ p.vols, v.inR
 ng : p.gives.length ≤ 30
 gs : ∀ e ∈ p.gives, e.1.length ≤ 20 ∧ 0 ≤ e.2 ∧ Dw.inR e.2
theorem form_ph {d : Drw} (h : formB d = true) : ∀ p ∈ d.phs, PhOk p := by
 intro p hp
 have hf := Dw.form_fit h
 unfold formB at h
 simp only [Bool.and_eq_true, List.all_eq_true] at h
 have h8 := h.2 p hp
 unfold Dw.phsB at h8
 rw [Bool.and_eq_true] at h8
 exact ⟨(hf.vols p hp).1, (hf.vols p hp).2, (hf.gives p hp).1, fun e he => ⟨Dw.name_len (Dw.givesB_ok _ _ h8.1 e he).1, ((hf.gives p hp).2 e he).2⟩⟩
theorem encP_len {p : Phs} (h : PhOk p) : (encP p).length ≤ 10800 := by
 have h1 := encN_len (n := p.vols.length) ⟨by omega, by have := h.nv; omega⟩
 have h2 := encN_len (n := p.gives.length) ⟨by omega, by have := h.ng; omega⟩
 have h3 := flat_le (f := encV) (k := 220) fun v hv => encV_len (h.vs v hv)
 have h4 := flat_le (f := encE) (k := 63) fun e he => encE_len (h.gs e he).1 (h.gs e he).2.2
 have := h.nv
 have := h.ng
 unfold encP
 simp only [List.length_append]
 omega
theorem enc_len {d : Drw} (h : formB d = true) : (Dw.enc d).length ≤ 90000 := by
 have hf := Dw.form_fit h
 have h1 := encN_len hf.lot.2
 have h2 := encN_len (n := d.phs.length) ⟨by omega, by have := hf.phs; omega⟩
 have h3 := flat_le (f := encP) (k := 10800) fun p hp => encP_len (form_ph h p hp)
 have := hf.phs
 unfold Dw.enc
 simp only [List.length_append]
 omega
abbrev bw (c : List UInt8) : AObj := bdC 1 2 true c
abbrev rw8 (c : List UInt8) : AObj := u8E.row tU8 c
theorem BW {A : AObj} {X : Heap} {c s : List UInt8} (hl : c.length + s.length ≤ 1000000) : retCall E (L E) 0 false 48 [rdP 1, .string ⟨⟨s⟩⟩] (A :: bw c :: rw8 c :: X) = some (.tuple #[.int .i64 s.length, .nilIface], A :: bw (c ++ s) :: rw8 (c ++ s) :: X) :=
 write_call (b := 1) (r := 2) (u := true) rfl rfl (by decide) (Nat.zero_le _) (Nat.zero_le _) hl
theorem bw_bel {n : Nat} (c : List UInt8) (hn : 3 ≤ n) : belowO n (bw c) = true := by
 have h1 : below 8 n (Enc.sl 2 c) = true := Enc.sl_bel (by omega)
 have h2 : below 8 n (.pointer (some ⟨1, 0, none⟩)) = true := bel_n n 1 (by omega)
 show ([_, _] : List Value).all (below 8 n) = true
 simp only [if_true, List.all_cons, List.all_nil, h1, h2, Bool.and_self]
theorem lit9 (h : Heap) (a0 a1 a2 a3 a4 a5 a6 a7 a8 : Int) : buildSliceT (some ⟨3, 1, 8, .int .i64 0, ⟨some false, some 1⟩⟩) false h 9 #[(0, .int .i64 a0), (1, .int .i64 a1), (2, .int .i64 a2), (3, .int .i64 a3), (4, .int .i64 a4), (5, .int .i64 a5), (6, .int .i64 a6), (7, .int .i64 a7), (8, .int .i64 a8)] = some (lst true (intE.vals [a0, a1, a2, a3, a4, a5, a6, a7, a8]), h) :=
 (build_lit' (n := 9) (l := [(0, .int .i64 a0), (1, .int .i64 a1), (2, .int .i64 a2), (3, .int .i64 a3), (4, .int .i64 a4), (5, .int .i64 a5), (6, .int .i64 a6), (7, .int .i64 a7), (8, .int .i64 a8)]) rfl rfl (by decide) (by decide) (by decide)).trans rfl
end Go.Proofs.YtplebjehcgcdeaaGreatDoor.Bm
namespace Go.Proofs.YtplebjehcgcdeaaGreatDoor.Bm
open Go Go.RowKit
open Dw (Vol Ent Phs Drw encI encN encT encL encV encE encP formB rightV)
def resB (d : Drw) : Value := if formB d then .tuple ⟨[.string ⟨⟨Dw.enc d⟩⟩, .int .i64 0]⟩ else .tuple ⟨[.string ⟨⟨[]⟩⟩, .int .i64 1]⟩
set_option maxHeartbeats 2000000 in
theorem bytes_pure (k : Option Bool) (d : Drw) (hk : Rec.Ok k d.phs) (hp : d.phs.length ≤ 1000000) (hv : d.all.length ≤ 1000000) (hg : ∀ p ∈ d.phs, p.gives.length ≤ 1000000 ∧ ∀ e ∈ p.gives, e.1.length ≤ 1000000) :
  pureCall E.P (L E) 13 [drV k d] = some (resB d) := by
 have fp := form_pure k d hk hp hv hg
 have hrf : ∀ h, reify E.P 8 h (drV k d) = some (drV k d) := fun h => by
  have hs : ([.int .i64 d.lot, phR.o k d.phs] : List Value).all (settled 8) = true := by
   simp only [List.all_cons, List.all_nil, Bool.and_true, Bool.and_eq_true]
   exact ⟨rfl, Rec.o_set⟩
  unfold drV
  rw [reify_agg, reifyC_set hs]; rfl
 have hfit : formB d = true → _ := fun q => Dw.form_fit q
 have hph : formB d = true → _ := fun q => form_ph q
 have hel : formB d = true → _ := fun q => enc_len q
 unfold resB
 rw [pureCall_fn F13 rfl]
 cases hF : formB d with
 | false =>
  rw [hF] at fp
  have la : ∀ X, loadT ⟨some true, some 2⟩ (AObj.cells tD [.int .i64 d.lot, phR.o k d.phs] 0 :: X) (.pointer (some ⟨0, 0, none⟩)) = some (.agg ⟨[.int .i64 d.lot, phR.o k d.phs]⟩) := fun X => obj_all (n := 2) (t := tD) (c := [.int .i64 d.lot, phR.o k d.phs]) rfl rfl
  unfold drV at *
  simp -implicitDefEqProofs [r13, p13, la, ret0 m21, hrf, fp, -reify_agg]
 | true =>
  have hfit := hfit hF
  have hph := hph hF
  have hel := hel hF
  rw [hF] at fp
  clear hF hv hg
  rw [if_pos rfl]
  unfold Dw.enc at hel ⊢
  obtain ⟨lot, phs⟩ := d
  have hlot := hfit.lot
  have hp8 := hfit.phs
  clear hfit
  simp only at *
  have np := num_pure (n := (phs.length : Int)) ⟨by omega, by omega⟩
  have nl := num_pure hlot.2
  have ll : ∀ h, lenT .sl h (phR.o k phs) = some (.int .i64 phs.length) := fun h => Rec.o_len hk
  have ix := fun (i : Nat) (hi : i < phs.length) => Rec.o_index (R := phR) (s := 2) (t := tP) (kk := .i64) rfl hk hi
  have bP : ∀ d n, below (d + 1) n (phR.o k phs) = true := fun d n => Rec.o_bel
  unfold drV at *
  simp only at *
  generalize phR.o k phs = VP at *
  have bD : ∀ n, below 8 n (.agg ⟨[.int .i64 lot, VP]⟩) = true := fun n => by show ([_, _] : List Value).all (below 7 n) = true; simp only [List.all_cons, List.all_nil, bP, bel_int, Bool.and_self]
  obtain ⟨A0, hA⟩ : ∃ A, AObj.cells tD [.int .i64 lot, VP] 0 = A := ⟨_, rfl⟩
  have bl : ∀ n, belowO n A0 = true := fun n => by rw [← hA]; show ([_, _] : List Value).all (below 8 n) = true; simp only [List.all_cons, List.all_nil, bP, bel_int, Bool.and_self]
  have ld0 : ∀ X, loadT ⟨some false, some 1⟩ (A0 :: X) (.pointer (some ⟨0, 0, none⟩)) = some (.int .i64 lot) := fun X => by rw [← hA]; exact obj_load (j := 0) (t := tD) (c := [.int .i64 lot, VP]) rfl rfl
  have ld : ∀ X, loadT ⟨some false, some 1⟩ (A0 :: X) (.pointer (some ⟨0, 1, none⟩)) = some VP := fun X => by rw [← hA]; exact obj_load (j := 1) (t := tD) (c := [.int .i64 lot, VP]) rfl rfl
  have la : ∀ X, loadT ⟨some true, some 2⟩ (A0 :: X) (.pointer (some ⟨0, 0, none⟩)) = some (.agg ⟨[.int .i64 lot, VP]⟩) := fun X => by rw [← hA]; exact obj_all (n := 2) (t := tD) (c := [.int .i64 lot, VP]) rfl rfl
  have cN : ∀ σ, newcK E.P 0 [A0, .cells tB [.pointer none, .slice none 0 0] 0] σ 1 tU8 (.pointer (some ⟨1, 0, none⟩)) = some (σ, [A0, bdC 1 2 false [], rw8 []]) := fun σ => bd_new (r := 1) σ [A0] rfl
  have hN1 := encN_len hlot.2
  have hN2 := encN_len (n := (phs.length : Int)) ⟨by omega, by omega⟩
  simp only [List.length_append] at hel
  have a1 := sv_add (P := E.P) (t := 9) (a := encN lot) (b := encN phs.length) (by omega)
  have w1 : retCall E (L E) 0 false 48 [rdP 1, .string ⟨⟨encN lot ++ encN phs.length⟩⟩] [A0, bdC 1 2 false [], rw8 []] = some (.tuple #[.int .i64 (encN lot ++ encN phs.length).length, .nilIface], [A0, bw (encN lot ++ encN phs.length), rw8 (encN lot ++ encN phs.length)]) :=
   write_call (b := 1) (r := 2) (u := false) (l := []) rfl rfl (by decide) (Nat.zero_le _) (Nat.zero_le _) (by simp only [List.length_append, List.length_nil]; omega)
  generalize hC0 : encN lot ++ encN phs.length = c0 at *
  have hc0 : c0.length ≤ 42 := by rw [← hC0, List.length_append]; omega
  have hc1 : c0 ≠ [] := by
   rw [← hC0, Dw.encN_pos hlot.1]
   unfold encI
   simp
  have hinv0 : c0.length + (phs.flatMap encP).length ≤ 90000 := by rw [← hC0, List.length_append]; omega
  simp -implicitDefEqProofs [r13, p13, la, ld0, ld, hA, ph_f0, ph_f1, ret0 m21, hrf, fp, prep_newc, cN, atom_ptr0, ret0 m49, nl, np, ll, a1, w1, -List.append_assoc, -reify_agg]
  rw [LL_for (γ := List UInt8) phs c0 (fun i _ => [(28, .int .i64 (i : Int))]) (fun _ c => [A0, bw c, rw8 c]) (fun _ rest c => (.exit 0, [(28, undef)], [A0, bw (c ++ rest.flatMap encP), rw8 (c ++ rest.flatMap encP)])) (fun i c => c.length + ((phs.drop i).flatMap encP).length ≤ 90000) (by omega) (by rw [List.drop_zero]; exact hinv0)]
  ·have sc := string_call (h := [A0, bw (c0 ++ phs.flatMap encP), rw8 (c0 ++ phs.flatMap encP)]) (b := 1) (r := 2) (lo := 0) (u := true) rfl rfl (Nat.zero_le _) (by simp [hc1]) (by rw [List.length_append]; omega)
   generalize c0 ++ phs.flatMap encP = S at *
   simp -implicitDefEqProofs [k13_6, sc]
  ·simp -implicitDefEqProofs [k13_6]
  ·rfl
  ·intro nx i c hi _
   simp -implicitDefEqProofs [r13_6, k13_6, hi, trim_le]
  ·intro nx i q rest c hi hv2 hd hw hinv ih
   rw [hd, List.flatMap_cons, List.length_append] at hinv
   have hd2 : phs.drop (i + 1) = rest := by
    have := congrArg List.tail hd
    simpa [List.tail_drop] using this
   have xi := ix i hi
   rw [hv2, ph_val] at xi
   have hq := hph q (by rw [← hv2]; exact List.getElem_mem hi)
   have ih := ih (c ++ encP q) (by rw [hd2, List.length_append]; omega)
   obtain ⟨qv, qg⟩ := q
   have h1 := hq.nv
   have h2 := hq.vs
   have h3 := hq.ng
   have h4 := hq.gs
   clear hq hph
   simp only at xi h1 h2 h3 h4
   have n1 := num_pure (n := (qv.length : Int)) ⟨by omega, by omega⟩
   have n2 := num_pure (n := (qg.length : Int)) ⟨by omega, by omega⟩
   have lv : ∀ h, lenT .sl h (lst false (volR.vals qv)) = some (.int .i64 qv.length) := fun h => Rec.tree_len
   have lg : ∀ h, lenT .sl h (lst false (entR.vals qg)) = some (.int .i64 qg.length) := fun h => Rec.tree_len
   have iv := fun (j : Nat) (hj : j < qv.length) => Rec.index_tree (R := volR) (h0 := 9) (x := false) (t := tV) (k := .i64) rfl hj
   have ig := fun (j : Nat) (hj : j < qg.length) => Rec.index_tree (R := entR) (h0 := 2) (x := false) (t := tE) (k := .i64) rfl hj
   have ftp : fitsTT ⟨some true, some 2⟩ (.agg ⟨[lst false (volR.vals qv), lst false (entR.vals qg)]⟩) = true := rfl
   have bQ : ∀ d n, below (d + 1) n (lst false (entR.vals qg)) = true := fun d n => rfl
   have bW : ∀ d n, below (d + 1) n (lst false (volR.vals qv)) = true := fun d n => rfl
   have eP : encP ⟨qv, qg⟩ = encN qv.length ++ qv.flatMap encV ++ (encN qg.length ++ qg.flatMap encE) := rfl
   rw [List.flatMap_cons, ← List.append_assoc]
   rw [eP] at hinv ih ⊢
   simp only [List.length_append] at hinv
   have ec : c ++ (encN qv.length ++ qv.flatMap encV ++ (encN qg.length ++ qg.flatMap encE)) = c ++ encN qv.length ++ qv.flatMap encV ++ encN qg.length ++ qg.flatMap encE := by simp
   rw [ec] at ih ⊢
   clear ec eP
   generalize rest.flatMap encP = RR at *
   generalize lst false (volR.vals qv) = VW at *
   generalize lst false (entR.vals qg) = VG at *
   have stp : ∀ A B C, storeT (some 2) [A, B, C, .cells tP [.slice none 0 0, .slice none 0 0] 0] 0 (.agg ⟨[VW, VG]⟩) (.pointer (some ⟨3, 0, none⟩)) = some [A, B, C, .cells tP [VW, VG] 0] := fun A B C => snoc_put (g := [A, B, C]) rfl rfl (by decide) (Nat.zero_le _)
   have lp0 : ∀ A B C X, loadT ⟨some false, some 1⟩ (A :: B :: C :: .cells tP [VW, VG] 0 :: X) (.pointer (some ⟨3, 0, none⟩)) = some VW := fun A B C X => obj_load (j := 0) (t := tP) (c := [VW, VG]) rfl rfl
   have lp1 : ∀ A B C X, loadT ⟨some false, some 1⟩ (A :: B :: C :: .cells tP [VW, VG] 0 :: X) (.pointer (some ⟨3, 1, none⟩)) = some VG := fun A B C X => obj_load (j := 1) (t := tP) (c := [VW, VG]) rfl rfl
   have W1 := BW (A := A0) (X := [.cells tP [VW, VG] 0]) (c := c) (s := encN qv.length) (by omega)
   simp -implicitDefEqProofs [r13_6, k13_6, hi, xi, ftp, stp, ph_f0, ph_f1, lp0, lv, ret0 m49, n1, W1, -List.append_assoc]
   rw [LL_for (γ := List UInt8) qv (c ++ encN qv.length) (fun j _ => [(40, .int .i64 (j : Int))]) (fun _ c => [A0, bw c, rw8 c, .cells tP [VW, VG] 0]) (fun _ rest c => (.exit 2, [(40, undef)], [A0, bw (c ++ rest.flatMap encV), rw8 (c ++ rest.flatMap encV), .cells tP [VW, VG] 0])) (fun j c => c.length + ((qv.drop j).flatMap encV).length ≤ 90000) (by omega) (by rw [List.drop_zero, List.length_append]; omega)]
   ·have W3 := BW (A := A0) (X := [.cells tP [VW, VG] 0]) (c := c ++ encN qv.length ++ qv.flatMap encV) (s := encN qg.length) (by simp only [List.length_append]; omega)
    simp -implicitDefEqProofs [k13_10, ph_f1, lp1, lg, ret0 m49, n2, W3, -List.append_assoc]
    rw [LL_for (γ := List UInt8) qg (c ++ encN qv.length ++ qv.flatMap encV ++ encN qg.length) (fun j _ => [(80, .int .i64 (j : Int))]) (fun _ c => [A0, bw c, rw8 c, .cells tP [VW, VG] 0]) (fun _ rest c => (.exit 4, [(80, undef)], [A0, bw (c ++ rest.flatMap encE), rw8 (c ++ rest.flatMap encE), .cells tP [VW, VG] 0])) (fun j c => c.length + ((qg.drop j).flatMap encE).length ≤ 90000) (by omega) (by rw [List.drop_zero]; simp only [List.length_append]; omega)]
    ·have bT : ∀ n (z : Int), below 8 n (.tuple #[.int .i64 z, .nilIface]) = true := fun _ _ => rfl
     have bw3 := fun (c : List UInt8) => bw_bel (n := 3) c (by omega)
     generalize c ++ encN qv.length ++ qv.flatMap encV ++ encN qg.length ++ qg.flatMap encE = c4 at *
     simp -implicitDefEqProofs [k13_6, -List.append_assoc] at ih
     simp -implicitDefEqProofs [k13_19, hw, trim_cut, bl, bD, bP, bQ, bW, bT, bw3, Enc.row_bel, -List.append_assoc, -List.all_eq_true]
     exact ih
    ·simp -implicitDefEqProofs [k13_19]
    ·rfl
    ·intro nx j c hj _
     simp -implicitDefEqProofs [r13_19, k13_19, hj, trim_le]
    ·intro nx j e rst c hj hvv hdd hww hin ihe
     rw [hdd, List.flatMap_cons, List.length_append] at hin
     have hdd2 : qg.drop (j + 1) = rst := by
      have := congrArg List.tail hdd
      simpa [List.tail_drop] using this
     have xg := ig j hj
     rw [hvv] at xg
     have ihe := ihe (c ++ encE e) (by rw [hdd2, List.length_append]; omega)
     have he4 := h4 e (by rw [← hvv]; exact List.getElem_mem hj)
     obtain ⟨nm, z⟩ := e
     change _ = some (cptr (.agg ⟨[.string ⟨⟨nm⟩⟩, .int .i64 z]⟩)) at xg
     simp only at he4
     have tp := text_pure (t := nm) (by omega)
     have nz := num_pure he4.2.2
     have eE : encE (nm, z) = encT nm ++ encN z := rfl
     rw [eE] at hin ihe
     rw [List.flatMap_cons, ← List.append_assoc, eE]
     rw [List.length_append] at hin
     have ad := sv_add (P := E.P) (t := 9) (a := encT nm) (b := encN z) (by omega)
     have W4 := fun X => BW (A := A0) (X := X) (c := c) (s := encT nm ++ encN z) (by rw [List.length_append]; omega)
     generalize encT nm = ET at *
     generalize encN z = EZ at *
     have bT : ∀ n (z : Int), below 8 n (.tuple #[.int .i64 z, .nilIface]) = true := fun _ _ => rfl
     have bw4 := fun (c : List UInt8) => bw_bel (n := 4) c (by omega)
     simp -implicitDefEqProofs [k13_19, -List.append_assoc] at ihe
     simp -implicitDefEqProofs [r13_19, k13_19, hj, xg, ret0 m51, tp, ret0 m49, nz, ad, W4, hww, trim_cut, bl, bD, bP, bQ, bW, bT, bw4, Enc.row_bel, -List.append_assoc, -List.all_eq_true]
     exact ihe
   ·simp -implicitDefEqProofs [k13_10]
   ·rfl
   ·intro nx j c hj _
    simp -implicitDefEqProofs [r13_10, k13_10, hj, trim_le]
   ·intro nx j v rst c hj hvv hdd hww hin ihv
    rw [hdd, List.flatMap_cons, List.length_append] at hin
    have hdd2 : qv.drop (j + 1) = rst := by
     have := congrArg List.tail hdd
     simpa [List.tail_drop] using this
    have xv := iv j hj
    rw [hvv] at xv
    have ihv := ihv (c ++ encV v) (by rw [hdd2, List.length_append]; omega)
    have np9 := nums_pure (x := true) (l := v.nums) (h2 v (by rw [← hvv]; exact List.getElem_mem hj)) (by show 9 ≤ 10000; omega)
    have W2 := fun X => BW (A := A0) (X := X) (c := c) (s := encV v) (by omega)
    change pureCall _ _ _ _ = some (.string ⟨⟨encV v⟩⟩) at np9
    rw [List.flatMap_cons, ← List.append_assoc]
    generalize encV v = EV at *
    obtain ⟨a0, a1', a2, a3, a4, a5, a6, a7, xt⟩ := v
    change _ = some (cptr (.agg ⟨[.int .i64 a0, .int .i64 a1', .int .i64 a2, .int .i64 a3, .int .i64 a4, .int .i64 a5, .int .i64 a6, .int .i64 a7, .bool xt]⟩)) at xv
    simp -implicitDefEqProofs [k13_10, -List.append_assoc] at ihv
    have bT : ∀ n (z : Int), below 8 n (.tuple #[.int .i64 z, .nilIface]) = true := fun _ _ => rfl
    have bw4 := fun (c : List UInt8) => bw_bel (n := 4) c (by omega)
    cases xt with
    | false =>
     have l9 := fun h => lit9 h a0 a1' a2 a3 a4 a5 a6 a7 0
     change pureCall _ _ _ [lst true (intE.vals [a0, a1', a2, a3, a4, a5, a6, a7, 0])] = _ at np9
     have r9 : ∀ h, reify E.P 8 h (lst true (intE.vals [a0, a1', a2, a3, a4, a5, a6, a7, 0])) = some (lst true (intE.vals [a0, a1', a2, a3, a4, a5, a6, a7, 0])) := fun h => rfl
     generalize lst true (intE.vals [a0, a1', a2, a3, a4, a5, a6, a7, 0]) = V9 at *
     simp -implicitDefEqProofs [r13_10, k13_10, hj, xv, l9, r9, ret0 m50, np9, W2, hww, trim_cut, bl, bD, bP, bQ, bW, bT, bw4, Enc.row_bel, -List.append_assoc, -List.all_eq_true]
     exact ihv
    | true =>
     have l9 := fun h => lit9 h a0 a1' a2 a3 a4 a5 a6 a7 1
     change pureCall _ _ _ [lst true (intE.vals [a0, a1', a2, a3, a4, a5, a6, a7, 1])] = _ at np9
     have r9 : ∀ h, reify E.P 8 h (lst true (intE.vals [a0, a1', a2, a3, a4, a5, a6, a7, 1])) = some (lst true (intE.vals [a0, a1', a2, a3, a4, a5, a6, a7, 1])) := fun h => rfl
     generalize lst true (intE.vals [a0, a1', a2, a3, a4, a5, a6, a7, 1]) = V9 at *
     simp -implicitDefEqProofs [r13_10, k13_10, hj, xv, l9, r9, ret0 m50, np9, W2, hww, trim_cut, bl, bD, bP, bQ, bW, bT, bw4, Enc.row_bel, -List.append_assoc, -List.all_eq_true]
     exact ihv
end Go.Proofs.YtplebjehcgcdeaaGreatDoor.Bm
namespace Go.Proofs.YtplebjehcgcdeaaGreatDoor.Bm
open Go Go.RowKit
open Dw (Vol Ent Phs Drw)
theorem ao_cons (b : Bool) (r : List (Option Bool)) (c : Bool) (h : allOf r = some c) : allOf (some b :: r) = some (b && c) := by cases b <;> simp [allOf, h]
theorem ao_nil : allOf [] = some true := rfl
theorem neqV0 (a0 a1 a2 a3 a4 a5 a6 a7 b0 b1 b2 b3 b4 b5 b6 b7 : Int) (x y : Bool) : aBin E.P .neq tV (.agg ⟨[.int .i64 a0, .int .i64 a1, .int .i64 a2, .int .i64 a3, .int .i64 a4, .int .i64 a5, .int .i64 a6, .int .i64 a7, .bool x]⟩) (.agg ⟨[.int .i64 b0, .int .i64 b1, .int .i64 b2, .int .i64 b3, .int .i64 b4, .int .i64 b5, .int .i64 b6, .int .i64 b7, .bool y]⟩) =
  (allOf [allOf [allOf [some (a0 == b0), some (a1 == b1), some (a2 == b2), some (a3 == b3)], some (a4 == b4), some (a5 == b5)], some (a6 == b6), some (a7 == b7), some (x == y)]).map fun b => .bool (!b) := by kernel_rfl
theorem neqV (a b : Vol) : aBin E.P .neq tV (volR.val a) (volR.val b) = some (.bool (!decide (a = b))) := by
 obtain ⟨a0, a1, a2, a3, a4, a5, a6, a7, x⟩ := a
 obtain ⟨b0, b1, b2, b3, b4, b5, b6, b7, y⟩ := b
 refine (neqV0 ..).trans ?_
 rw [ao_cons _ _ _ (ao_cons _ _ _ (ao_cons _ _ _ (ao_cons _ _ _ ao_nil))), ao_cons _ _ _ (ao_cons _ _ _ (ao_cons _ _ _ ao_nil)), ao_cons _ _ _ (ao_cons _ _ _ (ao_cons _ _ _ (ao_cons _ _ _ ao_nil)))]
 simp only [Option.map_some, Bool.and_true]
 congr 3
 rw [Bool.eq_iff_iff]
 simp only [Bool.and_eq_true, beq_iff_eq, decide_eq_true_eq, Vol.mk.injEq, and_assoc]
theorem neqE0 (a b : List UInt8) (m n : Int) : aBin E.P .neq tE (.agg ⟨[.string ⟨⟨a⟩⟩, .int .i64 m]⟩) (.agg ⟨[.string ⟨⟨b⟩⟩, .int .i64 n]⟩) = (allOf [some ((⟨⟨a⟩⟩ : ByteArray).toList == (⟨⟨b⟩⟩ : ByteArray).toList), some (m == n)]).map fun b => .bool (!b) := by kernel_rfl
theorem neqE (a b : Ent) : aBin E.P .neq tE (entR.val a) (entR.val b) = some (.bool (!decide (a = b))) := by
 obtain ⟨a, m⟩ := a
 obtain ⟨b, n⟩ := b
 refine (neqE0 ..).trans ?_
 rw [ao_cons _ _ _ (ao_cons _ _ _ ao_nil), toList_eq]
 simp only [Option.map_some, Bool.and_true]
 congr 3
 rw [Bool.eq_iff_iff]
 simp only [Bool.and_eq_true, beq_iff_eq, decide_eq_true_eq, Prod.mk.injEq, str_inj]
theorem zip_all {α : Type} [DecidableEq α] : ∀ {a b : List α}, a.length = b.length → (a.zip b).all (fun p => decide (p.1 = p.2)) = decide (a = b)
 | [], [], _ => rfl
 | [], _ :: _, h => by simp at h
 | _ :: _, [], h => by simp at h
 | x :: a, y :: b, h => by
  rw [List.zip_cons_cons, List.all_cons, zip_all (by simpa using h), Bool.eq_iff_iff]
  simp
theorem eqv_pure {x y : Bool} (a b : List Vol) (ha : a.length ≤ 1000000) (hb : b.length ≤ 1000000) : pureCall E.P (L E) 82 [lst x (volR.vals a), lst y (volR.vals b)] = some (.bool (decide (a = b))) := by
 have la : ∀ h, lenT .sl h (lst x (volR.vals a)) = some (.int .i64 a.length) := fun h => Rec.tree_len
 have lb : ∀ h, lenT .sl h (lst y (volR.vals b)) = some (.int .i64 b.length) := fun h => Rec.tree_len
 have ia := fun (i : Nat) (hi : i < a.length) => Rec.index_tree (R := volR) (h0 := 9) (x := x) (t := tV) (k := .i64) rfl hi
 have ib := fun (i : Nat) (hi : i < b.length) => Rec.index_tree (R := volR) (h0 := 9) (x := y) (t := tV) (k := .i64) rfl hi
 have fit : ∀ v : Vol, fitsTT ⟨some true, some 9⟩ (volR.val v) = true := fun v => rfl
 rw [pureCall_fn F82 rfl]
 generalize lst x (volR.vals a) = VA at *
 generalize lst y (volR.vals b) = VB at *
 by_cases hl : a.length = b.length
 ·have hl' : (a.length : Int) = (b.length : Int) := by omega
  simp -implicitDefEqProofs [r82, p82, la, lb, hl]
  rw [LL_for (γ := Unit) (a.zip b) () (fun i _ => [(13, .int .i64 (i : Int))]) (fun _ _ => []) (fun _ rest _ => if rest.all (fun p => decide (p.1 = p.2)) then (.exit 0, [(13, undef)], []) else (.ret, [(4, .bool false), (13, undef)], [])) (fun _ _ => True) (by rw [List.length_zip]; omega) trivial]
  ·have hz : (a.zip b).all (fun p => decide (p.1 = p.2)) = decide (a = b) := zip_all hl
   rw [hz]
   by_cases hab : a = b
   ·rw [decide_eq_true hab]
    simp -implicitDefEqProofs [k82_4]
   ·rw [decide_eq_false hab]
    simp -implicitDefEqProofs [k82_4]
  ·simp -implicitDefEqProofs [k82_4]
  ·rfl
  ·intro nx i c hi _
   have hi2 : ¬ ((i : Nat) : Int) < (b.length : Int) := by rw [List.length_zip] at hi; omega
   simp -implicitDefEqProofs [r82_4, k82_4, hl, hi2, la, lb, trim_le]
  ·intro nx i p rest u hi hv hd hw _ ih
   have ih := ih () trivial
   have hi1 : i < a.length := by rw [List.length_zip] at hi; omega
   have hi2 : i < b.length := by rw [List.length_zip] at hi; omega
   have hi3 : ((i : Nat) : Int) < (b.length : Int) := by omega
   have xa := ia i hi1
   have xb := ib i hi2
   have hp : p = (a[i], b[i]) := by rw [← hv, List.getElem_zip]
   rw [hp]
   have ne := neqV a[i] b[i]
   have f1 := fit a[i]
   have f2 := fit b[i]
   rw [List.all_cons]
   simp only
   generalize a[i] = u1 at *
   generalize b[i] = u2 at *
   by_cases hu : u1 = u2
   ·subst hu
    rw [decide_eq_true rfl] at ne
    rw [decide_eq_true rfl, Bool.true_and]
    generalize volR.val u1 = W1 at *
    generalize hRA : rest.all (fun p => decide (p.1 = p.2)) = RA at *
    simp -implicitDefEqProofs [k82_4, hRA] at ih
    simp -implicitDefEqProofs [r82_4, k82_4, hl, hi3, la, lb, xa, xb, f1, ne, hw, trim_le]
    exact ih
   ·rw [decide_eq_false hu] at ne
    rw [decide_eq_false hu, Bool.false_and]
    generalize volR.val u1 = W1 at *
    generalize volR.val u2 = W2 at *
    simp -implicitDefEqProofs [r82_4, k82_4, hl, hi3, la, lb, xa, xb, f1, f2, ne, hw, trim_le]
 ·have hl' : ¬ (a.length : Int) = (b.length : Int) := by omega
  have hab : ¬ a = b := fun q => hl (by rw [q])
  rw [decide_eq_false hab]
  simp -implicitDefEqProofs [r82, p82, la, lb, hl']
theorem eqe_pure {x y : Bool} (a b : List Ent) (ha : a.length ≤ 1000000) (hb : b.length ≤ 1000000) : pureCall E.P (L E) 83 [lst x (entR.vals a), lst y (entR.vals b)] = some (.bool (decide (a = b))) := by
 have la : ∀ h, lenT .sl h (lst x (entR.vals a)) = some (.int .i64 a.length) := fun h => Rec.tree_len
 have lb : ∀ h, lenT .sl h (lst y (entR.vals b)) = some (.int .i64 b.length) := fun h => Rec.tree_len
 have ia := fun (i : Nat) (hi : i < a.length) => Rec.index_tree (R := entR) (h0 := 2) (x := x) (t := tE) (k := .i64) rfl hi
 have ib := fun (i : Nat) (hi : i < b.length) => Rec.index_tree (R := entR) (h0 := 2) (x := y) (t := tE) (k := .i64) rfl hi
 have fit : ∀ v : Ent, fitsTT ⟨some true, some 2⟩ (entR.val v) = true := fun v => rfl
 rw [pureCall_fn F83 rfl]
 generalize lst x (entR.vals a) = VA at *
 generalize lst y (entR.vals b) = VB at *
 by_cases hl : a.length = b.length
 ·have hl' : (a.length : Int) = (b.length : Int) := by omega
  simp -implicitDefEqProofs [r83, p83, la, lb, hl]
  rw [LL_for (γ := Unit) (a.zip b) () (fun i _ => [(13, .int .i64 (i : Int))]) (fun _ _ => []) (fun _ rest _ => if rest.all (fun p => decide (p.1 = p.2)) then (.exit 0, [(13, undef)], []) else (.ret, [(4, .bool false), (13, undef)], [])) (fun _ _ => True) (by rw [List.length_zip]; omega) trivial]
  ·have hz : (a.zip b).all (fun p => decide (p.1 = p.2)) = decide (a = b) := zip_all hl
   rw [hz]
   by_cases hab : a = b
   ·rw [decide_eq_true hab]
    simp -implicitDefEqProofs [k83_4]
   ·rw [decide_eq_false hab]
    simp -implicitDefEqProofs [k83_4]
  ·simp -implicitDefEqProofs [k83_4]
  ·rfl
  ·intro nx i c hi _
   have hi2 : ¬ ((i : Nat) : Int) < (b.length : Int) := by rw [List.length_zip] at hi; omega
   simp -implicitDefEqProofs [r83_4, k83_4, hl, hi2, la, lb, trim_le]
  ·intro nx i p rest u hi hv hd hw _ ih
   have ih := ih () trivial
   have hi1 : i < a.length := by rw [List.length_zip] at hi; omega
   have hi2 : i < b.length := by rw [List.length_zip] at hi; omega
   have hi3 : ((i : Nat) : Int) < (b.length : Int) := by omega
   have xa := ia i hi1
   have xb := ib i hi2
   have hp : p = (a[i], b[i]) := by rw [← hv, List.getElem_zip]
   rw [hp]
   have ne := neqE a[i] b[i]
   have f1 := fit a[i]
   have f2 := fit b[i]
   rw [List.all_cons]
   simp only
   generalize a[i] = u1 at *
   generalize b[i] = u2 at *
   by_cases hu : u1 = u2
   ·subst hu
    rw [decide_eq_true rfl] at ne
    rw [decide_eq_true rfl, Bool.true_and]
    generalize entR.val u1 = W1 at *
    generalize hRA : rest.all (fun p => decide (p.1 = p.2)) = RA at *
    simp -implicitDefEqProofs [k83_4, hRA] at ih
    simp -implicitDefEqProofs [r83_4, k83_4, hl, hi3, la, lb, xa, xb, f1, ne, hw, trim_le]
    exact ih
   ·rw [decide_eq_false hu] at ne
    rw [decide_eq_false hu, Bool.false_and]
    generalize entR.val u1 = W1 at *
    generalize entR.val u2 = W2 at *
    simp -implicitDefEqProofs [r83_4, k83_4, hl, hi3, la, lb, xa, xb, f1, f2, ne, hw, trim_le]
 ·have hl' : ¬ (a.length : Int) = (b.length : Int) := by omega
  have hab : ¬ a = b := fun q => hl (by rw [q])
  rw [decide_eq_false hab]
  simp -implicitDefEqProofs [r83, p83, la, lb, hl']
end Go.Proofs.YtplebjehcgcdeaaGreatDoor.Bm
namespace Go.Proofs.YtplebjehcgcdeaaGreatDoor.Bm
open Go Go.RowKit
def topE (E : Env) (g : FuncId → Option (List Value → Heap → Nat → Res)) : Env := { E with orc := g, dm := false }
section
variable {E : Env} {g : FuncId → Option (List Value → Heap → Nat → Res)}
theorem top_with {sl draw : Bool} {ops : Array Oper} : withStrict (topE E g) sl draw ops = withStrict E sl draw ops := rfl
theorem top_race {sl : Bool} {ops : Array Oper} : withRace (topE E g) sl ops = withRace E sl ops := rfl
theorem top_rc {f : FuncId} : ∀ (c : Code), rcOf (topE E g) f c = rcOf E f c := by
 intro c
 induction c with
 | seq a b iha ihb => simp only [rcOf, iha, ihb]
 | cond x a b iha ihb => simp only [rcOf, iha, ihb]
 | block i a ih => simp only [rcOf, ih]
 | loop a ih => simp only [rcOf, ih]; rfl
 | scope a ih => simp only [rcOf, ih]
 | region id ops draw => simp only [rcOf, top_with, top_race]; rfl
 | _ => rfl
theorem top_fn {f : FuncId} : rfnOf (topE E g) f = rfnOf E f := by
 simp only [rfnOf, top_rc]; rfl
end
end Go.Proofs.YtplebjehcgcdeaaGreatDoor.Bm
