/-
 Chapter 36: the reference's attackers, walked: they are those of the program. Conditions: the case is right.
-/
import Derived.Test.YtbadgapficfbpaaQT21
import Derived.Test.YtbadgapficfbpaaQT16
import Derived.Test.YtbadgapficfbpaaRows
import Derived.Test.YtbadgapficfbpaaQT19
import Derived.Test.YtbadgapficfbpaaQT15
namespace Go.Proofs.Ytbadgapficfbpaa.Bm
open Go Go.RowKit
theorem m38 : E.mode 38 = 2 := rfl
theorem orc_at {g : FuncId} {k : List Value → Heap → Nat → Res} (hg : E.orc g = some k) : (g = 21 ∧ k = noO) ∨ (g = 38 ∧ k = inG sortI none) := by
 rw [E_orc] at hg
 simp only at hg
 split at hg
 ·cases hg; exact .inl ⟨‹_›, rfl⟩
 ·split at hg
  ·cases hg; exact .inr ⟨‹_›, rfl⟩
  ·cases hg
theorem orcE : OrcSound E := by
 refine ⟨fun g k hg args h lo r hr => ?_, fun g k hg args h lo v h' hr hlo B M w args' hs hv => ?_, fun g k hg args h lo v h' hr _ => ?_⟩
 ·rcases orc_at hg with ⟨rfl, rfl⟩ | ⟨rfl, rfl⟩
  ·cases hr
  ·exact conSort.dfd
 ·rcases orc_at hg with ⟨rfl, rfl⟩ | ⟨rfl, rfl⟩
  ·cases hr
  ·exact in_sound conSort hr hlo args' hs hv
 ·rcases orc_at hg with ⟨rfl, rfl⟩ | ⟨rfl, rfl⟩
  ·cases hr
  ·exact inG_keep hr
def t21 : RCode := .seq (.region [] [⟨some 65, none, false, .mv (.tmp 12)⟩, ⟨some 66, none, false, .call (.func 38) [.tmp 65]⟩]) (.seq (.region [] [⟨some 67, none, false, .mv (.tmp 12)⟩, ⟨some 4, none, false, .mv (.tmp 67)⟩]) .ret)
theorem tail_t : rcOf E 21 tail21 = t21 := by kernel_rfl
theorem okT : okCode tail21 = true := by kernel_rfl
theorem tail_go {ys : List Int} {h : Heap} (h0 : ys ≠ []) (hob : h[7]? = some (.cells 3 (ys.map (.int .i64)) 1)) (hl : ys.length ≤ 1000) :
  ∃ σ', evG E 21 (L E) LL 0 tail21 (σR undef (rowL 7 (ys.map (.int .i64)))) h = some (.ret, σ', h.set 7 (.cells 3 ((sortI ys).map (.int .i64)) 1)) ∧ slot σ' 4 = .slice (some ⟨7, 0, some ys.length⟩) ys.length ys.length := by
 rw [code_eq, tail_t]
 have hn : ys.length ≠ 0 := fun e => h0 (List.eq_nil_of_length_eq_zero e)
 have key := inG_ints (F := sortI) (N := none) (lo := 0) (b := 7) (k := ys.length) (n := ys.length) (c := ys.length) (g := 0) (t := 3) (zs := ys) (ys := []) (h := h) (by rw [List.append_nil]; exact hob) (Nat.zero_le _) (by simp) rfl hn (by omega)
 rw [List.append_nil] at key
 have k38 : L E 38 [.slice (some ⟨7, 0, some ys.length⟩) ys.length ys.length] h 0 = some (retI none (some ⟨7, 0, some ys.length⟩) ys.length ys, h.set 7 (.cells 3 ((sortI ys).map (.int .i64)) 1)) := by
  rw [L_orc (g := inG sortI none) (by rw [E_orc]; rfl)]
  exact key
 unfold t21 σR rowL
 simp -implicitDefEqProofs [ret2 m38, k38]
theorem sortI_eqOf {l r : List Int} (h : l.Perm r) : sortI l = sortI r :=
 List.Perm.eq_of_pairwise (le := (· ≤ ·)) (fun _a _b _ _ h1 h2 => Int.le_antisymm h1 h2) (sortI_sorted l) (sortI_sorted r) (((sortI_perm l).trans h).trans (sortI_perm r).symm)
theorem setM_keys {S : List Int} : (setM S).map (·.1) = S := by unfold setM; rw [List.map_map]; exact List.map_id S
theorem row_tree {h : Heap} {l : List Int} {n : Nat} (hob : h[7]? = some (.cells 3 (l.map (.int .i64)) 1)) (hn : n = l.length) (h0 : l ≠ []) : reify E.P depth h (.slice (some ⟨7, 0, some n⟩) n n) = some (lst false (l.map (.int .i64))) := by
 subst hn
 have h0 : l.length ≠ 0 := fun e => h0 (List.eq_nil_of_length_eq_zero e)
 show reify E.P 8 h _ = _
 rw [reify_slice, if_neg h0, hob, reifyS_cells, s3, Option.bind_some, if_pos ⟨by simp [stampOk], Nat.one_pos, by simp⟩]
 have e : ((l.map (Value.int .i64)).drop 0).take (l.length * 1) = l.map (.int .i64) := by rw [List.drop_zero, Nat.mul_one, List.take_of_length_le (by simp)]
 rw [e, reifyC_set (by simp [List.all_eq_true]), Option.bind_some, elems_one a3 s3]; rfl
theorem whyF_no {A : List (List Int)} {c : Int} (h : ¬ (rightB A = true ∧ dom A.length c ∧ getI (groundF A).1 c ≠ 0)) : whyF A c = [] := by
 unfold whyF
 split
 ·rename_i q
  simp only
  rw [if_pos]
  exact Decidable.byContradiction fun e => h ⟨q.1, ⟨q.2.1, by omega⟩, e⟩
 ·rfl
theorem whyF_go {A : List (List Int)} {c : Int} (h1 : rightB A = true) (h2 : dom A.length c) (h3 : getI (groundF A).1 c ≠ 0) : whyF A c = sortI (whyS A c) := by
 unfold whyF
 rw [if_pos ⟨h1, h2.1, by have := h2.1; have := h2.2; omega⟩]
 simp only
 rw [if_neg h3]
 rfl
theorem fn21 : ∃ fn, E.P.funcs[21]? = some fn ∧ fn.body = some body21 ∧ fn.ntmps = 68 ∧ fn.results = #[.tmp 4] := ⟨_, Try.func21, by kernel_rfl, by kernel_rfl, by kernel_rfl⟩
theorem why_calls (hP : OkProg E.P) {B lo : Nat} {M : Mem} {h : Heap} {w : World} {args' : Array Value} (hs : HSim E B M h w) (x : Bool) (l : List Claim) (c : Int) (hc : CaseOk l) (hl : l.length ≤ maxLen) (ha : VRels M [lst x (l.map Claim.val), .int .i64 c] args'.toList) :
  Calls E.P 21 args' w fun e w' => ∃ v', e = .returned v' ∧ Out E B lo M h w (whyV (whyF (atts l) c)) h v' w' := by
 refine calls_tree hs ?_
 obtain ⟨fn, hf, hb, hn, hres⟩ := fn21
 refine calls_of_wp hf hb ?_
 have ha0 : VRels ⟨fun _ => none, M.phi⟩ [lst x (l.map Claim.val), .int .i64 c] args'.toList := by
  refine ⟨ha.1, fun i u u' hu hu' => ?_⟩
  have hu1 : settled 8 u = true := by
   match i, hu with
   | 0, hu => cases hu; rfl
   | 1, hu => cases hu; rfl
  exact TRel.toV (M := ⟨fun _ => none, M.phi⟩) ((ha.2 i u u' hu hu').settle hu1)
 have hsr := pad_rel (n := fn.ntmps) ha0
 rw [show [lst x (l.map Claim.val), .int .i64 c] ++ List.replicate (fn.ntmps - [lst x (l.map Claim.val), Value.int .i64 c].length) undef = padS [lst x (l.map Claim.val), .int .i64 c] 68 by rw [hn]; rfl] at hsr
 have retOk : ∀ {σ : Slots} {h : Heap} {v : Value}, slot σ 4 = v → retA E fn σ h = some v := fun {σ h v} e => by
  unfold retA
  rw [hres, ← e, ← slot_eq]
  rfl
 by_cases hyes : rightB (atts l) = true ∧ dom (atts l).length c ∧ getI (groundF (atts l)).1 c ≠ 0
 ·obtain ⟨hr, hd, h0⟩ := hyes
  obtain ⟨σ', hev, hfl⟩ := head_go x l c hc hl hr hd h0
  refine head_sound hP orcE (lo := 0) 11 body21 ok21 _ _ _ _ _ hev (Nat.le_refl _) _ w _ hsr rfl hs.bare fun a1 w1 haft => ?_
  obtain ⟨hd1, M1, s1, m1, e1⟩ := haft
  show (tailC 11 body21).wp E.P _ a1 w1
  rw [shape21]
  have s2 := s1.forget fl21
  rw [hfl] at s2
  obtain ⟨inv1, inv2⟩ := whyS_inv hr hd h0
  have hlen := nodup_dom_len inv1 fun z hz => (inv2 z hz).1
  have hn3 := (right_at hr).1
  generalize hS : whyS (atts l) c = S at *
  have prep : prepare E.P 0 [.new 12 3] (σP (pA 5) (.slice none 0 0)) (nH (graphF (atts l)) (groundF (atts l)).1 (groundF (atts l)).2 S) = some (σP (pA 5) (rowL 7 []), nH (graphF (atts l)) (groundF (atts l)).1 (groundF (atts l)).2 S ++ [.cells 3 [] 1]) := by
   rw [prepare_cons, prep_new]
   unfold σP
   simp only [blk_slot12, newK_nil s3, Option.bind_some, prepare_nil, blk_set12]
   rfl
  obtain ⟨M2, s3', m3, e3⟩ := prepare_sound _ _ _ _ _ _ prep (Nat.zero_le _) s2 m1
  refine wp_seq (range_wp (o := 7) (rm := 4) (c := 5) (zs := setM S) hP.good (L_sound hP orcE) hd1 s3' m3 rfl rfl rfl (by decide) (by simp [setM]; omega) fun M4 h4 a4 w4 ys hd4 s4 m4 e4 hob hperm => ?_)
  rw [setM_keys] at hperm
  show tail21.wp E.P _ a4 w4
  have hyl := hperm.length_eq
  have hy0 : ys ≠ [] := fun e => whyS_ne c (by rw [hS]; exact List.eq_nil_of_length_eq_zero (by rw [← hyl, e]; rfl))
  obtain ⟨σ5, hev5, h54⟩ := tail_go hy0 hob (by omega)
  refine code_sound hP orcE (lo := 0) okT _ _ _ _ _ hev5 (Nat.zero_le _) M4 w4 a4 s4 hd4 m4 _ fun a6 w6 haft => ?_
  obtain ⟨hd6, M6, s6, m6, e6⟩ := haft
  obtain ⟨v', r1, r2⟩ := ret_sound (retOk h54) s6 m6
  have hlt : 7 < h4.length := (List.getElem?_eq_some_iff.1 hob).1
  refine ⟨hd6, v', r1, v', rfl, _, _, ⟨M6, r2, m6, ((e1.trans e3).trans (e4.weaken (Nat.zero_le _))).trans e6⟩, ?_⟩
  have hne : sortI S ≠ [] := fun e => whyS_ne c (by rw [hS]; exact List.eq_nil_of_length_eq_zero (by rw [← sortI_len, e]; rfl))
  rw [whyF_go hr hd h0, hS, whyV, if_neg hne, sortI_eqOf hperm]
  refine row_tree ?_ ?_ hne
  ·rw [List.getElem?_set_self hlt]
  ·rw [sortI_len, hyl]
 ·obtain ⟨σ', h', hev, h54⟩ := head_no x l c hc hl hyes
  refine head_sound hP orcE (lo := 0) 11 body21 ok21 _ _ _ _ _ hev (Nat.le_refl _) _ w _ hsr rfl hs.bare fun a1 w1 haft => ?_
  obtain ⟨hd1, M1, s1, m1, e1⟩ := haft
  obtain ⟨v', r1, r2⟩ := ret_sound (retOk h54) s1 m1
  refine ⟨hd1, v', r1, v', rfl, _, _, ⟨M1, r2, m1, e1⟩, ?_⟩
  rw [whyF_no hyes]
  rfl
section
variable {B lo : Nat} {M M' : Mem} {h h' : Heap} {w w' : World}
theorem HSim.down (hs : HSim E1 B M h w) : HSim E B M h w := ⟨hs.glob, hs.phi, hs.sep, hs.base, hs.dom, hs.obj, hs.mp, hs.inj⟩
theorem HSim.up (hs : HSim E B M h w) : HSim E1 B M h w := ⟨hs.glob, hs.phi, hs.sep, hs.base, hs.dom, hs.obj, hs.mp, hs.inj⟩
theorem Out.up {v v' : Value} (ho : Out E B lo M h w v h' v' w') : Out E1 B lo M h w v h' v' w' := ho.imp fun _ k => ⟨k.1, k.2.1.up, k.2.2⟩
end
theorem orcE1 (hP : OkProg E.P) : OrcSound E1 := by
 have key : ∀ g k, E1.orc g = some k → (g = 21 ∧ k = whyO) ∨ E.orc g = some k := fun g k hg => by
  have hg : orc1 g = some k := hg
  unfold orc1 at hg
  split at hg
  ·cases hg; exact .inl ⟨‹_›, rfl⟩
  ·exact .inr hg
 have why : ∀ {args h lo v h'}, whyO args h lo = some (v, h') → ∃ x l c, args = [lst x (l.map Claim.val), .int .i64 c] ∧ CaseOk l ∧ l.length ≤ maxLen ∧ v = whyV (whyF (atts l) c) ∧ h' = h := by
  intro args h lo v h' hr
  unfold whyO at hr
  split at hr
  ·rename_i v0 c
   split at hr
   ·rename_i k
    cases hr
    obtain ⟨x, l, e, hc, hl, ea⟩ := k.choose_spec
    exact ⟨x, l, c, by rw [e], hc, hl, by rw [ea], rfl⟩
   ·cases hr
  ·cases hr
 refine ⟨fun g k hg args h lo r hr => ?_, fun g k hg args h lo v h' hr hlo B M w args' hs hv => ?_, fun g k hg args h lo v h' hr hlo => ?_⟩
 ·rcases key g k hg with ⟨rfl, rfl⟩ | hg
  ·obtain ⟨fn, h1, h2, _⟩ := fn21
   exact ⟨fn, h1, by rw [h2]; rfl⟩
  ·exact orcE.dfd g k hg args h lo r hr
 ·rcases key g k hg with ⟨rfl, rfl⟩ | hg
  ·obtain ⟨x, l, c, rfl, hc, hl, rfl, rfl⟩ := why hr
   refine (why_calls hP (lo := lo) hs.down x l c hc hl hv).mono ?_
   rintro e w' ⟨v', rfl, ho⟩
   exact ⟨v', rfl, ho.up⟩
  ·refine (orcE.snd g k hg args h lo v h' hr hlo B M w args' hs.down hv).mono ?_
   rintro e w' ⟨v', rfl, ho⟩
   exact ⟨v', rfl, ho.up⟩
 ·rcases key g k hg with ⟨rfl, rfl⟩ | hg
  ·obtain ⟨x, l, c, rfl, hc, hl, rfl, rfl⟩ := why hr
   exact ⟨Nat.le_refl _, fun _ _ => rfl, fun _ _ k => k⟩
  ·exact orcE.keep g k hg args h lo v h' hr hlo
end Go.Proofs.Ytbadgapficfbpaa.Bm
namespace Go.Proofs.Ytbadgapficfbpaa.Bm
open Go Go.RowKit
theorem okE : OkProg E.P := okProg_of (by kernel_rfl) (by kernel_rfl)
theorem laidE : laidOutB E.P = true := by kernel_rfl
theorem mapsE : mapsRowed E.P = true := by kernel_rfl
noncomputable def tlE : List TypeId := closeT E.P 6 [22, 23, 3]
theorem closedE : closedT E.P tlE = true := by kernel_rfl
theorem in22 : 22 ∈ tlE := List.contains_iff_mem.1 (by kernel_rfl)
theorem in23 : 23 ∈ tlE := List.contains_iff_mem.1 (by kernel_rfl)
theorem in3 : 3 ∈ tlE := List.contains_iff_mem.1 (by kernel_rfl)
theorem u4 : E.P.underlying 4 = some .bool := by kernel_rfl
theorem u9 : E.P.underlying 9 = some .string := by kernel_rfl
theorem u23 : E.P.underlying 23 = some (.slice 3) := by kernel_rfl
theorem u22 : E.P.underlying 22 = some (.slice 40) := by kernel_rfl
theorem f40 : fsOf E.P 40 = some [(0, 3), (1, 3), (2, 23), (3, 3), (4, 9), (5, 3)] := by kernel_rfl
theorem n40 : E.P.cellsOf 40 = 6 := by kernel_rfl
theorem n3 : E.P.cellsOf 3 = 1 := by kernel_rfl
theorem n9 : E.P.cellsOf 9 = 1 := by kernel_rfl
theorem n23 : E.P.cellsOf 23 = 1 := by kernel_rfl
theorem g40 : aggT E.P 40 = some true := by kernel_rfl
theorem g22 : aggT E.P 22 = some false := by kernel_rfl
theorem g23 : aggT E.P 23 = some false := by kernel_rfl
theorem claim_of {n : Nat} {c : List Value} (h : Wt E.P n 40 c) : ∃ r : Claim, c = r.cells ∧ (IOk r.k r.att ∧ r.att.length ≤ maxLen) := by
 obtain ⟨hl, hf⟩ := wt_struct f40 h
 rw [n40] at hl
 obtain ⟨a0, c, rfl⟩ := List.exists_cons_of_length_eq_add_one hl; have hl := Nat.succ.inj hl
 obtain ⟨a1, c, rfl⟩ := List.exists_cons_of_length_eq_add_one hl; have hl := Nat.succ.inj hl
 obtain ⟨a2, c, rfl⟩ := List.exists_cons_of_length_eq_add_one hl; have hl := Nat.succ.inj hl
 obtain ⟨a3, c, rfl⟩ := List.exists_cons_of_length_eq_add_one hl; have hl := Nat.succ.inj hl
 obtain ⟨a4, c, rfl⟩ := List.exists_cons_of_length_eq_add_one hl; have hl := Nat.succ.inj hl
 obtain ⟨a5, c, rfl⟩ := List.exists_cons_of_length_eq_add_one hl; have hl := Nat.succ.inj hl
 obtain rfl := List.eq_nil_of_length_eq_zero hl
 obtain ⟨mr0, qr0⟩ := hf (0, 3) (by simp)
 replace qr0 : Wt E.P mr0 3 [a0] := by simpa [n3] using qr0
 obtain ⟨mr1, qr1⟩ := hf (1, 3) (by simp)
 replace qr1 : Wt E.P mr1 3 [a1] := by simpa [n3] using qr1
 obtain ⟨mr2, qr2⟩ := hf (2, 23) (by simp)
 replace qr2 : Wt E.P mr2 23 [a2] := by simpa [n23] using qr2
 obtain ⟨mr3, qr3⟩ := hf (3, 3) (by simp)
 replace qr3 : Wt E.P mr3 3 [a3] := by simpa [n3] using qr3
 obtain ⟨mr4, qr4⟩ := hf (4, 9) (by simp)
 replace qr4 : Wt E.P mr4 9 [a4] := by simpa [n9] using qr4
 obtain ⟨mr5, qr5⟩ := hf (5, 3) (by simp)
 replace qr5 : Wt E.P mr5 3 [a5] := by simpa [n3] using qr5
 obtain ⟨party, e, _⟩ := wt_int ui3 qr0; obtain rfl := List.singleton_inj.1 e
 obtain ⟨day, e, _⟩ := wt_int ui3 qr1; obtain rfl := List.singleton_inj.1 e
 obtain ⟨att, e, watt, _⟩ := wt_ints u23 ui3 qr2; obtain rfl := List.singleton_inj.1 e
 obtain ⟨cite, e, _⟩ := wt_int ui3 qr3; obtain rfl := List.singleton_inj.1 e
 obtain ⟨name, e, _⟩ := wt_str u9 qr4; obtain rfl := List.singleton_inj.1 e
 obtain ⟨n1, e, _⟩ := wt_int ui3 qr5; obtain rfl := List.singleton_inj.1 e
 exact ⟨⟨party, day, some false, att, cite, name, n1⟩, rfl, iok_some, watt⟩
theorem case_of {n : Nat} {c : List Value} (h : Wt E.P n 22 c) : ∃ l : List Claim, c = [lst false (l.map Claim.val)] ∧ l.length ≤ maxLen ∧ CaseOk l := by
 obtain ⟨ls, rfl, h2, h3⟩ := wt_slice u22 h
 obtain ⟨rs, rfl, k2⟩ := choose_list (cells := Claim.cells) (Q := fun r => IOk r.k r.att ∧ r.att.length ≤ maxLen) ls fun x hx => by
  obtain ⟨m, hm⟩ := h3 x hx
  exact claim_of hm
 refine ⟨rs, ?_, by simpa using h2, fun r hr => k2 r hr⟩
 have e : ∀ l : List Claim, (l.map Claim.cells).map (elemV E.P 40) = l.map Claim.val := by
  intro l
  induction l with
  | nil => rfl
  | cons r l ih =>
   simp only [List.map_cons, ih]
   unfold elemV
   rw [if_pos g40]
   rfl
 rw [e]
theorem caseV {n : Nat} {c : List Value} (h : Wt E.P n 22 c) : ∃ l : List Claim, elemV E.P 22 c = lst false (l.map Claim.val) ∧ l.length ≤ maxLen ∧ CaseOk l := by
 obtain ⟨l, rfl, hl⟩ := case_of h
 exact ⟨l, by simp [elemV, g22], hl⟩
theorem intsV {n : Nat} {c : List Value} (h : Wt E.P n 23 c) : ∃ l : List Int, elemV E.P 23 c = rowT l ∧ l.length ≤ maxLen := by
 obtain ⟨l, rfl, hl, _⟩ := wt_ints u23 ui3 h
 exact ⟨l, by simp [elemV, g23]; rfl, hl⟩
def i64ok (z : Int) : Prop := -9223372036854775808 ≤ z ∧ z ≤ 9223372036854775807
theorem intV {n : Nat} {c : List Value} (h : Wt E.P n 3 c) : ∃ z : Int, elemV E.P 3 c = .int .i64 z ∧ i64ok z := by
 obtain ⟨z, rfl, hz⟩ := wt_int ui3 h
 exact ⟨z, by simp [elemV, a3], i64_wf hz⟩
end Go.Proofs.Ytbadgapficfbpaa.Bm
namespace Go.Proofs.Ytbadgapficfbpaa.Bm
open Go Go.RowKit
theorem hasR_spec (k : Option Bool) (l : List Int) (s : Int) (hk : IOk k l) (hl : l.length ≤ maxLen) : pureCall E.P (L E) 35 [ilist k l, .int .i64 s] = some (.bool (memI l s)) := by
 unfold maxLen at hl
 have ll := fun h => il_len (h := h) hk
 have il := fun (i : Nat) (hi : i < l.length) => il_idxN (e := 3) hk hi
 rw [pureCall_fn F35 rfl]
 generalize ilist k l = VL at *
 simp -implicitDefEqProofs [r35, p35]
 rw [LL_for (γ := Unit) l () (fun i _ => [(5, .int .i64 i)]) (fun _ _ => []) (fun _ rest _ => if memI rest s then (.ret, [(4, .bool true), (5, undef)], []) else (.exit 0, [(5, undef)], [])) (fun _ _ => True) hl trivial]
 ·cases h : memI l s <;> simp [k35_2]
 ·simp [k35_2]
 ·rfl
 ·intro nx i c hi _
  simp -implicitDefEqProofs [r35_2, k35_2, ll, hi, trim_le, memI]
 ·intro nx i v rest c hi hv hd hw _ ih
  have ih := ih () trivial
  have x1 := il i hi
  rw [hv] at x1
  have hm : memI (v :: rest) s = (decide (v = s) || memI rest s) := rfl
  simp -implicitDefEqProofs [k35_2] at ih
  rw [hm]
  by_cases he : v = s
  ·simp -implicitDefEqProofs [r35_2, k35_2, ll, hi, x1, he, trim_le]
  ·simp -implicitDefEqProofs [r35_2, k35_2, ll, hi, x1, hw, he, trim_le]
   exact ih
set_option maxHeartbeats 1000000 in
theorem rightR_spec (x : Bool) (l : List Claim) (hc : CaseOk l) (hl : l.length ≤ maxLen) : pureCall E.P (L E) 14 [lst x (l.map Claim.val)] = some (.bool (rightB (atts l))) := by
 unfold maxLen at hl
 have ll : ∀ h, lenT .sl h (lst x (l.map Claim.val)) = some (.int .i64 l.length) := fun h => by simp
 have ci := fun (i : Nat) (hi : i < l.length) => case_idxN (x := x) (l := l) hi
 rw [pureCall_fn F14 rfl]
 generalize lst x (l.map Claim.val) = VL at *
 simp -implicitDefEqProofs [r14, p14]
 rw [LL_for (γ := Unit) l () (fun i _ => [(3, .int .i64 i)]) (fun _ _ => []) (fun _ rest _ => if (atts rest).all (ascB l.length (-1)) then (.exit 0, [(3, undef)], []) else (.ret, [(2, .bool false), (3, undef)], [])) (fun _ _ => True) hl trivial]
 ·unfold rightB
  have e : (atts l).length = l.length := by simp [atts]
  rw [e]
  cases h : (atts l).all (ascB l.length (-1))
  ·simp [k14_2]
  ·simp -implicitDefEqProofs [k14_2, ll]
   omega
 ·simp [k14_2]
 ·rfl
 ·intro nx i c hi _
  simp -implicitDefEqProofs [r14_2, k14_2, ll, hi, trim_le, atts]
 ·intro nx i c rest _ hi hv hd hw _ ih
  have ih := ih () trivial
  have x1 := ci i hi
  rw [hv] at x1
  have hm : (atts (c :: rest)).all (ascB l.length (-1)) = (ascB l.length (-1) c.att && (atts rest).all (ascB l.length (-1))) := rfl
  rw [hm]
  obtain ⟨hk, ha⟩ := hc c (hv ▸ List.getElem_mem hi)
  unfold maxLen at ha
  have lc := fun h => il_len (h := h) hk
  have ic := fun (i : Nat) (hi : i < c.att.length) => il_idxN (e := 3) hk hi
  have fc : fitsTT ⟨some false, some 1⟩ (ilist c.k c.att) = true := il_fits
  generalize hVC : ilist c.k c.att = VC at *
  generalize (atts rest).all (ascB l.length (-1)) = ra at *
  simp -implicitDefEqProofs [k14_2] at ih
  obtain ⟨R, hR⟩ : ∃ R, R = ascB l.length (-1) c.att := ⟨_, rfl⟩
  rw [← hR]
  simp -implicitDefEqProofs [r14_2, k14_2, ll, hi, x1, Claim.val, Claim.cells, hVC, fc]
  rw [LL_for (γ := Int) c.att (-1) (fun j _ => [(5, .int .i64 j)]) (fun _ _ => []) (fun j rest last => if ascB l.length last rest then (.exit 2, [(5, undef)], []) else (.ret, [(2, .bool false), (5, undef)], [])) (fun j last => (-1 ≤ last) ∧ (0 < j → ∀ h : j - 1 < c.att.length, c.att[j - 1] = last) ∧ (j = 0 → last = -1)) ha ⟨Int.le_refl _, fun h => absurd h (Nat.lt_irrefl 0), fun _ => rfl⟩]
  ·rw [← hR]
   cases R
   ·simp -implicitDefEqProofs [k14_6, trim_le]
   ·simp -implicitDefEqProofs [k14_6, hw, ih, trim_le]
  ·simp -implicitDefEqProofs [k14_6]
  ·rfl
  ·intro nx j last hj _
   have e0 : ascB l.length last [] = true := rfl
   rw [e0]
   simp -implicitDefEqProofs [r14_6, k14_6, lc, hj, trim_le]
  ·intro nx j v rest' last hj hvj hdj hwj hI ihj
   obtain ⟨hI1, hI2, hI3⟩ := hI
   have x2 := ic j hj
   rw [hvj] at x2
   have hj2 : (j : Int) < (c.att.length : Int) := by omega
   have e2 : ascB l.length last (v :: rest') = ((decide (last < v) && decide (v < l.length)) && ascB l.length v rest') := rfl
   rw [e2]
   by_cases q0 : v < 0
   ·have q1 : ¬ last < v := by omega
    rw [decide_eq_false q1, Bool.false_and, Bool.false_and]
    simp -implicitDefEqProofs [r14_6, k14_6, lc, hj2, x2, ll, q0, trim_le]
   by_cases q2 : v < l.length
   case neg =>
    have q2' : (l.length : Int) ≤ v := by omega
    rw [decide_eq_false q2, Bool.and_false, Bool.false_and]
    simp -implicitDefEqProofs [r14_6, k14_6, lc, hj2, x2, ll, q0, q2', trim_le]
   have q2' : ¬ (l.length : Int) ≤ v := by omega
   have ihj := ihj v ⟨by omega, fun _ h => by
    have e : j + 1 - 1 = j := rfl
    simp only [e]
    exact hvj, fun h => by omega⟩
   have e3 : (((j + 1 : Nat) : Int)) = (j : Int) + 1 := by omega
   rw [e3] at ihj
   rw [decide_eq_true q2, Bool.and_true]
   generalize ascB l.length v rest' = rb at *
   simp -implicitDefEqProofs [k14_6] at ihj
   by_cases h0 : j = 0
   ·have hl0 := hI3 h0
    subst h0
    have q1 : last < v := by omega
    rw [decide_eq_true q1, Bool.true_and]
    have x2 : indexAddrT (.sl 3 ⟨some false, some 1⟩) VC (.int .i64 0) = some (cptr (.int .i64 v)) := x2
    have hw1 : IntKind.i64.wrap 1 = 1 := wrap64 (by omega) (by omega)
    simp -implicitDefEqProofs at ihj
    simp -implicitDefEqProofs [r14_6, k14_6, lc, hj, x2, ll, q0, q2', hw1, ihj, trim_le]
   ·have hp : 0 < j := by omega
    have hpj : (0 : Int) < (j : Int) := by omega
    have x0 := ic (j - 1) (by omega)
    rw [hI2 hp (by omega)] at x0
    have w1 : IntKind.i64.wrap ((j : Int) - 1) = ((j - 1 : Nat) : Int) := (wrap64 (by omega) (by omega)).trans (by omega)
    generalize ((j - 1 : Nat) : Int) = j1 at *
    by_cases q1 : last < v
    ·have q1' : ¬ v ≤ last := by omega
     rw [decide_eq_true q1, Bool.true_and]
     simp -implicitDefEqProofs [r14_6, k14_6, lc, hj2, x2, x0, w1, ll, q0, q2', hp, q1', hwj, ihj, trim_le]
    ·have q1' : v ≤ last := by omega
     rw [decide_eq_false q1, Bool.false_and]
     simp -implicitDefEqProofs [r14_6, k14_6, lc, hj2, x2, x0, w1, ll, q0, q2', hp, q1', trim_le]
def manyF (L l : List Int) (v : Int) : Nat := l.countP fun i => decide (getI L i = v)
theorem many_cons {L l : List Int} {v i : Int} : manyF L (i :: l) v = if getI L i = v then manyF L l v + 1 else manyF L l v := by
 unfold manyF
 rw [List.countP_cons]
 split
 ·rename_i h; rw [if_pos (of_decide_eq_true h)]
 ·rename_i h; rw [if_neg (by simpa using h)]; rfl
theorem manyR_spec {kL k : Option Bool} {Lb l : List Int} {v : Int} (hL : IOk kL Lb) (hk : IOk k l) (hl : l.length ≤ maxLen) (hin : ∀ i ∈ l, 0 ≤ i ∧ i.toNat < Lb.length) :
  pureCall E.P (L E) 29 [ilist kL Lb, ilist k l, .int .i64 v] = some (.int .i64 (manyF Lb l v : Nat)) := by
 unfold maxLen at hl
 have ll := fun h => il_len (h := h) hk
 have il := fun (i : Nat) (hi : i < l.length) => il_idxN (e := 3) hk hi
 have iL := fun (z : Int) (h0 : 0 ≤ z) (h1 : z.toNat < Lb.length) => il_idx (e := 3) hL h0 h1
 rw [pureCall_fn F29 rfl]
 generalize ilist k l = VL at *
 generalize ilist kL Lb = VB at *
 simp -implicitDefEqProofs [r29, p29]
 rw [LL_for (γ := Nat) l 0 (fun i n => [(7, .int .i64 (n : Int)), (8, .int .i64 i)]) (fun _ _ => []) (fun _ rest n => (.exit 0, [(7, .int .i64 ((n + manyF Lb rest v : Nat) : Int)), (8, undef)], [])) (fun i n => n ≤ i) hl (Nat.le_refl _)]
 ·rw [Nat.zero_add]
  simp -implicitDefEqProofs [k29_3, -Int.natCast_add]
 ·simp -implicitDefEqProofs [k29_3]
 ·rfl
 ·intro nx i n hi _
  have e0 : manyF Lb [] v = 0 := rfl
  rw [e0, Nat.add_zero]
  simp -implicitDefEqProofs [r29_3, k29_3, ll, hi, trim_le]
 ·intro nx i z rest n hi hv hd hw hI ih
  have hI : n ≤ i := hI
  have hi2 : ((i : Int) < (l.length : Int)) := by omega
  have x1 := il i hi
  rw [hv] at x1
  obtain ⟨z0, z1⟩ := hin z (hv ▸ List.getElem_mem hi)
  have x2 := iL z z0 z1
  have e2 : (((i + 1 : Nat) : Int)) = (i : Int) + 1 := by omega
  rw [many_cons]
  by_cases q : getI Lb z = v
  ·rw [if_pos q]
   have ih := ih (n + 1) (by omega)
   rw [show n + 1 + manyF Lb rest v = n + (manyF Lb rest v + 1) by omega, e2] at ih
   generalize n + (manyF Lb rest v + 1) = Z at *
   have wn : IntKind.i64.wrap ((n : Int) + 1) = ((n + 1 : Nat) : Int) := (wrap64 (by omega) (by omega)).trans (by omega)
   generalize ((n + 1 : Nat) : Int) = n1 at *
   simp -implicitDefEqProofs [k29_3] at ih
   simp -implicitDefEqProofs [r29_3, k29_3, ll, hi2, x1, x2, q, wn, hw, ih, trim_le]
  ·rw [if_neg q]
   have ih := ih n (by omega)
   rw [e2] at ih
   generalize n + manyF Lb rest v = Z at *
   simp -implicitDefEqProofs [k29_3] at ih
   simp -implicitDefEqProofs [r29_3, k29_3, ll, hi2, x1, x2, q, hw, ih, trim_le]
def idxB (n : Nat) (S : List Int) : Bool := !S.any fun i => decide (i < 0) || decide ((n : Int) ≤ i)
theorem indicesR_spec {x : Bool} {l : List Claim} {k : Option Bool} {S : List Int} (hk : IOk k S) (hS : S.length ≤ maxLen) :
  pureCall E.P (L E) 33 [lst x (l.map Claim.val), ilist k S] = some (.bool (idxB l.length S)) := by
 unfold maxLen at hS
 have lV : ∀ h, lenT .sl h (lst x (l.map Claim.val)) = some (.int .i64 l.length) := fun h => by simp
 have ll := fun h => il_len (h := h) hk
 have il := fun (i : Nat) (hi : i < S.length) => il_idxN (e := 3) hk hi
 rw [pureCall_fn F33 rfl]
 generalize lst x (l.map Claim.val) = VL at *
 generalize ilist k S = VS at *
 obtain ⟨R, hR⟩ : ∃ R, R = idxB l.length S := ⟨_, rfl⟩
 rw [← hR]
 simp -implicitDefEqProofs [r33, p33]
 rw [LL_for (γ := Unit) S () (fun i _ => [(5, .int .i64 i)]) (fun _ _ => []) (fun _ rest _ => if idxB l.length rest then (.exit 0, [(5, undef)], []) else (.ret, [(4, .bool false), (5, undef)], [])) (fun _ _ => True) hS trivial]
 ·rw [← hR]
  cases R <;> simp [k33_2]
 ·simp [k33_2]
 ·rfl
 ·intro nx i c hi _
  have e0 : idxB l.length [] = true := rfl
  rw [e0]
  simp -implicitDefEqProofs [r33_2, k33_2, ll, hi, trim_le]
 ·intro nx i z rest c hi hv hd hw _ ih
  have ih := ih () trivial
  have hi2 : ((i : Int) < (S.length : Int)) := by omega
  have x1 := il i hi
  rw [hv] at x1
  have e1 : idxB l.length (z :: rest) = ((!decide (z < 0) && !decide ((l.length : Int) ≤ z)) && idxB l.length rest) := by
   unfold idxB
   rw [List.any_cons]
   cases decide (z < 0) <;> cases decide ((l.length : Int) ≤ z) <;> simp
  have e2 : (((i + 1 : Nat) : Int)) = (i : Int) + 1 := by omega
  rw [e2] at ih
  rw [e1]
  generalize idxB l.length rest = rb at *
  simp -implicitDefEqProofs [k33_2] at ih
  by_cases q1 : z < 0
  ·rw [decide_eq_true q1, Bool.not_true, Bool.false_and, Bool.false_and]
   simp -implicitDefEqProofs [r33_2, k33_2, ll, hi2, x1, q1, trim_le]
  rw [decide_eq_false q1, Bool.not_false, Bool.true_and]
  by_cases q2 : (l.length : Int) ≤ z
  ·rw [decide_eq_true q2, Bool.not_true, Bool.false_and]
   simp -implicitDefEqProofs [r33_2, k33_2, ll, lV, hi2, x1, q1, q2, trim_le]
  ·rw [decide_eq_false q2, Bool.not_false, Bool.true_and]
   simp -implicitDefEqProofs [r33_2, k33_2, ll, lV, hi2, x1, q1, q2, hw, ih, trim_le]
end Go.Proofs.Ytbadgapficfbpaa.Bm
namespace Go.Proofs.Ytbadgapficfbpaa.Bm
open Go Go.RowKit
variable {h : Heap} {P : Program}
def cAt (b j : Nat) : Value := .pointer (some ⟨b, j, none⟩)
theorem obj_row {b : Nat} {t : TypeId} {c : List Value} (hob : h[b]? = some (.cells t c 0)) {j : Nat} : rowOf h ⟨b, j, none⟩ = some c := by
 unfold rowOf
 show (match h[b]? with | some (.cells _ c g) => _ | _ => none) = _
 rw [hob]; rfl
theorem obj_load {b j : Nat} {t : TypeId} {c : List Value} {v : Value} {sz : Option Nat} (hob : h[b]? = some (.cells t c 0)) (hc : c[j]? = some v) : loadT ⟨some false, sz⟩ h (cAt b j) = some v := by
 unfold cAt
 rw [load_one, obj_row hob, Option.bind_some, hc]
theorem obj_store {b j lo : Nat} {t : TypeId} {c : List Value} {v : Value} (hob : h[b]? = some (.cells t c 0)) (hj : j < c.length) (hlo : lo ≤ b) (hv : cellsOf v = some [v]) : storeT (some 1) h lo v (cAt b j) = some (h.set b (.cells t (c.set j v) 0)) := by
 unfold cAt
 rw [store_ptr, hv, Option.bind_some, if_pos (show 1 = [v].length from rfl)]
 unfold wrN
 show (match h[b]? with | some (.cells t c g) => _ | _ => none) = _
 rw [hob]
 show (if _ then _ else none) = _
 rw [if_pos ⟨hlo, rfl, by simp, by simp; omega⟩]
 show some (h.set b (.cells t (splice c j [v]) 0)) = _
 rw [splice_one hj]
theorem isCp_cptr {v : Value} : isCp (cptr v) = true := rfl
theorem rop_loadC {E : Env} {C : Callee} {lo : Nat} {k : TI} {x : Operand} {ρ : Operand → Value} (hc : isCp (ρ x) = true) : ropR E C lo true (.load k x) ρ h = (loadT k h (ρ x)).map (·, h) := by
 show (if (true && !(isCp (ρ x) || isLow lo h (ρ x))) = true then none else _) = _
 rw [hc]; rfl
end Go.Proofs.Ytbadgapficfbpaa.Bm
namespace Go.Proofs.Ytbadgapficfbpaa.Bm
open Go Go.RowKit
set_option maxRecDepth 20000 in
theorem attackersR_spec (x : Bool) (l : List Claim) (hc : CaseOk l) (hr : rightB (atts l) = true) : pureCall E.P (L E) 28 [lst x (l.map Claim.val)] = some (lst false ((graphF (atts l)).map rowT)) := by
 obtain ⟨hn, hat⟩ := right_at hr
 rw [atts_len] at hn hat
 have ll : ∀ h, lenT .sl h (lst x (l.map Claim.val)) = some (.int .i64 l.length) := fun h => by simp
 have ci := fun (i : Nat) (hi : i < l.length) => case_idxN (x := x) (l := l) hi
 rw [pureCall_fn F28 rfl]
 have nw := fun σ => newsK_row (σ := σ) (P := E.P) (lo := 0) (h := [.cells 23 (List.replicate l.length (.slice none 0 0)) 0]) (t := 3) (b := 0) (n := 0) (m := l.length) (len := l.length) (cap := l.length) (sp := none) (off := 0) rfl s3 (Nat.le_refl _)
 have mk := make_one (h := []) (el := ⟨23, 1, 24, .slice none 0 0, ⟨some false, some 1⟩⟩) (n := l.length) (k := .i64) (k' := .i64) rfl rfl (by omega) (by decide)
 simp -implicitDefEqProofs at mk nw
 have bV : ∀ d n, below (d + 1) n (lst x (l.map Claim.val)) = true := fun _ _ => rfl
 generalize lst x (l.map Claim.val) = VL at *
 simp -implicitDefEqProofs [r28, p28, ll, mk, prep_news, nw, gcells_nil, grows_nil]
 rw [LL_for (γ := List (List Int)) l (List.replicate l.length []) (fun i _ => [(4, .int .i64 i)]) (fun _ G => gH G [])
  (fun i rest G => (.exit 0, [(4, undef)], gH (graphG (atts rest) i G) [])) (fun i G => G.length = l.length ∧ ∀ g ∈ G, g.length ≤ i * 300) (by omega) ⟨by simp, by simp⟩]
 ·simp -implicitDefEqProofs [k28_3]
  have hGd : graphG (atts l) 0 (List.replicate l.length []) = graphF (atts l) := by simp [graphF, atts_len]
  have hG : (graphF (atts l)).length = l.length := by rw [graphF_len, atts_len]
  rw [hGd]
  by_cases h0 : l = []
  ·subst h0; rfl
  ·have h0' : l.length ≠ 0 := fun e => h0 (List.eq_nil_of_length_eq_zero e)
   rw [if_neg h0]
   have rg := reify_graph (m := 6) (h := gH (graphF (atts l)) []) (graphF (atts l)) 1 fun k g hk => by
    unfold gH
    rw [get_one, List.append_nil]
    exact grows_get hk
   have hns : (gcells (graphF (atts l)) 1).all (settled 8) = false := by
    cases hq : graphF (atts l) with
    | nil => rw [hq] at hG; simp at hG; omega
    | cons g G => rfl
   have e : reifyC E.P 7 (gH (graphF (atts l)) []) (gcells (graphF (atts l)) 1) = some ((graphF (atts l)).map rowT) := by
    rw [reifyC_map hns]; exact rg
   have tk : ((gcells (graphF (atts l)) 1).drop 0).take (l.length * 1) = gcells (graphF (atts l)) 1 := by
    rw [List.drop_zero, Nat.mul_one, List.take_of_length_le (by rw [gcells_len]; omega)]
   show reifyS E.P 7 (gH (graphF (atts l)) []) (some (.cells 23 (gcells (graphF (atts l)) 1) 0)) ⟨0, 0, none⟩ l.length = _
   rw [reifyS_cells, sRow, Option.bind_some, if_pos ⟨rfl, Nat.one_pos, by rw [gcells_len]; simp; omega⟩]
   simp only [tk, e, Option.bind_some]
   rw [elems_one aRow sRow]; rfl
 ·simp -implicitDefEqProofs [k28_3]
 ·simp -implicitDefEqProofs [gH]
 ·intro nx i G hi _
  simp -implicitDefEqProofs [r28_3, k28_3, ll, hi, gH, atts, graphG, trim_le]
 ·intro nx i c rest G hi hv hd hw ⟨hG1, hG2⟩ ih
  obtain ⟨hk, ha⟩ := hc c (hv ▸ List.getElem_mem hi)
  obtain ⟨hb, ha3⟩ := hat c.att (List.mem_map.2 ⟨c, hv ▸ List.getElem_mem hi, rfl⟩)
  unfold maxLen at ha
  have hG0 := hG1
  have x1 := ci i hi
  rw [hv] at x1
  have lc := fun h => il_len (h := h) hk
  have ic := fun (i : Nat) (hi : i < c.att.length) => il_idxN (e := 3) hk hi
  have fc : fitsTT ⟨some false, some 1⟩ (ilist c.k c.att) = true := il_fits
  have hfl : ∀ (a : List Int) (G : List (List Int)), (a.foldl (addA i) G).length = G.length := by
   intro a
   induction a with
   | nil => intro G; rfl
   | cons k a ih => intro G; rw [List.foldl_cons, ih, addA_len]
  have hfb : ∀ (a : List Int) (G : List (List Int)) (m : Nat), (∀ g ∈ G, g.length ≤ m) → ∀ g ∈ a.foldl (addA i) G, g.length ≤ m + a.length := by
   intro a
   induction a with
   | nil => intro G m h g hg; exact h g hg
   | cons k a ih =>
    intro G m h g hg
    have := ih (addA i G k) (m + 1) (addA_bound h) g hg
    simp; omega
  have ih := ih (c.att.foldl (addA i) G) ⟨by rw [hfl, hG1], fun g hg => by have := hfb c.att G _ hG2 g hg; omega⟩
  have hgr : graphG (atts (c :: rest)) i G = graphG (atts rest) (i + 1) (c.att.foldl (addA i) G) := rfl
  rw [hgr]
  generalize hVC : ilist c.k c.att = VC at *
  simp -implicitDefEqProofs [r28_3, k28_3, ll, hi, gH]
  rw [LL_for (γ := List (List Int)) c.att G (fun j _ => [(5, .int .i64 j)]) (fun _ G => gH G [])
   (fun _ rest G => (.exit 2, [(5, undef)], gH (rest.foldl (addA i) G) [])) (fun j G => G.length = l.length ∧ ∀ g ∈ G, g.length ≤ i * 300 + j) ha ⟨hG1, fun g hg => by have := hG2 g hg; omega⟩]
  ·have hfl := hfl c.att G
   generalize c.att.foldl (addA i) G = G2 at *
   simp -implicitDefEqProofs [k28_3, gH] at ih
   simp -implicitDefEqProofs [k28_6, gH, grows_len, hw, hfl, trim_le]
   exact ih
  ·simp -implicitDefEqProofs [k28_6]
  ·simp -implicitDefEqProofs [gH]
  ·intro nx j G hj _
   simp -implicitDefEqProofs [r28_6, k28_6, x1, Claim.val, Claim.cells, hVC, fc, lc, hj, gH, trim_le]
  ·intro nx j v rest2 G hj hvj hdj hwj ⟨hG1, hG2⟩ ihj
   obtain ⟨q0, q1⟩ := hb v (hvj ▸ List.getElem_mem hj)
   have x2 := ic j hj
   rw [hvj] at x2
   have hj2 : (j : Int) < (c.att.length : Int) := by omega
   have hkl : v.toNat < G.length := by omega
   have hg : G[v.toNat]? = some G[v.toNat] := List.getElem?_eq_getElem hkl
   have hgb := hG2 G[v.toNat] (List.getElem_mem hkl)
   obtain ⟨g, eg⟩ : ∃ g, G[v.toNat] = g := ⟨_, rfl⟩
   rw [eg] at hg hgb
   have hGG := hG0.trans hG1.symm
   have ihj := ihj (addA i G v) ⟨by rw [addA_len, hG1], fun x hx => by have := addA_bound hG2 x hx; omega⟩
   have m1 := gcells_mod (b := 1) (· ++ [(i : Int)]) hg
   have m2 := grows_mod (· ++ [(i : Int)]) hg
   have c1 := gcells_get (b := 1) hg
   have hbd : (g.length + 1) * 8 ≤ 140737488355328 := by omega
   have e1 : ∀ t, (grows G ++ t)[v.toNat]? = some (.cells 3 (g.map (.int .i64)) 1) := fun t => by rw [List.getElem?_append_left (by rw [grows_len]; exact hkl)]; exact grows_get hg
   have e2 : ∀ t y, (grows G ++ t).set v.toNat y = (grows G).set v.toNat y ++ t := fun t y => List.set_append_left _ _ (by rw [grows_len]; exact hkl)
   have e3 : ∀ a, (grows G ++ [a])[G.length]? = some a := fun a => by rw [List.getElem?_append_right (by rw [grows_len]; omega), grows_len]; simp
   have e4 : ∀ u, splice (gcells G 1) v.toNat [u] = (gcells G 1).set v.toNat u := fun u => splice_one (by rw [gcells_len]; exact hkl)
   have e5 : v.toNat + 1 ≤ (gcells G 1).length := by rw [gcells_len]; exact hkl
   have hgG : v.toNat < (gcells G 1).length := by rw [gcells_len]; exact hkl
   have g1 := List.getElem_eq_iff hgG |>.2 c1
   simp -implicitDefEqProofs at m1 m2
   replace m1 : gcells (addA i G v) 1 = _ := m1
   replace m2 : grows (addA i G v) = _ := m2
   have t1 := fun vs x h1 => trim_g1 (a := .cells 23 (gcells (addA i G v) 1) 0) (x := x) (r := grows (addA i G v)) (vs := vs) (n := G.length + 1) (by rw [grows_len, addA_len]) h1 (gcells_below (by rw [addA_len]; omega)) grows_below
   simp only [m1, m2] at t1
   simp -implicitDefEqProofs [k28_6, gH, m1, m2, grows_len, hGG] at ihj
   simp -implicitDefEqProofs [r28_6, k28_6, x1, Claim.val, Claim.cells, hVC, fc, lc, gH, hj2, x2, hwj, index_slice, q0, q1, hgG, g1, grows_len, get_one, set_one, build_one', Value.cells, e1, e2, e4, e5, appS_grown, hbd, -splice, hGG, t1, bV, prep_still, rop_loadC, isCp_cptr, -List.all_eq_true, -List.all_map]
   exact ihj
end Go.Proofs.Ytbadgapficfbpaa.Bm
