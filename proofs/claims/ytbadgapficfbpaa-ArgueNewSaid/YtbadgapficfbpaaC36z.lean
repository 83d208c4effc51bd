/-
  Chapter 36: the contract of Why, and what is known of functions is so. Conditions: the first argument is a case.
-/
import Derived.Test.YtbadgapficfbpaaC36y
import Derived.Test.YtbadgapficfbpaaBmSrt
namespace Go.Proofs.Ytbadgapficfbpaa.Bm
open Go Go.RowKit

theorem m38 : E.mode 38 = 2 := rfl
theorem orc_at {g : FuncId} {k : List Value → Heap → Nat → Res} (hg : E.orc g = some k) : (g = 21 ∧ k = noO) ∨ (g = 38 ∧ k = inG sortI none) := by
  rw [E_orc] at hg
  simp only at hg
  split at hg
  · cases hg; exact .inl ⟨‹_›, rfl⟩
  · split at hg
    · cases hg; exact .inr ⟨‹_›, rfl⟩
    · cases hg
theorem orcE : OrcSound E := by
  refine ⟨fun g k hg args h lo r hr => ?_, fun g k hg args h lo v h' hr hlo B M w args' hs hv => ?_, fun g k hg args h lo v h' hr _ => ?_⟩
  · rcases orc_at hg with ⟨rfl, rfl⟩ | ⟨rfl, rfl⟩
    · cases hr
    · exact conSort.dfd
  · rcases orc_at hg with ⟨rfl, rfl⟩ | ⟨rfl, rfl⟩
    · cases hr
    · exact in_sound conSort hr hlo args' hs hv
  · rcases orc_at hg with ⟨rfl, rfl⟩ | ⟨rfl, rfl⟩
    · cases hr
    · exact inG_keep hr

/-! ### The last of it -/
def t21 : RCode := .seq (.region [] [⟨some 65, none, false, .mv (.tmp 12)⟩, ⟨some 66, none, false, .call (.func 38) [.tmp 65]⟩]) (.seq (.region [] [⟨some 67, none, false, .mv (.tmp 12)⟩, ⟨some 4, none, false, .mv (.tmp 67)⟩]) .ret)
theorem tail_t : rcOf E 21 tail21 = t21 := by kernel_rfl
theorem okT : okCode tail21 = true := by kernel_rfl

theorem tail_go {ys : List Int} {h : Heap} (h0 : ys ≠ []) (hob : h[7]? = some (.cells 3 (ys.map (.int .i64)) 1)) (hl : ys.length ≤ 1000) :
    ∃ σ', evG E 21 (L E) LL 0 tail21 (σR undef (rowL 7 (ys.map (.int .i64)))) h = some (.ret, σ', h.set 7 (.cells 3 ((sortI ys).map (.int .i64)) 1)) ∧ slot σ' 4 = .slice (some ⟨7, 0, some ys.length⟩) ys.length ys.length := by
  rw [code_eq, tail_t]
  have hn : ys.length ≠ 0 := fun e => h0 (List.eq_nil_of_length_eq_zero e)
  have key := inG_ints (F := sortI) (N := none) (lo := 0) (b := 7) (k := ys.length) (n := ys.length) (c := ys.length) (g := 0) (t := 3) (zs := ys) (ys := []) (h := h) (by rw [List.append_nil]; exact hob) (Nat.zero_le _) (by simp) rfl hn (by omega)
  rw [List.append_nil] at key
  have k38 : L E 38 [.slice (some ⟨7, 0, some ys.length⟩) ys.length ys.length] h 0 = some (retI none (some ⟨7, 0, some ys.length⟩) ys.length ys, h.set 7 (.cells 3 ((sortI ys).map (.int .i64)) 1)) := by
    rw [L_orc (g := inG sortI none) (by rw [E_orc]; rfl)]
    exact key
  unfold t21 σR rowL
  simp -implicitDefEqProofs [ret2 m38, k38]

theorem sortI_eqOf {l r : List Int} (h : l.Perm r) : sortI l = sortI r :=
  List.Perm.eq_of_pairwise (le := (· ≤ ·)) (fun _a _b _ _ h1 h2 => Int.le_antisymm h1 h2) (sortI_sorted l) (sortI_sorted r) (((sortI_perm l).trans h).trans (sortI_perm r).symm)
theorem setM_keys {S : List Int} : (setM S).map (·.1) = S := by unfold setM; rw [List.map_map]; exact List.map_id S

theorem row_tree {h : Heap} {l : List Int} {n : Nat} (hob : h[7]? = some (.cells 3 (l.map (.int .i64)) 1)) (hn : n = l.length) (h0 : l ≠ []) : reify E.P depth h (.slice (some ⟨7, 0, some n⟩) n n) = some (lst false (l.map (.int .i64))) := by
  subst hn
  have h0 : l.length ≠ 0 := fun e => h0 (List.eq_nil_of_length_eq_zero e)
  show reify E.P 8 h _ = _
  rw [reify_slice, if_neg h0, hob, reifyS_cells, s3, Option.bind_some, if_pos ⟨by simp [stampOk], Nat.one_pos, by simp⟩]
  have e : ((l.map (Value.int .i64)).drop 0).take (l.length * 1) = l.map (.int .i64) := by rw [List.drop_zero, Nat.mul_one, List.take_of_length_le (by simp)]
  rw [e, reifyC_set (by simp [List.all_eq_true]), Option.bind_some, elems_one a3 s3]; rfl

theorem whyF_no {A : List (List Int)} {c : Int} (h : ¬ (rightB A = true ∧ dom A.length c ∧ getI (groundF A).1 c ≠ 0)) : whyF A c = [] := by
  unfold whyF
  split
  · rename_i q
    simp only
    rw [if_pos]
    exact Decidable.byContradiction fun e => h ⟨q.1, ⟨q.2.1, by omega⟩, e⟩
  · rfl
theorem whyF_go {A : List (List Int)} {c : Int} (h1 : rightB A = true) (h2 : dom A.length c) (h3 : getI (groundF A).1 c ≠ 0) : whyF A c = sortI (whyS A c) := by
  unfold whyF
  rw [if_pos ⟨h1, h2.1, by have := h2.1; have := h2.2; omega⟩]
  simp only
  rw [if_neg h3]
  rfl

theorem fn21 : ∃ fn, E.P.funcs[21]? = some fn ∧ fn.body = some body21 ∧ fn.ntmps = 68 ∧ fn.results = #[.tmp 4] := ⟨_, Try.func21, by kernel_rfl, by kernel_rfl, by kernel_rfl⟩

theorem why_calls (hP : OkProg E.P) {B lo : Nat} {M : Mem} {h : Heap} {w : World} {args' : Array Value} (hs : HSim E B M h w) (x : Bool) (l : List Claim) (c : Int) (hc : CaseOk l) (hl : l.length ≤ maxLen) (ha : VRels M [lst x (l.map Claim.val), .int .i64 c] args'.toList) :
    Calls E.P 21 args' w fun e w' => ∃ v', e = .returned v' ∧ Out E B lo M h w (whyV (whyF (atts l) c)) h v' w' := by
  refine calls_tree hs ?_
  obtain ⟨fn, hf, hb, hn, hres⟩ := fn21
  refine calls_of_wp hf hb ?_
  have ha0 : VRels ⟨fun _ => none, M.phi⟩ [lst x (l.map Claim.val), .int .i64 c] args'.toList := by
    refine ⟨ha.1, fun i u u' hu hu' => ?_⟩
    have hu1 : settled 8 u = true := by
      match i, hu with
      | 0, hu => cases hu; rfl
      | 1, hu => cases hu; rfl
    exact TRel.toV (M := ⟨fun _ => none, M.phi⟩) ((ha.2 i u u' hu hu').settle hu1)
  have hsr := pad_rel (n := fn.ntmps) ha0
  rw [show [lst x (l.map Claim.val), .int .i64 c] ++ List.replicate (fn.ntmps - [lst x (l.map Claim.val), Value.int .i64 c].length) undef = padS [lst x (l.map Claim.val), .int .i64 c] 68 by rw [hn]; rfl] at hsr
  have retOk : ∀ {σ : Slots} {h : Heap} {v : Value}, slot σ 4 = v → retA E fn σ h = some v := fun {σ h v} e => by
    unfold retA
    rw [hres, ← e, ← slot_eq]
    rfl
  by_cases hyes : rightB (atts l) = true ∧ dom (atts l).length c ∧ getI (groundF (atts l)).1 c ≠ 0
  · obtain ⟨hr, hd, h0⟩ := hyes
    obtain ⟨σ', hev, hfl⟩ := head_go x l c hc hl hr hd h0
    refine head_sound hP orcE (lo := 0) 11 body21 ok21 _ _ _ _ _ hev (Nat.le_refl _) _ w _ hsr rfl hs.bare fun a1 w1 haft => ?_
    obtain ⟨hd1, M1, s1, m1, e1⟩ := haft
    show (tailC 11 body21).wp E.P _ a1 w1
    rw [shape21]
    have s2 := s1.forget fl21
    rw [hfl] at s2
    obtain ⟨inv1, inv2⟩ := whyS_inv hr hd h0
    have hlen := nodup_dom_len inv1 fun z hz => (inv2 z hz).1
    have hn3 := (right_at hr).1
    generalize hS : whyS (atts l) c = S at *
    have prep : prepare E.P 0 [.new 12 3] (σP (pA 5) (.slice none 0 0)) (nH (graphF (atts l)) (groundF (atts l)).1 (groundF (atts l)).2 S) = some (σP (pA 5) (rowL 7 []), nH (graphF (atts l)) (groundF (atts l)).1 (groundF (atts l)).2 S ++ [.cells 3 [] 1]) := by
      rw [prepare_cons, prep_new]
      unfold σP
      simp only [blk_slot12, newK_nil s3, Option.bind_some, prepare_nil, blk_set12]
      rfl
    obtain ⟨M2, s3', m3, e3⟩ := prepare_sound _ _ _ _ _ _ prep (Nat.zero_le _) s2 m1
    refine wp_seq (range_wp (o := 7) (rm := 4) (c := 5) (zs := setM S) hP.good (L_sound hP orcE) hd1 s3' m3 rfl rfl rfl (by decide) (by simp [setM]; omega) fun M4 h4 a4 w4 ys hd4 s4 m4 e4 hob hperm => ?_)
    rw [setM_keys] at hperm
    show tail21.wp E.P _ a4 w4
    have hyl := hperm.length_eq
    have hy0 : ys ≠ [] := fun e => whyS_ne c (by rw [hS]; exact List.eq_nil_of_length_eq_zero (by rw [← hyl, e]; rfl))
    obtain ⟨σ5, hev5, h54⟩ := tail_go hy0 hob (by omega)
    refine code_sound hP orcE (lo := 0) okT _ _ _ _ _ hev5 (Nat.zero_le _) M4 w4 a4 s4 hd4 m4 _ fun a6 w6 haft => ?_
    obtain ⟨hd6, M6, s6, m6, e6⟩ := haft
    obtain ⟨v', r1, r2⟩ := ret_sound (retOk h54) s6 m6
    have hlt : 7 < h4.length := (List.getElem?_eq_some_iff.1 hob).1
    refine ⟨hd6, v', r1, v', rfl, _, _, ⟨M6, r2, m6, ((e1.trans e3).trans (e4.weaken (Nat.zero_le _))).trans e6⟩, ?_⟩
    have hne : sortI S ≠ [] := fun e => whyS_ne c (by rw [hS]; exact List.eq_nil_of_length_eq_zero (by rw [← sortI_len, e]; rfl))
    rw [whyF_go hr hd h0, hS, whyV, if_neg hne, sortI_eqOf hperm]
    refine row_tree ?_ ?_ hne
    · rw [List.getElem?_set_self hlt]
    · rw [sortI_len, hyl]
  · obtain ⟨σ', h', hev, h54⟩ := head_no x l c hc hl hyes
    refine head_sound hP orcE (lo := 0) 11 body21 ok21 _ _ _ _ _ hev (Nat.le_refl _) _ w _ hsr rfl hs.bare fun a1 w1 haft => ?_
    obtain ⟨hd1, M1, s1, m1, e1⟩ := haft
    obtain ⟨v', r1, r2⟩ := ret_sound (retOk h54) s1 m1
    refine ⟨hd1, v', r1, v', rfl, _, _, ⟨M1, r2, m1, e1⟩, ?_⟩
    rw [whyF_no hyes]
    rfl

/-! ### The machine that knows it -/
section
variable {B lo : Nat} {M M' : Mem} {h h' : Heap} {w w' : World}
theorem HSim.down (hs : HSim E1 B M h w) : HSim E B M h w := ⟨hs.glob, hs.phi, hs.sep, hs.base, hs.dom, hs.obj, hs.mp, hs.inj⟩
theorem HSim.up (hs : HSim E B M h w) : HSim E1 B M h w := ⟨hs.glob, hs.phi, hs.sep, hs.base, hs.dom, hs.obj, hs.mp, hs.inj⟩
theorem Out.up {v v' : Value} (ho : Out E B lo M h w v h' v' w') : Out E1 B lo M h w v h' v' w' := ho.imp fun _ k => ⟨k.1, k.2.1.up, k.2.2⟩
end

theorem orcE1 (hP : OkProg E.P) : OrcSound E1 := by
  have key : ∀ g k, E1.orc g = some k → (g = 21 ∧ k = whyO) ∨ E.orc g = some k := fun g k hg => by
    have hg : orc1 g = some k := hg
    unfold orc1 at hg
    split at hg
    · cases hg; exact .inl ⟨‹_›, rfl⟩
    · exact .inr hg
  have why : ∀ {args h lo v h'}, whyO args h lo = some (v, h') → ∃ x l c, args = [lst x (l.map Claim.val), .int .i64 c] ∧ CaseOk l ∧ l.length ≤ maxLen ∧ v = whyV (whyF (atts l) c) ∧ h' = h := by
    intro args h lo v h' hr
    unfold whyO at hr
    split at hr
    · rename_i v0 c
      split at hr
      · rename_i k
        cases hr
        obtain ⟨x, l, e, hc, hl, ea⟩ := k.choose_spec
        exact ⟨x, l, c, by rw [e], hc, hl, by rw [ea], rfl⟩
      · cases hr
    · cases hr
  refine ⟨fun g k hg args h lo r hr => ?_, fun g k hg args h lo v h' hr hlo B M w args' hs hv => ?_, fun g k hg args h lo v h' hr hlo => ?_⟩
  · rcases key g k hg with ⟨rfl, rfl⟩ | hg
    · obtain ⟨fn, h1, h2, _⟩ := fn21
      exact ⟨fn, h1, by rw [h2]; rfl⟩
    · exact orcE.dfd g k hg args h lo r hr
  · rcases key g k hg with ⟨rfl, rfl⟩ | hg
    · obtain ⟨x, l, c, rfl, hc, hl, rfl, rfl⟩ := why hr
      refine (why_calls hP (lo := lo) hs.down x l c hc hl hv).mono ?_
      rintro e w' ⟨v', rfl, ho⟩
      exact ⟨v', rfl, ho.up⟩
    · refine (orcE.snd g k hg args h lo v h' hr hlo B M w args' hs.down hv).mono ?_
      rintro e w' ⟨v', rfl, ho⟩
      exact ⟨v', rfl, ho.up⟩
  · rcases key g k hg with ⟨rfl, rfl⟩ | hg
    · obtain ⟨x, l, c, rfl, hc, hl, rfl, rfl⟩ := why hr
      exact ⟨Nat.le_refl _, fun _ _ => rfl, fun _ _ k => k⟩
    · exact orcE.keep g k hg args h lo v h' hr hlo

end Go.Proofs.Ytbadgapficfbpaa.Bm
