/-
  Chapter 36: sets that defend, and admissible ones; the case the other way round. Conditions: lists that are not too long.
-/
import Derived.Test.YtbadgapficfbpaaC36e
namespace Go.Proofs.Ytbadgapficfbpaa.Bm
open Go Go.RowKit

theorem graphG_in : ∀ (A : List (List Int)) (i n : Nat) (G : List (List Int)), i + A.length ≤ n → (∀ g ∈ G, ∀ k ∈ g, 0 ≤ k ∧ k.toNat < n) → ∀ g ∈ graphG A i G, ∀ k ∈ g, 0 ≤ k ∧ k.toNat < n
  | [], _, _, _, _, h => h
  | a :: A, i, n, G, hn, h => by
    simp only [List.length_cons] at hn
    refine graphG_in A (i + 1) n _ (by omega) ?_
    have : ∀ (a : List Int) (G : List (List Int)), (∀ g ∈ G, ∀ k ∈ g, 0 ≤ k ∧ k.toNat < n) → ∀ g ∈ a.foldl (addA i) G, ∀ k ∈ g, 0 ≤ k ∧ k.toNat < n := by
      intro a
      induction a with
      | nil => intro G h; exact h
      | cons b a ih =>
        intro G h
        refine ih _ fun g hg k hk => ?_
        unfold addA at hg
        obtain ⟨j, hj, rfl⟩ := List.mem_iff_getElem.1 hg
        have hj' : j < G.length := by simpa using hj
        rw [List.getElem_modify] at hk
        split at hk
        · rcases List.mem_append.1 hk with hk | hk
          · exact h _ (List.getElem_mem hj') k hk
          · rw [List.mem_singleton.1 hk]; omega
        · exact h _ (List.getElem_mem hj') k hk
    exact this a G h
theorem graphF_in (A : List (List Int)) : ∀ g ∈ graphF A, ∀ k ∈ g, 0 ≤ k ∧ k.toNat < A.length :=
  graphG_in A 0 A.length _ (by omega) fun g hg => by rw [List.eq_of_mem_replicate hg]; exact fun k hk => by cases hk

/-! ### Defends, Admissible -/

def defB (A : List (List Int)) (S : List Int) (c : Int) : Bool := knownB A (c :: S) && (getL (graphF A) c).all (fun k => beatsB A S k)
def admB (A : List (List Int)) (S : List Int) : Bool := knownB A S && S.all (fun c => !beatsB A S c && defB A S c)

theorem known_in {A : List (List Int)} {S : List Int} (h : knownB A S = true) : rightB A = true ∧ ∀ z ∈ S, 0 ≤ z ∧ z.toNat < A.length := by
  unfold knownB at h
  simp only [Bool.and_eq_true, Bool.not_eq_true', List.any_eq_false, Bool.or_eq_true, decide_eq_true_eq] at h
  refine ⟨h.1, fun z hz => ?_⟩
  have := h.2 z hz
  omega

set_option maxRecDepth 20000 in
theorem defends_spec (x : Bool) (l : List Claim) (k : Option Bool) (S : List Int) (c : Int) (hc : CaseOk l) (hl : l.length ≤ maxLen) (hk : IOk k S) (hS : S.length ≤ 1000000) :
    pureCall E.P (L E) 17 [lst x (l.map Claim.val), ilist k S, .int .i64 c] = some (.bool (defB (atts l) S c)) := by
  have ks := known_spec x l (some false) (c :: S) hc hl iok_some (by unfold maxLen; simp; omega)
  have hbd : (S.length + 1) * 8 ≤ 140737488355328 := by omega
  have hbd2 : (1 + S.length) * 8 ≤ 140737488355328 := by omega
  unfold defB
  have hrow : ∀ (h : Heap) (b : Nat) (n : Nat), h[b]? = some (.cells 3 ((c :: S).map (.int .i64)) 1) → n = S.length + 1 → reify E.P 8 h (.slice (some ⟨b, 0, some n⟩) n n) = some (ilist (some false) (c :: S)) := by
    intro h b n hb hn
    subst hn
    rw [reify_slice, if_neg (by omega), hb, reifyS_cells, s3, Option.bind_some, if_pos ⟨by simp [stampOk], Nat.one_pos, by simp⟩]
    have e : (((c :: S).map (Value.int .i64)).drop 0).take ((S.length + 1) * 1) = (c :: S).map (.int .i64) := by rw [List.drop_zero, Nat.mul_one, List.take_of_length_le (by simp)]
    rw [e, reifyC_set (by simp [List.all_eq_true]), Option.bind_some, elems_one a3 s3]; rfl
  have ap : ∃ n, n = S.length + 1 ∧ appS ⟨3, 1, 8, .int .i64 0, ⟨some false, some 1⟩⟩ [.cells 3 [.int .i64 c] 1] 0 false ⟨0, 0, some 1⟩ 1 1 (some (.cells 3 [.int .i64 c] 1)) (some (S.map (.int .i64), S.length)) =
      some (.slice (some ⟨0, 0, some n⟩) n n, [.cells 3 ((c :: S).map (.int .i64)) 1]) := by
    by_cases h0 : S = []
    · subst h0; exact ⟨1, rfl, rfl⟩
    · have hS0 : S.length ≠ 0 := fun e => h0 (List.eq_nil_of_length_eq_zero e)
      refine ⟨1 + S.length, by omega, ?_⟩
      have key := appS_grown (el := ⟨3, 1, 8, .int .i64 0, ⟨some false, some 1⟩⟩) (h := [.cells 3 [.int .i64 c] 1]) (lo := 0) (b := 0) (k := 1) (n := 1) (c := 1) (g := 0) (m := S.length) (t := 3) (row := [.int .i64 c]) (new := S.map (.int .i64)) hS0 rfl rfl rfl rfl (Nat.le_refl 0) (by show (1 + S.length) * 8 ≤ 2 ^ 47; omega)
      refine Eq.trans key ?_
      simp
      omega
  obtain ⟨n, hn, ap⟩ := ap
  have hr := hrow [.cells 3 ((c :: S).map (.int .i64)) 1] 0 n rfl hn
  simp only [List.map_cons] at hr
  have app : ∀ u, u = ilist k S → appendT (some ⟨3, 1, 8, .int .i64 0, ⟨some false, some 1⟩⟩) [.cells 3 [.int .i64 c] 1] 0 false (.slice (some ⟨0, 0, some 1⟩) 1 1) u = some (.slice (some ⟨0, 0, some n⟩) n n, [.cells 3 ((c :: S).map (.int .i64)) 1]) := by
    intro u hu
    subst hu
    rw [append_slice, il_cells rfl hk]; exact ap
  have app := app _ rfl
  rw [pureCall_fn F17 rfl]
  cases hkn : knownB (atts l) (c :: S)
  · rw [hkn] at ks
    simp -implicitDefEqProofs [r17, p17, build_one', Value.cells, app, ret0 m31, -reify_slice, -append_slice, hr, ks]
  · rw [hkn] at ks
    obtain ⟨hrt, hin⟩ := known_in hkn
    rw [atts_len] at hin
    have gs := graph_spec x l hc hrt
    obtain ⟨hc0, hc1⟩ := hin c (by simp)
    have hinS : ∀ z ∈ S, 0 ≤ z ∧ z.toNat < l.length := fun z hz => hin z (by simp [hz])
    have bs := fun q => beats_spec x l k S q hc hk (by unfold maxLen; omega) hinS
    have hG : (graphF (atts l)).length = l.length := by rw [graphF_len, atts_len]
    have hgb := graphF_bound hrt
    have hcG : c.toNat < (graphF (atts l)).length := by omega
    have hgm := hgb _ (List.getElem_mem hcG)
    have hgl : getL (graphF (atts l)) c = (graphF (atts l))[c.toNat] := by simp [getL, hcG]
    rw [hgl]
    obtain ⟨g, eg⟩ : ∃ g, (graphF (atts l))[c.toNat] = g := ⟨_, rfl⟩
    rw [eg] at hgm ⊢
    simp -implicitDefEqProofs [r17, p17, build_one', Value.cells, app, ret0 m31, -reify_slice, -append_slice, hr, ks, ret1s m27, gs, hc0, hcG, eg, rowT]
    rw [LL_for (γ := Unit) g () (fun i _ => [(22, .int .i64 i)]) (fun _ _ => [.cells 3 ((c :: S).map (.int .i64)) 1]) (fun _ rest _ => if rest.all (fun q => beatsB (atts l) S q) then (.exit 0, [(22, undef)], [.cells 3 ((c :: S).map (.int .i64)) 1]) else (.ret, [(6, .bool false), (22, undef)], [.cells 3 ((c :: S).map (.int .i64)) 1])) (fun _ _ => True) (by omega) trivial]
    · cases h : g.all (fun q => beatsB (atts l) S q) <;> simp -implicitDefEqProofs [k17_4, -List.all_eq_true]
    · simp -implicitDefEqProofs [k17_4]
    · simp -implicitDefEqProofs
    · intro nx i _ hi _
      simp -implicitDefEqProofs [r17_4, k17_4, hi, trim_le]
    · intro nx i q rest _ hi hv hd hw _ ih
      have ih := ih () trivial
      have bs := bs q
      rw [List.all_cons]
      simp -implicitDefEqProofs [k17_4, -List.all_eq_true] at ih
      cases hb : beatsB (atts l) S q
      · rw [hb] at bs
        simp -implicitDefEqProofs [r17_4, k17_4, hi, hv, ret0 m32, bs, trim_le, -List.all_eq_true]
      · rw [hb] at bs
        simp -implicitDefEqProofs [r17_4, k17_4, hi, hv, ret0 m32, bs, hw, trim_le, -List.all_eq_true]
        exact ih

set_option maxRecDepth 20000 in
theorem admissible_spec (x : Bool) (l : List Claim) (k : Option Bool) (S : List Int) (hc : CaseOk l) (hl : l.length ≤ maxLen) (hk : IOk k S) (hS : S.length ≤ 1000000) :
    pureCall E.P (L E) 19 [lst x (l.map Claim.val), ilist k S] = some (.bool (admB (atts l) S)) := by
  have ks := known_spec x l k S hc hl hk (by unfold maxLen; omega)
  have ds := fun c => defends_spec x l k S c hc hl hk hS
  unfold admB
  rw [pureCall_fn F19 rfl]
  cases hkn : knownB (atts l) S
  · rw [hkn] at ks
    simp -implicitDefEqProofs [r19, p19, ret0 m31, ks]
  · rw [hkn] at ks
    obtain ⟨hrt, hin⟩ := known_in hkn
    rw [atts_len] at hin
    have bs := fun q => beats_spec x l k S q hc hk (by unfold maxLen; omega) hin
    simp -implicitDefEqProofs [r19, p19, ret0 m31, ks, il_len hk]
    rw [LL_for (γ := Unit) S () (fun i _ => [(13, .int .i64 i)]) (fun _ _ => []) (fun _ rest _ => if rest.all (fun c => !beatsB (atts l) S c && defB (atts l) S c) then (.exit 0, [(13, undef)], []) else (.ret, [(4, .bool false), (13, undef)], [])) (fun _ _ => True) (by omega) trivial]
    · cases h : S.all (fun c => !beatsB (atts l) S c && defB (atts l) S c) <;> simp -implicitDefEqProofs [k19_4, -List.all_eq_true]
    · simp -implicitDefEqProofs [k19_4]
    · rfl
    · intro nx i _ hi _
      simp -implicitDefEqProofs [r19_4, k19_4, hi, trim_le]
    · intro nx i q rest _ hi hv hd hw _ ih
      have ih := ih () trivial
      have bs := bs q
      have ds := ds q
      rw [List.all_cons]
      simp -implicitDefEqProofs [k19_4, -List.all_eq_true] at ih
      cases hb : beatsB (atts l) S q
      · rw [hb] at bs
        cases hdf : defB (atts l) S q
        · rw [hdf] at ds
          simp -implicitDefEqProofs [r19_4, k19_4, hi, il_idxN hk hi, hv, ret0 m32, bs, ret0 m17, ds, trim_le, -List.all_eq_true]
        · rw [hdf] at ds
          simp -implicitDefEqProofs [r19_4, k19_4, hi, il_idxN hk hi, hv, ret0 m32, bs, ret0 m17, ds, hw, trim_le, -List.all_eq_true]
          exact ih
      · rw [hb] at bs
        simp -implicitDefEqProofs [r19_4, k19_4, hi, il_idxN hk hi, hv, ret0 m32, bs, trim_le, -List.all_eq_true]

end Go.Proofs.Ytbadgapficfbpaa.Bm
