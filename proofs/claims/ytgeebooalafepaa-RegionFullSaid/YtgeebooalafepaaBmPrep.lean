/-
  What is done ahead of a region: live values given up for trees, slots forgotten, an empty slice made a row that may grow. Conditions: none.
-/
import Derived.Test.YtgeebooalafepaaBmTree
namespace Go.Proofs.Ytgeebooalafepaa.Bm
open Go Go.RowKit

section
variable {E : Env} {B lo : Nat} {M : Mem} {h : Heap} {w : World}

theorem freeze_one {P : Program} {n : Nat} {h h' : Heap} {v u : Value} (hr : freezeV P n lo h v = some (u, h')) (h1 : one v = true) : one u = true := by
  cases n with
  | zero => simp [freezeV] at hr
  | succ n =>
    unfold freezeV at hr
    split at hr
    · split at hr
      · split at hr
        · simp only [Option.bind_eq_some_iff] at hr
          obtain ⟨cs, _, hr⟩ := hr
          split at hr <;> first | (cases hr; rfl) | (cases hr; done)
        · cases hr
      · cases hr
    · split at hr
      · cases hr; rfl
      · split at hr
        · simp only [Option.bind_eq_some_iff] at hr
          obtain ⟨s, _, hr⟩ := hr
          split at hr
          · simp only [Option.bind_eq_some_iff, Option.map_eq_some_iff] at hr
            obtain ⟨_, _, _, _, e⟩ := hr; cases e; rfl
          · cases hr
        · cases hr
    · simp [one] at h1
    · split at hr
      · cases hr; exact h1
      · cases hr

/-- Freezing a value: what it was is a tree. -/
def FrzOk (E : Env) (B lo : Nat) (f : Heap → Value → Option (Value × Heap)) : Prop :=
  ∀ h v u h', f h v = some (u, h') → ∀ M w v', HSim E B M h w → VRel M v v' → ∃ M', HSim E B M' h' w ∧ Evo lo M h w M' h' w ∧ TRel M'.phi u v'

theorem frz_all {f : Heap → Value → Option (Value × Heap)} (hf : FrzOk E B lo f) (w : World) : ∀ (c : List Value) (acc : List Value) (h : Heap) (r : List Value × Heap),
    c.foldlM (init := (acc, h)) (fun r x => (f r.2 x).map fun y => (r.1 ++ [y.1], y.2)) = some r → ∀ M (c' : List Value), HSim E B M h w → VRels M c c' →
    ∃ M' cs, r.1 = acc ++ cs ∧ HSim E B M' r.2 w ∧ Evo lo M h w M' r.2 w ∧ cs.length = c.length ∧ (∀ (j : Nat) x x', cs[j]? = some x → c'[j]? = some x' → TRel M'.phi x x') ∧
      ∀ (j : Nat) x y, c[j]? = some x → cs[j]? = some y → ∃ h1 h2, f h1 x = some (y, h2)
  | [], acc, h, r, hr, M, c', hs, hv => by
    simp at hr; subst hr
    exact ⟨M, [], by simp, hs, Evo.refl hs lo, rfl, fun j x x' hx => by simp at hx, fun j x y hx => by simp at hx⟩
  | x :: c, acc, h, r, hr, M, c', hs, hv => by
    simp only [List.foldlM_cons, bind, Option.bind_eq_some_iff, Option.map_eq_some_iff] at hr
    obtain ⟨_, ⟨⟨y, h1⟩, hy, rfl⟩, hr⟩ := hr
    obtain ⟨x', hx', hxr⟩ := hv.get (i := 0) rfl
    cases c' with
    | nil => simp at hx'
    | cons z c' =>
      simp at hx'; subst hx'
      obtain ⟨M1, q1, q2, q3⟩ := hf _ _ _ _ hy M w _ hs hxr
      have hv' : VRels M1 c c' := ⟨by simpa using hv.1, fun i u u' hu hu' => (hv.2 (i + 1) u u' (by simpa using hu) (by simpa using hu')).mono q2.le⟩
      obtain ⟨M2, cs, r1, r2, r3, r4, r5, r6⟩ := frz_all hf w c _ _ _ hr M1 c' q1 hv'
      refine ⟨M2, y :: cs, by rw [r1]; simp, r2, q2.trans r3, by simp [r4], fun j a a' ha ha' => ?_, fun j a b ha hb => ?_⟩
      · cases j with
        | zero => simp at ha ha'; subst ha; subst ha'; exact q3.mono r3.le.phi
        | succ j => exact r5 j a a' (by simpa using ha) (by simpa using ha')
      · cases j with
        | zero => simp at ha hb; subst ha; subst hb; exact ⟨_, _, hy⟩
        | succ j => exact r6 j a b (by simpa using ha) (by simpa using hb)

theorem freezeV_ok : ∀ n, FrzOk E B lo (fun h v => freezeV E.P n lo h v)
  | 0 => fun h v u h' hr => by simp [freezeV] at hr
  | n + 1 => by
    have ih := freezeV_ok n
    intro h v u h' hr M w v' hs hv
    have all : ∀ {c : List Value} {h : Heap} {r : List Value × Heap} {M : Mem} {c' : List Value}, (if c.all (settled depth) then some (c, h) else
        c.foldlM (init := ([], h)) fun r x => (freezeV E.P n lo r.2 x).map fun y => (r.1 ++ [y.1], y.2)) = some r → HSim E B M h w → VRels M c c' →
        ∃ M', HSim E B M' r.2 w ∧ Evo lo M h w M' r.2 w ∧ r.1.length = c.length ∧ (∀ (j : Nat) x x', r.1[j]? = some x → c'[j]? = some x' → TRel M'.phi x x') ∧
          ((∀ (j : Nat) x, c[j]? = some x → one x = true) → ∀ (j : Nat) x, r.1[j]? = some x → one x = true) := by
      intro c h r M c' hr hs hv
      split at hr
      · rename_i hset
        cases hr
        exact ⟨M, hs, Evo.refl hs lo, rfl, fun j x x' hx hx' => (hv.2 j x x' hx hx').settle (List.all_eq_true.1 hset x (List.mem_of_getElem? hx)), fun h1 => h1⟩
      · obtain ⟨M', cs, q1, q2, q3, q4, q5, q6⟩ := frz_all ih w c [] h r hr M c' hs hv
        simp at q1
        rw [q1]
        refine ⟨M', q2, q3, q4, q5, fun h1 j x hx => ?_⟩
        have hj : j < c.length := by rw [← q4]; exact (List.getElem?_eq_some_iff.1 hx).1
        obtain ⟨_, _, hf⟩ := q6 j c[j] x (List.getElem?_eq_getElem hj) hx
        exact freeze_one hf (h1 j _ (List.getElem?_eq_getElem hj))
    simp only at hr
    unfold freezeV at hr
    split at hr
    · rename_i a
      split at hr
      case h_2 => cases hr
      rename_i t c hob
      split at hr
      case isFalse => cases hr
      rename_i hcond
      obtain ⟨hloa, hoff, hsp, hsz⟩ := hcond
      simp only [Option.bind_eq_some_iff] at hr
      obtain ⟨r, hall, hr⟩ := hr
      obtain ⟨a', rfl, hp⟩ := hv.ptrSome
      obtain ⟨l, hl, hl2⟩ := id hp
      rw [hsp] at hl2
      have hreal : l.real := .inl hl2.1
      obtain ⟨cs0, ty, hb, hcsz, hlo2, hc⟩ := (hs.obj _ l t c 0 hl hob).2.2.2 hreal
      obtain ⟨k1, k2⟩ := hs.freeze (lo := lo) hl hob (by simp) hreal hloa hb
      have hrel : VRels (M.fix l.blk cs0) c ((cs0.toList.drop l.off).take c.length) := by
        refine ⟨by simp; omega, fun j x x' hx hx' => ?_⟩
        obtain ⟨_, y, hy, hxy⟩ := hc j x hx
        rw [List.getElem?_take, if_pos (List.getElem?_eq_some_iff.1 hx).1, List.getElem?_drop] at hx'
        simp only [Array.getElem?_toList] at hx'
        rw [hy] at hx'; cases hx'
        exact hxy.mono k2.le
      obtain ⟨M2, q1, q2, q3, q4, q5⟩ := all hall k1 hrel
      have q5 := q5 fun j x hx => (hc j x hx).1
      have hat : ∀ (j : Nat) x, r.1[j]? = some x → one x = true ∧ M2.phi l.blk (l.off + j) = some ((cs0[l.off + j]?).getD undef) ∧ TRel M2.phi x ((cs0[l.off + j]?).getD undef) := by
        intro j x hx
        have hj : j < c.length := by rw [← q3]; exact (List.getElem?_eq_some_iff.1 hx).1
        obtain ⟨_, y, hy, _⟩ := hc j c[j] (List.getElem?_eq_getElem hj)
        rw [hy]
        refine ⟨q5 j x hx, q2.le.phi _ _ _ (by simp only [Mem.fix, if_true]; exact hy), q4 j x y hx ?_⟩
        rw [List.getElem?_take, if_pos hj, List.getElem?_drop]
        simpa using hy
      have ha := hl2.2
      rw [hoff] at ha
      subst ha
      split at hr
      · cases hr
        exact ⟨M2, q1, k2.trans q2, cptr_mk (f := fun j => (cs0[l.off + j]?).getD undef) rfl (fun j x hx => ⟨(hat j x (by simpa [cellsL] using hx)).1, (hat j x (by simpa [cellsL] using hx)).2.1⟩) fun j x hx => (hat j x (by simpa [cellsL] using hx)).2.2⟩
      · rename_i x _ he
        cases hr
        have hx0 : r.1[0]? = some x := by rw [he]; rfl
        have hcl := one_cells (hat 0 _ hx0).1
        exact ⟨M2, q1, k2.trans q2, cptr_mk (f := fun j => (cs0[l.off + j]?).getD undef) rfl (fun j y hy => by rw [hcl, ← he] at hy; exact ⟨(hat j y hy).1, (hat j y hy).2.1⟩) fun j y hy => by rw [hcl, ← he] at hy; exact (hat j y hy).2.2⟩
      · cases hr
    · rename_i a len cap
      split at hr
      · rename_i h0
        cases hr
        subst h0
        refine ⟨M, hs, Evo.refl hs lo, ?_⟩
        rcases hv.sliceSome with ⟨a', c', rfl, _⟩ | ⟨rfl, _⟩
        · exact TRel.lst 0 (by decide) [] a' c' 0 (fun _ _ => undef) (Nat.zero_le _) (by simp) (.inl rfl) (fun i v hv => by simp at hv) fun i v hv => by simp at hv
        · exact .lnil 0 (by decide)
      · rename_i h0
        split at hr
        case h_2 => cases hr
        rename_i t c g hob
        simp only [Option.bind_eq_some_iff] at hr
        obtain ⟨s, hsz, hr⟩ := hr
        split at hr
        case isFalse => cases hr
        rename_i hcond
        obtain ⟨hloa, hst, hspos, hle⟩ := hcond
        simp only [Option.bind_eq_some_iff, Option.map_eq_some_iff] at hr
        obtain ⟨r, hall, el, hel, e⟩ := hr
        cases e
        rcases hv.sliceSome with ⟨a', cap', rfl, hlc, hcr⟩ | ⟨_, hz, _⟩
        case inr => exact absurd hz h0
        have hp := capRel_place hcr (by omega)
        obtain ⟨l, hl, hl2⟩ := id hcr
        obtain ⟨hg, hlen, hnr, hre⟩ := hs.obj _ l t c g hl hob
        have hfit : len ≤ cap' := by
          cases hsp : a.spot with
          | none => rw [hsp] at hl2; omega
          | some k =>
            rw [hsp] at hl2
            rw [hsp] at hst
            unfold stampOk at hst
            split at hst
            · simp_all
            · rename_i e; cases e
              have := (hl2.2.2 ((hlen (by omega)).trans (beq_iff_eq.1 hst).symm)).1
              omega
            · cases hst
        have hcl : ((c.drop a.off).take (len * s)).length = len * s := by simp; omega
        have hreal : l.real := by
          by_cases hr : l.real
          · exact hr
          · have := hnr hr; subst this
            have : 0 < len * s := Nat.mul_pos (by omega) hspos
            simp only [List.length_nil] at hle
            omega
        obtain ⟨cs0, ty, hb, hcsz, hlo2, hc⟩ := hre hreal
        have ha := place_at hp hl hg hlen hst
        subst ha
        obtain ⟨k1, k2⟩ := hs.freeze (lo := lo) hl hob (by simp) hreal hloa hb
        have hget : ∀ (j : Nat) x, ((c.drop a.off).take (len * s))[j]? = some x → c[a.off + j]? = some x := by
          intro j x hx
          simp only [List.getElem?_take, List.getElem?_drop] at hx
          split at hx
          · exact hx
          · cases hx
        have hrel : VRels (M.fix l.blk cs0) ((c.drop a.off).take (len * s)) ((cs0.toList.drop (l.off + a.off)).take (len * s)) := by
          refine ⟨by simp; omega, fun j x x' hx hx' => ?_⟩
          obtain ⟨_, y, hy, hxy⟩ := hc _ x (hget j x hx)
          have hj : j < len * s := by rw [← hcl]; exact (List.getElem?_eq_some_iff.1 hx).1
          rw [List.getElem?_take, if_pos hj, List.getElem?_drop] at hx'
          simp only [Array.getElem?_toList] at hx'
          rw [Nat.add_assoc, hy] at hx'; cases hx'
          exact hxy.mono k2.le
        obtain ⟨M2, q1, q2, q3, q4, q5⟩ := all hall k1 hrel
        have q5 := q5 fun j x hx => (hc _ x (hget j x hx)).1
        refine ⟨M2, q1, k2.trans q2, elems_lst (cs' := (cs0.toList.drop (l.off + a.off)).take (len * s)) (by decide) hel hsz (by rw [q3, hcl]) rfl hfit (fun e => by simp at e) q5 (fun j v v' hv hv' => q4 j v v' hv hv') (by rw [q3, hrel.1]; exact Nat.le_refl _) fun j v hv => ?_⟩
        refine q2.le.phi _ _ _ ?_
        simp only [Mem.fix, if_true]
        rw [List.getElem?_take] at hv
        split at hv
        · rw [List.getElem?_drop] at hv
          simpa using hv
        · cases hv
    · rename_i c
      simp only [Option.map_eq_some_iff] at hr
      obtain ⟨r, hall, e⟩ := hr
      cases e
      obtain ⟨x', rfl, hx, h1, h2⟩ := hv.aggSome
      obtain ⟨M2, q1, q2, q3, q4, q5⟩ := all (c' := x'.toList) hall hs ⟨by simpa using hx, fun i u u' hu hu' => h2 i u u' (by simpa using hu) (by simpa using hu')⟩
      have q5 := q5 fun j x hx => h1 j x (by simpa using hx)
      exact ⟨M2, q1, q2, .agg _ _ (by simpa [q3] using hx) (fun j x hx => q5 j x (by simpa using hx)) fun j x y hx hy => q4 j x y (by simpa using hx) (by simpa using hy)⟩
    · split at hr
      · rename_i hset
        cases hr
        exact ⟨M, hs, Evo.refl hs lo, hv.settle hset⟩
      · cases hr

end
end Go.Proofs.Ytgeebooalafepaa.Bm
