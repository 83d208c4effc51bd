/-
  Live values as trees: what 'reify' yields stands for the same value, in memory that is held still. Conditions: none.
-/
import Derived.Test.YtgeebooalafepaaBmMap
namespace Go.Proofs.Ytgeebooalafepaa.Bm
open Go Go.RowKit

section
variable {E : Env} {B lo : Nat} {M : Mem} {h : Heap} {w : World}

theorem mapM_some {α β : Type} {f : α → Option β} : ∀ {l : List α} {r : List β}, l.mapM f = some r → r.length = l.length ∧ ∀ (i : Nat) x, l[i]? = some x → ∃ y, r[i]? = some y ∧ f x = some y
  | [], r, h => by simp at h; subst h; simp
  | a :: l, r, h => by
    simp only [List.mapM_cons, bind, Option.bind_eq_some_iff, pure, Option.some.injEq] at h
    obtain ⟨y, hy, r', hr', rfl⟩ := h
    obtain ⟨h1, h2⟩ := mapM_some hr'
    refine ⟨by simp [h1], fun i x hx => ?_⟩
    cases i with
    | zero => simp at hx; subst hx; exact ⟨y, by simp, hy⟩
    | succ i => obtain ⟨z, h3, h4⟩ := h2 i x (by simpa using hx); exact ⟨z, by simpa using h3, h4⟩

/-- What holds still. -/
structure Still (M : Mem) (h : Heap) (w : World) (Ψ : Phi) : Prop where
  phi : ∀ b o v, M.phi b o = some v → Ψ b o = some v
  obj : ∀ o l, M.obj o = some l → alive h o → l.real → ∀ x v, w.cell? ⟨l.blk, x, none⟩ = some v → Ψ l.blk x = some v

theorem reify_one {P : Program} {n : Nat} {v u : Value} (hr : reify P n h v = some u) (h1 : one v = true) : one u = true := by
  cases n with
  | zero => simp [reify] at hr
  | succ n =>
    unfold reify at hr
    split at hr
    · split at hr
      · split at hr
        · simp only [Option.bind_eq_some_iff] at hr
          obtain ⟨cs, _, hr⟩ := hr
          split at hr <;> first | (cases hr; rfl) | (cases hr; done)
        · cases hr
      · cases hr
    · split at hr
      · cases hr; rfl
      · split at hr
        · simp only [Option.bind_eq_some_iff] at hr
          obtain ⟨s, _, hr⟩ := hr
          split at hr
          · simp only [Option.bind_eq_some_iff, Option.map_eq_some_iff] at hr
            obtain ⟨_, _, _, _, rfl⟩ := hr; rfl
          · cases hr
        · cases hr
    · cases hr
    · cases hr
    · simp [one] at h1
    · cases hr; rfl
    · simp only [Option.bind_eq_some_iff, Option.map_eq_some_iff] at hr
      obtain ⟨_, _, _, _, rfl⟩ := hr; rfl
    · cases hr
    · simp only [Option.map_eq_some_iff] at hr
      obtain ⟨_, _, rfl⟩ := hr; rfl
    · cases hr; exact h1

/-- The cells of an object, as they stand in memory. -/
theorem HSim.row (hs : HSim E B M h w) {a a' : Addr} {l : Loc} {t : TypeId} {c : List Value} {g : Nat} (hp : Place M a a') (hl : M.obj a.block = some l) (hob : h[a.block]? = some (.cells t c g)) (hst : stampOk a.spot g c.length = true) (hr : l.real) :
    a' = ⟨l.blk, l.off + a.off, none⟩ ∧ ∀ j v, c[j]? = some v → one v = true ∧ ∃ v', w.cell? ⟨l.blk, l.off + j, none⟩ = some v' ∧ VRel M v v' := by
  obtain ⟨hg, hlen, _, hre⟩ := hs.obj _ l t c g hl hob
  obtain ⟨cs0, ty, hb, _, _, hc⟩ := hre hr
  refine ⟨place_at hp hl hg hlen hst, fun j v hv => ?_⟩
  obtain ⟨h1, v', h2, h3⟩ := hc j v hv
  exact ⟨h1, v', by simpa [World.cell?, hb] using h2, h3⟩

theorem reify_sound (hs : HSim E B M h w) {Ψ : Phi} (st : Still M h w Ψ) : ∀ (n : Nat) (v v' u : Value), reify E.P n h v = some u → VRel M v v' → TRel Ψ u v'
  | 0, v, v', u, hr, _ => by simp [reify] at hr
  | n + 1, v, v', u, hr, hv => by
    have cellsR : ∀ {c cs : List Value}, (if c.all (settled depth) then some c else c.mapM (reify E.P n h)) = some cs →
        cs.length = c.length ∧ ((∀ (j : Nat) x, c[j]? = some x → one x = true) → ∀ (j : Nat) x, cs[j]? = some x → one x = true) ∧ ∀ (j : Nat) x, cs[j]? = some x → ∃ y, c[j]? = some y ∧ ∀ y', VRel M y y' → TRel Ψ x y' := by
      intro c cs hc
      split at hc
      · rename_i hset
        cases hc
        exact ⟨rfl, fun h1 => h1, fun j x hx => ⟨x, hx, fun y' hy => (hy.settle (List.all_eq_true.1 hset x (List.mem_of_getElem? hx))).mono st.phi⟩⟩
      · obtain ⟨q1, q2⟩ := mapM_some hc
        have q3 : ∀ (j : Nat) x, cs[j]? = some x → ∃ y, c[j]? = some y ∧ reify E.P n h y = some x := by
          intro j x hx
          have hj : j < c.length := by rw [← q1]; exact (List.getElem?_eq_some_iff.1 hx).1
          obtain ⟨z, hz, hz'⟩ := q2 j c[j] (List.getElem?_eq_getElem hj)
          rw [hx] at hz; cases hz
          exact ⟨c[j], List.getElem?_eq_getElem hj, hz'⟩
        refine ⟨q1, fun h1 j x hx => ?_, fun j x hx => ?_⟩
        · obtain ⟨y, hy, hyx⟩ := q3 j x hx
          exact reify_one hyx (h1 j y hy)
        · obtain ⟨y, hy, hyx⟩ := q3 j x hx
          exact ⟨y, hy, fun y' hv => reify_sound hs st n y y' x hyx hv⟩
    unfold reify at hr
    split at hr
    · rename_i a
      split at hr
      case h_2 => cases hr
      rename_i t c hob
      split at hr
      case isFalse => cases hr
      rename_i hcond
      obtain ⟨hoff, hsp, hsz⟩ := hcond
      simp only [Option.bind_eq_some_iff] at hr
      obtain ⟨cs, hcs, hr⟩ := hr
      obtain ⟨a', rfl, hp⟩ := hv.ptrSome
      obtain ⟨l, hl, hl2⟩ := id hp
      rw [hsp] at hl2
      have hreal : l.real := .inl hl2.1
      obtain ⟨ha, hrow⟩ := hs.row hp hl hob (by rw [hsp]; rfl) hreal
      obtain ⟨k1, k2, k3⟩ := cellsR hcs
      have k2 := k2 fun j x hx => (hrow j x hx).1
      have hat : ∀ (j : Nat) x, cs[j]? = some x → one x = true ∧ Ψ l.blk (l.off + j) = some ((w.cell? ⟨l.blk, l.off + j, none⟩).getD undef) ∧ TRel Ψ x ((w.cell? ⟨l.blk, l.off + j, none⟩).getD undef) := by
        intro j x hx
        obtain ⟨y, hy, hyx⟩ := k3 j x hx
        obtain ⟨_, y', hy1, hy2⟩ := hrow j y hy
        rw [hy1]
        exact ⟨k2 j x hx, st.obj _ l hl ⟨_, hob, by simp⟩ hreal _ _ hy1, hyx y' hy2⟩
      rw [hoff] at ha
      subst ha
      split at hr
      · cases hr
        exact cptr_mk (f := fun j => (w.cell? ⟨l.blk, l.off + j, none⟩).getD undef) rfl (fun j x hx => ⟨(hat j x (by simpa [cellsL] using hx)).1, (hat j x (by simpa [cellsL] using hx)).2.1⟩) fun j x hx => (hat j x (by simpa [cellsL] using hx)).2.2
      · cases hr
        have hcl := one_cells (hat 0 _ rfl).1
        exact cptr_mk (f := fun j => (w.cell? ⟨l.blk, l.off + j, none⟩).getD undef) rfl (fun j y hy => by rw [hcl] at hy; exact ⟨(hat j y hy).1, (hat j y hy).2.1⟩) fun j y hy => by rw [hcl] at hy; exact (hat j y hy).2.2
      · cases hr
    · rename_i a len cap
      split at hr
      · rename_i h0
        cases hr
        subst h0
        rcases hv.sliceSome with ⟨a', c', rfl, _⟩ | ⟨rfl, _⟩
        · exact TRel.lst 0 (by decide) [] a' c' 0 (fun _ _ => undef) (Nat.zero_le _) (by simp) (.inl rfl) (fun i v hv => by simp at hv) fun i v hv => by simp at hv
        · exact .lnil 0 (by decide)
      · rename_i h0
        split at hr
        case h_2 => cases hr
        rename_i t c g hob
        simp only [Option.bind_eq_some_iff] at hr
        obtain ⟨s, hsz, hr⟩ := hr
        split at hr
        case isFalse => cases hr
        rename_i hcond
        obtain ⟨hst, hspos, hle⟩ := hcond
        simp only [Option.bind_eq_some_iff, Option.map_eq_some_iff] at hr
        obtain ⟨cs, hcs, el, hel, rfl⟩ := hr
        rcases hv.sliceSome with ⟨a', cap', rfl, hlc, hcr⟩ | ⟨_, hz, _⟩
        case inr => exact absurd hz h0
        have hp := capRel_place hcr (by omega)
        obtain ⟨l, hl, hl2⟩ := id hcr
        obtain ⟨hg, hlen, hnr, hre⟩ := hs.obj _ l t c g hl hob
        have hfit : len ≤ cap' := by
          cases hsp : a.spot with
          | none => rw [hsp] at hl2; omega
          | some k =>
            rw [hsp] at hl2
            rw [hsp] at hst
            unfold stampOk at hst
            split at hst
            · simp_all
            · rename_i e; cases e
              have := (hl2.2.2 ((hlen (by omega)).trans (beq_iff_eq.1 hst).symm)).1
              omega
            · cases hst
        have hcl : ((c.drop a.off).take (len * s)).length = len * s := by simp; omega
        by_cases hreal : l.real
        · obtain ⟨rfl, hrow⟩ := hs.row hp hl hob hst hreal
          have hget : ∀ (j : Nat) x, ((c.drop a.off).take (len * s))[j]? = some x → c[a.off + j]? = some x := by
            intro j x hx
            simp only [List.getElem?_take, List.getElem?_drop] at hx
            split at hx
            · exact hx
            · cases hx
          obtain ⟨k1, k2, k3⟩ := cellsR hcs
          have k2 := k2 fun j x hx => (hrow _ x (hget j x hx)).1
          have hat : ∀ (j : Nat) x, cs[j]? = some x → Ψ l.blk (l.off + a.off + j) = some ((w.cell? ⟨l.blk, l.off + a.off + j, none⟩).getD undef) ∧ TRel Ψ x ((w.cell? ⟨l.blk, l.off + a.off + j, none⟩).getD undef) := by
            intro j x hx
            obtain ⟨y, hy, hyx⟩ := k3 j x hx
            obtain ⟨_, y', hy1, hy2⟩ := hrow _ y (hget j y hy)
            rw [← Nat.add_assoc] at hy1
            rw [hy1]
            exact ⟨st.obj _ l hl ⟨_, hob, by simp⟩ hreal _ _ hy1, hyx y' hy2⟩
          refine elems_lst (cs' := (List.range cs.length).map fun j => (w.cell? ⟨l.blk, l.off + a.off + j, none⟩).getD undef) (by decide) hel hsz (by rw [k1, hcl]) rfl hfit (fun e => by simp at e) k2 (fun j v v' hv hv' => ?_) (by simp) fun j v hv => ?_
          · have hj := (List.getElem?_eq_some_iff.1 hv).1
            simp [hj] at hv'
            subst hv'; exact (hat j v hv).2
          · have hj : j < cs.length := by
              have := (List.getElem?_eq_some_iff.1 hv).1; simpa using this
            simp [hj] at hv
            subst hv; exact (hat j _ (List.getElem?_eq_getElem hj)).1
        · have hc0 := hnr hreal
          subst hc0
          have : 0 < len * s := Nat.mul_pos (by omega) hspos
          simp only [List.length_nil] at hle
          omega
    · cases hr
    · cases hr
    · rename_i c
      simp only [Option.map_eq_some_iff] at hr
      obtain ⟨cs, hcs, rfl⟩ := hr
      obtain ⟨x', rfl, hx, h1, h2⟩ := hv.aggSome
      obtain ⟨k1, k2, k3⟩ := cellsR hcs
      have k2 := k2 fun j x hx => h1 j x (by simpa using hx)
      refine .agg _ _ (by simpa [k1] using hx) (fun j x hx => k2 j x (by simpa using hx)) fun j x y hx hy => ?_
      obtain ⟨z, hz, hzx⟩ := k3 j x (by simpa using hx)
      exact hzx y (h2 j z y (by simpa using hz) hy)
    · cases hr
      exact hv.treeSome.mono st.phi
    · rename_i f x y hny
      simp only [Option.bind_eq_some_iff, Option.map_eq_some_iff] at hr
      obtain ⟨xs, hxs, ys, hys, rfl⟩ := hr
      cases hv with
      | atom _ h => simp [Bm.atom] at h
      | tree n _ _ _ h => exact (hny _ rfl).elim
      | func fn _ x' _ y' hx hy hk1 hk2 =>
        obtain ⟨a1, _, a3⟩ := cellsR hxs
        obtain ⟨b1, _, b3⟩ := cellsR hys
        refine .func fn _ x' _ y' (by simpa [a1] using hx) (by simpa [b1] using hy) (fun j p q hp hq => ?_) fun j p q hp hq => ?_
        · obtain ⟨z, hz, hzx⟩ := a3 j p (by simpa using hp)
          exact hzx q (hk1 j z q (by simpa using hz) hq)
        · obtain ⟨z, hz, hzx⟩ := b3 j p (by simpa using hp)
          exact hzx q (hk2 j z q (by simpa using hz) hq)
    · cases hr
    · rename_i t v
      simp only [Option.map_eq_some_iff] at hr
      obtain ⟨u0, hu0, rfl⟩ := hr
      cases hv with
      | atom _ h => simp [Bm.atom] at h
      | iface _ _ v' h => exact .iface t _ _ (reify_sound hs st n _ _ _ hu0 h)
    · cases hv with
      | atom _ h => cases hr; exact .atom _ h
      | func f x _ y _ =>
        obtain ⟨x⟩ := x
        obtain ⟨y⟩ := y
        simp_all
      | agg x _ =>
        obtain ⟨x⟩ := x
        simp_all
      | _ => simp_all

end
end Go.Proofs.Ytgeebooalafepaa.Bm
