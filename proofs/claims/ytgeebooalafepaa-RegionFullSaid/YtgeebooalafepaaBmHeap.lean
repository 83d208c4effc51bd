/-
  What a step does to the relation: a new row, a write, a row that grows, a row given up for a tree. Conditions: none.
-/
import Derived.Test.YtgeebooalafepaaBmSim
namespace Go.Proofs.Ytgeebooalafepaa.Bm
open Go Go.RowKit

section
variable {E : Env} {B lo : Nat} {M M' : Mem} {h h' : Heap} {w w' : World}

theorem place_at {a a' : Addr} {l : Loc} {c : List Value} {g : Nat} (hp : Place M a a') (hl : M.obj a.block = some l) (hg : l.grown = g) (hlen : g ≠ 0 → l.len = c.length) (hst : stampOk a.spot g c.length = true) :
    a' = ⟨l.blk, l.off + a.off, none⟩ := by
  obtain ⟨l', h1, h2⟩ := hp
  rw [hl] at h1; cases h1
  unfold stampOk at hst
  split at hst
  · rename_i e
    rw [e] at h2; exact h2.2
  · rename_i k g0 e
    rw [e] at h2
    exact h2.2.2 ((hlen (by omega)).trans (beq_iff_eq.1 hst).symm)
  · cases hst

/-- Reading a row. -/
theorem HSim.read (hs : HSim E B M h w) {a a' : Addr} {n : Nat} {cs : List Value} (hp : Place M a a') (hr : rdN h a n = some cs) :
    cs.length = n ∧ (∀ (j : Nat) v, cs[j]? = some v → one v = true) ∧ ∃ cs' : List Value, VRels M cs cs' ∧ ∀ j v, cs'[j]? = some v → w.cell? (a'.add j) = some v := by
  unfold rdN rowOf at hr
  cases hob : h[a.block]? with
  | none => simp [hob] at hr
  | some x =>
  cases x with
  | dead => simp [hob] at hr
  | map es _ => simp [hob] at hr
  | cells t c g =>
  simp only [hob, Option.bind_eq_some_iff, Option.ite_none_right_eq_some, Option.some.injEq] at hr
  obtain ⟨_, ⟨hst, rfl⟩, hle, rfl⟩ := hr
  obtain ⟨l, hl, _⟩ := id hp
  obtain ⟨hg, hlen, hnr, hre⟩ := hs.obj _ l t c g hl hob
  by_cases hreal : l.real
  · obtain ⟨cs0, ty, hb, hsz, hoff, hc⟩ := hre hreal
    have ha := place_at hp hl hg hlen hst
    have hcl : ((c.drop a.off).take n).length = n := by simp; omega
    have hget : ∀ (j : Nat) v, ((c.drop a.off).take n)[j]? = some v → c[a.off + j]? = some v := by
      intro j v hv
      simp only [List.getElem?_take, List.getElem?_drop] at hv
      split at hv
      · exact hv
      · cases hv
    have hadd : ∀ j, a'.add j = ⟨l.blk, l.off + (a.off + j), none⟩ := by
      intro j; subst ha; unfold Addr.add; split
      · rename_i hj; subst hj; simp
      · simp; omega
    have hcell : ∀ j v, c[j]? = some v → one v = true ∧ ∃ v', w.cell? ⟨l.blk, l.off + j, none⟩ = some v' ∧ VRel M v v' := fun j v hv => by
      obtain ⟨h1, v', h2, h3⟩ := hc j v hv
      exact ⟨h1, v', by simpa [World.cell?, hb] using h2, h3⟩
    refine ⟨hcl, fun j v hv => (hcell _ v (hget j v hv)).1, (List.range n).map fun j => (w.cell? (a'.add j)).getD undef, ⟨by simp [hcl], ?_⟩, ?_⟩
    · intro i u u' hu hu'
      obtain ⟨_, v', h5, h6⟩ := hcell _ u (hget i u hu)
      have hi : i < n := hcl ▸ (List.getElem?_eq_some_iff.1 hu).1
      simp [hi, hadd, h5] at hu'
      subst hu'; exact h6
    · intro j v hv
      have hj : j < n := by
        have := (List.getElem?_eq_some_iff.1 hv).1; simpa using this
      have hcj : j < ((c.drop a.off).take n).length := by rw [hcl]; exact hj
      obtain ⟨_, v', h5, _⟩ := hcell _ _ (hget j _ (List.getElem?_eq_getElem hcj))
      simp [hj, hadd, h5] at hv
      rw [hadd, h5, hv]
  · have hc0 := hnr hreal
    subst hc0
    simp at hle
    obtain ⟨h0, rfl⟩ := hle
    exact ⟨by simp, fun j v hv => by simp at hv, [], by simpa using VRels.nil, fun j v hv => by simp at hv⟩

/-- One object at most has changed. -/
theorem HSim.change (hs : HSim E B M h w) (le : M.Le M') (x : Nat) (hsize : w.heap.size ≤ w'.heap.size) (hlen : h.length ≤ h'.length)
    (old : ∀ o l, o ≠ x → M'.obj o = some l → M.obj o = some l ∧ h'[o]? = h[o]?)
    (blk : ∀ o l, o ≠ x → M.obj o = some l → alive h o → l.real → w'.heap[l.blk]? = w.heap[l.blk]?)
    (phi : ∀ b o v, M'.phi b o = some v → w'.cell? ⟨b, o, none⟩ = some v)
    (sep : ∀ o l, o ≠ x → M.obj o = some l → alive h o → l.real → ∀ y, M'.phi l.blk y = none)
    (new : ∀ l, M'.obj x = some l → x < h'.length ∧ (l.real → B ≤ l.blk ∧ l.blk < w'.heap.size) ∧
      (alive h' x → l.real → (∀ y, M'.phi l.blk y = none) ∧ ∀ o l₂, o ≠ x → M.obj o = some l₂ → alive h o → l₂.real → l₂.blk ≠ l.blk) ∧
      (∀ t c g, h'[x]? = some (.cells t c g) → l.grown = g ∧ (g ≠ 0 → l.len = c.length) ∧ (¬ l.real → c = []) ∧
        (l.real → ∃ cs ty, w'.heap[l.blk]? = some (.cells cs ty (0, 0)) ∧ cs.size = l.size ∧ l.off + c.length ≤ l.size ∧ ∀ j v, c[j]? = some v → one v = true ∧ ∃ v', cs[l.off + j]? = some v' ∧ VRel M' v v')) ∧
      ∀ es ck, h'[x]? = some (.map es ck) → l.grown = 0 ∧ ∃ es' : Array MapEntry, w'.heap[l.blk]? = some (.map es' ck) ∧ es'.size = es.length ∧
        ∀ (i : Nat) e, es[i]? = some e → ∃ e', es'[i]? = some e' ∧ (flat e.key = true ∧ e'.key = e.key) ∧ VRel M' e.val e'.val ∧ e'.born = e.born) : HSim E B M' h' w' := by
  have al : ∀ {o l}, o ≠ x → M'.obj o = some l → alive h' o → alive h o := by
    rintro o l hx hl ⟨y, hy, hy'⟩
    exact ⟨y, by rw [← (old o l hx hl).2]; exact hy, hy'⟩
  refine ⟨fun g v hg => (hs.glob g v hg).mono le, phi, fun o l hl ha hr y => ?_, Nat.le_trans hs.base hsize, fun o l hl => ?_, fun o l t c g hl hob => ?_, fun o l es ck hl hob => ?_, fun o₁ o₂ l₁ l₂ h1 h2 h3 h4 h5 h6 h7 => ?_⟩
  · by_cases hx : o = x
    · subst hx; exact ((new l hl).2.2.1 ha hr).1 y
    · exact sep o l hx (old o l hx hl).1 (al hx hl ha) hr y
  · by_cases hx : o = x
    · subst hx; exact ⟨(new l hl).1, (new l hl).2.1⟩
    · have := hs.dom o l (old o l hx hl).1
      exact ⟨Nat.lt_of_lt_of_le this.1 hlen, fun hr => ⟨(this.2 hr).1, Nat.lt_of_lt_of_le (this.2 hr).2 hsize⟩⟩
  · by_cases hx : o = x
    · subst hx; exact (new l hl).2.2.2.1 t c g hob
    · obtain ⟨k1, k2⟩ := old o l hx hl
      have hob' := k2 ▸ hob
      obtain ⟨q1, q2, q3, q4⟩ := hs.obj o l t c g k1 hob'
      refine ⟨q1, q2, q3, fun hr => ?_⟩
      obtain ⟨cs, ty, r1, r2, r3, r4⟩ := q4 hr
      refine ⟨cs, ty, by rw [blk o l hx k1 ⟨_, hob', by simp⟩ hr]; exact r1, r2, r3, fun j v hv => ?_⟩
      obtain ⟨s1, v', s2, s3⟩ := r4 j v hv
      exact ⟨s1, v', s2, s3.mono le⟩
  · by_cases hx : o = x
    · subst hx; exact (new l hl).2.2.2.2 es ck hob
    · obtain ⟨k1, k2⟩ := old o l hx hl
      have hob' := k2 ▸ hob
      obtain ⟨q0, es', q1, q2, q3⟩ := hs.mp o l es ck k1 hob'
      refine ⟨q0, es', by rw [blk o l hx k1 ⟨_, hob', by simp⟩ (.inl q0)]; exact q1, q2, fun i e he => ?_⟩
      obtain ⟨e', r1, r2, r3, r4⟩ := q3 i e he
      exact ⟨e', r1, r2, r3.mono le, r4⟩
  · by_cases hx1 : o₁ = x <;> by_cases hx2 : o₂ = x
    · rw [hx1, hx2]
    · subst hx1
      exact absurd h7.symm (((new l₁ h1).2.2.1 h3 h5).2 o₂ l₂ hx2 (old o₂ l₂ hx2 h2).1 (al hx2 h2 h4) h6)
    · subst hx2
      exact absurd h7 (((new l₂ h2).2.2.1 h4 h6).2 o₁ l₁ hx1 (old o₁ l₁ hx1 h1).1 (al hx1 h1 h3) h5)
    · exact hs.inj o₁ o₂ l₁ l₂ (old o₁ l₁ hx1 h1).1 (old o₂ l₂ hx2 h2).1 (al hx1 h1 h3) (al hx2 h2 h4) h5 h6 h7

theorem HSim.phi_lt (hs : HSim E B M h w) {b x : Nat} {v : Value} (hv : M.phi b x = some v) : b < w.heap.size := by
  have h4 := hs.phi b x v hv
  unfold World.cell? at h4
  split at h4
  · rename_i hh
    exact (Array.getElem?_eq_some_iff.1 hh).1
  · cases h4

def Mem.put (M : Mem) (o : Nat) (l : Loc) : Mem := ⟨fun x => if x = o then some l else M.obj x, M.phi⟩
theorem Mem.put_self {o : Nat} {l : Loc} : (M.put o l).obj o = some l := by simp [Mem.put]
theorem Mem.put_ne {o x : Nat} {l : Loc} (hx : x ≠ o) : (M.put o l).obj x = M.obj x := by simp [Mem.put, hx]
theorem Mem.put_le {o : Nat} {l : Loc} (hl : ∀ l₀, M.obj o = some l₀ → Grew l₀ l) : M.Le (M.put o l) :=
  ⟨fun x l₀ hx => by
    by_cases e : x = o
    · subst e; exact ⟨l, Mem.put_self, hl l₀ hx⟩
    · exact ⟨l₀, by rw [Mem.put_ne e]; exact hx, .refl _⟩, fun _ _ _ hv => hv⟩

/-- A new row. -/
theorem HSim.alloc (hs : HSim E B M h w) {c : List Value} {cs : Array Value} {t ty : TypeId} {g : Nat} (hl : c.length ≤ cs.size) (hreal : g = 0 ∨ cs.size ≠ 0)
    (h1 : ∀ (j : Nat) v, c[j]? = some v → one v = true) (hc : ∀ (j : Nat) v v', c[j]? = some v → cs[j]? = some v' → VRel M v v') :
    let l : Loc := ⟨w.heap.size, 0, cs.size, g, c.length⟩
    HSim E B (M.put h.length l) (h ++ [.cells t c g]) (w.alloc (.cells cs ty)) ∧ ∀ lo, lo ≤ h.length → Evo lo M h w (M.put h.length l) (h ++ [.cells t c g]) (w.alloc (.cells cs ty)) := by
  intro l
  have hnone : M.obj h.length = none := by
    cases hm : M.obj h.length with
    | none => rfl
    | some l => exact absurd (hs.lt _ _ hm) (by omega)
  have hold : ∀ b, b < w.heap.size → (w.alloc (.cells cs ty)).heap[b]? = w.heap[b]? := fun b hb => Below.heap_alloc w _ b hb
  have hnew : (w.alloc (.cells cs ty)).heap[w.heap.size]? = some (.cells cs ty (0, 0)) := heap_alloc_new w _
  have hsz : (w.alloc (.cells cs ty)).heap.size = w.heap.size + 1 := Array.size_push _
  have hle : M.Le (M.put h.length l) := Mem.put_le fun l₀ h0 => by rw [hnone] at h0; cases h0
  constructor
  · refine hs.change hle h.length (by rw [hsz]; omega) (by simp) (fun o l' ho hl' => ?_) (fun o l' ho hl' ha hr => hold _ ((hs.dom o l' hl').2 hr).2) (fun b o v hv => ?_) (fun o l' ho hl' ha hr => hs.sep o l' hl' ha hr) fun l' hl' => ?_
    · rw [Mem.put_ne ho] at hl'
      exact ⟨hl', List.getElem?_append_left (hs.lt o l' hl')⟩
    · rw [← hs.phi b o v hv]
      exact World.cell?_of_block (hold b (hs.phi_lt hv))
    · rw [Mem.put_self] at hl'; cases hl'
      refine ⟨by simp, fun _ => ⟨hs.base, by rw [hsz]; exact Nat.lt_succ_self _⟩, fun _ _ => ⟨fun y => ?_, fun o l₂ ho hl₂ ha hr e => ?_⟩, fun t' c' g' hob => ?_, fun es ck hob => by simp at hob⟩
      · cases hy : (M.put h.length l).phi l.blk y with
        | none => rfl
        | some v => exact absurd (hs.phi_lt hy) (Nat.lt_irrefl _)
      · have := ((hs.dom o l₂ hl₂).2 hr).2
        have e2 : l.blk = w.heap.size := rfl
        omega
      · simp at hob
        obtain ⟨rfl, rfl, rfl⟩ := hob
        refine ⟨rfl, fun _ => rfl, fun hn => absurd (show l.real from hreal) hn, fun _ => ⟨cs, ty, hnew, rfl, by show 0 + _ ≤ cs.size; omega, fun j v hv => ?_⟩⟩
        have hj : j < cs.size := Nat.lt_of_lt_of_le (List.getElem?_eq_some_iff.1 hv).1 hl
        exact ⟨h1 j v hv, cs[j], by simp [l, hj], (hc j v _ hv (by simp [hj])).mono hle⟩
  · intro lo hlo
    refine ⟨rfl, rfl, rfl, by rw [hsz]; omega, fun b hb _ => hold b hb, by simp, fun o ho => List.getElem?_append_left (by omega), fun o ho ⟨x, hx, hx'⟩ => ⟨x, by rw [List.getElem?_append_left ho] at hx; exact hx, hx'⟩,
      fun o ho => Mem.put_ne (by omega), hle, fun o ho hn => by rw [Mem.put_ne (by omega)]; exact hn, fun o l' ho hl' ha hr => ?_, fun b x v hv => .inl hv⟩
    by_cases e : o = h.length
    · subst e; rw [Mem.put_self] at hl'; cases hl'; exact .inl (Nat.le_refl _)
    · rw [Mem.put_ne e] at hl'
      obtain ⟨x, hx, hx'⟩ := ha
      rw [List.getElem?_append_left (hs.lt o l' hl')] at hx
      exact .inr ⟨o, l', ho, hl', ⟨x, hx, hx'⟩, hr, rfl⟩

/-- A row that may grow, empty as yet: memory has none. -/
theorem HSim.virt (hs : HSim E B M h w) {t : TypeId} {g : Nat} (hg : g ≠ 0) :
    let l : Loc := ⟨0, 0, 0, g, 0⟩
    HSim E B (M.put h.length l) (h ++ [.cells t [] g]) w ∧ ∀ lo, lo ≤ h.length → Evo lo M h w (M.put h.length l) (h ++ [.cells t [] g]) w := by
  intro l
  have hnr : ¬ l.real := by simp [Loc.real, l, hg]
  have hnone : M.obj h.length = none := by
    cases hm : M.obj h.length with
    | none => rfl
    | some l => exact absurd (hs.lt _ _ hm) (by omega)
  have hle : M.Le (M.put h.length l) := Mem.put_le fun l₀ h0 => by rw [hnone] at h0; cases h0
  constructor
  · refine hs.change hle h.length (Nat.le_refl _) (by simp) (fun o l' ho hl' => ?_) (fun o l' ho hl' ha hr => rfl) hs.phi (fun o l' ho hl' ha hr => hs.sep o l' hl' ha hr) fun l' hl' => ?_
    · rw [Mem.put_ne ho] at hl'
      exact ⟨hl', List.getElem?_append_left (hs.lt o l' hl')⟩
    · rw [Mem.put_self] at hl'; cases hl'
      refine ⟨by simp, fun hr => absurd hr hnr, fun _ hr => absurd hr hnr, fun t' c' g' hob => ?_, fun es ck hob => by simp at hob⟩
      simp at hob
      obtain ⟨rfl, rfl, rfl⟩ := hob
      exact ⟨rfl, fun _ => rfl, fun _ => rfl, fun hr => absurd hr hnr⟩
  · intro lo hlo
    refine ⟨rfl, rfl, rfl, Nat.le_refl _, fun b hb _ => rfl, by simp, fun o ho => List.getElem?_append_left (by omega), fun o ho ⟨x, hx, hx'⟩ => ⟨x, by rw [List.getElem?_append_left ho] at hx; exact hx, hx'⟩,
      fun o ho => Mem.put_ne (by omega), hle, fun o ho hn => by rw [Mem.put_ne (by omega)]; exact hn, fun o l' ho hl' ha hr => ?_, fun b x v hv => .inl hv⟩
    by_cases e : o = h.length
    · subst e; rw [Mem.put_self] at hl'; cases hl'; exact absurd hr hnr
    · rw [Mem.put_ne e] at hl'
      obtain ⟨x, hx, hx'⟩ := ha
      rw [List.getElem?_append_left (hs.lt o l' hl')] at hx
      exact .inr ⟨o, l', ho, hl', ⟨x, hx, hx'⟩, hr, rfl⟩

theorem alive_set {t : TypeId} {c : List Value} {g : Nat} {o o' : Nat} {t' : TypeId} {c' : List Value} {g' : Nat} (ho : h[o]? = some (.cells t c g)) : alive (h.set o (.cells t' c' g')) o' ↔ alive h o' := by
  have hlt : o < h.length := (List.getElem?_eq_some_iff.1 ho).1
  unfold alive
  by_cases e : o' = o
  · subst e; simp [List.getElem?_set_self hlt, ho]
  · rw [List.getElem?_set_ne (Ne.symm e)]

theorem alive_dead {o o' : Nat} (h4 : alive (h.set o .dead) o') : o' ≠ o ∧ alive h o' := by
  obtain ⟨x, hx, hx'⟩ := h4
  by_cases e : o' = o
  · subst e
    by_cases hlt : o' < h.length
    · rw [List.getElem?_set_self hlt] at hx; cases hx; exact absurd rfl hx'
    · rw [List.getElem?_eq_none (by simp; omega)] at hx; cases hx
  · rw [List.getElem?_set_ne (Ne.symm e)] at hx
    exact ⟨e, x, hx, hx'⟩

theorem setRow_other {w : World} {g k : Nat} {cs : Array Value} (hk : k ≠ g) : (w.setRow g cs).heap[k]? = w.heap[k]? := by
  simp only [World.setRow, Array.getElem?_modify]
  rw [if_neg (fun e => hk e.symm)]

theorem setRow_size {w : World} {g : Nat} {cs : Array Value} : (w.setRow g cs).heap.size = w.heap.size := by simp [World.setRow]

/-- A row has new contents, at the place where it stands; it may have grown there. -/
theorem HSim.put (hs : HSim E B M h w) {o : Nat} {l : Loc} {t : TypeId} {c d : List Value} {g : Nat} {cs : Array Value} (hl : M.obj o = some l) (hob : h[o]? = some (.cells t c g)) (hr : l.real) (hlo : lo ≤ o)
    (hsz : cs.size = l.size) (hd : l.off + d.length ≤ l.size) (hgr : d.length = c.length ∨ (g ≠ 0 ∧ c.length < d.length)) (hv : ∀ j v, d[j]? = some v → one v = true ∧ ∃ v', cs[l.off + j]? = some v' ∧ VRel M v v') :
    let l' : Loc := { l with len := if g = 0 then l.len else d.length }
    HSim E B (M.put o l') (h.set o (.cells t d g)) (w.setRow l.blk cs) ∧ Evo lo M h w (M.put o l') (h.set o (.cells t d g)) (w.setRow l.blk cs) := by
  intro l'
  obtain ⟨hg, hlen, _, hre⟩ := hs.obj o l t c g hl hob
  obtain ⟨cs0, ty, hb, hsz0, hoff, hc⟩ := hre hr
  have hlt := hs.lt o l hl
  have hrl : l'.real ↔ l.real := Iff.rfl
  have hle : M.Le (M.put o l') := Mem.put_le fun l₀ h0 => by
    rw [hl] at h0; cases h0
    by_cases h0 : g = 0
    · left; simp only [l', h0, if_true]
    · rcases hgr with e | ⟨_, e⟩
      · left; simp only [l', if_neg h0]; rw [e, ← hlen h0]
      · right; refine ⟨by omega, rfl, ?_⟩; simp only [l', if_neg h0]; rw [hlen h0]; exact e
  have hother : ∀ k, k ≠ l.blk → (w.setRow l.blk cs).heap[k]? = w.heap[k]? := fun k hk => setRow_other hk
  have hhere : (w.setRow l.blk cs).heap[l.blk]? = some (.cells cs ty (0, 0)) := setRow_heap w l.blk cs0 _ ty (0, 0) hb
  have hne : ∀ o₂ l₂, o₂ ≠ o → M.obj o₂ = some l₂ → alive h o₂ → l₂.real → l₂.blk ≠ l.blk := fun o₂ l₂ h1 h2 h3 h4 e => h1 (hs.inj o₂ o l₂ l h2 hl h3 ⟨_, hob, by simp⟩ h4 hr e)
  constructor
  · refine hs.change hle o (by rw [setRow_size]; exact Nat.le_refl _) (by simp) (fun o₂ l₂ ho hl₂ => ?_) (fun o₂ l₂ h1 h2 h3 h4 => hother _ (hne o₂ l₂ h1 h2 h3 h4)) (fun b y v hv => ?_) (fun o₂ l₂ h1 h2 h3 h4 => hs.sep o₂ l₂ h2 h3 h4) fun l₂ hl₂ => ?_
    · rw [Mem.put_ne ho] at hl₂
      exact ⟨hl₂, List.getElem?_set_ne (Ne.symm ho)⟩
    · have : b ≠ l.blk := fun e => by
        have := hs.sep o l hl ⟨_, hob, by simp⟩ hr y
        rw [← e] at this
        have hv' : M.phi b y = some v := hv
        rw [this] at hv'; cases hv'
      rw [← hs.phi b y v hv]
      exact World.cell?_of_block (hother b this)
    · rw [Mem.put_self] at hl₂; cases hl₂
      refine ⟨by simpa using hlt, fun _ => ⟨((hs.dom o l hl).2 hr).1, by rw [setRow_size]; exact ((hs.dom o l hl).2 hr).2⟩, fun _ _ => ⟨hs.sep o l hl ⟨_, hob, by simp⟩ hr, hne⟩, fun t' c' g' hob' => ?_, fun es ck hob' => by rw [List.getElem?_set_self hlt] at hob'; cases hob'⟩
      rw [List.getElem?_set_self hlt] at hob'
      cases hob'
      refine ⟨hg, fun h0 => by simp only [l', if_neg h0], fun hn => absurd (hrl.2 hr) hn, fun _ => ⟨cs, ty, hhere, hsz, hd, fun j v hj => ?_⟩⟩
      obtain ⟨k1, v', k2, k3⟩ := hv j v hj
      exact ⟨k1, v', k2, k3.mono hle⟩
  · refine ⟨rfl, rfl, rfl, by rw [setRow_size]; exact Nat.le_refl _, fun b _ hb' => hother b fun e => hb' ⟨o, l, hlo, hl, ⟨_, hob, by simp⟩, hr, e.symm⟩, by simp, fun o₂ ho => List.getElem?_set_ne (by omega),
      fun o₂ _ ha => (alive_set hob).1 ha, fun o₂ ho => Mem.put_ne (by omega), hle, fun o₂ ho hn => by
        have : o₂ ≠ o := fun e => by rw [e, hl] at hn; cases hn
        rw [Mem.put_ne this]; exact hn, fun o₂ l₂ ho hl₂ ha hr₂ => ?_, fun b y v hv => .inl hv⟩
    by_cases e : o₂ = o
    · subst e; rw [Mem.put_self] at hl₂; cases hl₂; exact .inr ⟨o₂, l, ho, hl, ⟨_, hob, by simp⟩, hr, rfl⟩
    · rw [Mem.put_ne e] at hl₂; exact .inr ⟨o₂, l₂, ho, hl₂, (alive_set hob).1 ha, hr₂, rfl⟩

/-- A row that has grown into a new block. -/
theorem HSim.move (hs : HSim E B M h w) {o : Nat} {l : Loc} {t ty : TypeId} {c d : List Value} {g : Nat} {cs : Array Value} (hl : M.obj o = some l) (hob : h[o]? = some (.cells t c g)) (hg : g ≠ 0) (hlo : lo ≤ o)
    (hd : d.length ≤ cs.size) (hcs : cs.size ≠ 0) (hgr : c.length < d.length) (hv : ∀ (j : Nat) v, d[j]? = some v → one v = true ∧ ∃ v', cs[j]? = some v' ∧ VRel M v v') :
    let l' : Loc := ⟨w.heap.size, 0, cs.size, g, d.length⟩
    HSim E B (M.put o l') (h.set o (.cells t d g)) (w.alloc (.cells cs ty)) ∧ Evo lo M h w (M.put o l') (h.set o (.cells t d g)) (w.alloc (.cells cs ty)) := by
  intro l'
  obtain ⟨hlg, hlen, _, hre⟩ := hs.obj o l t c g hl hob
  have hlt := hs.lt o l hl
  have hrl : l'.real := .inr hcs
  have hle : M.Le (M.put o l') := Mem.put_le fun l₀ h0 => by
    rw [hl] at h0; cases h0
    exact .inr ⟨by omega, hlg.symm, by rw [hlen hg]; exact hgr⟩
  have hold : ∀ b, b < w.heap.size → (w.alloc (.cells cs ty)).heap[b]? = w.heap[b]? := fun b hb => Below.heap_alloc w _ b hb
  have hnew : (w.alloc (.cells cs ty)).heap[w.heap.size]? = some (.cells cs ty (0, 0)) := heap_alloc_new w _
  have hsz : (w.alloc (.cells cs ty)).heap.size = w.heap.size + 1 := Array.size_push _
  constructor
  · refine hs.change hle o (by rw [hsz]; omega) (by simp) (fun o₂ l₂ ho hl₂ => ?_) (fun o₂ l₂ h1 h2 h3 h4 => hold _ ((hs.dom o₂ l₂ h2).2 h4).2) (fun b y v hv => ?_) (fun o₂ l₂ h1 h2 h3 h4 => hs.sep o₂ l₂ h2 h3 h4) fun l₂ hl₂ => ?_
    · rw [Mem.put_ne ho] at hl₂
      exact ⟨hl₂, List.getElem?_set_ne (Ne.symm ho)⟩
    · rw [← hs.phi b y v hv]
      exact World.cell?_of_block (hold b (hs.phi_lt hv))
    · rw [Mem.put_self] at hl₂; cases hl₂
      refine ⟨by simpa using hlt, fun _ => ⟨hs.base, by rw [hsz]; exact Nat.lt_succ_self _⟩, fun _ _ => ⟨fun y => ?_, fun o₂ l₂ ho hl₂ ha hr e => ?_⟩, fun t' c' g' hob' => ?_, fun es ck hob' => by rw [List.getElem?_set_self hlt] at hob'; cases hob'⟩
      · cases hy : (M.put o l').phi l'.blk y with
        | none => rfl
        | some v => exact absurd (hs.phi_lt hy) (Nat.lt_irrefl _)
      · have := ((hs.dom o₂ l₂ hl₂).2 hr).2
        have e2 : l'.blk = w.heap.size := rfl
        omega
      · rw [List.getElem?_set_self hlt] at hob'
        cases hob'
        refine ⟨rfl, fun _ => rfl, fun hn => absurd hrl hn, fun _ => ⟨cs, ty, hnew, rfl, by show 0 + _ ≤ cs.size; omega, fun j v hj => ?_⟩⟩
        obtain ⟨k1, v', k2, k3⟩ := hv j v hj
        exact ⟨k1, v', by show cs[0 + j]? = _; rw [Nat.zero_add]; exact k2, k3.mono hle⟩
  · refine ⟨rfl, rfl, rfl, by rw [hsz]; omega, fun b hb _ => hold b hb, by simp, fun o₂ ho => List.getElem?_set_ne (by omega),
      fun o₂ _ ha => (alive_set hob).1 ha, fun o₂ ho => Mem.put_ne (by omega), hle, fun o₂ ho hn => by
        have : o₂ ≠ o := fun e => by rw [e, hl] at hn; cases hn
        rw [Mem.put_ne this]; exact hn, fun o₂ l₂ ho hl₂ ha hr₂ => ?_, fun b y v hv => .inl hv⟩
    by_cases e : o₂ = o
    · subst e; rw [Mem.put_self] at hl₂; cases hl₂; exact .inl (Nat.le_refl _)
    · rw [Mem.put_ne e] at hl₂; exact .inr ⟨o₂, l₂, ho, hl₂, (alive_set hob).1 ha, hr₂, rfl⟩

/-- What an object was will not change any more. -/
def Mem.fix (M : Mem) (b : Nat) (cs : Array Value) : Mem := ⟨M.obj, fun b' x => if b' = b then cs[x]? else M.phi b' x⟩

theorem Mem.fix_le {b : Nat} {cs : Array Value} (hn : ∀ x, M.phi b x = none) : M.Le (M.fix b cs) :=
  ⟨fun _ l hl => ⟨l, hl, .refl l⟩, fun b' x v hv => by
    have : b' ≠ b := fun e => by rw [e, hn x] at hv; cases hv
    simp only [Mem.fix, if_neg this]; exact hv⟩

/-- An object is given up. -/
theorem HSim.kill (hs : HSim E B M h w) {o : Nat} (hlo : lo ≤ o) : HSim E B M (h.set o .dead) w ∧ Evo lo M h w M (h.set o .dead) w := by
  constructor
  · refine hs.change (.refl M) o (Nat.le_refl _) (by simp) (fun o₂ l₂ ho hl₂ => ⟨hl₂, List.getElem?_set_ne (Ne.symm ho)⟩) (fun _ _ _ _ _ _ => rfl) hs.phi (fun o₂ l₂ h1 h2 h3 h4 => hs.sep o₂ l₂ h2 h3 h4) fun l₂ hl₂ => ?_
    have hlt := hs.lt _ _ hl₂
    refine ⟨by simpa using hlt, (hs.dom _ _ hl₂).2, fun ha => absurd rfl (alive_dead ha).1, fun t' c' g' hob' => ?_, fun es ck hob' => ?_⟩ <;> (rw [List.getElem?_set_self hlt] at hob'; cases hob')
  · exact ⟨rfl, rfl, rfl, Nat.le_refl _, fun _ _ _ => rfl, by simp, fun o₂ ho => List.getElem?_set_ne (by omega), fun o₂ _ ha => (alive_dead ha).2, fun _ _ => rfl, .refl M, fun _ _ hn => hn, fun o₂ l₂ ho hl₂ ha hr => .inr ⟨o₂, l₂, ho, hl₂, (alive_dead ha).2, hr, rfl⟩, fun _ _ _ hv => .inl hv⟩

/-- An object is given up, and its block will not change any more. -/
theorem HSim.freeze (hs : HSim E B M h w) {o : Nat} {l : Loc} {x : AObj} {cs : Array Value} {ty : TypeId} (hl : M.obj o = some l) (hob : h[o]? = some x) (hx : x ≠ .dead) (hr : l.real) (hlo : lo ≤ o) (hb : w.heap[l.blk]? = some (.cells cs ty (0, 0))) :
    HSim E B (M.fix l.blk cs) (h.set o .dead) w ∧ Evo lo M h w (M.fix l.blk cs) (h.set o .dead) w := by
  have ha : alive h o := ⟨x, hob, hx⟩
  have hle : M.Le (M.fix l.blk cs) := Mem.fix_le (hs.sep o l hl ha hr)
  constructor
  · refine hs.change hle o (Nat.le_refl _) (by simp) (fun o₂ l₂ ho hl₂ => ⟨hl₂, List.getElem?_set_ne (Ne.symm ho)⟩) (fun _ _ _ _ _ _ => rfl) (fun b y v hv => ?_) (fun o₂ l₂ h1 h2 h3 h4 y => ?_) fun l₂ hl₂ => ?_
    · simp only [Mem.fix] at hv
      split at hv
      · rename_i e; subst e
        simpa [World.cell?, hb] using hv
      · exact hs.phi b y v hv
    · have : l₂.blk ≠ l.blk := fun e => h1 (hs.inj o₂ o l₂ l h2 hl h3 ha h4 hr e)
      simp only [Mem.fix, if_neg this]
      exact hs.sep o₂ l₂ h2 h3 h4 y
    · have hlt := hs.lt _ _ hl
      refine ⟨by simpa using hlt, (hs.dom _ _ hl₂).2, fun ha => absurd rfl (alive_dead ha).1, fun t' c' g' hob' => ?_, fun es ck hob' => ?_⟩ <;> (rw [List.getElem?_set_self hlt] at hob'; cases hob')
  · refine ⟨rfl, rfl, rfl, Nat.le_refl _, fun _ _ _ => rfl, by simp, fun o₂ ho => List.getElem?_set_ne (by omega), fun o₂ _ ha => (alive_dead ha).2, fun _ _ => rfl, hle, fun _ _ hn => hn, fun o₂ l₂ ho hl₂ ha hr => .inr ⟨o₂, l₂, ho, hl₂, (alive_dead ha).2, hr, rfl⟩, fun b y v hv => ?_⟩
    simp only [Mem.fix] at hv
    split at hv
    · rename_i e; subst e
      exact .inr (.inr ⟨o, l, hlo, hl, ha, hr, rfl⟩)
    · exact .inl hv

/-- A new block that will not change any more. -/
theorem HSim.tree (hs : HSim E B M h w) {cs : Array Value} {ty : TypeId} (_hlo : lo ≤ h.length) :
    HSim E B (M.fix w.heap.size cs) h (w.alloc (.cells cs ty)) ∧ Evo lo M h w (M.fix w.heap.size cs) h (w.alloc (.cells cs ty)) := by
  have hle : M.Le (M.fix w.heap.size cs) := Mem.fix_le fun x => by
    cases hy : M.phi w.heap.size x with
    | none => rfl
    | some v => exact absurd (hs.phi_lt hy) (Nat.lt_irrefl _)
  have hold : ∀ b, b < w.heap.size → (w.alloc (.cells cs ty)).heap[b]? = w.heap[b]? := fun b hb => Below.heap_alloc w _ b hb
  have hnew : (w.alloc (.cells cs ty)).heap[w.heap.size]? = some (.cells cs ty (0, 0)) := heap_alloc_new w _
  have hsz : (w.alloc (.cells cs ty)).heap.size = w.heap.size + 1 := Array.size_push _
  constructor
  · refine hs.change hle h.length (by rw [hsz]; omega) (Nat.le_refl _) (fun o₂ l₂ ho hl₂ => ⟨hl₂, rfl⟩) (fun o₂ l₂ h1 h2 h3 h4 => hold _ ((hs.dom o₂ l₂ h2).2 h4).2) (fun b y v hv => ?_) (fun o₂ l₂ h1 h2 h3 h4 y => ?_) fun l₂ hl₂ => absurd (hs.lt _ _ hl₂) (Nat.lt_irrefl _)
    · simp only [Mem.fix] at hv
      split at hv
      · rename_i e; subst e
        unfold World.cell?; rw [hnew]; exact hv
      · rw [← hs.phi b y v hv]
        exact World.cell?_of_block (hold b (hs.phi_lt hv))
    · have : l₂.blk ≠ w.heap.size := by have := ((hs.dom o₂ l₂ h2).2 h4).2; omega
      simp only [Mem.fix, if_neg this]
      exact hs.sep o₂ l₂ h2 h3 h4 y
  · refine ⟨rfl, rfl, rfl, by rw [hsz]; omega, fun b hb _ => hold b hb, Nat.le_refl _, fun _ _ => rfl, fun _ _ ha => ha, fun _ _ => rfl, hle, fun _ _ hn => hn, fun o₂ l₂ ho hl₂ ha hr => .inr ⟨o₂, l₂, ho, hl₂, ha, hr, rfl⟩, fun b y v hv => ?_⟩
    simp only [Mem.fix] at hv
    split at hv
    · rename_i e; subst e
      exact .inr (.inl (Nat.le_refl _))
    · exact .inl hv

end
end Go.Proofs.Ytgeebooalafepaa.Bm
