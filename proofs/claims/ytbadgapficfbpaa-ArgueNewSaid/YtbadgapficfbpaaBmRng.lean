/-
  A range over a map: what is beside the machine. Conditions: the block is no object's.
-/
import Derived.Test.YtbadgapficfbpaaBmAll
import Derived.Maps.RangeRun
namespace Go.Proofs.Ytbadgapficfbpaa.Bm
open Go Go.RowKit

/-- As before, but for one block. -/
structure But (r : Nat) (w w' : World) : Prop where
  os : w'.os = w.os
  tape : w'.tape = w.tape
  output : w'.output = w.output
  size : w'.heap.size = w.heap.size
  block : ∀ b, b ≠ r → w'.heap[b]? = w.heap[b]?

section
variable {E : Env} {B lo r : Nat} {M M₀ : Mem} {h h₀ : Heap} {w w' w₀ : World}

theorem But.refl (r : Nat) (w : World) : But r w w := ⟨rfl, rfl, rfl, rfl, fun _ _ => rfl⟩
theorem But.set {o o' : Obj} (_hr : w.heap[r]? = some o) : But r w (Go.ChangeMaps.setBlock w r o') := by
  refine ⟨rfl, rfl, rfl, by simp [Go.ChangeMaps.setBlock], fun b hb => ?_⟩
  simp only [Go.ChangeMaps.setBlock]
  rw [Array.getElem?_setIfInBounds_ne (by omega)]
theorem But.drew (r : Nat) (w : World) : But r w w.drew := ⟨rfl, rfl, rfl, rfl, fun _ _ => rfl⟩
theorem But.trans {w'' : World} (a : But r w w') (b : But r w' w'') : But r w w'' :=
  ⟨b.os.trans a.os, b.tape.trans a.tape, b.output.trans a.output, b.size.trans a.size, fun x hx => (b.block x hx).trans (a.block x hx)⟩

/-- A block that is no object's. -/
structure Off (r : Nat) (M : Mem) (h : Heap) : Prop where
  obj : ∀ o l, M.obj o = some l → alive h o → l.real → l.blk ≠ r
  phi : ∀ x, M.phi r x = none

theorem HSim.aside (hs : HSim E B M h w) (p : But r w w') (k : Off r M h) : HSim E B M h w' := by
  refine ⟨hs.glob, fun b o v hv => ?_, hs.sep, by rw [p.size]; exact hs.base, fun o l hl => by rw [p.size]; exact hs.dom o l hl, fun o l t c g hl ho => ?_, fun o l es ck hl ho => ?_, hs.inj⟩
  · have hb : b ≠ r := fun e => by subst e; rw [k.phi] at hv; cases hv
    rw [← hs.phi b o v hv]
    exact World.cell?_of_block (p.block b hb)
  · obtain ⟨q1, q2, q3, q4⟩ := hs.obj o l t c g hl ho
    refine ⟨q1, q2, q3, fun hr => ?_⟩
    rw [p.block _ (k.obj o l hl ⟨_, ho, by simp⟩ hr)]
    exact q4 hr
  · obtain ⟨q1, es', q2, q3, q4⟩ := hs.mp o l es ck hl ho
    refine ⟨q1, es', ?_, q3, q4⟩
    rw [p.block _ (k.obj o l hl ⟨_, ho, by simp⟩ (.inl q1))]
    exact q2
theorem Evo.aside (e : Evo lo M₀ h₀ w₀ M h w) (p : But r w w') (hr : w₀.heap.size ≤ r) : Evo lo M₀ h₀ w₀ M h w' :=
  ⟨p.os.trans e.os, p.tape.trans e.tape, p.output.trans e.output, by rw [p.size]; exact e.size, fun b hb hn => (p.block b (by omega)).trans (e.block b hb hn), e.len, e.keep, e.dead, e.ext, e.le, e.non, e.own, e.fro⟩

/-- Such a block stays as it is, and stays so. -/
theorem Off.evo {M' : Mem} {h' : Heap} (k : Off r M h) (e : Evo lo M h w M' h' w') (hr : r < w.heap.size) (_hs : HSim E B M h w) : Off r M' h' ∧ w'.heap[r]? = w.heap[r]? := by
  have hn : ¬ Had lo M h r := by
    rintro ⟨o, l, h1, h2, h3, h4, h5⟩
    exact k.obj o l h2 h3 h4 h5
  refine ⟨⟨fun o l hl ha hr' => ?_, fun x => ?_⟩, e.block r hr hn⟩
  · by_cases ho : lo ≤ o
    · rcases e.own o l ho hl ha hr' with h1 | h1
      · omega
      · intro e; exact hn (e ▸ h1)
    · rw [e.ext o (by omega)] at hl
      obtain ⟨x, hx, hd⟩ := ha
      rw [e.keep o (by omega)] at hx
      exact k.obj o l hl ⟨x, hx, hd⟩ hr'
  · cases hx : M'.phi r x with
    | none => rfl
    | some v =>
      rcases e.fro r x v hx with h1 | h1 | h1
      · rw [k.phi] at h1; cases h1
      · omega
      · exact absurd h1 hn

/-- An object that is not touched: its block stays. -/
theorem map_block {o : Nat} {l : Loc} {es : List MapEntry} {ck : Nat} {M' : Mem} {h' : Heap} (hs : HSim E B M h w) (e : Evo lo M h w M' h' w') (ho : o < lo) (hl : M.obj o = some l) (hm : h[o]? = some (.map es ck)) :
    w'.heap[l.blk]? = w.heap[l.blk]? ∧ M'.obj o = some l ∧ h'[o]? = some (.map es ck) := by
  obtain ⟨q1, _⟩ := hs.mp o l es ck hl hm
  refine ⟨e.block _ ((hs.dom o l hl).2 (.inl q1)).2 ?_, by rw [e.ext o ho, hl], by rw [e.keep o ho, hm]⟩
  rintro ⟨o', l', h1, h2, h3, h4, h5⟩
  have := hs.inj o o' l l' hl h2 ⟨_, hm, by simp⟩ h3 (.inl q1) h4 h5.symm
  omega

/-- As 'ops_sound', with more that is known of the registers. -/
theorem ops_keep (hP : GoodP E.P) {C : Callee} (hC : CSound E C) {ops : Array Oper} {Q : Exit → Act → World → Prop} {I : Act → Prop} :
    ∀ (l : List Oper) (k : Nat) (σ σ' : Slots) (h h' : Heap) (M : Mem) (a : Act) (w : World), (∀ j, l[j]? = ops[k + j]?) → k + l.length = ops.size → (∀ o ∈ l, ∀ a v, I a → I (a.put o.dst v)) →
      runOps E C lo ops (l.map (·, false)) σ h = some (σ', h') → lo ≤ h.length → SRel M σ a.tmps → a.defers = [] → HSim E B M h w → Evo lo M₀ h₀ w₀ M h w → I a →
      (∀ a' w', Aft E B lo M₀ h₀ w₀ σ' h' a' w' → I a' → Q .normal a' w') → wpOps E.P ops Q (List.range' k l.length) a w
  | [], k, σ, σ', h, h', M, a, w, _, _, _, hr, _, hσ, hd, hs, hev, hi, hQ => by
    simp only [List.map_nil, runOps, Option.some.injEq, Prod.mk.injEq] at hr
    obtain ⟨rfl, rfl⟩ := hr
    exact hQ a w ⟨hd, M, hσ, hs, hev⟩ hi
  | o :: l, k, σ, σ', h, h', M, a, w, hl, hlen, hI, hr, hlo, hσ, hd, hs, hev, hi, hQ => by
    have h0 : ops[k]? = some o := by simpa using (hl 0).symm
    have hl' : ∀ j, l[j]? = ops[k + 1 + j]? := fun j => by have := hl (j + 1); simpa [Nat.add_assoc, Nat.add_comm 1 j] using this
    have hI' : ∀ o ∈ l, ∀ a v, I a → I (a.put o.dst v) := fun o ho => hI o (by simp [ho])
    simp only [List.length_cons, List.range'_succ]
    simp only [List.map_cons, runOps] at hr
    rw [wpOps_cons]
    unfold wpOp
    simp only [h0]
    split at hr
    · rename_i hg
      rw [guard_rel hσ hg]
      simp only [if_true]
      refine .inl ?_
      simp only [Option.bind_eq_some_iff] at hr
      obtain ⟨⟨v, h1⟩, hop, hr⟩ := hr
      refine aop_sound hP hC hs hlo hop (fun x _ => eval_rel hs.glob hσ x) (evalA_func E σ) fun v' w' ho => ?_
      obtain ⟨M1, q1, q2, q3⟩ := ho.weaken (lo' := lo) (by unfold loOf; split <;> omega)
      exact ops_keep hP hC l (k + 1) _ σ' h1 h' M1 _ w' hl' (by simp at hlen; omega) hI' hr (Nat.le_trans hlo q3.len) ((hσ.mono q3.le).put o.dst q1) (by rw [Act.put_defers']; exact hd) q2 (hev.trans q3) (hI o (by simp) a v' hi) hQ
    · rename_i hg
      rw [guard_rel hσ hg]
      simp only [Bool.false_eq_true, if_false]
      exact ops_keep hP hC l (k + 1) _ σ' h h' M _ w hl' (by simp at hlen; omega) hI' hr hlo (hσ.put o.dst (.skip _)) (by rw [Act.put_defers']; exact hd) hs hev (hI o (by simp) a _ hi) hQ
    · cases hr
theorem region_keep (hP : GoodP E.P) {C : Callee} (hC : CSound E C) {id : Nat} {ops : Array Oper} {Q : Exit → Act → World → Prop} {σ σ' : Slots} {h' : Heap} {a : Act} {I : Act → Prop} (hI : ∀ o ∈ ops, ∀ a v, I a → I (a.put o.dst v))
    (hr : runR E C lo ((withStrict E false ops).map (riOf E.P E.live ops)) σ h = some (σ', h')) (hlo : lo ≤ h.length) (hσ : SRel M σ a.tmps) (hd : a.defers = []) (hs : HSim E B M h w) (hi : I a)
    (hQ : ∀ a' w', Aft E B lo M h w σ' h' a' w' → I a' → Q .normal a' w') : (Code.region id ops false).wp E.P Q a w := by
  rw [← run_eq] at hr
  refine wp_region ?_
  rw [List.range_eq_range']
  have := ops_keep (ops := ops) hP hC ops.toList 0 σ σ' h h' M a w (fun j => by rw [Nat.zero_add]; simp) (by rw [Nat.zero_add]; simp) (fun o ho => hI o (Array.mem_toList_iff.1 ho)) (by simpa [withStrict] using hr) hlo hσ hd hs (Evo.refl hs lo) hi hQ
  simpa using this
end

end Go.Proofs.Ytbadgapficfbpaa.Bm
