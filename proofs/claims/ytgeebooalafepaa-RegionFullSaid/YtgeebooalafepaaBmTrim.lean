/-
  Objects that nothing refers to are given up: what is left still stands for memory. Conditions: none.
-/
import Derived.Test.YtgeebooalafepaaBmPrep
namespace Go.Proofs.Ytgeebooalafepaa.Bm
open Go Go.RowKit

/-- Only the first objects. -/
def Mem.cut (M : Mem) (n : Nat) : Mem := ⟨fun o => if o < n then M.obj o else none, M.phi⟩

section
variable {E : Env} {B lo : Nat} {M M' : Mem} {h h' : Heap} {w w' : World}

theorem cut_some {n o : Nat} {l : Loc} (h : (M.cut n).obj o = some l) : o < n ∧ M.obj o = some l := by
  unfold Mem.cut at h
  simp only at h
  split at h
  · exact ⟨‹_›, h⟩
  · cases h
theorem cut_of {n o : Nat} {l : Loc} (ho : o < n) (h : M.obj o = some l) : (M.cut n).obj o = some l := by simp [Mem.cut, ho, h]
theorem cut_le {n m : Nat} (h : n ≤ m) : (M.cut n).Le (M.cut m) :=
  ⟨fun _ l hl => ⟨l, cut_of (Nat.lt_of_lt_of_le (cut_some hl).1 h) (cut_some hl).2, .refl l⟩, fun _ _ _ h => h⟩
theorem cut_all {n : Nat} : (M.cut n).Le M := ⟨fun _ l hl => ⟨l, (cut_some hl).2, .refl l⟩, fun _ _ _ h => h⟩
theorem cut_eq {n : Nat} (h : ∀ o l, M.obj o = some l → o < n) : M.cut n = M := by
  unfold Mem.cut
  congr 1
  funext o
  split
  · rfl
  · cases hm : M.obj o with
    | none => rfl
    | some l => exact absurd (h o l hm) ‹_›

theorem VRel.cutTo {v v' : Value} (hv : VRel M v v') {n : Nat} : ∀ {d : Nat}, Bm.below d n v = true → VRel (M.cut n) v v' := by
  induction hv with
  | top v => intro d _; exact .top v
  | skip k => intro d _; exact .skip k
  | atom v h => intro d _; exact .atom v h
  | ptr a a' h =>
    intro d hb
    cases d <;> simp [Bm.below] at hb
    obtain ⟨l, h1, h2⟩ := h
    exact .ptr a a' ⟨l, cut_of hb h1, h2⟩
  | slice a a' len cap cap' hl h =>
    intro d hb
    cases d <;> simp [Bm.below] at hb
    obtain ⟨l, h1, h2⟩ := h
    exact .slice a a' len cap cap' hl ⟨l, cut_of hb h1, h2⟩
  | empty a k l hs h hg hk =>
    intro d hb
    cases d <;> simp [Bm.below] at hb
    exact .empty a k l hs (cut_of hb h) hg hk
  | map r l h hg =>
    intro d hb
    cases d <;> simp [Bm.below] at hb
    exact .map r l (cut_of hb h) hg
  | func fn x x' y y' hx hy h k ih ik =>
    intro d hb
    cases d with
    | zero => simp [Bm.below] at hb
    | succ d =>
      obtain ⟨x⟩ := x
      obtain ⟨y⟩ := y
      simp only [Bm.below, Bool.and_eq_true, List.all_eq_true] at hb
      exact .func fn _ x' _ y' hx hy (fun i u u' hu hu' => ih i u u' hu hu' (hb.1 u (List.mem_of_getElem? (by simpa using hu)))) fun i u u' hu hu' => ik i u u' hu hu' (hb.2 u (List.mem_of_getElem? (by simpa using hu)))
  | iface t v v' _ ih =>
    intro d hb
    cases d with
    | zero => simp [Bm.below] at hb
    | succ d => exact .iface t v v' (ih (by simpa [Bm.below] using hb))
  | agg x x' hx h1 h ih =>
    intro d hb
    cases d with
    | zero => simp [Bm.below] at hb
    | succ d =>
      obtain ⟨x⟩ := x
      simp only [Bm.below, List.all_eq_true] at hb
      exact .agg _ x' hx h1 fun i u u' hu hu' => ih i u u' hu hu' (hb u (List.mem_of_getElem? (by simpa using hu)))
  | tuple x x' hx h ih =>
    intro d hb
    cases d with
    | zero => simp [Bm.below] at hb
    | succ d =>
      obtain ⟨x⟩ := x
      simp only [Bm.below, List.all_eq_true] at hb
      exact .tuple _ x' hx fun i u u' hu hu' => ih i u u' hu hu' (hb u (List.mem_of_getElem? (by simpa using hu)))
  | tree n x y v' h => intro d _; exact .tree n x y v' h

theorem alive_take {n o : Nat} (ha : alive (h.take n) o) : alive h o := by
  obtain ⟨x, hx, hx'⟩ := ha
  rw [List.getElem?_take] at hx
  split at hx
  · exact ⟨x, hx, hx'⟩
  · cases hx

theorem HSim.take (hs : HSim E B M h w) {n : Nat} (hb : (h.take n).all (belowO n) = true) : HSim E B (M.cut n) (h.take n) w := by
  rw [List.all_eq_true] at hb
  have up : ∀ {o x}, (h.take n)[o]? = some x → h[o]? = some x := fun {o x} hx => by
    rw [List.getElem?_take] at hx
    split at hx
    · exact hx
    · cases hx
  refine ⟨fun g v hg => .tree _ _ _ _ (hs.glob g v hg).treeSome, hs.phi, fun o l hl ha hr x => hs.sep o l (cut_some hl).2 (alive_take ha) hr x, hs.base, fun o l hl => ?_, fun o l t c g hl ho => ?_, fun o l es ck hl ho => ?_,
    fun o₁ o₂ l₁ l₂ h1 h2 h3 h4 => hs.inj o₁ o₂ l₁ l₂ (cut_some h1).2 (cut_some h2).2 (alive_take h3) (alive_take h4)⟩
  · obtain ⟨h1, h2⟩ := cut_some hl
    obtain ⟨h3, h4⟩ := hs.dom o l h2
    exact ⟨by simp; omega, h4⟩
  · obtain ⟨q1, q2, q3, q4⟩ := hs.obj o l t c g (cut_some hl).2 (up ho)
    refine ⟨q1, q2, q3, fun hr => ?_⟩
    obtain ⟨cs, ty, r1, r2, r3, r4⟩ := q4 hr
    refine ⟨cs, ty, r1, r2, r3, fun j v hv => ⟨(r4 j v hv).1, ?_⟩⟩
    obtain ⟨v', k1, k2⟩ := (r4 j v hv).2
    have hbo := hb _ (List.mem_of_getElem? ho)
    simp only [belowO, List.all_eq_true] at hbo
    exact ⟨v', k1, k2.cutTo (hbo v (List.mem_of_getElem? hv))⟩
  · obtain ⟨q1, es', q2, q3, q4⟩ := hs.mp o l es ck (cut_some hl).2 (up ho)
    refine ⟨q1, es', q2, q3, fun i e he => ?_⟩
    obtain ⟨e', r1, r2, r3, r4⟩ := q4 i e he
    have hbo := hb _ (List.mem_of_getElem? ho)
    simp only [belowO, List.all_eq_true, Bool.and_eq_true] at hbo
    exact ⟨e', r1, r2, r3.cutTo (hbo e (List.mem_of_getElem? he)).2, r4⟩

theorem trim_sound (hs : HSim E B M h w) (hs' : HSim E B M' h' w') (ev : Evo lo M h w M' h' w') (hlo : lo ≤ h.length) (vs : List Value) :
    ∃ M₂, HSim E B M₂ (trim h.length vs h') w' ∧ Evo lo M h w M₂ (trim h.length vs h') w' ∧ ∀ v ∈ vs, ∀ v', VRel M' v v' → VRel M₂ v v' := by
  unfold trim
  split
  · exact ⟨M', hs', ev, fun _ _ _ h => h⟩
  · split
    · rename_i hb
      rw [Bool.and_eq_true, List.all_eq_true] at hb
      refine ⟨M'.cut h.length, hs'.take hb.2, ⟨ev.os, ev.tape, ev.output, ev.size, ev.block, by rw [List.length_take]; exact Nat.le_min.2 ⟨Nat.le_refl _, ev.len⟩, fun o ho => ?_, fun o ho ha => ev.dead o ho (alive_take ha), fun o ho => ?_, ?_, fun o ho hn => ?_, fun o l ho hl ha hr => ev.own o l ho (cut_some hl).2 (alive_take ha) hr, ev.fro⟩, fun v hv v' hr => hr.cutTo (hb.1 v hv)⟩
      · rw [List.getElem?_take, if_pos (by omega)]; exact ev.keep o ho
      · rw [← ev.ext o ho]; simp [Mem.cut]; omega
      · refine ⟨fun o l hl => ?_, ev.le.phi⟩
        obtain ⟨l', h1, h2⟩ := ev.le.obj o l hl
        exact ⟨l', cut_of (hs.lt o l hl) h1, h2⟩
      · have := ev.non o ho hn
        simp [Mem.cut, this]
    · exact ⟨M', hs', ev, fun _ _ _ h => h⟩

end
end Go.Proofs.Ytgeebooalafepaa.Bm
