/-
  A body in pieces: a first part that the machine carries out, a part that is shown by hand, and the rest. Conditions: what is called is sound.
-/
import Derived.Test.YtbadgapficfbpaaBmRng
namespace Go.Proofs.Ytbadgapficfbpaa.Bm
open Go Go.RowKit

/-- The first items of a sequence, and what is left. -/
def headC : Nat → Code → Code
  | 0, _ => .skip
  | n + 1, .seq a b => .seq a (headC n b)
  | _ + 1, _ => .skip
def tailC : Nat → Code → Code
  | 0, c => c
  | n + 1, .seq _ b => tailC n b
  | _, c => c

section
variable {E : Env} {B lo : Nat}

theorem L_keep (hO : OrcKeep E) : KeepC (L E) := fun f args h lo v h' hr => by
  obtain ⟨n, hn⟩ := L_some.1 hr
  exact evF_keep hO n _ _ _ _ _ _ hn
theorem LL_sound {c : Code} {b : Body} (hb : BSound E B lo c b) (k : List Nat × List Nat) : BSound E B lo (.loop c) (LL k b) := fun σ h e σ' h' hr => by
  obtain ⟨n, hn⟩ := LL_some.1 hr
  exact loop_sound hb k n _ _ _ _ _ hn
theorem LL_keep {k : List Nat × List Nat} {b : Body} (hb : KeepB lo b) : KeepB lo (LL k b) := fun σ h e σ' h' hl hr => by
  obtain ⟨n, hn⟩ := LL_some.1 hr
  exact evLoop_keep k b hb n _ _ _ _ _ hl hn

theorem code_sound (hP : OkProg E.P) (hO : OrcSound E) {f : FuncId} {c : Code} (hc : okCode c = true) : BSound E B lo c (evG E f (L E) LL lo c) :=
  evG_sound hP.mixed hP.good (L_sound hP hO) (L_keep hO.keep) (fun _ _ k hb => LL_sound hb k) (fun _ _ hb => LL_keep hb) c hc

theorem head_sound (hP : OkProg E.P) (hO : OrcSound E) {f : FuncId} {Q : Exit → Act → World → Prop} : ∀ (n : Nat) (c : Code), okCode (headC n c) = true → ∀ σ h e σ' h', evG E f (L E) LL lo (headC n c) σ h = some (e, σ', h') → lo ≤ h.length →
    ∀ M w (a : Act), SRel M σ a.tmps → a.defers = [] → HSim E B M h w → (∀ a' w', Aft E B lo M h w σ' h' a' w' → Exit.then ((tailC n c).wp E.P Q) Q e a' w') → c.wp E.P Q a w := by
  intro n
  induction n with
  | zero =>
    intro c _ σ h e σ' h' hr hlo M w a hσ hd hs hQ
    simp only [headC, evG, Option.some.injEq, Prod.mk.injEq] at hr
    obtain ⟨rfl, rfl, rfl⟩ := hr
    exact hQ a w ⟨hd, M, hσ, hs, Evo.refl hs lo⟩
  | succ n ih =>
    intro c
    cases c with
    | seq x y =>
      intro hok σ h e σ' h' hr hlo M w a hσ hd hs hQ
      simp only [headC, okCode, Bool.and_eq_true] at hok
      simp only [headC, evG, Option.bind_eq_some_iff] at hr
      obtain ⟨⟨e1, σ1, h1⟩, hx, hr⟩ := hr
      refine wp_seq (code_sound hP hO hok.1 _ _ _ _ _ hx hlo M w a hσ hd hs _ fun a' w' haft => ?_)
      obtain ⟨hd', M₁, q1, q2, q3⟩ := haft
      cases e1 <;> simp only [Option.some.injEq, Prod.mk.injEq] at hr
      case normal => exact ih y hok.2 _ _ _ _ _ hr (Nat.le_trans hlo q3.len) M₁ w' a' q1 hd' q2 fun a'' w'' haft => hQ a'' w'' (haft.trans q3)
      all_goals
        obtain ⟨rfl, rfl, rfl⟩ := hr
        exact hQ a' w' ⟨hd', M₁, q1, q2, q3⟩
    | _ =>
      intro _ σ h e σ' h' hr hlo M w a hσ hd hs hQ
      simp only [headC, evG, Option.some.injEq, Prod.mk.injEq] at hr
      obtain ⟨rfl, rfl, rfl⟩ := hr
      exact hQ a w ⟨hd, M, hσ, hs, Evo.refl hs lo⟩

/-- A call that begins with nothing of the heap, and of whose result a tree is made. -/
theorem calls_tree {M : Mem} {h : Heap} {w : World} {f : FuncId} {args' : Array Value} {r : Value} (hs : HSim E B M h w)
    (hc : Calls E.P f args' w fun e w' => ∃ v', e = .returned v' ∧ ∃ v h'', Out E w.heap.size 0 ⟨fun _ => none, M.phi⟩ [] w v h'' v' w' ∧ reify E.P depth h'' v = some r) :
    Calls E.P f args' w fun e w' => ∃ v', e = .returned v' ∧ Out E B lo M h w r h v' w' := by
  refine hc.mono ?_
  rintro e w' ⟨v', rfl, v, h'', ⟨M2, k1, k2, k3⟩, hr⟩
  have noHad : ∀ b, ¬ Had 0 ⟨fun _ => none, M.phi⟩ [] b := by
    rintro b ⟨o, l, _, hl, _⟩; cases hl
  have past : Past w w' := ⟨k3.os, k3.tape, k3.output, k3.size, fun b hb => k3.block b hb (noHad b)⟩
  have st : Still M2 h'' w' (after M.phi w w') := by
    refine ⟨fun b x u hu => ?_, fun o l hl ha hr x u hu => ?_⟩
    · unfold after
      split
      · rename_i hb
        rcases k3.fro b x u hu with h | h | h
        · exact h
        · omega
        · exact absurd h (noHad b)
      · exact k2.phi b x u hu
    · unfold after
      rw [if_neg (by have := ((k2.dom o l hl).2 hr).1; omega)]
      exact hu
  have hrr := reify_sound k2 st _ _ _ _ hr k1
  have h3 : ∀ b x, b < w.heap.size → after M.phi w w' b x = M.phi b x := fun b x hb => by simp [after, hb]
  have h1 : ∀ b x v, M.phi b x = some v → after M.phi w w' b x = some v := fun b x v hv => by
    rw [h3 b x (cell_lt (hs.phi b x v hv))]; exact hv
  have hcell : ∀ b x v, after M.phi w w' b x = some v → w'.cell? ⟨b, x, none⟩ = some v := fun b x v hv => by
    by_cases hb : b < w.heap.size
    · rw [h3 b x hb] at hv
      have h0 := hs.phi b x v hv
      rw [← h0]; exact World.cell?_of_block (past.block b hb)
    · simpa [after, hb] using hv
  exact ⟨v', rfl, ⟨M.obj, after M.phi w w'⟩, TRel.toV (M := ⟨M.obj, after M.phi w w'⟩) hrr, hs.past past h1 hcell h3, Evo.past hs past h1 h3 lo⟩

/-- Where such a call begins. -/
theorem HSim.bare {M : Mem} {h : Heap} {w : World} (hs : HSim E B M h w) : HSim E w.heap.size ⟨fun _ => none, M.phi⟩ [] w :=
  ⟨fun g v hg => .tree _ _ _ _ (hs.glob g v hg).treeSome, hs.phi, fun o l hl => (by cases hl), Nat.le_refl _, fun o l hl => (by cases hl), fun o l t c g hl => (by cases hl), fun o l es ck hl => (by cases hl), fun o₁ o₂ l₁ l₂ hl => (by cases hl)⟩

/-- The slots as a body begins. -/
theorem pad_rel {M : Mem} {args : List Value} {args' : Array Value} {n : Nat} (hargs : VRels M args args'.toList) : SRel M (args ++ List.replicate (n - args.length) undef) (args' ++ Array.replicate (n - args'.size) undef) := by
  have hl : args.length = args'.size := by simpa using hargs.1
  refine ⟨by simp [hl], fun i u u' hu hu' => ?_⟩
  by_cases hi : i < args.length
  · rw [List.getElem?_append_left hi] at hu
    rw [Array.getElem?_append_left (by omega)] at hu'
    exact hargs.2 i u u' hu (by simpa using hu')
  · rw [List.getElem?_append_right (Nat.le_of_not_lt hi), List.getElem?_replicate] at hu
    split at hu
    · cases hu; exact .top _
    · cases hu
end

end Go.Proofs.Ytbadgapficfbpaa.Bm
