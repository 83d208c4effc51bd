/-
  From well typed trees to data: what the types say of the cells. Conditions: none.
-/
import Derived.Test.YtgeebooalafepaaBmLaw
namespace Go.Proofs.Ytgeebooalafepaa.Bm
open Go Go.RowKit

def depsT (P : Program) (t : TypeId) : List TypeId := match P.underlying t with
  | some (.slice e) => [e]
  | some (.struct fs) => fs.toList.map (·.type)
  | some (.array _ e) => [e]
  | _ => []
def addT (L : List TypeId) : List TypeId → List TypeId
  | [] => L
  | t :: l => addT (if L.contains t then L else L ++ [t]) l
/-- The types, and all that they are made of. -/
def closeT (P : Program) : Nat → List TypeId → List TypeId
  | 0, L => L
  | n + 1, L => closeT P n (addT L (L.flatMap (depsT P)))

def fsOf (P : Program) (t : TypeId) : Option (List (Nat × TypeId)) := match P.underlying t with
  | some (.struct fs) => some (fs.toList.map fun f => (f.offset, f.type))
  | _ => none

section
variable {P : Program} {n : Nat} {t : TypeId} {c : List Value}

theorem wt_int {k : IntKind} (hu : P.underlying t = some (.int k)) (h : Wt P n t c) : ∃ z, c = [.int k z] ∧ (Lit.int k z).wf = true := by
  cases n with
  | zero => exact h.elim
  | succ n => unfold Wt at h; rw [hu] at h; exact h
theorem wt_bool (hu : P.underlying t = some .bool) (h : Wt P n t c) : ∃ b, c = [.bool b] := by
  cases n with
  | zero => exact h.elim
  | succ n => unfold Wt at h; rw [hu] at h; exact h
theorem wt_str (hu : P.underlying t = some .string) (h : Wt P n t c) : ∃ s : ByteArray, c = [.string s] ∧ s.size ≤ maxLen := by
  cases n with
  | zero => exact h.elim
  | succ n => unfold Wt at h; rw [hu] at h; exact h
theorem wt_slice {e : TypeId} (hu : P.underlying t = some (.slice e)) (h : Wt P n t c) : ∃ ls : List (List Value), c = [lst false (ls.map (elemV P e))] ∧ ls.length ≤ maxLen ∧ ∀ x ∈ ls, ∃ m, Wt P m e x := by
  cases n with
  | zero => exact h.elim
  | succ n =>
    unfold Wt at h; rw [hu] at h
    obtain ⟨ls, h1, h2, h3⟩ := h
    exact ⟨ls, h1, h2, fun x hx => ⟨n, h3 x hx⟩⟩
theorem wt_struct {L : List (Nat × TypeId)} (hu : fsOf P t = some L) (h : Wt P n t c) : c.length = P.cellsOf t ∧ ∀ x ∈ L, ∃ m, Wt P m x.2 ((c.drop x.1).take (P.cellsOf x.2)) := by
  cases n with
  | zero => exact h.elim
  | succ n =>
    unfold fsOf at hu
    unfold Wt at h
    cases hd : P.underlying t with
    | none => rw [hd] at hu; cases hu
    | some d =>
      rw [hd] at hu h
      cases d <;> try (cases hu; done)
      simp only [Option.some.injEq] at hu
      subst hu
      refine ⟨h.1, fun x hx => ?_⟩
      obtain ⟨f, hf, rfl⟩ := List.mem_map.1 hx
      exact ⟨n, h.2 f hf⟩

theorem choose_list {α : Type} {cells : α → List Value} {Q : α → Prop} : ∀ (ls : List (List Value)), (∀ x ∈ ls, ∃ a, x = cells a ∧ Q a) → ∃ as : List α, ls = as.map cells ∧ ∀ a ∈ as, Q a
  | [], _ => ⟨[], rfl, fun a h => by simp at h⟩
  | x :: ls, h => by
    obtain ⟨a, h1, h2⟩ := h x (by simp)
    obtain ⟨as, k1, k2⟩ := choose_list ls fun y hy => h y (by simp [hy])
    refine ⟨a :: as, by simp [h1, k1], fun b hb => ?_⟩
    rcases List.mem_cons.1 hb with e | e
    · rw [e]; exact h2
    · exact k2 b e

/-- A list of strings. -/
theorem wt_strs {e : TypeId} (hu : P.underlying t = some (.slice e)) (he : P.underlying e = some .string) (h : Wt P n t c) : ∃ l : List ByteArray, c = [lst false (l.map .string)] ∧ l.length ≤ maxLen ∧ ∀ s ∈ l, s.size ≤ maxLen := by
  obtain ⟨ls, rfl, h2, h3⟩ := wt_slice hu h
  obtain ⟨as, rfl, k2⟩ := choose_list (cells := fun s => [Value.string s]) (Q := fun s : ByteArray => s.size ≤ maxLen) ls fun x hx => by
    obtain ⟨m, hm⟩ := h3 x hx
    exact wt_str he hm
  refine ⟨as, ?_, by simpa using h2, k2⟩
  have ha : aggT P e = some false := by unfold aggT; rw [he]; rfl
  rw [List.map_map]
  congr 2
  apply List.map_congr_left
  intro x _
  simp [elemV, ha]
/-- A list of integers. -/
theorem wt_ints {k : IntKind} {e : TypeId} (hu : P.underlying t = some (.slice e)) (he : P.underlying e = some (.int k)) (h : Wt P n t c) : ∃ l : List Int, c = [lst false (l.map (.int k))] ∧ l.length ≤ maxLen ∧ ∀ z ∈ l, (Lit.int k z).wf = true := by
  obtain ⟨ls, rfl, h2, h3⟩ := wt_slice hu h
  obtain ⟨as, rfl, k2⟩ := choose_list (cells := fun z => [Value.int k z]) (Q := fun z : Int => (Lit.int k z).wf = true) ls fun x hx => by
    obtain ⟨m, hm⟩ := h3 x hx
    exact wt_int he hm
  refine ⟨as, ?_, by simpa using h2, k2⟩
  have ha : aggT P e = some false := by unfold aggT; rw [he]; rfl
  rw [List.map_map]
  congr 2
  apply List.map_congr_left
  intro x _
  simp [elemV, ha]
/-- Any list. -/
theorem wt_list {e : TypeId} (hu : P.underlying t = some (.slice e)) (h : Wt P n t c) : ∃ l : List Value, c = [lst false l] ∧ l.length ≤ maxLen := by
  obtain ⟨ls, rfl, h2, _⟩ := wt_slice hu h
  exact ⟨_, rfl, by simpa using h2⟩

theorem i64_wf {z : Int} (h : (Lit.int .i64 z).wf = true) : -9223372036854775808 ≤ z ∧ z ≤ 9223372036854775807 := by
  simpa [Lit.wf, IntKind.min, IntKind.max, IntKind.signed, IntKind.bits] using h
theorem u16_wf {z : Int} (h : (Lit.int .u16 z).wf = true) : 0 ≤ z ∧ z ≤ 65535 := by
  simpa [Lit.wf, IntKind.min, IntKind.max, IntKind.signed, IntKind.bits] using h

end

/-- What is asked of a program's functions, as a test. -/
def okFuncs (P : Program) : Bool := P.funcs.toList.all fun fn => !(fn.name == "runtime.NumGoroutine") && (fn.body.all okCode)
theorem okProg_of {P : Program} (h1 : P.follows .mixedOrders = true) (h2 : okFuncs P = true) : OkProg P := by
  unfold okFuncs at h2
  rw [List.all_eq_true] at h2
  refine ⟨h1, fun f fn hf _ => ?_, fun f fn c hf hb => ?_⟩
  · have := h2 fn (Array.mem_toList_iff.2 (Array.mem_of_getElem? hf))
    simp only [Bool.and_eq_true, Bool.not_eq_true'] at this
    exact this.1
  · have := h2 fn (Array.mem_toList_iff.2 (Array.mem_of_getElem? hf))
    simp only [Bool.and_eq_true, hb] at this
    exact this.2
theorem noOrc {E : Env} (h : ∀ f, E.orc f = none) : OrcSound E :=
  ⟨fun f g hg => (by rw [h] at hg; cases hg), fun f g hg => (by rw [h] at hg; cases hg), fun f g hg => (by rw [h] at hg; cases hg)⟩

end Go.Proofs.Ytgeebooalafepaa.Bm
