/-
  Chapter 06: what is found in columns and strips. Conditions: columns and strips in their form.
-/
import Derived.Test.YtgeebooalafepaaC06b
namespace Go.Proofs.Ytgeebooalafepaa.Bm
open Go Go.RowKit
open Rg (Rect Slab hasS hasS_cons Can canS cellT gapless)

/-! ### Columns -/
theorem canS_get : ∀ {c : List (Int × Int)} {b : Int}, canS b c → ∀ i (hi : i < c.length), b < c[i].1 ∧ c[i].1 < c[i].2
  | [], _, _, i, hi => by simp at hi
  | (f, t) :: c, b, h, 0, _ => ⟨h.1, h.2.1⟩
  | (f, t) :: c, b, h, i + 1, hi => by
    have hi' : i < c.length := by simpa using hi
    have := canS_get h.2.2 i hi'
    have h1 := h.1
    have h2 := h.2.1
    have h3 : b < c[i].1 := by omega
    exact ⟨h3, this.2⟩
theorem canS_two : ∀ {c : List (Int × Int)} {b : Int}, canS b c → ∀ i j (hj : j < c.length) (hij : i < j), (c[i]'(by omega)).2 < c[j].1
  | [], _, _, _, j, hj, _ => by simp at hj
  | (f, t) :: c, b, h, 0, 0, _, hij => by omega
  | (f, t) :: c, b, h, 0, j + 1, hj, _ => (canS_get h.2.2 j (by simpa using hj)).1
  | (f, t) :: c, b, h, i + 1, 0, _, hij => by omega
  | (f, t) :: c, b, h, i + 1, j + 1, hj, hij => canS_two h.2.2 i j (by simpa using hj) (by omega)
theorem can_canS {c : List (Int × Int)} (h : Rg.Can c) : ∃ b, canS b c := by
  obtain ⟨b, hb, _⟩ := Rg.low_ex c []
  exact ⟨b, Rg.canS_ex h b hb⟩
theorem hasS_get {c : List (Int × Int)} {y : Int} : hasS c y = true ↔ ∃ i, ∃ hi : i < c.length, c[i].1 ≤ y ∧ y < c[i].2 := by
  unfold hasS
  rw [List.any_eq_true]
  constructor
  · rintro ⟨s, hs, h⟩
    obtain ⟨i, hi, rfl⟩ := List.mem_iff_getElem.1 hs
    simp only [Bool.and_eq_true, decide_eq_true_eq] at h
    exact ⟨i, hi, h⟩
  · rintro ⟨i, hi, h⟩
    exact ⟨c[i], List.getElem_mem hi, by simpa using h⟩
def inB (c : List (Int × Int)) (y : Int) : Bool := decide (bs (pspan c y) 0 c.length < c.length) && decide ((c.getD (bs (pspan c y) 0 c.length) (0, 0)).1 ≤ y)
theorem pspan_get {c : List (Int × Int)} {y : Int} {k : Nat} (hk : k < c.length) : pspan c y k = decide (c[k].2 ≤ y) := by
  unfold pspan; rw [List.getD_eq_getElem?_getD, List.getElem?_eq_getElem hk]; rfl
theorem inB_has {c : List (Int × Int)} (h : Rg.Can c) (y : Int) : inB c y = hasS c y := by
  obtain ⟨b, hb⟩ := can_canS h
  have ok := bs_ok (p := pspan c y) (n := c.length) fun i j hij hj hp => by
    rw [pspan_get hj, decide_eq_true_eq] at hp
    rw [pspan_get (by omega), decide_eq_true_eq]
    by_cases e : i = j
    · subst e; exact hp
    · have := canS_two hb i j hj (by omega)
      have := (canS_get hb j hj).2
      omega
  unfold inB
  generalize bs (pspan c y) 0 c.length = m at ok ⊢
  obtain ⟨hm, ok⟩ := ok
  rw [Bool.eq_iff_iff, hasS_get]
  simp only [Bool.and_eq_true, decide_eq_true_eq]
  constructor
  · rintro ⟨h1, h2⟩
    rw [List.getD_eq_getElem?_getD, List.getElem?_eq_getElem h1] at h2
    refine ⟨m, h1, h2, ?_⟩
    have := ok m h1
    rw [pspan_get h1, decide_eq_true_eq] at this
    omega
  · rintro ⟨k, hk, h1, h2⟩
    have := ok k hk
    rw [pspan_get hk, decide_eq_true_eq] at this
    have hmk : m ≤ k := by omega
    have hlt : m < c.length := by omega
    refine ⟨hlt, ?_⟩
    rw [List.getD_eq_getElem?_getD, List.getElem?_eq_getElem hlt]
    show c[m].1 ≤ y
    by_cases e : m = k
    · subst e; exact h1
    · have := canS_two hb m k hk (by omega)
      have := (canS_get hb m hlt).2
      omega

/-! ### Columns that may be wanting -/
def colX : Option (List (Int × Int)) → Value
  | none => .slice none 0 0
  | some c => lst false (spanR.vals c)
def colL (c : Option (List (Int × Int))) : List (Int × Int) := c.getD []

theorem inside_some (c : List (Int × Int)) (y : Int) (hc : c.length ≤ 1000000) : pureCall E.P (L E) 59 [lst false (spanR.vals c), .int .i64 y] = some (.bool (inB c y)) := by
  have key := span_loop c y hc
  have hle := bs_le (p := pspan c y) (n := c.length) _ 0 c.length rfl (Nat.zero_le _) (Nat.le_refl _)
  have ix : ∀ (i : Nat) (hi : i < c.length), indexAddrT (.sl 59 ⟨some true, some 2⟩) (lst false (spanR.vals c)) (.int .i64 (i : Int)) = some (cptr (spanR.val c[i])) := fun i hi => Rec.index_tree rfl hi
  unfold inB
  rw [pureCall_fn F59 rfl]
  generalize bs (pspan c y) 0 c.length = m at key hle ⊢
  simp -implicitDefEqProofs [r59, padS, ret0 m76, key, Rec.vals_len]
  by_cases hm : m < c.length
  · simp -implicitDefEqProofs [hm, ix m hm, span_val]
  · have : m = c.length := by omega
    simp -implicitDefEqProofs [hm]
theorem span_none (y : Int) : pureCall E.P (L E) 76 [.slice none 0 0, .int .i64 y, .func (.func 77) ⟨[]⟩ ⟨[]⟩] = some (.tuple ⟨[.int .i64 0, .bool false]⟩) := by
  rw [pureCall_fn F76 rfl]
  simp -implicitDefEqProofs [r76, padS]
  rw [LL_rec (α := Unit) () (fun a => []) (fun a => []) (fun a => (.exit 0, [(10, undef)], [])) (fun a => True) (fun a => 0)]
  · simp -implicitDefEqProofs [k76_3]
  · trivial
  · simp
  · rfl
  · intro nx a _ ih
    simp -implicitDefEqProofs [r76_3, k76_3, trim_le]
theorem inside_spec (c : Option (List (Int × Int))) (y : Int) (hc : (colL c).length ≤ 1000000) : pureCall E.P (L E) 59 [colX c, .int .i64 y] = some (.bool (inB (colL c) y)) := by
  cases c with
  | some c => exact inside_some c y hc
  | none =>
    have key := span_none y
    rw [pureCall_fn F59 rfl]
    simp -implicitDefEqProofs [r59, padS, colX, ret0 m76, key]
    simp [inB, colL]

/-! ### Strips -/
def atO (T : List Slab) (x : Int) : Option (List (Int × Int)) :=
  if bs (pslab T x) 0 T.length < T.length then if (T.getD (bs (pslab T x) 0 T.length) ⟨0, 0, []⟩).x0 ≤ x then some (T.getD (bs (pslab T x) 0 T.length) ⟨0, 0, []⟩).col else none else none
theorem at_spec (T : List Slab) (x : Int) (hT : T.length ≤ 1000000) : pureCall E.P (L E) 51 [lst false (slabR.vals T), .int .i64 x] = some (colX (atO T x)) := by
  have key := slab_loop T x hT
  have hle := bs_le (p := pslab T x) (n := T.length) _ 0 T.length rfl (Nat.zero_le _) (Nat.le_refl _)
  have ix : ∀ (i : Nat) (hi : i < T.length), indexAddrT (.sl 61 ⟨some true, some 3⟩) (lst false (slabR.vals T)) (.int .i64 (i : Int)) = some (cptr (slabR.val T[i])) := fun i hi => Rec.index_tree rfl hi
  unfold atO
  rw [pureCall_fn F51 rfl]
  generalize bs (pslab T x) 0 T.length = m at key hle ⊢
  simp -implicitDefEqProofs [r51, padS, ret0 m60, key, Rec.vals_len]
  by_cases hm : m < T.length
  · simp -implicitDefEqProofs [hm, ix m hm, slab_val, colV]
    by_cases hx : T[m].x0 ≤ x <;> simp -implicitDefEqProofs [hx, colX, ix m hm, slab_val, colV]
  · simp -implicitDefEqProofs [hm, colX]
end Go.Proofs.Ytgeebooalafepaa.Bm
