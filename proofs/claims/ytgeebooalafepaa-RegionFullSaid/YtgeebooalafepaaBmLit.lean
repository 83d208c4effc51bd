/-
  Slice literals of several elements, and what a row of structs is as a list. Conditions: as each says.
-/
import Derived.Test.YtgeebooalafepaaBmUse
namespace Go.Proofs.Ytgeebooalafepaa.Bm
open Go Go.RowKit

theorem fold_set (off : Nat) : ∀ (l : List Value) (k : Nat) (a : Array Value), off + k + l.length ≤ a.size →
    ((l.zipIdx k).foldl (fun cs (c, j) => cs.setIfInBounds (off + j) c) a).toList = a.toList.take (off + k) ++ l ++ a.toList.drop (off + k + l.length)
  | [], k, a, _ => by simp
  | v :: l, k, a, h => by
    simp only [List.length_cons] at h
    rw [List.zipIdx_cons, List.foldl_cons, fold_set off l (k + 1) _ (by simp; omega)]
    simp only [Array.toList_setIfInBounds, List.length_cons]
    rw [show off + (k + 1) = (off + k) + 1 by omega, List.take_add_one, List.drop_set_of_lt (by omega)]
    rw [List.take_set_of_le (by omega), List.getElem?_set_self (by simp; omega)]
    simp [Nat.add_assoc, Nat.add_comm, Nat.add_left_comm]

/-- The elements stand one after another. -/
def litOk (s : Nat) : Nat → List (Nat × Value) → Bool
  | _, [] => true
  | k, (i, u) :: l => i == k && ((cellsL u).length == s && (okPart u && litOk s (k + 1) l))
theorem litOk_nil {s k : Nat} : litOk s k [] = true := rfl
theorem litOk_cons {s k i : Nat} {u : Value} {l : List (Nat × Value)} : litOk s k ((i, u) :: l) = (i == k && ((cellsL u).length == s && (okPart u && litOk s (k + 1) l))) := rfl
theorem okPart_agg {c : Array Value} : okPart (.agg c) = true := rfl

theorem cells_list (u : Value) : u.cells.toList = cellsL u := by cases u <;> rfl

theorem fill_lit (s : Nat) : ∀ (l : List (Nat × Value)) (k : Nat) (a : Array Value), litOk s k l = true → a.size = (k + l.length) * s →
    Instr.fill (fun j => some (j * s, s)) a l = some ⟨a.toList.take (k * s) ++ l.flatMap fun p => cellsL p.2⟩
  | [], k, a, _, ha => by
    simp only [List.length_nil, Nat.add_zero] at ha
    simp only [Instr.fill, List.flatMap_nil, List.append_nil]
    rw [List.take_of_length_le (by simp [ha])]
  | (i, u) :: l, k, a, h, ha => by
    rw [litOk_cons] at h
    simp only [Bool.and_eq_true, beq_iff_eq] at h
    obtain ⟨rfl, h2, _, h4⟩ := h
    simp only [List.length_cons] at ha
    have hs : u.cells.size = s := by rw [← Array.length_toList, cells_list]; exact h2
    have e1 : (i + (l.length + 1)) * s = i * s + s + l.length * s := by rw [Nat.add_mul, Nat.add_mul]; omega
    unfold Instr.fill
    simp only
    rw [if_neg (by simp [hs]; omega)]
    have hfold : (u.cells.zipIdx.foldl (fun cs (c, j) => cs.setIfInBounds (i * s + j) c) a) = ⟨a.toList.take (i * s) ++ cellsL u ++ a.toList.drop (i * s + s)⟩ := by
      have e := fold_set (i * s) u.cells.toList 0 a (by simp [hs]; omega)
      rw [← Array.toList_zipIdx, Array.foldl_toList] at e
      simp only [Nat.add_zero] at e
      rw [Array.length_toList, hs] at e
      rw [cells_list] at e
      rw [← e]
    rw [hfold, fill_lit s l (i + 1) _ h4]
    · simp only [List.flatMap_cons]
      congr 2
      rw [← List.append_assoc]
      congr 1
      rw [show (i + 1) * s = i * s + s by rw [Nat.add_mul]; omega]
      rw [List.take_append_of_le_length (by simp [h2]; omega)]
      rw [List.take_of_length_le (by simp [h2]; omega)]
    · simp [h2]
      have e2 : (i + 1 + l.length) * s = i * s + s + l.length * s := by rw [Nat.add_mul, Nat.add_mul]; omega
      omega

section
variable {E : Env} {h : Heap}
theorem litOk_all {s : Nat} : ∀ {l : List (Nat × Value)} {k : Nat}, litOk s k l = true → l.all (fun p => okPart p.2) = true
  | [], _, _ => rfl
  | (i, u) :: l, k, hl => by
    rw [litOk_cons] at hl
    simp only [Bool.and_eq_true] at hl
    simp only [List.all_cons, Bool.and_eq_true]
    exact ⟨hl.2.2.1, litOk_all hl.2.2.2⟩

/-- A literal of 'n' elements. -/
theorem build_lit {el : El} {lv : Bool} {n : Nat} {l : List (Nat × Value)} (hl : litOk el.size 0 l = true) (hn : l.length = n) (h0 : n * el.size ≠ 0) (hb : n * el.size ≤ 16777216) (hz : el.z.cells.size ≠ 0) :
    buildSliceT (some el) lv h n ⟨l⟩ = if lv = true ∧ (l.flatMap fun p => cellsL p.2).length ≠ 0 then some (.slice (some ⟨h.length, 0, some (l.flatMap fun p => cellsL p.2).length⟩) n n, h ++ [.cells el.e (l.flatMap fun p => cellsL p.2) el.size]) else
      if (l.flatMap fun p => cellsL p.2).all (settled 8) = true then (elemsT el.k n (l.flatMap fun p => cellsL p.2)).map fun x => (lst true x, h) else some (.slice (some ⟨h.length, 0, none⟩) n n, h ++ [.cells el.e (l.flatMap fun p => cellsL p.2) 0]) := by
  unfold buildSliceT
  have ho := litOk_all hl
  simp only [Option.bind_some]
  rw [if_neg (by simp only [ho, Bool.not_true, Bool.false_eq_true, or_false]; rintro (h1 | h1); · omega
                 · exact hz h1.2), if_neg h0, fill_lit _ _ _ _ hl (by simp [zeros, hn])]
  generalize (l.flatMap fun p => cellsL p.2) = cs
  simp only [Nat.zero_mul, List.take_zero, List.nil_append, Option.bind_some, depth, Bool.and_eq_true, bne_iff_ne, List.size_toArray, ne_eq]
  rfl

theorem build_lit' {el : El} {lv : Bool} {n : Nat} {l : List (Nat × Value)} (hl : litOk el.size 0 l = true) (hn : l.length = n) (h0 : n * el.size ≠ 0) (hb : n * el.size ≤ 16777216) (hz : el.z.cells.size ≠ 0) :
    buildSliceT (some el) lv h n l.toArray = if lv = true ∧ (l.flatMap fun p => cellsL p.2).length ≠ 0 then some (.slice (some ⟨h.length, 0, some (l.flatMap fun p => cellsL p.2).length⟩) n n, h ++ [.cells el.e (l.flatMap fun p => cellsL p.2) el.size]) else
      if (l.flatMap fun p => cellsL p.2).all (settled 8) = true then (elemsT el.k n (l.flatMap fun p => cellsL p.2)).map fun x => (lst true x, h) else some (.slice (some ⟨h.length, 0, none⟩) n n, h ++ [.cells el.e (l.flatMap fun p => cellsL p.2) 0]) :=
  build_lit hl hn h0 hb hz
theorem build_none {el : El} {lv : Bool} : buildSliceT (some el) lv h 0 ⟨[]⟩ = (elemsT el.k 0 []).map fun x => (lst true x, h) := by
  unfold buildSliceT
  simp only [Option.bind_some]
  rw [if_neg (by simp)]
  simp [Instr.fill]

theorem build_none' {el : El} {lv : Bool} : buildSliceT (some el) lv h 0 #[] = (elemsT el.k 0 []).map fun x => (lst true x, h) := build_none

theorem elemsT_one {n : Nat} {cs : List Value} : elemsT ⟨some false, some 1⟩ n cs = some cs := rfl
theorem elemsT_agg {n s : Nat} {cs : List Value} : elemsT ⟨some true, some s⟩ n cs = some (chunk s n cs) := rfl

/-! ### Rows that become lists -/

variable {P : Program} {lo n : Nat}
theorem frz_row1 {a : Addr} {t : TypeId} {c l : List Value} {g s len cap : Nat} (ho : h[a.block]? = some (.cells t c g)) (hs : szOf P t = some s) (h1 : lo ≤ a.block) (h2 : stampOk a.spot g c.length = true) (h3 : 0 < s) (h4 : a.off + len * s ≤ c.length)
    (h5 : ((c.drop a.off).take (len * s)).all (settled 8) = true) (h6 : elemsOf P t len ((c.drop a.off).take (len * s)) = some l) (h7 : len = l.length) :
    freezeV P (n + 1) lo h (.slice (some a) len cap) = some (lst false l, if len = 0 then h else h.set a.block .dead) := by
  by_cases h0 : len = 0
  · have : l = [] := List.eq_nil_of_length_eq_zero (by omega)
    subst this; subst h0; rfl
  · rw [if_neg h0]
    show (if len = 0 then _ else _) = _
    rw [if_neg h0, ho]
    show (szOf P t).bind _ = _
    rw [hs, Option.bind_some, if_pos ⟨h1, h2, h3, h4⟩]
    show Option.bind (if ((c.drop a.off).take (len * s)).all (settled 8) = true then _ else _) _ = _
    rw [if_pos h5, Option.bind_some, h6]
    rfl

theorem frz_one1 {b k len cap : Nat} {t : TypeId} {l : List Value} (ho : h[b]? = some (.cells t l 1)) (hs : szOf P t = some 1) (ha : aggT P t = some false) (h1 : lo ≤ b) (hk : k = l.length) (hn : len = l.length) (h5 : l.all (settled 8) = true) :
    freezeV P (n + 1) lo h (.slice (some ⟨b, 0, some k⟩) len cap) = some (lst false l, if len = 0 then h else h.set b .dead) := by
  subst hk; subst hn
  have e : (l.drop 0).take (l.length * 1) = l := by simp
  exact frz_row1 ho hs h1 (by simp [stampOk]) Nat.one_pos (by simp) (by rw [e]; exact h5) (by rw [e]; exact elems_one ha hs) rfl

theorem chunk_flat {s : Nat} : ∀ {l : List Value}, (∀ v ∈ l, ∃ cs, v = .agg ⟨cs⟩ ∧ cs.length = s) → chunk s l.length (l.flatMap cellsL) = l
  | [], _ => rfl
  | v :: l, hl => by
    obtain ⟨cs, rfl, hc⟩ := hl v (by simp)
    have ih := chunk_flat (l := l) fun v hv => hl v (by simp [hv])
    have e : (Value.agg ⟨cs⟩ :: l).flatMap cellsL = cs ++ l.flatMap cellsL := rfl
    rw [e]
    show Value.agg ⟨(cs ++ l.flatMap cellsL).take s⟩ :: chunk s l.length ((cs ++ l.flatMap cellsL).drop s) = _
    rw [← hc, List.take_left', List.drop_left', hc, ih]
    · rfl
    · rfl

theorem flat_len {s : Nat} : ∀ {l : List Value}, (∀ v ∈ l, ∃ cs, v = .agg ⟨cs⟩ ∧ cs.length = s) → (l.flatMap cellsL).length = l.length * s
  | [], _ => by simp
  | v :: l, hl => by
    obtain ⟨cs, rfl, hc⟩ := hl v (by simp)
    have ih := flat_len (l := l) fun v hv => hl v (by simp [hv])
    rw [List.flatMap_cons, List.length_append, ih, List.length_cons, Nat.add_mul]
    show cs.length + _ = _
    omega

theorem frz_agg1 {b k len cap g s : Nat} {t : TypeId} {l : List Value} {c : List Value} (ho : h[b]? = some (.cells t c (g + 1))) (hs : szOf P t = some s) (ha : aggT P t = some true) (h1 : lo ≤ b) (hc : c = l.flatMap cellsL) (hk : k = c.length) (hn : len = l.length) (h0 : 0 < s)
    (hl : ∀ v ∈ l, ∃ cs, v = .agg ⟨cs⟩ ∧ cs.length = s) (h5 : c.all (settled 8) = true) :
    freezeV P (n + 1) lo h (.slice (some ⟨b, 0, some k⟩) len cap) = some (lst false l, if len = 0 then h else h.set b .dead) := by
  subst hk; subst hn; subst hc
  have e0 := flat_len hl
  have e : ((l.flatMap cellsL).drop 0).take (l.length * s) = l.flatMap cellsL := by rw [← e0, List.drop_zero, List.take_length]
  refine frz_row1 ho hs h1 (by simp [stampOk]) h0 (by rw [e0]; simp) (by rw [e]; exact h5) ?_ rfl
  rw [e]
  unfold elemsOf
  rw [ha, hs]
  show some (chunk s l.length (l.flatMap cellsL)) = _
  rw [chunk_flat hl]

theorem frz_set1 {v : Value} (h1 : settled 8 v = true) (h2 : one v = true) : freezeV P (n + 1) lo h v = some (v, h) := by
  cases v with
  | pointer p => cases p with
    | none => rfl
    | some a => cases h1
  | slice p n c => cases p with
    | none => rfl
    | some a => cases h1
  | agg _ => cases h2
  | tuple _ => cases h2
  | _ => first | rfl | (show (if settled 8 _ = true then _ else _) = _; rw [if_pos h1])

theorem frz_one8 {b k len cap : Nat} {t : TypeId} {l : List Value} (ho : h[b]? = some (.cells t l 1)) (hs : szOf P t = some 1) (ha : aggT P t = some false) (h1 : lo ≤ b) (hk : k = l.length) (hn : len = l.length) (h5 : l.all (settled 8) = true) :
    freezeV P depth lo h (.slice (some ⟨b, 0, some k⟩) len cap) = some (lst false l, if len = 0 then h else h.set b .dead) := frz_one1 (n := 7) ho hs ha h1 hk hn h5
theorem frz_agg8 {b k len cap g s : Nat} {t : TypeId} {l : List Value} {c : List Value} (ho : h[b]? = some (.cells t c (g + 1))) (hs : szOf P t = some s) (ha : aggT P t = some true) (h1 : lo ≤ b) (hc : c = l.flatMap cellsL) (hk : k = c.length) (hn : len = l.length) (h0 : 0 < s)
    (hl : ∀ v ∈ l, ∃ cs, v = .agg ⟨cs⟩ ∧ cs.length = s) (h5 : c.all (settled 8) = true) :
    freezeV P depth lo h (.slice (some ⟨b, 0, some k⟩) len cap) = some (lst false l, if len = 0 then h else h.set b .dead) := frz_agg1 (n := 7) ho hs ha h1 hc hk hn h0 hl h5
theorem frz_set8 {v : Value} (h1 : settled 8 v = true) (h2 : one v = true) : freezeV P depth lo h v = some (v, h) := frz_set1 (n := 7) h1 h2

/-- A struct that a pointer names. -/
theorem frz_ptr8 {b : Nat} {t : TypeId} {c : List Value} (ho : h[b]? = some (.cells t c 0)) (hs : szOf P t = some c.length) (ha : aggT P t = some true) (h1 : lo ≤ b) :
    freezeV P depth lo h (.pointer (some ⟨b, 0, none⟩)) = (if c.all (settled 8) = true then some (c, h.set b .dead) else
      c.foldlM (init := ([], h.set b .dead)) fun r x => (freezeV P 7 lo r.2 x).map fun y => (r.1 ++ [y.1], y.2)).map fun r => (cptr (.agg ⟨r.1⟩), r.2) := by
  show (match h[b]? with
      | some (.cells t c 0) => _
      | _ => none) = _
  rw [ho]
  show (if _ then _ else _) = _
  rw [if_pos ⟨h1, rfl, rfl, hs⟩]
  show Option.bind (if c.all (settled 8) = true then _ else _) _ = _
  rw [ha]
  cases (if c.all (settled 8) = true then some (c, h.set b .dead) else
      c.foldlM (init := ([], h.set b .dead)) fun r x => (freezeV P 7 lo r.2 x).map fun y => (r.1 ++ [y.1], y.2)) <;> rfl

/-! ### A list that two appends make -/

/-- What stands where elements are appended to the empty list. -/
def rowV (s : Nat) (h : Heap) (R : List Value) : Value := if R = [] then lst true [] else .slice (some ⟨h.length, 0, some (R.length * s)⟩) R.length R.length
def rowH (s : Nat) (t : TypeId) (h : Heap) (R : List Value) : Heap := if R = [] then h else h ++ [.cells t (R.flatMap cellsL) s]
theorem bel_rowV {d m s : Nat} {R : List Value} (hh : h.length < m) : below (d + 1) m (rowV s h R) = true := by
  unfold rowV
  split
  · rfl
  · exact decide_eq_true hh
theorem rowH_get {s t i : Nat} {R : List Value} (hi : i < h.length) : (rowH s t h R)[i]? = h[i]? := by
  unfold rowH
  split
  · rfl
  · rw [List.getElem?_append_left hi]
theorem flat_len' {s : Nat} {l : List Value} (hl : l.all (fun v => (cellsL v).length == s) = true) : (l.flatMap cellsL).length = l.length * s := by
  induction l with
  | nil => simp
  | cons v l ih =>
    simp only [List.all_cons, Bool.and_eq_true, beq_iff_eq] at hl
    rw [List.flatMap_cons, List.length_append, ih hl.2, List.length_cons, hl.1, Nat.add_mul]; omega
theorem app_first {el : El} {x st : Bool} {A : List Value} (hA : A.all (fun v => (cellsL v).length == el.size) = true) (hb : A.length * el.bytes ≤ 2 ^ 47) :
    appendT (some el) h lo st (lst true []) (lst x A) = some (rowV el.size h A, rowH el.size el.e h A) := by
  rw [append_lst, cells_lst hA, Option.bind_some]
  unfold rowV rowH
  by_cases h0 : A = []
  · subst h0; rfl
  · have hn : ¬ A.length = 0 := fun e => h0 (List.eq_nil_of_length_eq_zero e)
    simp only [hn, h0, if_false]
    rw [if_pos ⟨rfl, by simpa using hb⟩]
    simp only [List.flatMap_nil, List.nil_append, List.length_nil, Nat.zero_add, flat_len' hA]
theorem app_second {el : El} {x : Bool} {A B : List Value} (hA : A.all (fun v => (cellsL v).length == el.size) = true) (hB : B.all (fun v => (cellsL v).length == el.size) = true) (hs : el.size ≠ 0) (hlo : lo ≤ h.length) (hb : (A.length + B.length) * el.bytes ≤ 2 ^ 47) :
    appendT (some el) (rowH el.size el.e h A) lo false (rowV el.size h A) (lst x B) = some (rowV el.size h (A ++ B), rowH el.size el.e h (A ++ B)) := by
  by_cases h0 : A = []
  · subst h0
    have e1 : rowV el.size h [] = lst true [] := rfl
    have e2 : rowH el.size el.e h [] = h := rfl
    rw [e1, e2, List.nil_append]
    exact app_first hB (by simpa using hb)
  · obtain ⟨e, sz, by_, z, k⟩ := el
    simp only at hA hB hs hb ⊢
    obtain ⟨g, rfl⟩ : ∃ g, sz = g + 1 := ⟨sz - 1, by omega⟩
    have hlA := flat_len' hA
    have hlB := flat_len' hB
    have e1 : rowV (g + 1) h A = .slice (some ⟨h.length, 0, some (A.length * (g + 1))⟩) A.length A.length := if_neg h0
    have e2 : rowH (g + 1) e h A = h ++ [.cells e (A.flatMap cellsL) (g + 1)] := if_neg h0
    have e3 : rowV (g + 1) h (A ++ B) = .slice (some ⟨h.length, 0, some ((A ++ B).length * (g + 1))⟩) (A ++ B).length (A ++ B).length := if_neg (by simp [h0])
    have e4 : rowH (g + 1) e h (A ++ B) = h ++ [.cells e ((A ++ B).flatMap cellsL) (g + 1)] := if_neg (by simp [h0])
    rw [e1, e2, e3, e4, append_slice, cells_lst hB]
    simp only [List.getElem?_concat_length]
    by_cases hB0 : B = []
    · subst hB0
      have hf : fitsRow (h ++ [.cells e (A.flatMap cellsL) (g + 1)]) ⟨h.length, 0, some (A.length * (g + 1))⟩ (g + 1) = true := by
        unfold fitsRow
        simp only [List.getElem?_concat_length, stamp_some, hlA, beq_self_eq_true, Bool.or_true, Bool.and_true]
      unfold appS
      simp only [List.flatMap_nil, Option.bind_some, List.length_nil, Nat.add_zero, Nat.le_refl, if_true, hf, List.append_nil]
    · have hn : B.length ≠ 0 := fun e => hB0 (List.eq_nil_of_length_eq_zero e)
      have key := appS_grown (el := ⟨e, g + 1, by_, z, k⟩) (h := h ++ [.cells e (A.flatMap cellsL) (g + 1)]) (lo := lo) (b := h.length) (k := A.length * (g + 1)) (n := A.length) (c := A.length) (g := g) (m := B.length) (t := e) (row := A.flatMap cellsL) (new := B.flatMap cellsL) hn hlA.symm rfl rfl hlA.symm hlo hb
      rw [key]
      simp only [List.length_append, hlA, hlB, Nat.add_mul, List.flatMap_append]
      congr 3
      rw [List.set_append_right _ _ (Nat.le_refl _)]
      simp
/-! ### Parts of lists -/

theorem slice_all {t : TypeId} {g : Option Bool} {s : Nat} {x : Bool} {l : List Value} {a b : Option Value} (hl : l.all (fun v => (cellsL v).length == s) = true) :
    sliceT (.sl t ⟨g, some s⟩) h (lst x l) a b none = (bound b l.length l.length).bind fun u => (bound a u 0).map fun c => lst (x && u == l.length) ((l.take u).drop c) := by
  cases x
  · show (if _ then _ else none) = _
    rw [if_pos ⟨by decide, hl, by simp⟩]; rfl
  · show (if _ then _ else none) = _
    rw [if_pos ⟨by decide, hl, by simp⟩]; rfl
theorem bound_nat {k : IntKind} {n m d : Nat} (hn : n ≤ m) : bound (some (.int k (n : Int))) m d = some n := by
  simp [bound, hn]
theorem bound_no {m d : Nat} : bound none m d = some d := rfl
/-- The first elements. -/
theorem slice_take {t : TypeId} {g : Option Bool} {s : Nat} {x : Bool} {l : List Value} {k : IntKind} {n : Nat} (hl : l.all (fun v => (cellsL v).length == s) = true) (hn : n ≤ l.length) :
    sliceT (.sl t ⟨g, some s⟩) h (lst x l) none (some (.int k n)) none = some (lst (x && n == l.length) (l.take n)) := by
  rw [slice_all hl, bound_nat hn, Option.bind_some, bound_no]; rfl
/-- The last elements. -/
theorem slice_drop {t : TypeId} {g : Option Bool} {s : Nat} {x : Bool} {l : List Value} {k : IntKind} {n : Nat} {z : Int} (hl : l.all (fun v => (cellsL v).length == s) = true) (hz : z = (n : Nat)) (hn : n ≤ l.length) :
    sliceT (.sl t ⟨g, some s⟩) h (lst x l) (some (.int k z)) none none = some (lst x (l.drop n)) := by
  subst hz
  rw [slice_all hl, bound_no, Option.bind_some, bound_nat hn]
  simp
/-! ### Rows that are read and written in place -/

theorem index_slice {e : TypeId} {g : Option Bool} {s len cap : Nat} {a : Addr} {k : IntKind} {i : Int} : indexAddrT (.sl e ⟨g, some s⟩) (.slice (some a) len cap) (.int k i) = if 0 ≤ i ∧ i < len then some (.pointer (some (shift a (i.toNat * s)))) else none := rfl
theorem splice_one {c : List Value} {off : Nat} {v : Value} (h : off < c.length) : splice c off [v] = c.set off v := by
  unfold splice
  rw [List.set_eq_take_append_cons_drop, if_pos h]
  simp
end

end Go.Proofs.Ytgeebooalafepaa.Bm
