/-
  Chapter 36, plain: the waves keep a certificate; it is complete and least. Conditions: the case is right. No program in sight.
-/
import Derived.Test.YtbadgapficfbpaaC36p
namespace Go.Proofs.Ytbadgapficfbpaa.Bm
open Go Go.RowKit

/-! ### The graph -/

def idxs : List (List Int) → Nat → Int → List Int
  | [], _, _ => []
  | a :: A, i, j => if memI a j then (i : Int) :: idxs A (i + 1) j else idxs A (i + 1) j

theorem getL_add {n i : Nat} {G : List (List Int)} {k j : Int} (hG : G.length = n) (hk : dom n k) (hj : dom n j) : getL (addA i G k) j = if j = k then getL G j ++ [(i : Int)] else getL G j := by
  have hjk : (k.toNat = j.toNat) ↔ j = k := by have := hk.1; have := hj.1; omega
  have hjl : j.toNat < G.length := by rw [hG]; exact hj.2
  unfold getL addA
  simp only [List.getD_eq_getElem?_getD, List.getElem?_modify]
  by_cases h : j = k
  · subst h; simp [hjl]
  · have : ¬ k.toNat = j.toNat := fun e => h (hjk.1 e)
    simp [h, this]
theorem getL_fold {n i : Nat} {j : Int} (hj : dom n j) : ∀ (a : List Int) (G : List (List Int)), G.length = n → (∀ k ∈ a, dom n k) → a.Nodup → getL (a.foldl (addA i) G) j = getL G j ++ if memI a j then [(i : Int)] else []
  | [], G, _, _, _ => by simp [memI]
  | k :: a, G, hG, ha, hn => by
    obtain ⟨h1, h2⟩ := List.nodup_cons.1 hn
    have hk := ha k (by simp)
    rw [List.foldl_cons, getL_fold hj a _ (by rw [addA_len, hG]) (fun x hx => ha x (by simp [hx])) h2, getL_add hG hk hj]
    have hm : memI (k :: a) j = (decide (k = j) || memI a j) := rfl
    rw [hm]
    by_cases h : j = k
    · subst h
      have : memI a j = false := by
        cases hq : memI a j with
        | false => rfl
        | true => exact absurd (memI_mem.1 hq) h1
      simp [this]
    · have : ¬ k = j := fun e => h e.symm
      simp [h, this]
theorem graphG_get {n : Nat} {j : Int} (hj : dom n j) : ∀ (A : List (List Int)) (i : Nat) (G : List (List Int)), G.length = n → (∀ a ∈ A, (∀ k ∈ a, dom n k) ∧ a.Nodup) → getL (graphG A i G) j = getL G j ++ idxs A i j
  | [], _, _, _, _ => by simp [graphG, idxs]
  | a :: A, i, G, hG, ha => by
    obtain ⟨h1, h2⟩ := ha a (by simp)
    have hl : (a.foldl (addA i) G).length = n := by
      have : ∀ (a : List Int) (G : List (List Int)), (a.foldl (addA i) G).length = G.length := by
        intro a
        induction a with
        | nil => intro G; rfl
        | cons k a ih => intro G; rw [List.foldl_cons, ih, addA_len]
      rw [this, hG]
    rw [graphG, graphG_get hj A (i + 1) _ hl fun b hb => ha b (by simp [hb]), getL_fold hj a G hG h1 h2, idxs]
    split <;> simp
theorem getL_cons0 {a : List Int} {A : List (List Int)} : getL (a :: A) ((0 : Nat) : Int) = a := rfl
theorem getL_consS {a : List Int} {A : List (List Int)} {t : Nat} : getL (a :: A) ((t + 1 : Nat) : Int) = getL A (t : Int) := by
  unfold getL
  simp only [Int.toNat_natCast, List.getD_cons_succ]
theorem idxs_mem {j z : Int} : ∀ {A : List (List Int)} {i : Nat}, z ∈ idxs A i j ↔ ∃ t : Nat, t < A.length ∧ z = ((i + t : Nat) : Int) ∧ memI (getL A (t : Int)) j = true
  | [], i => by simp [idxs]
  | a :: A, i => by
    have ih := idxs_mem (j := j) (z := z) (A := A) (i := i + 1)
    have key : (∃ t : Nat, t < (a :: A).length ∧ z = ((i + t : Nat) : Int) ∧ memI (getL (a :: A) (t : Int)) j = true) ↔ (z = (i : Int) ∧ memI a j = true) ∨ z ∈ idxs A (i + 1) j := by
      rw [ih]
      constructor
      · rintro ⟨t, h1, h2, h3⟩
        cases t with
        | zero => exact .inl ⟨by simpa using h2, by rw [getL_cons0] at h3; exact h3⟩
        | succ t =>
          rw [getL_consS] at h3
          exact .inr ⟨t, by simpa using h1, by rw [h2]; congr 1; omega, h3⟩
      · rintro (⟨h1, h2⟩ | ⟨t, h1, h2, h3⟩)
        · exact ⟨0, by simp, by simpa using h1, by rw [getL_cons0]; exact h2⟩
        · exact ⟨t + 1, by simpa using h1, by rw [h2]; congr 1; omega, by rw [getL_consS]; exact h3⟩
    rw [key, show idxs (a :: A) i j = if memI a j then (i : Int) :: idxs A (i + 1) j else idxs A (i + 1) j from rfl]
    cases hm : memI a j <;> simp
theorem idxs_len {j : Int} : ∀ {A : List (List Int)} {i : Nat}, (idxs A i j).length = (List.range A.length).countP fun (t : Nat) => memI (getL A (t : Int)) j
  | [], i => rfl
  | a :: A, i => by
    have ih := idxs_len (j := j) (A := A) (i := i + 1)
    rw [List.length_cons, List.range_succ_eq_map, List.countP_cons, List.countP_map, getL_cons0]
    have : ((fun (t : Nat) => memI (getL (a :: A) (t : Int)) j) ∘ Nat.succ) = fun (t : Nat) => memI (getL A (t : Int)) j := by
      funext t
      exact congrArg (memI · j) getL_consS
    rw [this, ← ih, show idxs (a :: A) i j = if memI a j then (i : Int) :: idxs A (i + 1) j else idxs A (i + 1) j from rfl]
    cases memI a j <;> simp

theorem right_dom {A : List (List Int)} (h : rightB A = true) : ∀ a ∈ A, (∀ k ∈ a, dom A.length k) ∧ a.Nodup := fun a ha => by
  obtain ⟨_, h2⟩ := right_at h
  refine ⟨fun k hk => by have := (h2 a ha).1 k hk; exact ⟨this.1, by omega⟩, ?_⟩
  unfold rightB at h
  simp only [Bool.and_eq_true, List.all_eq_true] at h
  exact asc_nodup (h.1 a ha)
theorem graph_get {A : List (List Int)} (h : rightB A = true) {j : Int} (hj : dom A.length j) : getL (graphF A) j = idxs A 0 j := by
  unfold graphF
  rw [graphG_get hj A 0 _ (by simp) (right_dom h)]
  have : getL (List.replicate A.length []) j = [] := by
    unfold getL
    rw [List.getD_eq_getElem?_getD, List.getElem?_replicate]
    split <;> rfl
  rw [this, List.nil_append]
theorem memG {A : List (List Int)} (h : rightB A = true) {j z : Int} (hj : dom A.length j) : z ∈ getL (graphF A) j ↔ dom A.length z ∧ attB A z j = true := by
  rw [graph_get h hj, idxs_mem]
  constructor
  · rintro ⟨t, h1, rfl, h3⟩
    rw [Nat.zero_add]
    exact ⟨⟨by omega, by simpa using h1⟩, h3⟩
  · rintro ⟨⟨h0, h1⟩, h2⟩
    exact ⟨z.toNat, h1, by omega, by rw [show ((z.toNat : Nat) : Int) = z by omega]; exact h2⟩
theorem att_dom {A : List (List Int)} (h : rightB A = true) {i j : Int} (ha : attB A i j = true) : dom A.length j := by
  have hm := memI_mem.1 ha
  unfold getL at hm
  rw [List.getD_eq_getElem?_getD] at hm
  cases hq : A[i.toNat]? with
  | none => rw [hq] at hm; cases hm
  | some a => rw [hq] at hm; exact (right_dom h a (List.mem_of_getElem? hq)).1 j hm

/-! ### The waves -/

structure SInv (A : List (List Int)) (r : Int) (s : GS) : Prop where
  r1 : 1 ≤ r
  l01 : ∀ j, dom A.length j → getI s.lab j = 0 ∨ getI s.lab j = 1 ∨ getI s.lab j = 2
  zero : ∀ j, dom A.length j → getI s.lab j = 0 → getI s.rk j = 0
  pos : ∀ j, dom A.length j → getI s.lab j ≠ 0 → 1 ≤ getI s.rk j ∧ getI s.rk j < r
  in_ : ∀ j, dom A.length j → getI s.lab j = 1 → ∀ i, dom A.length i → attB A i j = true → getI s.lab i = 2 ∧ getI s.rk i < getI s.rk j
  out_ : ∀ j, dom A.length j → getI s.lab j = 2 → ∃ i, dom A.length i ∧ attB A i j = true ∧ getI s.lab i = 1 ∧ getI s.rk i < getI s.rk j
  hit : ∀ i, dom A.length i → getI s.lab i = 1 → ∀ j, dom A.length j → attB A i j = true → getI s.lab j = 2
  cnt : ∀ j, dom A.length j → getI s.left j = cntA A s.lab j
  wv : ∀ j, j ∈ s.wave ↔ dom A.length j ∧ getI s.lab j = 0 ∧ getI s.left j = 0
  inx : ∀ j, dom A.length j → getI s.lab j = 1 → getI s.rk j = 1 ∨ ∃ i, dom A.length i ∧ attB A i j = true ∧ getI s.lab i = 2 ∧ getI s.rk j = getI s.rk i + 1
  outx : ∀ j, dom A.length j → getI s.lab j = 2 → ∃ i, dom A.length i ∧ attB A i j = true ∧ getI s.lab i = 1 ∧ getI s.rk j = getI s.rk i + 1
  outy : ∀ j, dom A.length j → getI s.lab j = 2 → ∀ i, dom A.length i → attB A i j = true → getI s.lab i = 1 → getI s.rk j ≤ getI s.rk i + 1
  wvx : ∀ j, j ∈ s.wave → r = 1 ∨ ∃ i, dom A.length i ∧ attB A i j = true ∧ getI s.lab i = 2 ∧ getI s.rk i + 1 = r

theorem cntA_zero {A : List (List Int)} {lab : List Int} {j : Int} (h : cntA A lab j = 0) {i : Int} (hi : dom A.length i) (ha : attB A i j = true) : getI lab i = 2 := by
  unfold cntA at h
  have := List.countP_eq_zero.1 h i.toNat (List.mem_range.2 hi.2)
  rw [show ((i.toNat : Nat) : Int) = i by have := hi.1; omega, ha] at this
  simpa using this

theorem SInv.step {A : List (List Int)} {m : Nat} {r : Int} {s : GS} (hr : rightB A = true) (g : GInv A.length m r s) (h : SInv A r s) : SInv A (r + 2) (waveS A r s) := by
  obtain ⟨hn, hat⟩ := right_at hr
  have hW : ∀ i ∈ s.wave, dom A.length i := fun i hi => ((h.wv i).1 hi).1
  have i1 := inS_get (r := r) s.wave (s.lab, s.rk) g.lab g.rk hW
  obtain ⟨n1, n2⟩ := inS_len (r := r) (W := s.wave) (s := (s.lab, s.rk))
  have io : OutInv A.length 300 (s.wave.foldl (inS r) (s.lab, s.rk), []) := ⟨by rw [n1]; exact g.lab, by rw [n2]; exact g.rk, fun i hi => (by cases hi), by
    have := List.count_le_length (a := (0 : Int)) (l := (s.wave.foldl (inS r) (s.lab, s.rk)).1)
    have := g.lab
    simp only [List.length_nil]
    simp only at n1
    omega⟩
  have hKd : ∀ k ∈ s.wave.flatMap (getL A), dom A.length k := fun k hk => by
    obtain ⟨i, _, hk⟩ := List.mem_flatMap.1 hk
    exact att_dom hr (i := i) (memI_mem.2 hk)
  have og := outS_get (r := r) (s.wave.flatMap (getL A)) _ io hKd
  have oi := io.fold (r := r) hKd
  rw [List.foldl_flatMap] at og oi
  unfold waveS
  simp only
  generalize hs1 : s.wave.foldl (inS r) (s.lab, s.rk) = s1 at *
  generalize hs2 : s.wave.foldl (fun s i => (getL A i).foldl (outS r) s) (s1, []) = s2 at *
  have hMd : ∀ k ∈ s2.2.flatMap (getL A), dom A.length k := fun k hk => by
    obtain ⟨i, _, hk⟩ := List.mem_flatMap.1 hk
    exact att_dom hr (i := i) (memI_mem.2 hk)
  have ls := lessS_get (L := s2.1.1) (s2.2.flatMap (getL A)) (s.left, []) g.left hMd
  have li := (LessInv.fold (n := A.length) (L := s2.1.1) (l := s2.2.flatMap (getL A)) (B := (A.length + 1 - m) * 90000) (N := 0) (s := (s.left, [])) ⟨g.left, g.low, fun i hi => (by cases hi), by simp⟩ hMd).next
  rw [List.foldl_flatMap] at ls li
  generalize s2.2.foldl (fun s k => (getL A k).foldl (lessS s2.1.1) s) (s.left, []) = s3 at *
  -- in other words
  have K : ∀ j, j ∈ s.wave.flatMap (getL A) ↔ ∃ i, i ∈ s.wave ∧ attB A i j = true := fun j => by
    rw [List.mem_flatMap]
    exact ⟨fun ⟨i, h1, h2⟩ => ⟨i, h1, memI_mem.2 h2⟩, fun ⟨i, h1, h2⟩ => ⟨i, h1, memI_mem.1 h2⟩⟩
  have out0 : ∀ j, dom A.length j → (j ∈ s2.2 ↔ getI s1.1 j = 0 ∧ ∃ i, i ∈ s.wave ∧ attB A i j = true) := fun j hj => by
    rw [og.out j hj, K]; simp
  have lab2 : ∀ j, dom A.length j → getI s2.1.1 j = if j ∈ s2.2 then 2 else getI s1.1 j := fun j hj => by
    rw [og.lab j hj]; simp only [K, out0 j hj]
  have rk2 : ∀ j, dom A.length j → getI s2.1.2 j = if j ∈ s2.2 then r + 1 else getI s1.2 j := fun j hj => by
    rw [og.rk j hj]; simp only [K, out0 j hj]
  have nd := (og.nd List.nodup_nil (fun j hj => by cases hj)).1
  have w0 : ∀ j, j ∈ s.wave → getI s.lab j = 0 := fun j hj => ((h.wv j).1 hj).2.1
  have lab1 : ∀ j, dom A.length j → getI s1.1 j = if j ∈ s.wave then 1 else getI s.lab j := fun j hj => (i1 j hj).1
  have rk1 : ∀ j, dom A.length j → getI s1.2 j = if j ∈ s.wave then r else getI s.rk j := fun j hj => (i1 j hj).2
  have o0 : ∀ j, dom A.length j → j ∈ s2.2 → j ∉ s.wave ∧ getI s.lab j = 0 := fun j hj ho => by
    have := ((out0 j hj).1 ho).1
    rw [lab1 j hj] at this
    split at this
    · simp at this
    · rename_i hq; exact ⟨hq, this⟩
  -- what has a label already keeps it, and its rank
  have old : ∀ j, dom A.length j → getI s.lab j ≠ 0 → getI s2.1.1 j = getI s.lab j ∧ getI s2.1.2 j = getI s.rk j := fun j hj hz => by
    have q1 : j ∉ s.wave := fun e => hz (w0 j e)
    have q2 : j ∉ s2.2 := fun e => hz (o0 j hj e).2
    rw [lab2 j hj, rk2 j hj, if_neg q2, if_neg q2, lab1 j hj, rk1 j hj, if_neg q1, if_neg q1]
    exact ⟨rfl, rfl⟩
  have wav : ∀ j, j ∈ s.wave → getI s2.1.1 j = 1 ∧ getI s2.1.2 j = r := fun j hw => by
    have hj := hW j hw
    have q2 : j ∉ s2.2 := fun e => (o0 j hj e).1 hw
    rw [lab2 j hj, rk2 j hj, if_neg q2, if_neg q2, lab1 j hj, rk1 j hj, if_pos hw, if_pos hw]
    exact ⟨rfl, rfl⟩
  have kind : ∀ j, dom A.length j → (getI s2.1.1 j = 0 ∧ getI s.lab j = 0 ∧ getI s2.1.2 j = getI s.rk j ∧ j ∉ s.wave ∧ j ∉ s2.2) ∨ j ∈ s.wave ∨ (j ∈ s2.2 ∧ getI s2.1.1 j = 2 ∧ getI s2.1.2 j = r + 1) ∨ (getI s.lab j ≠ 0) := fun j hj => by
    by_cases hz : getI s.lab j = 0
    · by_cases hw : j ∈ s.wave
      · exact .inr (.inl hw)
      · by_cases ho : j ∈ s2.2
        · exact .inr (.inr (.inl ⟨ho, by rw [lab2 j hj, if_pos ho], by rw [rk2 j hj, if_pos ho]⟩))
        · exact .inl ⟨by rw [lab2 j hj, if_neg ho, lab1 j hj, if_neg hw, hz], hz, by rw [rk2 j hj, if_neg ho, rk1 j hj, if_neg hw], hw, ho⟩
    · exact .inr (.inr (.inr hz))
  have att2 : ∀ j, j ∈ s.wave → ∀ i, dom A.length i → attB A i j = true → getI s.lab i = 2 := fun j hw i hi ha => by
    obtain ⟨hj, _, h0⟩ := (h.wv j).1 hw
    have := h.cnt j hj
    exact cntA_zero (by omega) hi ha
  have hr1 := h.r1
  have cnt2 : ∀ j, dom A.length j → (cntA A s.lab j : Int) - (s2.2.flatMap (getL A)).count j = cntA A s2.1.1 j := fun j hj => by
    have e1 := flat_count hr j s2.2
    have e2 := out_count nd (fun o ho => oi.out o ho) (fun o => attB A o j)
    have e3 := countP_split (fun (i : Nat) => attB A (i : Int) j && decide (getI s.lab (i : Int) ≠ 2)) (fun (i : Nat) => decide ((i : Int) ∈ s2.2)) (List.range A.length)
    have e4 : (List.range A.length).countP (fun (a : Nat) => (attB A (a : Int) j && decide (getI s.lab (a : Int) ≠ 2)) && decide ((a : Int) ∈ s2.2)) = (List.range A.length).countP fun (i : Nat) => attB A (i : Int) j && decide ((i : Int) ∈ s2.2) := by
      refine List.countP_congr fun i hi => ?_
      have hd : dom A.length (i : Int) := ⟨by omega, by simpa using hi⟩
      simp only [Bool.and_eq_true, decide_eq_true_eq]
      constructor
      · rintro ⟨⟨a, _⟩, c⟩; exact ⟨a, c⟩
      · rintro ⟨a, c⟩; exact ⟨⟨a, by rw [(o0 _ hd c).2]; decide⟩, c⟩
    have e5 : (List.range A.length).countP (fun (a : Nat) => (attB A (a : Int) j && decide (getI s.lab (a : Int) ≠ 2)) && !decide ((a : Int) ∈ s2.2)) = cntA A s2.1.1 j := by
      refine List.countP_congr fun i hi => ?_
      have hd : dom A.length (i : Int) := ⟨by omega, by simpa using hi⟩
      simp only [Bool.and_eq_true, decide_eq_true_eq, Bool.not_eq_true', decide_eq_false_iff_not]
      rw [lab2 _ hd]
      by_cases ho : (i : Int) ∈ s2.2
      · simp [ho]
      · simp only [ho, not_false_eq_true, and_true, if_false]
        rw [lab1 _ hd]
        by_cases hw : (i : Int) ∈ s.wave
        · rw [if_pos hw, w0 _ hw]; simp
        · rw [if_neg hw]
    have e6 : cntA A s.lab j = (List.range A.length).countP fun (i : Nat) => attB A (i : Int) j && decide (getI s.lab (i : Int) ≠ 2) := rfl
    omega
  refine ⟨by omega, fun j hj => ?_, fun j hj hz => ?_, fun j hj hz => ?_, fun j hj h1 i hi ha => ?_, fun j hj h2 => ?_, fun i hi h1 j hj ha => ?_, fun j hj => ?_, fun j => ?_, fun j hj h1 => ?_, fun j hj h2 => ?_, fun j hj h2 i hi ha h1 => ?_, fun j hn => ?_⟩
  · rcases kind j hj with q | q | q | q
    · exact .inl q.1
    · exact .inr (.inl (wav j q).1)
    · exact .inr (.inr q.2.1)
    · rw [(old j hj q).1]; exact h.l01 j hj
  · rcases kind j hj with q | q | q | q
    · rw [q.2.2.1]; exact h.zero j hj q.2.1
    · rw [(wav j q).1] at hz; cases hz
    · rw [q.2.1] at hz; cases hz
    · rw [(old j hj q).1] at hz; exact absurd hz q
  · rcases kind j hj with q | q | q | q
    · exact absurd q.1 hz
    · rw [(wav j q).2]; omega
    · rw [q.2.2]; omega
    · rw [(old j hj q).2]; have := h.pos j hj q; omega
  · rcases kind j hj with q | q | q | q
    · rw [q.1] at h1; cases h1
    · have h2 := att2 j q i hi ha
      have hz : getI s.lab i ≠ 0 := by rw [h2]; decide
      rw [(old i hi hz).1, (old i hi hz).2, (wav j q).2]
      exact ⟨h2, (h.pos i hi hz).2⟩
    · rw [q.2.1] at h1; cases h1
    · rw [(old j hj q).1] at h1
      obtain ⟨h2, h3⟩ := h.in_ j hj h1 i hi ha
      have hz : getI s.lab i ≠ 0 := by rw [h2]; decide
      rw [(old i hi hz).1, (old i hi hz).2, (old j hj q).2]
      exact ⟨h2, h3⟩
  · rcases kind j hj with q | q | q | q
    · rw [q.1] at h2; cases h2
    · rw [(wav j q).1] at h2; cases h2
    · obtain ⟨i, hw, ha⟩ := ((out0 j hj).1 q.1).2
      exact ⟨i, hW i hw, ha, (wav i hw).1, by rw [(wav i hw).2, q.2.2]; omega⟩
    · rw [(old j hj q).1] at h2
      obtain ⟨i, hi, ha, h3, h4⟩ := h.out_ j hj h2
      have hz : getI s.lab i ≠ 0 := by rw [h3]; decide
      exact ⟨i, hi, ha, by rw [(old i hi hz).1]; exact h3, by rw [(old i hi hz).2, (old j hj q).2]; exact h4⟩
  · rcases kind i hi with q | q | q | q
    · rw [q.1] at h1; cases h1
    · rcases kind j hj with p | p | p | p
      · exact absurd ((out0 j hj).2 ⟨by rw [lab1 j hj, if_neg p.2.2.2.1]; exact p.2.1, i, q, ha⟩) p.2.2.2.2
      · have := att2 j p i hi ha
        rw [w0 i q] at this; cases this
      · exact p.2.1
      · rw [(old j hj p).1]
        rcases h.l01 j hj with e | e | e
        · exact absurd e p
        · have := (h.in_ j hj e i hi ha).1
          rw [w0 i q] at this; cases this
        · exact e
    · rw [q.2.1] at h1; cases h1
    · rw [(old i hi q).1] at h1
      have := h.hit i hi h1 j hj ha
      rw [(old j hj (by rw [this]; decide)).1]; exact this
  · rw [(ls j hj).1, h.cnt j hj]; exact cnt2 j hj
  · constructor
    · intro hn
      obtain ⟨d0, d1, hz⟩ := li j hn
      have hj : dom A.length j := ⟨d0, d1⟩
      refine ⟨hj, hz, ?_⟩
      rcases ((ls j hj).2).1 hn with e | ⟨_, e1, e2⟩
      · cases e
      · have := cnt2 j hj
        have := h.cnt j hj
        rw [(ls j hj).1]
        simp only at e1 e2 ⊢
        omega
    · rintro ⟨hj, hz, h3⟩
      refine ((ls j hj).2).2 (.inr ⟨hz, ?_, ?_⟩)
      · have hc := h.cnt j hj
        simp only
        by_cases hl : getI s.left j = 0
        · rcases kind j hj with q | q | q | q
          · exact absurd ((h.wv j).2 ⟨hj, q.2.1, hl⟩) q.2.2.2.1
          · rw [(wav j q).1] at hz; cases hz
          · rw [q.2.1] at hz; cases hz
          · rw [(old j hj q).1] at hz; exact absurd hz q
        · omega
      · rw [(ls j hj).1] at h3
        simp only at h3 ⊢
        omega
  · rcases kind j hj with q | q | q | q
    · rw [q.1] at h1; cases h1
    · rw [(wav j q).2]
      rcases h.wvx j q with e | ⟨i, hi, ha, e1, e2⟩
      · exact .inl e
      · have hz : getI s.lab i ≠ 0 := by rw [e1]; decide
        exact .inr ⟨i, hi, ha, by rw [(old i hi hz).1]; exact e1, by rw [(old i hi hz).2]; omega⟩
    · rw [q.2.1] at h1; cases h1
    · rw [(old j hj q).1] at h1
      rw [(old j hj q).2]
      rcases h.inx j hj h1 with e | ⟨i, hi, ha, e1, e2⟩
      · exact .inl e
      · have hz : getI s.lab i ≠ 0 := by rw [e1]; decide
        exact .inr ⟨i, hi, ha, by rw [(old i hi hz).1]; exact e1, by rw [(old i hi hz).2]; exact e2⟩
  · rcases kind j hj with q | q | q | q
    · rw [q.1] at h2; cases h2
    · rw [(wav j q).1] at h2; cases h2
    · obtain ⟨i, hw, ha⟩ := ((out0 j hj).1 q.1).2
      exact ⟨i, hW i hw, ha, (wav i hw).1, by rw [(wav i hw).2, q.2.2]⟩
    · rw [(old j hj q).1] at h2
      obtain ⟨i, hi, ha, h3, h4⟩ := h.outx j hj h2
      have hz : getI s.lab i ≠ 0 := by rw [h3]; decide
      exact ⟨i, hi, ha, by rw [(old i hi hz).1]; exact h3, by rw [(old i hi hz).2, (old j hj q).2]; exact h4⟩
  · rcases kind j hj with q | q | q | q
    · rw [q.1] at h2; cases h2
    · rw [(wav j q).1] at h2; cases h2
    · rw [q.2.2]
      rcases kind i hi with p | p | p | p
      · rw [p.1] at h1; cases h1
      · rw [(wav i p).2]; omega
      · rw [p.2.1] at h1; cases h1
      · rw [(old i hi p).1] at h1
        have := h.hit i hi h1 j hj ha
        rw [(o0 j hj q.1).2] at this; cases this
    · rw [(old j hj q).1] at h2
      rw [(old j hj q).2]
      rcases kind i hi with p | p | p | p
      · rw [p.1] at h1; cases h1
      · rw [(wav i p).2]; have := (h.pos j hj q).2; omega
      · rw [p.2.1] at h1; cases h1
      · rw [(old i hi p).1] at h1
        rw [(old i hi p).2]
        exact h.outy j hj h2 i hi ha h1
  · obtain ⟨d0, d1, hz⟩ := li j hn
    have hj : dom A.length j := ⟨d0, d1⟩
    rcases ((ls j hj).2).1 hn with e | ⟨_, e1, e2⟩
    · cases e
    · refine .inr ?_
      have hpos : 0 < (s2.2.flatMap (getL A)).count j := by
        simp only at e1 e2
        omega
      obtain ⟨o, ho, hm⟩ := List.mem_flatMap.1 (List.count_pos_iff.1 hpos)
      have hod := oi.out o ho
      exact ⟨o, hod, memI_mem.2 hm, by rw [lab2 o hod, if_pos ho], by rw [rk2 o hod, if_pos ho]; omega⟩

/-! ### The start and the end -/

theorem getI_zeros {n : Nat} {j : Int} : getI (zerosI n) j = 0 := by
  simp only [getI, zerosI, List.getD_eq_getElem?_getD, List.getElem?_replicate]; split <;> rfl
theorem wave0_mem {z : Int} : ∀ {G : List (List Int)} {i : Nat}, z ∈ wave0 G i ↔ ∃ t : Nat, t < G.length ∧ z = ((i + t : Nat) : Int) ∧ getL G (t : Int) = []
  | [], i => by simp [wave0]
  | g :: G, i => by
    have ih := wave0_mem (z := z) (G := G) (i := i + 1)
    have key : (∃ t : Nat, t < (g :: G).length ∧ z = ((i + t : Nat) : Int) ∧ getL (g :: G) (t : Int) = []) ↔ (z = (i : Int) ∧ g = []) ∨ z ∈ wave0 G (i + 1) := by
      rw [ih]
      constructor
      · rintro ⟨t, h1, h2, h3⟩
        cases t with
        | zero => exact .inl ⟨by simpa using h2, by rw [getL_cons0] at h3; exact h3⟩
        | succ t =>
          rw [getL_consS] at h3
          exact .inr ⟨t, by simpa using h1, by rw [h2]; congr 1; omega, h3⟩
      · rintro (⟨h1, h2⟩ | ⟨t, h1, h2, h3⟩)
        · exact ⟨0, by simp, by simpa using h1, by rw [getL_cons0]; exact h2⟩
        · exact ⟨t + 1, by simpa using h1, by rw [h2]; congr 1; omega, by rw [getL_consS]; exact h3⟩
    rw [key, show wave0 (g :: G) i = if g = [] then (i : Int) :: wave0 G (i + 1) else wave0 G (i + 1) from rfl]
    by_cases hg : g = [] <;> simp [hg]

theorem SInv.start {A : List (List Int)} (hr : rightB A = true) : SInv A 1 (startS A) := by
  have hl : ∀ j, dom A.length j → getI ((graphF A).map (fun g => (g.length : Int))) j = (getL (graphF A) j).length := fun j hj => by
    have : j.toNat < (graphF A).length := by rw [graphF_len]; exact hj.2
    simp [getI, getL, this]
  have hc : ∀ j, dom A.length j → ((getL (graphF A) j).length : Int) = cntA A (zerosI A.length) j := fun j hj => by
    rw [graph_get hr hj, idxs_len]
    unfold cntA attB
    simp only [getI_zeros]
    congr 1
    refine List.countP_congr fun i _ => ?_
    simp
  unfold startS
  refine ⟨by omega, fun j _ => .inl getI_zeros, fun j _ _ => getI_zeros, fun j _ hz => absurd getI_zeros hz, fun j _ h1 => ?_, fun j _ h1 => ?_, fun j _ h1 => ?_, fun j hj => ?_, fun j => ?_, fun j _ h1 => (by simp only [getI_zeros] at h1; cases h1), fun j _ h1 => (by simp only [getI_zeros] at h1; cases h1), fun j _ h1 => (by simp only [getI_zeros] at h1; cases h1), fun j _ => .inl rfl⟩
  · simp only [getI_zeros] at h1; cases h1
  · simp only [getI_zeros] at h1; cases h1
  · simp only [getI_zeros] at h1; cases h1
  · simp only; rw [hl j hj, hc j hj]
  · simp only [getI_zeros, true_and]
    rw [wave0_mem]
    constructor
    · rintro ⟨t, h1, rfl, h3⟩
      rw [graphF_len] at h1
      rw [Nat.zero_add]
      have hj : dom A.length (t : Int) := ⟨by omega, by simpa using h1⟩
      exact ⟨hj, by rw [hl _ hj, h3]; rfl⟩
    · rintro ⟨hj, h0⟩
      refine ⟨j.toNat, by rw [graphF_len]; exact hj.2, by have := hj.1; omega, ?_⟩
      rw [hl j hj] at h0
      rw [show ((j.toNat : Nat) : Int) = j by have := hj.1; omega]
      exact List.eq_nil_of_length_eq_zero (by omega)

theorem GInv.start {A : List (List Int)} (hr : rightB A = true) : GInv A.length (A.length + 1) 1 (startS A) := by
  have hw0 := wave0_in (graphF A) 0
  have hwl := wave0_len (graphF A) 0
  have hb := graphF_bound hr
  rw [graphF_len] at hw0 hwl
  have hn := (right_at hr).1
  unfold startS
  refine ⟨by simp [zerosI], by simp [zerosI], by simp [graphF_len], fun i hi => ?_, by simp only; omega, by simp [zerosI], by simp <;> omega, by simp, fun y hy => ?_⟩
  · have := hw0 i hi
    exact ⟨by omega, by omega, getI_zeros⟩
  · obtain ⟨g, hg, rfl⟩ := List.mem_map.1 hy
    have := hb g hg
    simp; omega

theorem waves_end {A : List (List Int)} (hr : rightB A = true) : ∀ (m : Nat) (r : Int) (s : GS), GInv A.length m r s → SInv A r s → ∃ r', SInv A r' (wavesS A m r s) ∧ (wavesS A m r s).wave = []
  | 0, r, s, g, _ => absurd g.open_ (Nat.not_lt_zero _)
  | m + 1, r, s, g, h => by
    unfold wavesS
    split
    · rename_i hw; exact ⟨r, h, hw⟩
    · rename_i hw
      obtain ⟨hn, hat⟩ := right_at hr
      exact waves_end hr m (r + 2) _ (g.step hn hat hw) (h.step hr g)

/-! ### Certificates -/

/-- Labels and ranks that certify one another. -/
structure Cert (A : List (List Int)) (L R : List Int) : Prop where
  l01 : ∀ j, dom A.length j → getI L j = 0 ∨ getI L j = 1 ∨ getI L j = 2
  in_ : ∀ j, dom A.length j → getI L j = 1 → 1 ≤ getI R j ∧ ∀ i, dom A.length i → attB A i j = true → getI L i = 2 ∧ getI R i < getI R j
  out_ : ∀ j, dom A.length j → getI L j = 2 → ∃ i, dom A.length i ∧ attB A i j = true ∧ getI L i = 1 ∧ 1 ≤ getI R i ∧ getI R i < getI R j
  open_ : ∀ j, dom A.length j → getI L j = 0 → getI R j = 0 ∧ (∀ i, dom A.length i → attB A i j = true → getI L i ≠ 1) ∧ ∃ i, dom A.length i ∧ attB A i j = true ∧ getI L i = 0

theorem ground_cert {A : List (List Int)} (hr : rightB A = true) : Cert A (groundF A).1 (groundF A).2 := by
  obtain ⟨r, h, hw⟩ := waves_end hr (A.length + 1) 1 (startS A) (GInv.start hr) (SInv.start hr)
  unfold groundF
  simp only
  generalize wavesS A (A.length + 1) 1 (startS A) = s at *
  refine ⟨h.l01, fun j hj h1 => ⟨(h.pos j hj (by rw [h1]; decide)).1, h.in_ j hj h1⟩, fun j hj h2 => ?_, fun j hj h0 => ⟨h.zero j hj h0, fun i hi ha h1 => ?_, ?_⟩⟩
  · obtain ⟨i, hi, ha, h3, h4⟩ := h.out_ j hj h2
    exact ⟨i, hi, ha, h3, (h.pos i hi (by rw [h3]; decide)).1, h4⟩
  · have := h.hit i hi h1 j hj ha
    rw [h0] at this; cases this
  · have hl : getI s.left j ≠ 0 := fun e => by
      have := (h.wv j).2 ⟨hj, h0, e⟩
      rw [hw] at this; cases this
    have hc := h.cnt j hj
    have hc0 : cntA A s.lab j ≠ 0 := fun e => hl (by rw [hc, e]; rfl)
    unfold cntA at hc0
    obtain ⟨i, hi, hp⟩ := List.countP_pos_iff.1 (Nat.pos_of_ne_zero hc0)
    simp only [Bool.and_eq_true, decide_eq_true_eq] at hp
    have hd : dom A.length (i : Int) := ⟨by omega, by simpa using hi⟩
    refine ⟨(i : Int), hd, hp.1, ?_⟩
    rcases h.l01 _ hd with e | e | e
    · exact e
    · have := h.hit _ hd e j hj hp.1
      rw [h0] at this; cases this
    · exact absurd e hp.2

/-- Ranks are as small as they can be. -/
structure Exact (A : List (List Int)) (L R : List Int) : Prop where
  in_ : ∀ j, dom A.length j → getI L j = 1 → getI R j = 1 ∨ ∃ i, dom A.length i ∧ attB A i j = true ∧ getI R j = getI R i + 1
  out_ : ∀ j, dom A.length j → getI L j = 2 → ∃ i, dom A.length i ∧ attB A i j = true ∧ getI L i = 1 ∧ getI R j = getI R i + 1
  le_ : ∀ j, dom A.length j → getI L j = 2 → ∀ i, dom A.length i → attB A i j = true → getI L i = 1 → getI R j ≤ getI R i + 1

theorem ground_exact {A : List (List Int)} (hr : rightB A = true) : Exact A (groundF A).1 (groundF A).2 := by
  obtain ⟨r, h, _⟩ := waves_end hr (A.length + 1) 1 (startS A) (GInv.start hr) (SInv.start hr)
  unfold groundF
  simp only
  generalize wavesS A (A.length + 1) 1 (startS A) = s at *
  exact ⟨fun j hj h1 => (h.inx j hj h1).imp id fun ⟨i, a, b, _, d⟩ => ⟨i, a, b, d⟩, h.outx, h.outy⟩

/-- A complete labelling. -/
structure Compl (A : List (List Int)) (M : List Int) : Prop where
  in_ : ∀ j, dom A.length j → (getI M j = 1 ↔ ∀ i, dom A.length i → attB A i j = true → getI M i = 2)
  out_ : ∀ j, dom A.length j → (getI M j = 2 ↔ ∃ i, dom A.length i ∧ attB A i j = true ∧ getI M i = 1)

theorem Cert.compl {A : List (List Int)} {L R : List Int} (h : Cert A L R) : Compl A L := by
  refine ⟨fun j hj => ⟨fun h1 i hi ha => ((h.in_ j hj h1).2 i hi ha).1, fun hall => ?_⟩, fun j hj => ⟨fun h2 => ?_, fun ⟨i, hi, ha, h1⟩ => ?_⟩⟩
  · rcases h.l01 j hj with e | e | e
    · obtain ⟨i, hi, ha, h0⟩ := (h.open_ j hj e).2.2
      rw [hall i hi ha] at h0; cases h0
    · exact e
    · obtain ⟨i, hi, ha, h1, _⟩ := h.out_ j hj e
      rw [hall i hi ha] at h1; cases h1
  · obtain ⟨i, hi, ha, h1, _⟩ := h.out_ j hj h2
    exact ⟨i, hi, ha, h1⟩
  · rcases h.l01 j hj with e | e | e
    · exact absurd h1 ((h.open_ j hj e).2.1 i hi ha)
    · have := ((h.in_ j hj e).2 i hi ha).1
      rw [h1] at this; cases this
    · exact e

theorem Cert.least {A : List (List Int)} {L R M : List Int} (h : Cert A L R) (hM : Compl A M) : ∀ (m : Nat) j, dom A.length j → (getI R j).toNat ≤ m → (getI L j = 1 ∨ getI L j = 2) → getI M j = getI L j := by
  intro m
  induction m with
  | zero =>
    intro j hj hm hl
    rcases hl with e | e
    · have := (h.in_ j hj e).1; omega
    · obtain ⟨i, hi, ha, h1, h2, h3⟩ := h.out_ j hj e; omega
  | succ m ih =>
    intro j hj hm hl
    rcases hl with e | e
    · rw [e]
      refine (hM.in_ j hj).2 fun i hi ha => ?_
      obtain ⟨h2, h3⟩ := (h.in_ j hj e).2 i hi ha
      have h1 := (h.in_ j hj e).1
      rw [ih i hi (by omega) (.inr h2), h2]
    · rw [e]
      obtain ⟨i, hi, ha, h1, h2, h3⟩ := h.out_ j hj e
      exact (hM.out_ j hj).2 ⟨i, hi, ha, by rw [ih i hi (by omega) (.inl h1), h1]⟩

theorem Cert.unique {A : List (List Int)} {L R L' R' : List Int} (h : Cert A L R) (h' : Cert A L' R') {j : Int} (hj : dom A.length j) : getI L j = getI L' j := by
  rcases h.l01 j hj with e | e | e
  · rcases h'.l01 j hj with e' | e' | e'
    · rw [e, e']
    · exact h'.least h.compl _ j hj (Nat.le_refl _) (.inl e')
    · exact h'.least h.compl _ j hj (Nat.le_refl _) (.inr e')
  · exact (h.least h'.compl _ j hj (Nat.le_refl _) (.inl e)).symm
  · exact (h.least h'.compl _ j hj (Nat.le_refl _) (.inr e)).symm

theorem Exact.unique {A : List (List Int)} {L R L' R' : List Int} (h : Cert A L R) (h' : Cert A L' R') (e : Exact A L R) (e' : Exact A L' R') : ∀ (m : Nat) j, dom A.length j → ((getI R j).toNat ≤ m ∨ (getI R' j).toNat ≤ m) → getI R j = getI R' j := by
  have hu : ∀ j, dom A.length j → getI L j = getI L' j := fun j hj => h.unique h' hj
  have inle : ∀ {L R L' R' : List Int} (_ : Cert A L R) (h' : Cert A L' R') (e : Exact A L R) (_ : ∀ j, dom A.length j → getI L j = getI L' j) (m : Nat) (_ : ∀ j, dom A.length j → (getI R j).toNat ≤ m ∨ (getI R' j).toNat ≤ m → getI R j = getI R' j) (j : Int), dom A.length j → getI L j = 1 →
      (getI R j).toNat ≤ m + 1 ∨ (getI R' j).toNat ≤ m + 1 → getI R j ≤ getI R' j := by
    intro L R L' R' h h' e hu m ih j hj h1 hm
    have p := (h'.in_ j hj (by rw [← hu j hj]; exact h1)).1
    rcases e.in_ j hj h1 with q | ⟨i, hi, ha, q⟩
    · omega
    · have a1 := ((h.in_ j hj h1).2 i hi ha).2
      have a2 := ((h'.in_ j hj (by rw [← hu j hj]; exact h1)).2 i hi ha).2
      have := ih i hi (by omega)
      omega
  have outle : ∀ {L R L' R' : List Int} (_ : Cert A L R) (h' : Cert A L' R') (e : Exact A L R) (_ : Exact A L' R') (_ : ∀ j, dom A.length j → getI L j = getI L' j) (m : Nat) (_ : ∀ j, dom A.length j → (getI R j).toNat ≤ m ∨ (getI R' j).toNat ≤ m → getI R j = getI R' j) (j : Int), dom A.length j → getI L j = 2 →
      (getI R' j).toNat ≤ m + 1 → getI R j ≤ getI R' j := by
    intro L R L' R' h h' e e' hu m ih j hj h2 hm
    obtain ⟨i, hi, ha, h1, q⟩ := e'.out_ j hj (by rw [← hu j hj]; exact h2)
    have p := (h'.in_ i hi h1).1
    have := ih i hi (.inr (by omega))
    have := e.le_ j hj h2 i hi ha (by rw [hu i hi]; exact h1)
    omega
  intro m
  induction m with
  | zero =>
    intro j hj hm
    rcases h.l01 j hj with q | q | q
    · rw [(h.open_ j hj q).1, (h'.open_ j hj (by rw [← hu j hj]; exact q)).1]
    · have := (h.in_ j hj q).1
      have := (h'.in_ j hj (by rw [← hu j hj]; exact q)).1
      omega
    · obtain ⟨_, _, _, _, _, _⟩ := h.out_ j hj q
      obtain ⟨_, _, _, _, _, _⟩ := h'.out_ j hj (by rw [← hu j hj]; exact q)
      omega
  | succ m ih =>
    intro j hj hm
    have ih' : ∀ j, dom A.length j → (getI R' j).toNat ≤ m ∨ (getI R j).toNat ≤ m → getI R' j = getI R j := fun j hj hm => (ih j hj hm.symm).symm
    have hu' : ∀ j, dom A.length j → getI L' j = getI L j := fun j hj => (hu j hj).symm
    rcases h.l01 j hj with q | q | q
    · rw [(h.open_ j hj q).1, (h'.open_ j hj (by rw [← hu j hj]; exact q)).1]
    · exact Int.le_antisymm (inle h h' e hu m ih j hj q hm) (inle h' h e' hu' m ih' j hj (by rw [← hu j hj]; exact q) hm.symm)
    · have q' : getI L' j = 2 := by rw [← hu j hj]; exact q
      rcases hm with hm | hm
      · have k := outle h' h e' e hu' m ih' j hj q' hm
        have k2 := outle h h' e e' hu m ih j hj q (by have := (h'.out_ j hj q').choose_spec; omega)
        omega
      · have k := outle h h' e e' hu m ih j hj q hm
        have k2 := outle h' h e' e hu' m ih' j hj q' (by have := (h.out_ j hj q).choose_spec; omega)
        omega
theorem Exact.uniq {A : List (List Int)} {L R L' R' : List Int} (h : Cert A L R) (h' : Cert A L' R') (e : Exact A L R) (e' : Exact A L' R') {j : Int} (hj : dom A.length j) : getI R j = getI R' j :=
  Exact.unique h h' e e' _ j hj (.inl (Nat.le_refl _))

end Go.Proofs.Ytbadgapficfbpaa.Bm
