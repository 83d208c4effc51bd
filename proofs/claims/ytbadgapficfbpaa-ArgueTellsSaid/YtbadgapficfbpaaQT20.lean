/-
 A range over a map: what is beside the machine. Conditions: the block is no object's.
-/
import Derived.Test.YtbadgapficfbpaaQT19
import Derived.Test.YtbadgapficfbpaaQT16
import Derived.Maps.RangeRun
namespace Go.Proofs.Ytbadgapficfbpaa.Bm
open Go Go.RowKit
def idxs : List (List Int) → Nat → Int → List Int
 | [], _, _ => []
 | a :: A, i, j => if memI a j then (i : Int) :: idxs A (i + 1) j else idxs A (i + 1) j
theorem getL_add {n i : Nat} {G : List (List Int)} {k j : Int} (hG : G.length = n) (hk : dom n k) (hj : dom n j) : getL (addA i G k) j = if j = k then getL G j ++ [(i : Int)] else getL G j := by
 have hjk : (k.toNat = j.toNat) ↔ j = k := by have := hk.1; have := hj.1; omega
 have hjl : j.toNat < G.length := by rw [hG]; exact hj.2
 unfold getL addA
 simp only [List.getD_eq_getElem?_getD, List.getElem?_modify]
 by_cases h : j = k
 ·subst h; simp [hjl]
 ·have : ¬ k.toNat = j.toNat := fun e => h (hjk.1 e)
  simp [h, this]
theorem getL_fold {n i : Nat} {j : Int} (hj : dom n j) : ∀ (a : List Int) (G : List (List Int)), G.length = n → (∀ k ∈ a, dom n k) → a.Nodup → getL (a.foldl (addA i) G) j = getL G j ++ if memI a j then [(i : Int)] else []
 | [], G, _, _, _ => by simp [memI]
 | k :: a, G, hG, ha, hn => by
  obtain ⟨h1, h2⟩ := List.nodup_cons.1 hn
  have hk := ha k (by simp)
  rw [List.foldl_cons, getL_fold hj a _ (by rw [addA_len, hG]) (fun x hx => ha x (by simp [hx])) h2, getL_add hG hk hj]
  have hm : memI (k :: a) j = (decide (k = j) || memI a j) := rfl
  rw [hm]
  by_cases h : j = k
  ·subst h
   have : memI a j = false := by
    cases hq : memI a j with
    | false => rfl
    | true => exact absurd (memI_mem.1 hq) h1
   simp [this]
  ·have : ¬ k = j := fun e => h e.symm
   simp [h, this]
theorem graphG_get {n : Nat} {j : Int} (hj : dom n j) : ∀ (A : List (List Int)) (i : Nat) (G : List (List Int)), G.length = n → (∀ a ∈ A, (∀ k ∈ a, dom n k) ∧ a.Nodup) → getL (graphG A i G) j = getL G j ++ idxs A i j
 | [], _, _, _, _ => by simp [graphG, idxs]
 | a :: A, i, G, hG, ha => by
  obtain ⟨h1, h2⟩ := ha a (by simp)
  have hl : (a.foldl (addA i) G).length = n := by
   have : ∀ (a : List Int) (G : List (List Int)), (a.foldl (addA i) G).length = G.length := by
    intro a
    induction a with
    | nil => intro G; rfl
    | cons k a ih => intro G; rw [List.foldl_cons, ih, addA_len]
   rw [this, hG]
  rw [graphG, graphG_get hj A (i + 1) _ hl fun b hb => ha b (by simp [hb]), getL_fold hj a G hG h1 h2, idxs]
  split <;> simp
theorem getL_cons0 {a : List Int} {A : List (List Int)} : getL (a :: A) ((0 : Nat) : Int) = a := rfl
theorem getL_consS {a : List Int} {A : List (List Int)} {t : Nat} : getL (a :: A) ((t + 1 : Nat) : Int) = getL A (t : Int) := by
 unfold getL
 simp only [Int.toNat_natCast, List.getD_cons_succ]
theorem idxs_mem {j z : Int} : ∀ {A : List (List Int)} {i : Nat}, z ∈ idxs A i j ↔ ∃ t : Nat, t < A.length ∧ z = ((i + t : Nat) : Int) ∧ memI (getL A (t : Int)) j = true
 | [], i => by simp [idxs]
 | a :: A, i => by
  have ih := idxs_mem (j := j) (z := z) (A := A) (i := i + 1)
  have key : (∃ t : Nat, t < (a :: A).length ∧ z = ((i + t : Nat) : Int) ∧ memI (getL (a :: A) (t : Int)) j = true) ↔ (z = (i : Int) ∧ memI a j = true) ∨ z ∈ idxs A (i + 1) j := by
   rw [ih]
   constructor
   ·rintro ⟨t, h1, h2, h3⟩
    cases t with
    | zero => exact .inl ⟨by simpa using h2, by rw [getL_cons0] at h3; exact h3⟩
    | succ t =>
     rw [getL_consS] at h3
     exact .inr ⟨t, by simpa using h1, by rw [h2]; congr 1; omega, h3⟩
   ·rintro (⟨h1, h2⟩ | ⟨t, h1, h2, h3⟩)
    ·exact ⟨0, by simp, by simpa using h1, by rw [getL_cons0]; exact h2⟩
    ·exact ⟨t + 1, by simpa using h1, by rw [h2]; congr 1; omega, by rw [getL_consS]; exact h3⟩
  rw [key, show idxs (a :: A) i j = if memI a j then (i : Int) :: idxs A (i + 1) j else idxs A (i + 1) j from rfl]
  cases hm : memI a j <;> simp
theorem idxs_len {j : Int} : ∀ {A : List (List Int)} {i : Nat}, (idxs A i j).length = (List.range A.length).countP fun (t : Nat) => memI (getL A (t : Int)) j
 | [], i => rfl
 | a :: A, i => by
  have ih := idxs_len (j := j) (A := A) (i := i + 1)
  rw [List.length_cons, List.range_succ_eq_map, List.countP_cons, List.countP_map, getL_cons0]
  have : ((fun (t : Nat) => memI (getL (a :: A) (t : Int)) j) ∘ Nat.succ) = fun (t : Nat) => memI (getL A (t : Int)) j := by
   funext t
   exact congrArg (memI · j) getL_consS
  rw [this, ← ih, show idxs (a :: A) i j = if memI a j then (i : Int) :: idxs A (i + 1) j else idxs A (i + 1) j from rfl]
  cases memI a j <;> simp
theorem right_dom {A : List (List Int)} (h : rightB A = true) : ∀ a ∈ A, (∀ k ∈ a, dom A.length k) ∧ a.Nodup := fun a ha => by
 obtain ⟨_, h2⟩ := right_at h
 refine ⟨fun k hk => by have := (h2 a ha).1 k hk; exact ⟨this.1, by omega⟩, ?_⟩
 unfold rightB at h
 simp only [Bool.and_eq_true, List.all_eq_true] at h
 exact asc_nodup (h.1 a ha)
theorem graph_get {A : List (List Int)} (h : rightB A = true) {j : Int} (hj : dom A.length j) : getL (graphF A) j = idxs A 0 j := by
 unfold graphF
 rw [graphG_get hj A 0 _ (by simp) (right_dom h)]
 have : getL (List.replicate A.length []) j = [] := by
  unfold getL
  rw [List.getD_eq_getElem?_getD, List.getElem?_replicate]
  split <;> rfl
 rw [this, List.nil_append]
theorem memG {A : List (List Int)} (h : rightB A = true) {j z : Int} (hj : dom A.length j) : z ∈ getL (graphF A) j ↔ dom A.length z ∧ attB A z j = true := by
 rw [graph_get h hj, idxs_mem]
 constructor
 ·rintro ⟨t, h1, rfl, h3⟩
  rw [Nat.zero_add]
  exact ⟨⟨by omega, by simpa using h1⟩, h3⟩
 ·rintro ⟨⟨h0, h1⟩, h2⟩
  exact ⟨z.toNat, h1, by omega, by rw [show ((z.toNat : Nat) : Int) = z by omega]; exact h2⟩
theorem att_dom {A : List (List Int)} (h : rightB A = true) {i j : Int} (ha : attB A i j = true) : dom A.length j := by
 have hm := memI_mem.1 ha
 unfold getL at hm
 rw [List.getD_eq_getElem?_getD] at hm
 cases hq : A[i.toNat]? with
 | none => rw [hq] at hm; cases hm
 | some a => rw [hq] at hm; exact (right_dom h a (List.mem_of_getElem? hq)).1 j hm
structure SInv (A : List (List Int)) (r : Int) (s : GS) : Prop where
 r1 : 1 ≤ r
 l01 : ∀ j, dom A.length j → getI s.lab j = 0 ∨ getI s.lab j = 1 ∨ getI s.lab j = 2
 zero : ∀ j, dom A.length j → getI s.lab j = 0 → getI s.rk j = 0
 pos : ∀ j, dom A.length j → getI s.lab j ≠ 0 → 1 ≤ getI s.rk j ∧ getI s.rk j < r
 in_ : ∀ j, dom A.length j → getI s.lab j = 1 → ∀ i, dom A.length i → attB A i j = true → getI s.lab i = 2 ∧ getI s.rk i < getI s.rk j
 out_ : ∀ j, dom A.length j → getI s.lab j = 2 → ∃ i, dom A.length i ∧ attB A i j = true ∧ getI s.lab i = 1 ∧ getI s.rk i < getI s.rk j
 hit : ∀ i, dom A.length i → getI s.lab i = 1 → ∀ j, dom A.length j → attB A i j = true → getI s.lab j = 2
 cnt : ∀ j, dom A.length j → getI s.left j = cntA A s.lab j
 wv : ∀ j, j ∈ s.wave ↔ dom A.length j ∧ getI s.lab j = 0 ∧ getI s.left j = 0
 inx : ∀ j, dom A.length j → getI s.lab j = 1 → getI s.rk j = 1 ∨ ∃ i, dom A.length i ∧ attB A i j = true ∧ getI s.lab i = 2 ∧ getI s.rk j = getI s.rk i + 1
 outx : ∀ j, dom A.length j → getI s.lab j = 2 → ∃ i, dom A.length i ∧ attB A i j = true ∧ getI s.lab i = 1 ∧ getI s.rk j = getI s.rk i + 1
 outy : ∀ j, dom A.length j → getI s.lab j = 2 → ∀ i, dom A.length i → attB A i j = true → getI s.lab i = 1 → getI s.rk j ≤ getI s.rk i + 1
 wvx : ∀ j, j ∈ s.wave → r = 1 ∨ ∃ i, dom A.length i ∧ attB A i j = true ∧ getI s.lab i = 2 ∧ getI s.rk i + 1 = r
theorem cntA_zero {A : List (List Int)} {lab : List Int} {j : Int} (h : cntA A lab j = 0) {i : Int} (hi : dom A.length i) (ha : attB A i j = true) : getI lab i = 2 := by
 unfold cntA at h
 have := List.countP_eq_zero.1 h i.toNat (List.mem_range.2 hi.2)
 rw [show ((i.toNat : Nat) : Int) = i by have := hi.1; omega, ha] at this
 simpa using this
theorem SInv.step {A : List (List Int)} {m : Nat} {r : Int} {s : GS} (hr : rightB A = true) (g : GInv A.length m r s) (h : SInv A r s) : SInv A (r + 2) (waveS A r s) := by
 obtain ⟨hn, hat⟩ := right_at hr
 have hW : ∀ i ∈ s.wave, dom A.length i := fun i hi => ((h.wv i).1 hi).1
 have i1 := inS_get (r := r) s.wave (s.lab, s.rk) g.lab g.rk hW
 obtain ⟨n1, n2⟩ := inS_len (r := r) (W := s.wave) (s := (s.lab, s.rk))
 have io : OutInv A.length 300 (s.wave.foldl (inS r) (s.lab, s.rk), []) := ⟨by rw [n1]; exact g.lab, by rw [n2]; exact g.rk, fun i hi => (by cases hi), by
  have := List.count_le_length (a := (0 : Int)) (l := (s.wave.foldl (inS r) (s.lab, s.rk)).1)
  have := g.lab
  simp only [List.length_nil]
  simp only at n1
  omega⟩
 have hKd : ∀ k ∈ s.wave.flatMap (getL A), dom A.length k := fun k hk => by
  obtain ⟨i, _, hk⟩ := List.mem_flatMap.1 hk
  exact att_dom hr (i := i) (memI_mem.2 hk)
 have og := outS_get (r := r) (s.wave.flatMap (getL A)) _ io hKd
 have oi := io.fold (r := r) hKd
 rw [List.foldl_flatMap] at og oi
 unfold waveS
 simp only
 generalize hs1 : s.wave.foldl (inS r) (s.lab, s.rk) = s1 at *
 generalize hs2 : s.wave.foldl (fun s i => (getL A i).foldl (outS r) s) (s1, []) = s2 at *
 have hMd : ∀ k ∈ s2.2.flatMap (getL A), dom A.length k := fun k hk => by
  obtain ⟨i, _, hk⟩ := List.mem_flatMap.1 hk
  exact att_dom hr (i := i) (memI_mem.2 hk)
 have ls := lessS_get (L := s2.1.1) (s2.2.flatMap (getL A)) (s.left, []) g.left hMd
 have li := (LessInv.fold (n := A.length) (L := s2.1.1) (l := s2.2.flatMap (getL A)) (B := (A.length + 1 - m) * 90000) (N := 0) (s := (s.left, [])) ⟨g.left, g.low, fun i hi => (by cases hi), by simp⟩ hMd).next
 rw [List.foldl_flatMap] at ls li
 generalize s2.2.foldl (fun s k => (getL A k).foldl (lessS s2.1.1) s) (s.left, []) = s3 at *
 -- in other words
 have K : ∀ j, j ∈ s.wave.flatMap (getL A) ↔ ∃ i, i ∈ s.wave ∧ attB A i j = true := fun j => by
  rw [List.mem_flatMap]
  exact ⟨fun ⟨i, h1, h2⟩ => ⟨i, h1, memI_mem.2 h2⟩, fun ⟨i, h1, h2⟩ => ⟨i, h1, memI_mem.1 h2⟩⟩
 have out0 : ∀ j, dom A.length j → (j ∈ s2.2 ↔ getI s1.1 j = 0 ∧ ∃ i, i ∈ s.wave ∧ attB A i j = true) := fun j hj => by
  rw [og.out j hj, K]; simp
 have lab2 : ∀ j, dom A.length j → getI s2.1.1 j = if j ∈ s2.2 then 2 else getI s1.1 j := fun j hj => by
  rw [og.lab j hj]; simp only [K, out0 j hj]
 have rk2 : ∀ j, dom A.length j → getI s2.1.2 j = if j ∈ s2.2 then r + 1 else getI s1.2 j := fun j hj => by
  rw [og.rk j hj]; simp only [K, out0 j hj]
 have nd := (og.nd List.nodup_nil (fun j hj => by cases hj)).1
 have w0 : ∀ j, j ∈ s.wave → getI s.lab j = 0 := fun j hj => ((h.wv j).1 hj).2.1
 have lab1 : ∀ j, dom A.length j → getI s1.1 j = if j ∈ s.wave then 1 else getI s.lab j := fun j hj => (i1 j hj).1
 have rk1 : ∀ j, dom A.length j → getI s1.2 j = if j ∈ s.wave then r else getI s.rk j := fun j hj => (i1 j hj).2
 have o0 : ∀ j, dom A.length j → j ∈ s2.2 → j ∉ s.wave ∧ getI s.lab j = 0 := fun j hj ho => by
  have := ((out0 j hj).1 ho).1
  rw [lab1 j hj] at this
  split at this
  ·simp at this
  ·rename_i hq; exact ⟨hq, this⟩
 -- what has a label already keeps it, and its rank
 have old : ∀ j, dom A.length j → getI s.lab j ≠ 0 → getI s2.1.1 j = getI s.lab j ∧ getI s2.1.2 j = getI s.rk j := fun j hj hz => by
  have q1 : j ∉ s.wave := fun e => hz (w0 j e)
  have q2 : j ∉ s2.2 := fun e => hz (o0 j hj e).2
  rw [lab2 j hj, rk2 j hj, if_neg q2, if_neg q2, lab1 j hj, rk1 j hj, if_neg q1, if_neg q1]
  exact ⟨rfl, rfl⟩
 have wav : ∀ j, j ∈ s.wave → getI s2.1.1 j = 1 ∧ getI s2.1.2 j = r := fun j hw => by
  have hj := hW j hw
  have q2 : j ∉ s2.2 := fun e => (o0 j hj e).1 hw
  rw [lab2 j hj, rk2 j hj, if_neg q2, if_neg q2, lab1 j hj, rk1 j hj, if_pos hw, if_pos hw]
  exact ⟨rfl, rfl⟩
 have kind : ∀ j, dom A.length j → (getI s2.1.1 j = 0 ∧ getI s.lab j = 0 ∧ getI s2.1.2 j = getI s.rk j ∧ j ∉ s.wave ∧ j ∉ s2.2) ∨ j ∈ s.wave ∨ (j ∈ s2.2 ∧ getI s2.1.1 j = 2 ∧ getI s2.1.2 j = r + 1) ∨ (getI s.lab j ≠ 0) := fun j hj => by
  by_cases hz : getI s.lab j = 0
  ·by_cases hw : j ∈ s.wave
   ·exact .inr (.inl hw)
   ·by_cases ho : j ∈ s2.2
    ·exact .inr (.inr (.inl ⟨ho, by rw [lab2 j hj, if_pos ho], by rw [rk2 j hj, if_pos ho]⟩))
    ·exact .inl ⟨by rw [lab2 j hj, if_neg ho, lab1 j hj, if_neg hw, hz], hz, by rw [rk2 j hj, if_neg ho, rk1 j hj, if_neg hw], hw, ho⟩
  ·exact .inr (.inr (.inr hz))
 have att2 : ∀ j, j ∈ s.wave → ∀ i, dom A.length i → attB A i j = true → getI s.lab i = 2 := fun j hw i hi ha => by
  obtain ⟨hj, _, h0⟩ := (h.wv j).1 hw
  have := h.cnt j hj
  exact cntA_zero (by omega) hi ha
 have hr1 := h.r1
 have cnt2 : ∀ j, dom A.length j → (cntA A s.lab j : Int) - (s2.2.flatMap (getL A)).count j = cntA A s2.1.1 j := fun j hj => by
  have e1 := flat_count hr j s2.2
  have e2 := out_count nd (fun o ho => oi.out o ho) (fun o => attB A o j)
  have e3 := countP_split (fun (i : Nat) => attB A (i : Int) j && decide (getI s.lab (i : Int) ≠ 2)) (fun (i : Nat) => decide ((i : Int) ∈ s2.2)) (List.range A.length)
  have e4 : (List.range A.length).countP (fun (a : Nat) => (attB A (a : Int) j && decide (getI s.lab (a : Int) ≠ 2)) && decide ((a : Int) ∈ s2.2)) = (List.range A.length).countP fun (i : Nat) => attB A (i : Int) j && decide ((i : Int) ∈ s2.2) := by
   refine List.countP_congr fun i hi => ?_
   have hd : dom A.length (i : Int) := ⟨by omega, by simpa using hi⟩
   simp only [Bool.and_eq_true, decide_eq_true_eq]
   constructor
   ·rintro ⟨⟨a, _⟩, c⟩; exact ⟨a, c⟩
   ·rintro ⟨a, c⟩; exact ⟨⟨a, by rw [(o0 _ hd c).2]; decide⟩, c⟩
  have e5 : (List.range A.length).countP (fun (a : Nat) => (attB A (a : Int) j && decide (getI s.lab (a : Int) ≠ 2)) && !decide ((a : Int) ∈ s2.2)) = cntA A s2.1.1 j := by
   refine List.countP_congr fun i hi => ?_
   have hd : dom A.length (i : Int) := ⟨by omega, by simpa using hi⟩
   simp only [Bool.and_eq_true, decide_eq_true_eq, Bool.not_eq_true', decide_eq_false_iff_not]
   rw [lab2 _ hd]
   by_cases ho : (i : Int) ∈ s2.2
   ·simp [ho]
   ·simp only [ho, not_false_eq_true, and_true, if_false]
    rw [lab1 _ hd]
    by_cases hw : (i : Int) ∈ s.wave
    ·rw [if_pos hw, w0 _ hw]; simp
    ·rw [if_neg hw]
  have e6 : cntA A s.lab j = (List.range A.length).countP fun (i : Nat) => attB A (i : Int) j && decide (getI s.lab (i : Int) ≠ 2) := rfl
  omega
 refine ⟨by omega, fun j hj => ?_, fun j hj hz => ?_, fun j hj hz => ?_, fun j hj h1 i hi ha => ?_, fun j hj h2 => ?_, fun i hi h1 j hj ha => ?_, fun j hj => ?_, fun j => ?_, fun j hj h1 => ?_, fun j hj h2 => ?_, fun j hj h2 i hi ha h1 => ?_, fun j hn => ?_⟩
 ·rcases kind j hj with q | q | q | q
  ·exact .inl q.1
  ·exact .inr (.inl (wav j q).1)
  ·exact .inr (.inr q.2.1)
  ·rw [(old j hj q).1]; exact h.l01 j hj
 ·rcases kind j hj with q | q | q | q
  ·rw [q.2.2.1]; exact h.zero j hj q.2.1
  ·rw [(wav j q).1] at hz; cases hz
  ·rw [q.2.1] at hz; cases hz
  ·rw [(old j hj q).1] at hz; exact absurd hz q
 ·rcases kind j hj with q | q | q | q
  ·exact absurd q.1 hz
  ·rw [(wav j q).2]; omega
  ·rw [q.2.2]; omega
  ·rw [(old j hj q).2]; have := h.pos j hj q; omega
 ·rcases kind j hj with q | q | q | q
  ·rw [q.1] at h1; cases h1
  ·have h2 := att2 j q i hi ha
   have hz : getI s.lab i ≠ 0 := by rw [h2]; decide
   rw [(old i hi hz).1, (old i hi hz).2, (wav j q).2]
   exact ⟨h2, (h.pos i hi hz).2⟩
  ·rw [q.2.1] at h1; cases h1
  ·rw [(old j hj q).1] at h1
   obtain ⟨h2, h3⟩ := h.in_ j hj h1 i hi ha
   have hz : getI s.lab i ≠ 0 := by rw [h2]; decide
   rw [(old i hi hz).1, (old i hi hz).2, (old j hj q).2]
   exact ⟨h2, h3⟩
 ·rcases kind j hj with q | q | q | q
  ·rw [q.1] at h2; cases h2
  ·rw [(wav j q).1] at h2; cases h2
  ·obtain ⟨i, hw, ha⟩ := ((out0 j hj).1 q.1).2
   exact ⟨i, hW i hw, ha, (wav i hw).1, by rw [(wav i hw).2, q.2.2]; omega⟩
  ·rw [(old j hj q).1] at h2
   obtain ⟨i, hi, ha, h3, h4⟩ := h.out_ j hj h2
   have hz : getI s.lab i ≠ 0 := by rw [h3]; decide
   exact ⟨i, hi, ha, by rw [(old i hi hz).1]; exact h3, by rw [(old i hi hz).2, (old j hj q).2]; exact h4⟩
 ·rcases kind i hi with q | q | q | q
  ·rw [q.1] at h1; cases h1
  ·rcases kind j hj with p | p | p | p
   ·exact absurd ((out0 j hj).2 ⟨by rw [lab1 j hj, if_neg p.2.2.2.1]; exact p.2.1, i, q, ha⟩) p.2.2.2.2
   ·have := att2 j p i hi ha
    rw [w0 i q] at this; cases this
   ·exact p.2.1
   ·rw [(old j hj p).1]
    rcases h.l01 j hj with e | e | e
    ·exact absurd e p
    ·have := (h.in_ j hj e i hi ha).1
     rw [w0 i q] at this; cases this
    ·exact e
  ·rw [q.2.1] at h1; cases h1
  ·rw [(old i hi q).1] at h1
   have := h.hit i hi h1 j hj ha
   rw [(old j hj (by rw [this]; decide)).1]; exact this
 ·rw [(ls j hj).1, h.cnt j hj]; exact cnt2 j hj
 ·constructor
  ·intro hn
   obtain ⟨d0, d1, hz⟩ := li j hn
   have hj : dom A.length j := ⟨d0, d1⟩
   refine ⟨hj, hz, ?_⟩
   rcases ((ls j hj).2).1 hn with e | ⟨_, e1, e2⟩
   ·cases e
   ·have := cnt2 j hj
    have := h.cnt j hj
    rw [(ls j hj).1]
    simp only at e1 e2 ⊢
    omega
  ·rintro ⟨hj, hz, h3⟩
   refine ((ls j hj).2).2 (.inr ⟨hz, ?_, ?_⟩)
   ·have hc := h.cnt j hj
    simp only
    by_cases hl : getI s.left j = 0
    ·rcases kind j hj with q | q | q | q
     ·exact absurd ((h.wv j).2 ⟨hj, q.2.1, hl⟩) q.2.2.2.1
     ·rw [(wav j q).1] at hz; cases hz
     ·rw [q.2.1] at hz; cases hz
     ·rw [(old j hj q).1] at hz; exact absurd hz q
    ·omega
   ·rw [(ls j hj).1] at h3
    simp only at h3 ⊢
    omega
 ·rcases kind j hj with q | q | q | q
  ·rw [q.1] at h1; cases h1
  ·rw [(wav j q).2]
   rcases h.wvx j q with e | ⟨i, hi, ha, e1, e2⟩
   ·exact .inl e
   ·have hz : getI s.lab i ≠ 0 := by rw [e1]; decide
    exact .inr ⟨i, hi, ha, by rw [(old i hi hz).1]; exact e1, by rw [(old i hi hz).2]; omega⟩
  ·rw [q.2.1] at h1; cases h1
  ·rw [(old j hj q).1] at h1
   rw [(old j hj q).2]
   rcases h.inx j hj h1 with e | ⟨i, hi, ha, e1, e2⟩
   ·exact .inl e
   ·have hz : getI s.lab i ≠ 0 := by rw [e1]; decide
    exact .inr ⟨i, hi, ha, by rw [(old i hi hz).1]; exact e1, by rw [(old i hi hz).2]; exact e2⟩
 ·rcases kind j hj with q | q | q | q
  ·rw [q.1] at h2; cases h2
  ·rw [(wav j q).1] at h2; cases h2
  ·obtain ⟨i, hw, ha⟩ := ((out0 j hj).1 q.1).2
   exact ⟨i, hW i hw, ha, (wav i hw).1, by rw [(wav i hw).2, q.2.2]⟩
  ·rw [(old j hj q).1] at h2
   obtain ⟨i, hi, ha, h3, h4⟩ := h.outx j hj h2
   have hz : getI s.lab i ≠ 0 := by rw [h3]; decide
   exact ⟨i, hi, ha, by rw [(old i hi hz).1]; exact h3, by rw [(old i hi hz).2, (old j hj q).2]; exact h4⟩
 ·rcases kind j hj with q | q | q | q
  ·rw [q.1] at h2; cases h2
  ·rw [(wav j q).1] at h2; cases h2
  ·rw [q.2.2]
   rcases kind i hi with p | p | p | p
   ·rw [p.1] at h1; cases h1
   ·rw [(wav i p).2]; omega
   ·rw [p.2.1] at h1; cases h1
   ·rw [(old i hi p).1] at h1
    have := h.hit i hi h1 j hj ha
    rw [(o0 j hj q.1).2] at this; cases this
  ·rw [(old j hj q).1] at h2
   rw [(old j hj q).2]
   rcases kind i hi with p | p | p | p
   ·rw [p.1] at h1; cases h1
   ·rw [(wav i p).2]; have := (h.pos j hj q).2; omega
   ·rw [p.2.1] at h1; cases h1
   ·rw [(old i hi p).1] at h1
    rw [(old i hi p).2]
    exact h.outy j hj h2 i hi ha h1
 ·obtain ⟨d0, d1, hz⟩ := li j hn
  have hj : dom A.length j := ⟨d0, d1⟩
  rcases ((ls j hj).2).1 hn with e | ⟨_, e1, e2⟩
  ·cases e
  ·refine .inr ?_
   have hpos : 0 < (s2.2.flatMap (getL A)).count j := by
    simp only at e1 e2
    omega
   obtain ⟨o, ho, hm⟩ := List.mem_flatMap.1 (List.count_pos_iff.1 hpos)
   have hod := oi.out o ho
   exact ⟨o, hod, memI_mem.2 hm, by rw [lab2 o hod, if_pos ho], by rw [rk2 o hod, if_pos ho]; omega⟩
theorem getI_zeros {n : Nat} {j : Int} : getI (zerosI n) j = 0 := by
 simp only [getI, zerosI, List.getD_eq_getElem?_getD, List.getElem?_replicate]; split <;> rfl
theorem wave0_mem {z : Int} : ∀ {G : List (List Int)} {i : Nat}, z ∈ wave0 G i ↔ ∃ t : Nat, t < G.length ∧ z = ((i + t : Nat) : Int) ∧ getL G (t : Int) = []
 | [], i => by simp [wave0]
 | g :: G, i => by
  have ih := wave0_mem (z := z) (G := G) (i := i + 1)
  have key : (∃ t : Nat, t < (g :: G).length ∧ z = ((i + t : Nat) : Int) ∧ getL (g :: G) (t : Int) = []) ↔ (z = (i : Int) ∧ g = []) ∨ z ∈ wave0 G (i + 1) := by
   rw [ih]
   constructor
   ·rintro ⟨t, h1, h2, h3⟩
    cases t with
    | zero => exact .inl ⟨by simpa using h2, by rw [getL_cons0] at h3; exact h3⟩
    | succ t =>
     rw [getL_consS] at h3
     exact .inr ⟨t, by simpa using h1, by rw [h2]; congr 1; omega, h3⟩
   ·rintro (⟨h1, h2⟩ | ⟨t, h1, h2, h3⟩)
    ·exact ⟨0, by simp, by simpa using h1, by rw [getL_cons0]; exact h2⟩
    ·exact ⟨t + 1, by simpa using h1, by rw [h2]; congr 1; omega, by rw [getL_consS]; exact h3⟩
  rw [key, show wave0 (g :: G) i = if g = [] then (i : Int) :: wave0 G (i + 1) else wave0 G (i + 1) from rfl]
  by_cases hg : g = [] <;> simp [hg]
theorem SInv.start {A : List (List Int)} (hr : rightB A = true) : SInv A 1 (startS A) := by
 have hl : ∀ j, dom A.length j → getI ((graphF A).map (fun g => (g.length : Int))) j = (getL (graphF A) j).length := fun j hj => by
  have : j.toNat < (graphF A).length := by rw [graphF_len]; exact hj.2
  simp [getI, getL, this]
 have hc : ∀ j, dom A.length j → ((getL (graphF A) j).length : Int) = cntA A (zerosI A.length) j := fun j hj => by
  rw [graph_get hr hj, idxs_len]
  unfold cntA attB
  simp only [getI_zeros]
  congr 1
  refine List.countP_congr fun i _ => ?_
  simp
 unfold startS
 refine ⟨by omega, fun j _ => .inl getI_zeros, fun j _ _ => getI_zeros, fun j _ hz => absurd getI_zeros hz, fun j _ h1 => ?_, fun j _ h1 => ?_, fun j _ h1 => ?_, fun j hj => ?_, fun j => ?_, fun j _ h1 => (by simp only [getI_zeros] at h1; cases h1), fun j _ h1 => (by simp only [getI_zeros] at h1; cases h1), fun j _ h1 => (by simp only [getI_zeros] at h1; cases h1), fun j _ => .inl rfl⟩
 ·simp only [getI_zeros] at h1; cases h1
 ·simp only [getI_zeros] at h1; cases h1
 ·simp only [getI_zeros] at h1; cases h1
 ·simp only; rw [hl j hj, hc j hj]
 ·simp only [getI_zeros, true_and]
  rw [wave0_mem]
  constructor
  ·rintro ⟨t, h1, rfl, h3⟩
   rw [graphF_len] at h1
   rw [Nat.zero_add]
   have hj : dom A.length (t : Int) := ⟨by omega, by simpa using h1⟩
   exact ⟨hj, by rw [hl _ hj, h3]; rfl⟩
  ·rintro ⟨hj, h0⟩
   refine ⟨j.toNat, by rw [graphF_len]; exact hj.2, by have := hj.1; omega, ?_⟩
   rw [hl j hj] at h0
   rw [show ((j.toNat : Nat) : Int) = j by have := hj.1; omega]
   exact List.eq_nil_of_length_eq_zero (by omega)
theorem GInv.start {A : List (List Int)} (hr : rightB A = true) : GInv A.length (A.length + 1) 1 (startS A) := by
 have hw0 := wave0_in (graphF A) 0
 have hwl := wave0_len (graphF A) 0
 have hb := graphF_bound hr
 rw [graphF_len] at hw0 hwl
 have hn := (right_at hr).1
 unfold startS
 refine ⟨by simp [zerosI], by simp [zerosI], by simp [graphF_len], fun i hi => ?_, by simp only; omega, by simp [zerosI], by simp <;> omega, by simp, fun y hy => ?_⟩
 ·have := hw0 i hi
  exact ⟨by omega, by omega, getI_zeros⟩
 ·obtain ⟨g, hg, rfl⟩ := List.mem_map.1 hy
  have := hb g hg
  simp; omega
theorem waves_end {A : List (List Int)} (hr : rightB A = true) : ∀ (m : Nat) (r : Int) (s : GS), GInv A.length m r s → SInv A r s → ∃ r', SInv A r' (wavesS A m r s) ∧ (wavesS A m r s).wave = []
 | 0, r, s, g, _ => absurd g.open_ (Nat.not_lt_zero _)
 | m + 1, r, s, g, h => by
  unfold wavesS
  split
  ·rename_i hw; exact ⟨r, h, hw⟩
  ·rename_i hw
   obtain ⟨hn, hat⟩ := right_at hr
   exact waves_end hr m (r + 2) _ (g.step hn hat hw) (h.step hr g)
structure Cert (A : List (List Int)) (L R : List Int) : Prop where
 l01 : ∀ j, dom A.length j → getI L j = 0 ∨ getI L j = 1 ∨ getI L j = 2
 in_ : ∀ j, dom A.length j → getI L j = 1 → 1 ≤ getI R j ∧ ∀ i, dom A.length i → attB A i j = true → getI L i = 2 ∧ getI R i < getI R j
 out_ : ∀ j, dom A.length j → getI L j = 2 → ∃ i, dom A.length i ∧ attB A i j = true ∧ getI L i = 1 ∧ 1 ≤ getI R i ∧ getI R i < getI R j
 open_ : ∀ j, dom A.length j → getI L j = 0 → getI R j = 0 ∧ (∀ i, dom A.length i → attB A i j = true → getI L i ≠ 1) ∧ ∃ i, dom A.length i ∧ attB A i j = true ∧ getI L i = 0
theorem ground_cert {A : List (List Int)} (hr : rightB A = true) : Cert A (groundF A).1 (groundF A).2 := by
 obtain ⟨r, h, hw⟩ := waves_end hr (A.length + 1) 1 (startS A) (GInv.start hr) (SInv.start hr)
 unfold groundF
 simp only
 generalize wavesS A (A.length + 1) 1 (startS A) = s at *
 refine ⟨h.l01, fun j hj h1 => ⟨(h.pos j hj (by rw [h1]; decide)).1, h.in_ j hj h1⟩, fun j hj h2 => ?_, fun j hj h0 => ⟨h.zero j hj h0, fun i hi ha h1 => ?_, ?_⟩⟩
 ·obtain ⟨i, hi, ha, h3, h4⟩ := h.out_ j hj h2
  exact ⟨i, hi, ha, h3, (h.pos i hi (by rw [h3]; decide)).1, h4⟩
 ·have := h.hit i hi h1 j hj ha
  rw [h0] at this; cases this
 ·have hl : getI s.left j ≠ 0 := fun e => by
   have := (h.wv j).2 ⟨hj, h0, e⟩
   rw [hw] at this; cases this
  have hc := h.cnt j hj
  have hc0 : cntA A s.lab j ≠ 0 := fun e => hl (by rw [hc, e]; rfl)
  unfold cntA at hc0
  obtain ⟨i, hi, hp⟩ := List.countP_pos_iff.1 (Nat.pos_of_ne_zero hc0)
  simp only [Bool.and_eq_true, decide_eq_true_eq] at hp
  have hd : dom A.length (i : Int) := ⟨by omega, by simpa using hi⟩
  refine ⟨(i : Int), hd, hp.1, ?_⟩
  rcases h.l01 _ hd with e | e | e
  ·exact e
  ·have := h.hit _ hd e j hj hp.1
   rw [h0] at this; cases this
  ·exact absurd e hp.2
structure Exact (A : List (List Int)) (L R : List Int) : Prop where
 in_ : ∀ j, dom A.length j → getI L j = 1 → getI R j = 1 ∨ ∃ i, dom A.length i ∧ attB A i j = true ∧ getI R j = getI R i + 1
 out_ : ∀ j, dom A.length j → getI L j = 2 → ∃ i, dom A.length i ∧ attB A i j = true ∧ getI L i = 1 ∧ getI R j = getI R i + 1
 le_ : ∀ j, dom A.length j → getI L j = 2 → ∀ i, dom A.length i → attB A i j = true → getI L i = 1 → getI R j ≤ getI R i + 1
theorem ground_exact {A : List (List Int)} (hr : rightB A = true) : Exact A (groundF A).1 (groundF A).2 := by
 obtain ⟨r, h, _⟩ := waves_end hr (A.length + 1) 1 (startS A) (GInv.start hr) (SInv.start hr)
 unfold groundF
 simp only
 generalize wavesS A (A.length + 1) 1 (startS A) = s at *
 exact ⟨fun j hj h1 => (h.inx j hj h1).imp id fun ⟨i, a, b, _, d⟩ => ⟨i, a, b, d⟩, h.outx, h.outy⟩
structure Compl (A : List (List Int)) (M : List Int) : Prop where
 in_ : ∀ j, dom A.length j → (getI M j = 1 ↔ ∀ i, dom A.length i → attB A i j = true → getI M i = 2)
 out_ : ∀ j, dom A.length j → (getI M j = 2 ↔ ∃ i, dom A.length i ∧ attB A i j = true ∧ getI M i = 1)
theorem Cert.compl {A : List (List Int)} {L R : List Int} (h : Cert A L R) : Compl A L := by
 refine ⟨fun j hj => ⟨fun h1 i hi ha => ((h.in_ j hj h1).2 i hi ha).1, fun hall => ?_⟩, fun j hj => ⟨fun h2 => ?_, fun ⟨i, hi, ha, h1⟩ => ?_⟩⟩
 ·rcases h.l01 j hj with e | e | e
  ·obtain ⟨i, hi, ha, h0⟩ := (h.open_ j hj e).2.2
   rw [hall i hi ha] at h0; cases h0
  ·exact e
  ·obtain ⟨i, hi, ha, h1, _⟩ := h.out_ j hj e
   rw [hall i hi ha] at h1; cases h1
 ·obtain ⟨i, hi, ha, h1, _⟩ := h.out_ j hj h2
  exact ⟨i, hi, ha, h1⟩
 ·rcases h.l01 j hj with e | e | e
  ·exact absurd h1 ((h.open_ j hj e).2.1 i hi ha)
  ·have := ((h.in_ j hj e).2 i hi ha).1
   rw [h1] at this; cases this
  ·exact e
theorem Cert.least {A : List (List Int)} {L R M : List Int} (h : Cert A L R) (hM : Compl A M) : ∀ (m : Nat) j, dom A.length j → (getI R j).toNat ≤ m → (getI L j = 1 ∨ getI L j = 2) → getI M j = getI L j := by
 intro m
 induction m with
 | zero =>
  intro j hj hm hl
  rcases hl with e | e
  ·have := (h.in_ j hj e).1; omega
  ·obtain ⟨i, hi, ha, h1, h2, h3⟩ := h.out_ j hj e; omega
 | succ m ih =>
  intro j hj hm hl
  rcases hl with e | e
  ·rw [e]
   refine (hM.in_ j hj).2 fun i hi ha => ?_
   obtain ⟨h2, h3⟩ := (h.in_ j hj e).2 i hi ha
   have h1 := (h.in_ j hj e).1
   rw [ih i hi (by omega) (.inr h2), h2]
  ·rw [e]
   obtain ⟨i, hi, ha, h1, h2, h3⟩ := h.out_ j hj e
   exact (hM.out_ j hj).2 ⟨i, hi, ha, by rw [ih i hi (by omega) (.inl h1), h1]⟩
theorem Cert.unique {A : List (List Int)} {L R L' R' : List Int} (h : Cert A L R) (h' : Cert A L' R') {j : Int} (hj : dom A.length j) : getI L j = getI L' j := by
 rcases h.l01 j hj with e | e | e
 ·rcases h'.l01 j hj with e' | e' | e'
  ·rw [e, e']
  ·exact h'.least h.compl _ j hj (Nat.le_refl _) (.inl e')
  ·exact h'.least h.compl _ j hj (Nat.le_refl _) (.inr e')
 ·exact (h.least h'.compl _ j hj (Nat.le_refl _) (.inl e)).symm
 ·exact (h.least h'.compl _ j hj (Nat.le_refl _) (.inr e)).symm
theorem Exact.unique {A : List (List Int)} {L R L' R' : List Int} (h : Cert A L R) (h' : Cert A L' R') (e : Exact A L R) (e' : Exact A L' R') : ∀ (m : Nat) j, dom A.length j → ((getI R j).toNat ≤ m ∨ (getI R' j).toNat ≤ m) → getI R j = getI R' j := by
 have hu : ∀ j, dom A.length j → getI L j = getI L' j := fun j hj => h.unique h' hj
 have inle : ∀ {L R L' R' : List Int} (_ : Cert A L R) (h' : Cert A L' R') (e : Exact A L R) (_ : ∀ j, dom A.length j → getI L j = getI L' j) (m : Nat) (_ : ∀ j, dom A.length j → (getI R j).toNat ≤ m ∨ (getI R' j).toNat ≤ m → getI R j = getI R' j) (j : Int), dom A.length j → getI L j = 1 →
   (getI R j).toNat ≤ m + 1 ∨ (getI R' j).toNat ≤ m + 1 → getI R j ≤ getI R' j := by
  intro L R L' R' h h' e hu m ih j hj h1 hm
  have p := (h'.in_ j hj (by rw [← hu j hj]; exact h1)).1
  rcases e.in_ j hj h1 with q | ⟨i, hi, ha, q⟩
  ·omega
  ·have a1 := ((h.in_ j hj h1).2 i hi ha).2
   have a2 := ((h'.in_ j hj (by rw [← hu j hj]; exact h1)).2 i hi ha).2
   have := ih i hi (by omega)
   omega
 have outle : ∀ {L R L' R' : List Int} (_ : Cert A L R) (h' : Cert A L' R') (e : Exact A L R) (_ : Exact A L' R') (_ : ∀ j, dom A.length j → getI L j = getI L' j) (m : Nat) (_ : ∀ j, dom A.length j → (getI R j).toNat ≤ m ∨ (getI R' j).toNat ≤ m → getI R j = getI R' j) (j : Int), dom A.length j → getI L j = 2 →
   (getI R' j).toNat ≤ m + 1 → getI R j ≤ getI R' j := by
  intro L R L' R' h h' e e' hu m ih j hj h2 hm
  obtain ⟨i, hi, ha, h1, q⟩ := e'.out_ j hj (by rw [← hu j hj]; exact h2)
  have p := (h'.in_ i hi h1).1
  have := ih i hi (.inr (by omega))
  have := e.le_ j hj h2 i hi ha (by rw [hu i hi]; exact h1)
  omega
 intro m
 induction m with
 | zero =>
  intro j hj hm
  rcases h.l01 j hj with q | q | q
  ·rw [(h.open_ j hj q).1, (h'.open_ j hj (by rw [← hu j hj]; exact q)).1]
  ·have := (h.in_ j hj q).1
   have := (h'.in_ j hj (by rw [← hu j hj]; exact q)).1
   omega
  ·obtain ⟨_, _, _, _, _, _⟩ := h.out_ j hj q
   obtain ⟨_, _, _, _, _, _⟩ := h'.out_ j hj (by rw [← hu j hj]; exact q)
   omega
 | succ m ih =>
  intro j hj hm
  have ih' : ∀ j, dom A.length j → (getI R' j).toNat ≤ m ∨ (getI R j).toNat ≤ m → getI R' j = getI R j := fun j hj hm => (ih j hj hm.symm).symm
  have hu' : ∀ j, dom A.length j → getI L' j = getI L j := fun j hj => (hu j hj).symm
  rcases h.l01 j hj with q | q | q
  ·rw [(h.open_ j hj q).1, (h'.open_ j hj (by rw [← hu j hj]; exact q)).1]
  ·exact Int.le_antisymm (inle h h' e hu m ih j hj q hm) (inle h' h e' hu' m ih' j hj (by rw [← hu j hj]; exact q) hm.symm)
  ·have q' : getI L' j = 2 := by rw [← hu j hj]; exact q
   rcases hm with hm | hm
   ·have k := outle h' h e' e hu' m ih' j hj q' hm
    have k2 := outle h h' e e' hu m ih j hj q (by have := (h'.out_ j hj q').choose_spec; omega)
    omega
   ·have k := outle h h' e e' hu m ih j hj q hm
    have k2 := outle h' h e' e hu' m ih' j hj q' (by have := (h.out_ j hj q).choose_spec; omega)
    omega
theorem Exact.uniq {A : List (List Int)} {L R L' R' : List Int} (h : Cert A L R) (h' : Cert A L' R') (e : Exact A L R) (e' : Exact A L' R') {j : Int} (hj : dom A.length j) : getI R j = getI R' j :=
 Exact.unique h h' e e' _ j hj (.inl (Nat.le_refl _))
end Go.Proofs.Ytbadgapficfbpaa.Bm
namespace Go.Proofs.Ytbadgapficfbpaa.Bm
open Go Go.RowKit
structure Chk where
 a : Bool
 b : Bool
 c : Bool
 d : Bool
def chkS (L R : List Int) (i : Int) (s : Chk) (k : Int) : Chk :=
 ⟨s.a || decide (getI L k = 1), s.b || decide (getI L k = 0), s.c || (decide (getI L k = 1) && decide (1 ≤ getI R k) && decide (getI R k < getI R i)), s.d && decide (getI L k = 2) && decide (getI R k < getI R i)⟩
def chkAt (L R : List Int) (i : Int) (g : List Int) : Bool :=
 let s := g.foldl (chkS L R i) ⟨false, false, false, true⟩
 if getI L i = 1 then decide (1 ≤ getI R i) && s.d else if getI L i = 2 then s.c else if getI L i = 0 then decide (getI R i = 0) && !s.a && s.b else false
def chkG (L R : List Int) : List (List Int) → Nat → Bool
 | [], _ => true
 | g :: G, i => chkAt L R (i : Int) g && chkG L R G (i + 1)
def checkF (A : List (List Int)) (L R : List Int) : Int :=
 if rightB A then if L.length = A.length ∧ R.length = A.length then if chkG L R (graphF A) 0 then 0 else 19 else 19 else 1
set_option maxRecDepth 20000 in
set_option maxHeartbeats 8000000 in
theorem check_spec (x : Bool) (l : List Claim) (k1 k2 : Option Bool) (Lb Rk : List Int) (hc : CaseOk l) (hl : l.length ≤ maxLen) (h1 : IOk k1 Lb) (h2 : IOk k2 Rk) :
  pureCall E.P (L E) 15 [lst x (l.map Claim.val), ilist k1 Lb, ilist k2 Rk] = some (.int .i64 (checkF (atts l) Lb Rk)) := by
 have rs := right_spec x l hc hl
 unfold checkF
 rw [pureCall_fn F15 rfl, atts_len]
 cases hr : rightB (atts l)
 ·rw [hr] at rs
  simp -implicitDefEqProofs [r15, p15, ret0 m13, rs]
 ·rw [hr] at rs
  by_cases q1 : Lb.length = l.length
  ·by_cases q2 : Rk.length = l.length
   ·have gs := graph_spec x l hc hr
    obtain ⟨hn, _⟩ := right_at hr
    have hgi := graphF_in (atts l)
    have hgb := graphF_bound hr
    have hG : (graphF (atts l)).length = l.length := by rw [graphF_len, atts_len]
    rw [atts_len] at hgi hn
    generalize graphF (atts l) = G at *
    simp -implicitDefEqProofs [r15, p15, ret0 m13, rs, il_len h1, il_len h2, q1, q2, ret1s m27, gs]
    rw [LL_for (γ := Unit) G () (fun i _ => [(34, .int .i64 i)]) (fun _ _ => []) (fun i rest _ => if chkG Lb Rk rest i then (.exit 0, [(34, undef)], []) else (.ret, [(6, .int .i64 19), (34, undef)], [])) (fun _ _ => True) (by omega) trivial]
    ·cases h : chkG Lb Rk G 0 <;> simp -implicitDefEqProofs [k15_6]
    ·simp -implicitDefEqProofs [k15_6]
    ·rfl
    ·intro nx i _ hi _
     simp -implicitDefEqProofs [r15_6, k15_6, hi, chkG, trim_le]
    ·intro nx i g rest _ hi hv hd hw _ ih
     have ih := ih () trivial
     have hgm : g ∈ G := hv ▸ List.getElem_mem hi
     have hgi := hgi g hgm
     have hgb := hgb g hgm
     have hiL : i < Lb.length := by omega
     have hiR : i < Rk.length := by omega
     have xL := il_idxN (e := 3) h1 hiL
     have xR := il_idxN (e := 3) h2 hiR
     have gL := getI_nat hiL
     have gR := getI_nat hiR
     rw [← gL] at xL
     rw [← gR] at xR
     have hm : chkG Lb Rk (g :: rest) i = (chkAt Lb Rk (i : Int) g && chkG Lb Rk rest (i + 1)) := rfl
     simp -implicitDefEqProofs [k15_6] at ih
     rw [hm]
     simp -implicitDefEqProofs [r15_6, k15_6, hi, hv, rowT]
     rw [LL_for (γ := Chk) g ⟨false, false, false, true⟩ (fun j s => [(9, .bool s.a), (10, .bool s.b), (11, .bool s.c), (12, .bool s.d), (41, .int .i64 j)]) (fun _ _ => [])
      (fun _ rest s => let o := rest.foldl (chkS Lb Rk (i : Int)) s; (.exit 2, [(9, .bool o.a), (10, .bool o.b), (11, .bool o.c), (12, .bool o.d), (41, undef)], [])) (fun _ _ => True) (by omega) trivial]
     ·unfold chkAt
      generalize g.foldl (chkS Lb Rk (i : Int)) ⟨false, false, false, true⟩ = o at *
      obtain ⟨a, b, c, d⟩ := o
      by_cases z1 : getI Lb (i : Int) = 1
      ·by_cases z2 : 1 ≤ getI Rk (i : Int)
       ·cases d <;> simp -implicitDefEqProofs [k15_11, xL, xR, z1, z2, hw, trim_le] <;> exact ih
       ·simp -implicitDefEqProofs [k15_11, xL, xR, z1, z2, trim_le]
      ·by_cases z2 : getI Lb (i : Int) = 2
       ·cases c <;> simp -implicitDefEqProofs [k15_11, xL, z2, hw, trim_le] <;> exact ih
       ·by_cases z3 : getI Lb (i : Int) = 0
        ·by_cases z4 : getI Rk (i : Int) = 0
         ·cases a <;> cases b <;> simp -implicitDefEqProofs [k15_11, xL, xR, z3, z4, hw, trim_le] <;> exact ih
         ·simp -implicitDefEqProofs [k15_11, xL, xR, z3, z4, trim_le]
        ·simp -implicitDefEqProofs [k15_11, xL, z1, z2, z3, trim_le]
     ·simp -implicitDefEqProofs [k15_11]
     ·rfl
     ·intro nx2 j s hj _
      simp -implicitDefEqProofs [r15_11, k15_11, hj, trim_le]
     ·intro nx2 j v rest2 s hj hvj hdj hwj _ ihj
      obtain ⟨u1, u2⟩ := hgi v (hvj ▸ List.getElem_mem hj)
      have yL := il_idx (e := 3) h1 u1 (by omega : v.toNat < Lb.length)
      have yR := il_idx (e := 3) h2 u1 (by omega : v.toNat < Rk.length)
      have ihj := ihj (chkS Lb Rk (i : Int) s v) trivial
      simp only [List.foldl_cons]
      obtain ⟨a, b, c, d⟩ := s
      unfold chkS at ihj ⊢
      generalize getI Lb v = lv at *
      generalize getI Rk v = rv at *
      generalize getI Rk (i : Int) = ri at *
      have n1 : (1 : Int) ≠ 0 := by decide
      have n2 : (1 : Int) ≠ 2 := by decide
      by_cases z1 : lv = 1
      ·subst z1
       by_cases z2 : 1 ≤ rv
       ·by_cases z3 : rv < ri
        ·cases a <;> cases b <;> cases c <;> cases d <;> simp -implicitDefEqProofs [k15_11, z2, z3] at ihj <;> simp -implicitDefEqProofs [r15_11, k15_11, hj, hvj, yL, yR, xR, z2, z3, hwj, trim_le] <;> exact ihj
        ·cases a <;> cases b <;> cases c <;> cases d <;> simp -implicitDefEqProofs [k15_11, z2, z3] at ihj <;> simp -implicitDefEqProofs [r15_11, k15_11, hj, hvj, yL, yR, xR, z2, z3, hwj, trim_le] <;> exact ihj
       ·cases a <;> cases b <;> cases c <;> cases d <;> simp -implicitDefEqProofs [k15_11, z2] at ihj <;> simp -implicitDefEqProofs [r15_11, k15_11, hj, hvj, yL, yR, z2, hwj, trim_le] <;> exact ihj
      ·by_cases z2 : lv = 2
       ·subst z2
        by_cases z3 : rv < ri
        ·cases a <;> cases b <;> cases c <;> cases d <;> simp -implicitDefEqProofs [k15_11, z3] at ihj <;> simp -implicitDefEqProofs [r15_11, k15_11, hj, hvj, yL, yR, xR, z3, hwj, trim_le] <;> exact ihj
        ·cases a <;> cases b <;> cases c <;> cases d <;> simp -implicitDefEqProofs [k15_11, z3] at ihj <;> simp -implicitDefEqProofs [r15_11, k15_11, hj, hvj, yL, yR, xR, z3, hwj, trim_le] <;> exact ihj
       ·by_cases z3 : lv = 0
        ·subst z3
         cases a <;> cases b <;> cases c <;> cases d <;> simp -implicitDefEqProofs [k15_11] at ihj <;> simp -implicitDefEqProofs [r15_11, k15_11, hj, hvj, yL, hwj, trim_le] <;> exact ihj
        ·cases a <;> cases b <;> cases c <;> cases d <;> simp -implicitDefEqProofs [k15_11, z1, z2, z3] at ihj <;> simp -implicitDefEqProofs [r15_11, k15_11, hj, hvj, yL, z1, z2, z3, hwj, trim_le] <;> exact ihj
   ·have q2' : ¬ ((Rk.length : Int) = l.length) := by omega
    simp -implicitDefEqProofs [r15, p15, ret0 m13, rs, il_len h1, il_len h2, q1, q2', q2]
  ·have q1' : ¬ ((Lb.length : Int) = l.length) := by omega
   simp -implicitDefEqProofs [r15, p15, ret0 m13, rs, il_len h1, q1', q1]
end Go.Proofs.Ytbadgapficfbpaa.Bm
namespace Go.Proofs.Ytbadgapficfbpaa.Bm
open Go Go.RowKit
theorem chk_fold {L R : List Int} {i : Int} : ∀ (g : List Int) (s : Chk), g.foldl (chkS L R i) s =
  ⟨s.a || g.any (fun k => decide (getI L k = 1)), s.b || g.any (fun k => decide (getI L k = 0)), s.c || g.any (fun k => decide (getI L k = 1) && decide (1 ≤ getI R k) && decide (getI R k < getI R i)),
   s.d && g.all (fun k => decide (getI L k = 2) && decide (getI R k < getI R i))⟩
 | [], s => by simp
 | k :: g, s => by
  rw [List.foldl_cons, chk_fold g]
  simp only [chkS, List.any_cons, List.all_cons, Bool.or_assoc, Bool.and_assoc]
theorem ground_len {A : List (List Int)} : (groundF A).1.length = A.length ∧ (groundF A).2.length = A.length := by
 have := waves_len (A := A) (m := A.length + 1) (r := 1) (s := startS A)
 unfold groundF
 simp only
 rw [this.1, this.2]
 simp [startS, zerosI]
end Go.Proofs.Ytbadgapficfbpaa.Bm
namespace Go.Proofs.Ytbadgapficfbpaa.Bm
open Go Go.RowKit
def topE (E : Env) (g : FuncId → Option (List Value → Heap → Nat → Res)) : Env := { E with orc := g }
section
variable {E : Env} {g : FuncId → Option (List Value → Heap → Nat → Res)}
theorem top_aop {C : Callee} {lo : Nat} {st : Bool} {op : Op} {ρ : Operand → Value} {h : Heap} : aop (topE E g) C lo st op ρ h = aop E C lo st op ρ h := rfl
theorem top_eval {σ : Slots} {x : Operand} : evalA (topE E g) σ x = evalA E σ x := by cases x <;> rfl
theorem top_evalA {σ : Slots} : evalA (topE E g) σ = evalA E σ := funext fun _ => top_eval
theorem top_with {sl draw : Bool} {ops : Array Oper} : withStrict (topE E g) sl draw ops = withStrict E sl draw ops := rfl
theorem top_run {C : Callee} {lo : Nat} {ops : Array Oper} : ∀ (l : List (Oper × Bool)) (σ : Slots) (h : Heap), runOps (topE E g) C lo ops l σ h = runOps E C lo ops l σ h
 | [], _, _ => rfl
 | (o, st) :: rest, σ, h => by
  simp only [runOps, top_aop, top_evalA, top_run rest]
theorem top_evG {f : FuncId} {C : Callee} {Lp : List Nat × List Nat → Body → Body} {lo : Nat} : ∀ (c : Code), evG (topE E g) f C Lp lo c = evG E f C Lp lo c := by
 intro c
 induction c with
 | seq a b iha ihb => funext σ h; simp only [evG, iha, ihb]
 | cond x a b iha ihb => funext σ h; simp only [evG, iha, ihb, top_eval]
 | block i a ih => funext σ h; simp only [evG, ih]
 | loop a ih => funext σ h; simp only [evG, ih]; rfl
 | scope a ih => funext σ h; simp only [evG, ih]
 | region id ops draw => funext σ h; simp only [evG, top_run, top_with]; rfl
 | _ => rfl
theorem top_ret {fn : Func} {σ : Slots} {h : Heap} : retA (topE E g) fn σ h = retA E fn σ h := rfl
theorem top_body {C : Callee} {Lp : List Nat × List Nat → Body → Body} {f : FuncId} {args : List Value} {h : Heap} {lo : Nat} : evBody (topE E g) C Lp f args h lo = evBody E C Lp f args h lo := by
 simp only [evBody, top_evG, top_ret]; rfl
theorem top_le (hg : ∀ f k, E.orc f = some k → ∃ k', g f = some k' ∧ ∀ args h lo r, k args h lo = some r → k' args h lo = some r) (hn : ∀ f, E.orc f = none → g f = none) : ∀ n, LeC (evF E n) (evF (topE E g) n)
 | 0 => fun _ _ _ _ _ h => by simp [evF] at h
 | n + 1 => by
  have ih := top_le hg hn n
  intro f args h lo r hr
  simp only [evF, evCall] at hr ⊢
  cases ho : E.orc f with
  | some k =>
   rw [ho] at hr
   obtain ⟨k', h1, h2⟩ := hg f k ho
   have e : (topE E g).orc f = some k' := h1
   simp only [e]
   exact h2 _ _ _ _ hr
  | none =>
   rw [ho] at hr
   have e : (topE E g).orc f = none := hn f ho
   simp only [e]
   rw [top_body]
   have := evCall_le (E := E) ih (Lp := evLoop n) (Lp' := evLoop n) (fun k b b' hb => evLoop_le k hb n n (Nat.le_refl _)) f args h lo r (by unfold evCall; rw [ho]; exact hr)
   unfold evCall at this
   rw [ho] at this
   exact this
theorem top_L (hg : ∀ f k, E.orc f = some k → ∃ k', g f = some k' ∧ ∀ args h lo r, k args h lo = some r → k' args h lo = some r) (hn : ∀ f, E.orc f = none → g f = none) : LeC (L E) (L (topE E g)) := fun f args h lo r hr => by
 obtain ⟨n, h1⟩ := L_some.1 hr
 exact L_some.2 ⟨n, top_le hg hn n _ _ _ _ _ h1⟩
theorem top_pure (hg : ∀ f k, E.orc f = some k → ∃ k', g f = some k' ∧ ∀ args h lo r, k args h lo = some r → k' args h lo = some r) (hn : ∀ f, E.orc f = none → g f = none) {f : FuncId} {args : List Value} {r : Value}
  (h : pureCall E.P (L E) f args = some r) : pureCall E.P (L (topE E g)) f args = some r := pureCall_le (top_L hg hn) h
theorem top_rc {f : FuncId} : ∀ (c : Code), rcOf (topE E g) f c = rcOf E f c := by
 intro c
 induction c with
 | seq a b iha ihb => simp only [rcOf, iha, ihb]
 | cond x a b iha ihb => simp only [rcOf, iha, ihb]
 | block i a ih => simp only [rcOf, ih]
 | loop a ih => simp only [rcOf, ih]; rfl
 | scope a ih => simp only [rcOf, ih]
 | region id ops draw => simp only [rcOf, top_with]; rfl
 | _ => rfl
theorem top_fn {f : FuncId} : rfnOf (topE E g) f = rfnOf E f := by
 simp only [rfnOf, top_rc]; rfl
end
end Go.Proofs.Ytbadgapficfbpaa.Bm
namespace Go.Proofs.Ytbadgapficfbpaa.Bm
open Go Go.RowKit
noncomputable def orc1 (f : FuncId) : Option (List Value → Heap → Nat → Res) := if f = 21 then some whyO else E.orc f
noncomputable def E1 : Env := topE E orc1
theorem orc1_le : ∀ f k, E.orc f = some k → ∃ k', orc1 f = some k' ∧ ∀ args h lo r, k args h lo = some r → k' args h lo = some r := fun f k hk => by
 unfold orc1
 by_cases hf : f = 21
 ·subst hf
  have : k = noO := by
   rw [E_orc] at hk
   simp at hk
   exact hk.symm
  subst this
  exact ⟨whyO, by simp, fun args h lo r hr => by cases hr⟩
 ·exact ⟨k, by rw [if_neg hf]; exact hk, fun _ _ _ _ hr => hr⟩
theorem orc1_none : ∀ f, E.orc f = none → orc1 f = none := fun f hf => by
 unfold orc1
 by_cases h : f = 21
 ·subst h
  rw [E_orc] at hf
  simp at hf
 ·rw [if_neg h]; exact hf
theorem lift {f : FuncId} {args : List Value} {r : Value} (h : pureCall E.P (L E) f args = some r) : pureCall E1.P (L E1) f args = some r := top_pure orc1_le orc1_none h
theorem fn1 {f : FuncId} {R : RFn} (h : rfnOf E f = some R) : rfnOf E1 f = some R := by
 unfold E1; rw [top_fn]; exact h
theorem frzAll_lst {P : Program} {lo : Nat} {x : Bool} {l : List Value} {h : Heap} : frzAll P lo [lst x l] h = some ([lst x l], h) := rfl
theorem ilist_inj {k k' : Option Bool} {l l' : List Int} (h : IOk k l) (h' : IOk k' l') (e : ilist k l = ilist k' l') : l = l' := by
 have hinj : ∀ {l l' : List Int}, l.map (Value.int .i64) = l'.map (.int .i64) → l = l' := fun {l l'} e => List.map_inj_right (fun a b h => by cases h; rfl) |>.1 e
 cases k with
 | none =>
  cases k' with
  | none => rw [h rfl, h' rfl]
  | some b => simp [ilist, lst] at e
 | some b =>
  cases k' with
  | none => simp [ilist, lst] at e
  | some b' =>
   simp only [ilist, lst, Value.func.injEq, Array.mk.injEq] at e
   exact hinj (by simpa using e.2.2)
theorem atts_inj : ∀ {l l' : List Claim}, CaseOk l → CaseOk l' → l.map Claim.val = l'.map Claim.val → atts l = atts l'
 | [], [], _, _, _ => rfl
 | [], _ :: _, _, _, e => by simp at e
 | _ :: _, [], _, _, e => by simp at e
 | a :: l, b :: l', hc, hc', e => by
  rw [List.map_cons, List.map_cons, List.cons.injEq] at e
  have ea : a.att = b.att := by
   have := e.1
   simp only [Claim.val, Claim.cells, Value.agg.injEq, Array.mk.injEq, List.cons.injEq] at this
   exact ilist_inj (hc a (by simp)).1 (hc' b (by simp)).1 this.2.2.1
  show a.att :: atts l = b.att :: atts l'
  rw [ea, atts_inj (fun c h => hc c (by simp [h])) (fun c h => hc' c (by simp [h])) e.2]
theorem case_inj {v : Value} {A A' : List (List Int)} (h : IsCase v A) (h' : IsCase v A') : A = A' := by
 obtain ⟨x, l, rfl, hc, _, rfl⟩ := h
 obtain ⟨x', l', e, hc', _, rfl⟩ := h'
 refine atts_inj hc hc' ?_
 simp only [lst, Value.func.injEq, Array.mk.injEq] at e
 simpa using e.2.2
theorem why_spec (x : Bool) (l : List Claim) (c : Int) (hc : CaseOk l) (hl : l.length ≤ maxLen) : pureCall E1.P (L E1) 21 [lst x (l.map Claim.val), .int .i64 c] = some (whyV (whyF (atts l) c)) := by
 have hk : ∃ A, IsCase (lst x (l.map Claim.val)) A := ⟨_, x, l, rfl, hc, hl, rfl⟩
 have : L E1 21 [lst x (l.map Claim.val), .int .i64 c] [] 0 = some (whyV (whyF (atts l) c), []) := by
  rw [L_orc (g := whyO) (by show orc1 21 = _; unfold orc1; rw [if_pos rfl])]
  simp only [whyO]
  rw [dif_pos hk, case_inj hk.choose_spec ⟨x, l, rfl, hc, hl, rfl⟩]
 unfold pureCall
 rw [this]
 unfold whyV
 split <;> rfl
end Go.Proofs.Ytbadgapficfbpaa.Bm
namespace Go.Proofs.Ytbadgapficfbpaa.Bm
open Go Go.RowKit
structure But (r : Nat) (w w' : World) : Prop where
 os : w'.os = w.os
 tape : w'.tape = w.tape
 output : w'.output = w.output
 size : w'.heap.size = w.heap.size
 block : ∀ b, b ≠ r → w'.heap[b]? = w.heap[b]?
section
variable {E : Env} {B lo r : Nat} {M M₀ : Mem} {h h₀ : Heap} {w w' w₀ : World}
theorem But.refl (r : Nat) (w : World) : But r w w := ⟨rfl, rfl, rfl, rfl, fun _ _ => rfl⟩
theorem But.set {o o' : Obj} (_hr : w.heap[r]? = some o) : But r w (Go.ChangeMaps.setBlock w r o') := by
 refine ⟨rfl, rfl, rfl, by simp [Go.ChangeMaps.setBlock], fun b hb => ?_⟩
 simp only [Go.ChangeMaps.setBlock]
 rw [Array.getElem?_setIfInBounds_ne (by omega)]
theorem But.drew (r : Nat) (w : World) : But r w w.drew := ⟨rfl, rfl, rfl, rfl, fun _ _ => rfl⟩
theorem But.trans {w'' : World} (a : But r w w') (b : But r w' w'') : But r w w'' :=
 ⟨b.os.trans a.os, b.tape.trans a.tape, b.output.trans a.output, b.size.trans a.size, fun x hx => (b.block x hx).trans (a.block x hx)⟩
structure Off (r : Nat) (M : Mem) (h : Heap) : Prop where
 obj : ∀ o l, M.obj o = some l → alive h o → l.real → l.blk ≠ r
 phi : ∀ x, M.phi r x = none
theorem HSim.aside (hs : HSim E B M h w) (p : But r w w') (k : Off r M h) : HSim E B M h w' := by
 refine ⟨hs.glob, fun b o v hv => ?_, hs.sep, by rw [p.size]; exact hs.base, fun o l hl => by rw [p.size]; exact hs.dom o l hl, fun o l t c g hl ho => ?_, fun o l es ck hl ho => ?_, hs.inj⟩
 ·have hb : b ≠ r := fun e => by subst e; rw [k.phi] at hv; cases hv
  rw [← hs.phi b o v hv]
  exact World.cell?_of_block (p.block b hb)
 ·obtain ⟨q1, q2, q3, q4⟩ := hs.obj o l t c g hl ho
  refine ⟨q1, q2, q3, fun hr => ?_⟩
  rw [p.block _ (k.obj o l hl ⟨_, ho, by simp⟩ hr)]
  exact q4 hr
 ·obtain ⟨q1, es', q2, q3, q4⟩ := hs.mp o l es ck hl ho
  refine ⟨q1, es', ?_, q3, q4⟩
  rw [p.block _ (k.obj o l hl ⟨_, ho, by simp⟩ (.inl q1))]
  exact q2
theorem Evo.aside (e : Evo lo M₀ h₀ w₀ M h w) (p : But r w w') (hr : w₀.heap.size ≤ r) : Evo lo M₀ h₀ w₀ M h w' :=
 ⟨p.os.trans e.os, p.tape.trans e.tape, p.output.trans e.output, by rw [p.size]; exact e.size, fun b hb hn => (p.block b (by omega)).trans (e.block b hb hn), e.len, e.keep, e.dead, e.ext, e.le, e.non, e.own, e.fro⟩
theorem Off.evo {M' : Mem} {h' : Heap} (k : Off r M h) (e : Evo lo M h w M' h' w') (hr : r < w.heap.size) (_hs : HSim E B M h w) : Off r M' h' ∧ w'.heap[r]? = w.heap[r]? := by
 have hn : ¬ Had lo M h r := by
  rintro ⟨o, l, h1, h2, h3, h4, h5⟩
  exact k.obj o l h2 h3 h4 h5
 refine ⟨⟨fun o l hl ha hr' => ?_, fun x => ?_⟩, e.block r hr hn⟩
 ·by_cases ho : lo ≤ o
  ·rcases e.own o l ho hl ha hr' with h1 | h1
   ·omega
   ·intro e; exact hn (e ▸ h1)
  ·rw [e.ext o (by omega)] at hl
   obtain ⟨x, hx, hd⟩ := ha
   rw [e.keep o (by omega)] at hx
   exact k.obj o l hl ⟨x, hx, hd⟩ hr'
 ·cases hx : M'.phi r x with
  | none => rfl
  | some v =>
   rcases e.fro r x v hx with h1 | h1 | h1
   ·rw [k.phi] at h1; cases h1
   ·omega
   ·exact absurd h1 hn
theorem map_block {o : Nat} {l : Loc} {es : List MapEntry} {ck : Nat} {M' : Mem} {h' : Heap} (hs : HSim E B M h w) (e : Evo lo M h w M' h' w') (ho : o < lo) (hl : M.obj o = some l) (hm : h[o]? = some (.map es ck)) :
  w'.heap[l.blk]? = w.heap[l.blk]? ∧ M'.obj o = some l ∧ h'[o]? = some (.map es ck) := by
 obtain ⟨q1, _⟩ := hs.mp o l es ck hl hm
 refine ⟨e.block _ ((hs.dom o l hl).2 (.inl q1)).2 ?_, by rw [e.ext o ho, hl], by rw [e.keep o ho, hm]⟩
 rintro ⟨o', l', h1, h2, h3, h4, h5⟩
 have := hs.inj o o' l l' hl h2 ⟨_, hm, by simp⟩ h3 (.inl q1) h4 h5.symm
 omega
theorem ops_keep (hP : GoodP E.P) {C : Callee} (hC : CSound E C) {ops : Array Oper} {Q : Exit → Act → World → Prop} {I : Act → Prop} :
  ∀ (l : List Oper) (k : Nat) (σ σ' : Slots) (h h' : Heap) (M : Mem) (a : Act) (w : World), (∀ j, l[j]? = ops[k + j]?) → k + l.length = ops.size → (∀ o ∈ l, ∀ a v, I a → I (a.put o.dst v)) →
   runOps E C lo ops (l.map (·, false)) σ h = some (σ', h') → lo ≤ h.length → SRel M σ a.tmps → a.defers = [] → HSim E B M h w → Evo lo M₀ h₀ w₀ M h w → I a →
   (∀ a' w', Aft E B lo M₀ h₀ w₀ σ' h' a' w' → I a' → Q .normal a' w') → wpOps E.P ops Q (List.range' k l.length) a w
 | [], k, σ, σ', h, h', M, a, w, _, _, _, hr, _, hσ, hd, hs, hev, hi, hQ => by
  simp only [List.map_nil, runOps, Option.some.injEq, Prod.mk.injEq] at hr
  obtain ⟨rfl, rfl⟩ := hr
  exact hQ a w ⟨hd, M, hσ, hs, hev⟩ hi
 | o :: l, k, σ, σ', h, h', M, a, w, hl, hlen, hI, hr, hlo, hσ, hd, hs, hev, hi, hQ => by
  have h0 : ops[k]? = some o := by simpa using (hl 0).symm
  have hl' : ∀ j, l[j]? = ops[k + 1 + j]? := fun j => by have := hl (j + 1); simpa [Nat.add_assoc, Nat.add_comm 1 j] using this
  have hI' : ∀ o ∈ l, ∀ a v, I a → I (a.put o.dst v) := fun o ho => hI o (by simp [ho])
  simp only [List.length_cons, List.range'_succ]
  simp only [List.map_cons, runOps] at hr
  rw [wpOps_cons]
  unfold wpOp
  simp only [h0]
  split at hr
  ·rename_i hg
   rw [guard_rel hσ hg]
   simp only [if_true]
   refine .inl ?_
   simp only [Option.bind_eq_some_iff] at hr
   obtain ⟨⟨v, h1⟩, hop, hr⟩ := hr
   refine aop_sound hP hC hs hlo hop (fun x _ => eval_rel hs.glob hσ x) (evalA_func E σ) fun v' w' ho => ?_
   obtain ⟨M1, q1, q2, q3⟩ := ho.weaken (lo' := lo) (by unfold loOf; split <;> omega)
   exact ops_keep hP hC l (k + 1) _ σ' h1 h' M1 _ w' hl' (by simp at hlen; omega) hI' hr (Nat.le_trans hlo q3.len) ((hσ.mono q3.le).put o.dst q1) (by rw [Act.put_defers']; exact hd) q2 (hev.trans q3) (hI o (by simp) a v' hi) hQ
  ·rename_i hg
   rw [guard_rel hσ hg]
   simp only [Bool.false_eq_true, if_false]
   exact ops_keep hP hC l (k + 1) _ σ' h h' M _ w hl' (by simp at hlen; omega) hI' hr hlo (hσ.put o.dst (.skip _)) (by rw [Act.put_defers']; exact hd) hs hev (hI o (by simp) a _ hi) hQ
  ·cases hr
theorem region_keep {sl : Bool} (hP : GoodP E.P) {C : Callee} (hC : CSound E C) {id : Nat} {ops : Array Oper} {Q : Exit → Act → World → Prop} {σ σ' : Slots} {h' : Heap} {a : Act} {I : Act → Prop} (hI : ∀ o ∈ ops, ∀ a v, I a → I (a.put o.dst v))
  (hr : runR E C lo ((withStrict E sl false ops).map (riOf E.P E.live ops)) σ h = some (σ', h')) (hlo : lo ≤ h.length) (hσ : SRel M σ a.tmps) (hd : a.defers = []) (hs : HSim E B M h w) (hi : I a)
  (hQ : ∀ a' w', Aft E B lo M h w σ' h' a' w' → I a' → Q .normal a' w') : (Code.region id ops false).wp E.P Q a w := by
 rw [← run_eq] at hr
 refine wp_region ?_
 rw [List.range_eq_range']
 have := ops_keep (ops := ops) hP hC ops.toList 0 σ σ' h h' M a w (fun j => by rw [Nat.zero_add]; simp) (by rw [Nat.zero_add]; simp) (fun o ho => hI o (Array.mem_toList_iff.1 ho)) (by simpa [withStrict] using hr) hlo hσ hd hs (Evo.refl hs lo) hi hQ
 simpa using this
end
end Go.Proofs.Ytbadgapficfbpaa.Bm
