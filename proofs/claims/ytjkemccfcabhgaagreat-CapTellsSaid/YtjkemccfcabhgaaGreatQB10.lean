/-
 The abstract machine is sound: a call that it carries out, the machine carries out, with a related outcome. Conditions: the program's regions whose order is drawn pass 'okDraw'; no function is run-time's NumGoroutine; the program follows mixed orders.
-/
import Derived.Test.YtjkemccfcabhgaaGreatQB09
import Derived.LoopN
namespace Go.Proofs.YtjkemccfcabhgaaGreat.Bm
open Go Go.RowKit
section
variable {E : Env} {sl : Bool} {B : Nat} {C : Callee} {lo : Nat} {ops : Array Oper} {S : Nat → Slots} {H : Nat → Heap} {V : Nat → Value} {G : Nat → Bool}
theorem okDraw_edge (ho : okDraw ops = true) {q : Nat} {o : Oper} (hq : ops[q]? = some o) {e : Edge} (he : e ∈ o.after) (hb : Region.binds .any e = true) : e.on < q := by
 unfold okDraw at ho
 simp only [Bool.and_eq_true, List.all_eq_true] at ho
 have := ho.1 (o, q) (by rw [List.mem_iff_getElem?]; exact ⟨q, by simp [List.getElem?_zipIdx, hq]⟩) e (Array.mem_toList_iff.2 he)
 simpa [hb] using this
theorem okDraw_apart (ho : okDraw ops = true) {p q : Nat} {x y : Oper} (hpq : p < q) (hp : ops[p]? = some x) (hq : ops[q]? = some y) : x.apart ops y = true ∨ ((Region.before ops).getD q 0).testBit p = true := by
 unfold okDraw at ho
 simp only [Bool.and_eq_true, List.all_eq_true] at ho
 have := ho.2 (y, q) (by rw [List.mem_iff_getElem?]; exact ⟨q, by simp [List.getElem?_zipIdx, hq]⟩) (x, p) (by
  rw [List.mem_iff_getElem?]
  refine ⟨p, ?_⟩
  rw [List.getElem?_take, if_pos hpq]
  simp [List.getElem?_zipIdx, hp])
 simpa using this
def nq (E : Env) (sl : Bool) (ops : Array Oper) (G : Nat → Bool) (k : Nat) : Prop := G k = true ∧ ∃ o, ops[k]? = some o ∧ clsOf E o.op = .write ∧ strictAt E sl ops (Region.before ops) k o = false
theorem nq_ordered {k j : Nat} {p : Oper} (hk : nq E sl ops G k) (hj : ops[j]? = some p) (hp : quietOp E sl p.op = false) (hne : j ≠ k) : (k < j → ((Region.before ops).getD j 0).testBit k = true) ∧ (j < k → ((Region.before ops).getD k 0).testBit j = true) := by
 obtain ⟨_, o, ho, hw, hs⟩ := hk
 unfold strictAt at hs
 have hs := (Bool.or_eq_false_iff.1 hs).2
 rw [hw] at hs
 simp only [beq_self_eq_true, Bool.true_and, Bool.not_eq_false', List.all_eq_true, Bool.or_eq_true, beq_iff_eq] at hs
 have hlt : j < ops.size := (Array.getElem?_eq_some_iff.1 hj).1
 have h1 := hs j (List.mem_range.2 hlt)
 rcases h1 with (h1 | h1) | h1
 ·exact absurd h1 hne
 ·rw [hj] at h1
  simp only [Option.all_some] at h1
  rw [hp] at h1; cases h1
 ·unfold orderedIn at h1
  constructor
  ·intro h; rwa [Nat.max_eq_right (by omega), Nat.min_eq_left (by omega)] at h1
  ·intro h; rwa [Nat.max_eq_left (by omega), Nat.min_eq_right (by omega)] at h1
variable (T : ∀ j o, ops[j]? = some o → Tr E sl C lo ops S H V G j o) (hK : KeepC C) (hlo : lo ≤ (H 0).length)
include T hK hlo
theorem keep_all : ∀ k, k ≤ ops.size → Keep lo (H 0) (H k) := by
 intro k
 induction k with
 | zero => intro _; exact .refl _ _
 | succ k ih =>
  intro hk
  have k1 := ih (by omega)
  have hlt : k < ops.size := by omega
  have t := T k ops[k] (by simp [hlt])
  have hlo' := Nat.le_trans hlo k1.1
  cases hg : G k with
  | false => obtain ⟨_, e⟩ := t.skip hg; rw [e]; exact k1
  | true => exact k1.trans ((aop_keep hK hlo' (t.run hg) (evalA_func E _)).weaken (by unfold loOf; split <;> omega))
theorem keep_step {k : Nat} (hk : k < ops.size) : Keep lo (H k) (H (k + 1)) := by
 have t := T k ops[k] (by simp [hk])
 have hlo' := Nat.le_trans hlo (keep_all T hK hlo k (by omega)).1
 cases hg : G k with
 | false => obtain ⟨_, e⟩ := t.skip hg; rw [e]; exact .refl _ _
 | true => exact (aop_keep hK hlo' (t.run hg) (evalA_func E _)).weaken (by unfold loOf; split <;> omega)
theorem keep_quiet {k : Nat} (hk : k < ops.size) (hn : ¬ nq E sl ops G k) : Keep (H k).length (H k) (H (k + 1)) := by
 have t := T k ops[k] (by simp [hk])
 have hlo' := Nat.le_trans hlo (keep_all T hK hlo k (by omega)).1
 cases hg : G k with
 | false => obtain ⟨_, e⟩ := t.skip hg; rw [e]; exact .refl _ _
 | true =>
  have := aop_keep hK hlo' (t.run hg) (evalA_func E _)
  have e : loOf E (strictAt E sl ops (Region.before ops) k ops[k]) ops[k].op lo (H k) = (H k).length := by
   unfold loOf
   rw [if_pos]
   by_cases hw : clsOf E ops[k].op = .write
   ·cases hs : strictAt E sl ops (Region.before ops) k ops[k] with
    | true => rfl
    | false => exact absurd ⟨hg, ops[k], by simp [hk], hw, hs⟩ hn
   ·simp [hw]
  rw [e] at this
  exact this
theorem len_mono {i j : Nat} (hij : i ≤ j) (hj : j ≤ ops.size) : (H i).length ≤ (H j).length := by
 induction j with
 | zero => have : i = 0 := by omega
           subst this; exact Nat.le_refl _
 | succ j ih =>
  by_cases e : i = j + 1
  ·subst e; exact Nat.le_refl _
  ·exact Nat.le_trans (ih (by omega) (by omega)) (keep_step T hK hlo (by omega)).1
theorem keep_range {i j : Nat} (hij : i ≤ j) (hj : j ≤ ops.size) (hn : ∀ k, i ≤ k → k < j → ¬ nq E sl ops G k) : Keep (H i).length (H i) (H j) := by
 induction j with
 | zero => have : i = 0 := by omega
           subst this; exact .refl _ _
 | succ j ih =>
  by_cases e : i = j + 1
  ·subst e; exact .refl _ _
  ·have k1 := ih (by omega) (by omega) fun k h1 h2 => hn k h1 (by omega)
   exact k1.trans ((keep_quiet T hK hlo (by omega) (hn j (by omega) (by omega))).weaken k1.1)
omit hK hlo in
theorem slotval : ∀ m, m ≤ ops.size → (S m).length = (S 0).length ∧ ∀ t v, (S m)[t]? = some v →
  (∃ k, k < m ∧ dstOf ops k = some t ∧ (∀ j, j < m → dstOf ops j = some t → j ≤ k) ∧ v = V k) ∨ ((∀ j, j < m → dstOf ops j ≠ some t) ∧ (S 0)[t]? = some v) := by
 intro m
 induction m with
 | zero => intro _; exact ⟨rfl, fun t v hv => .inr ⟨fun j hj => by omega, hv⟩⟩
 | succ m ih =>
  intro hm
  obtain ⟨hl, hs⟩ := ih (by omega)
  have hlt : m < ops.size := by omega
  have h0 : ops[m]? = some ops[m] := by simp [hlt]
  have t := T m ops[m] h0
  have hd : dstOf ops m = ops[m].dst := by simp [dstOf, h0]
  rw [t.slot]
  cases hdst : ops[m].dst with
  | none =>
   simp only [putA]
   refine ⟨hl, fun x v hv => ?_⟩
   rcases hs x v hv with ⟨k, h1, h2, h3, h4⟩ | ⟨h1, h2⟩
   ·exact .inl ⟨k, by omega, h2, fun j hj hjd => by
     by_cases e : j = m
     ·subst e; rw [hd, hdst] at hjd; cases hjd
     ·exact h3 j (by omega) hjd, h4⟩
   ·exact .inr ⟨fun j hj => by
     by_cases e : j = m
     ·subst e; rw [hd, hdst]; simp
     ·exact h1 j (by omega), h2⟩
  | some d =>
   simp only [putA]
   refine ⟨by simp [hl], fun x v hv => ?_⟩
   by_cases e : d = x
   ·subst e
    have hdl : d < (S m).length := by
     have := (List.getElem?_eq_some_iff.1 hv).1; simpa using this
    rw [List.getElem?_set_self hdl] at hv
    cases hv
    exact .inl ⟨m, by omega, by rw [hd, hdst], fun j hj _ => by omega, rfl⟩
   ·rw [List.getElem?_set_ne e] at hv
    rcases hs x v hv with ⟨k, h1, h2, h3, h4⟩ | ⟨h1, h2⟩
    ·exact .inl ⟨k, by omega, h2, fun j hj hjd => by
      by_cases e' : j = m
      ·subst e'; rw [hd, hdst] at hjd; cases hjd; exact absurd rfl e
      ·exact h3 j (by omega) hjd, h4⟩
    ·exact .inr ⟨fun j hj => by
      by_cases e' : j = m
      ·subst e'; rw [hd, hdst]; intro h; cases h; exact e rfl
      ·exact h1 j (by omega), h2⟩
end
def Ex (ops : Array Oper) (listed : Array Bool) (k : Nat) : Prop := k < ops.size ∧ listed.getD k false = true
structure Inv (E : Env) (sl : Bool) (B lo : Nat) (ops : Array Oper) (S : Nat → Slots) (H : Nat → Heap) (V : Nat → Value) (G : Nat → Bool) (M₀ : Mem) (w₀ : World) (listed : Array Bool) (M : Mem) (a : Act) (w : World) : Prop where
 lsize : listed.size = ops.size
 closed : ∀ q o, ops[q]? = some o → listed.getD q false = true → ∀ e ∈ o.after, Region.binds .any e = true → listed.getD e.on false = true
 defers : a.defers = []
 tsize : (S 0).length = a.tmps.size
 slotW : ∀ t k v', a.tmps[t]? = some v' → Ex ops listed k → dstOf ops k = some t → (∀ j, Ex ops listed j → dstOf ops j = some t → j ≤ k) → VRel (M.cut (H (k + 1)).length) (V k) v'
 slot0 : ∀ t v v', a.tmps[t]? = some v' → (S 0)[t]? = some v → (∀ k, Ex ops listed k → dstOf ops k ≠ some t) → VRel (M.cut (H 0).length) v v'
 view : ∀ i, i ≤ ops.size → (∀ e, e < i → nq E sl ops G e → Ex ops listed e) → (∀ e, Ex ops listed e → nq E sl ops G e → e < i) → HSim E B (M.cut (H i).length) (H i) w ∧ Evo lo M₀ (H 0) w₀ (M.cut (H i).length) (H i) w
 dom : ∀ o l, M.obj o = some l → o < (H 0).length ∨ ∃ k, Ex ops listed k ∧ (H k).length ≤ o ∧ o < (H (k + 1)).length
 cells : ∀ b o v, M.phi b o = some v → w.cell? ⟨b, o, none⟩ = some v
section
variable {E : Env} {sl : Bool} {B : Nat} {C : Callee} {lo : Nat} {ops : Array Oper} {S : Nat → Slots} {H : Nat → Heap} {V : Nat → Value} {G : Nat → Bool}
 {M₀ M : Mem} {w₀ w : World} {listed : Array Bool} {a : Act}
theorem ex_before (hok : okDraw ops = true) (I : Inv E sl B lo ops S H V G M₀ w₀ listed M a w) : ∀ q p, Ex ops listed q → ((Region.before ops).getD q 0).testBit p = true → Ex ops listed p := by
 intro q
 induction q using Nat.strongRecOn with
 | _ q ih =>
  intro p hq hb
  obtain ⟨o, ho, e, he, hbe, hor⟩ := before_bit ops hb
  have hlt := okDraw_edge hok ho he hbe
  have hex : Ex ops listed e.on := ⟨Nat.lt_trans hlt hq.1, I.closed q o ho hq.2 e he hbe⟩
  rcases hor with rfl | h
  ·exact hex
  ·exact ih e.on hlt p hex h
theorem ready_before (hok : okDraw ops = true) (I : Inv E sl B lo ops S H V G M₀ w₀ listed M a w) {i : Nat} {o : Oper} (ho : ops[i]? = some o) (hall : ∀ e ∈ o.after, Region.binds .any e = true → listed.getD e.on false = true) {p : Nat}
  (hb : ((Region.before ops).getD i 0).testBit p = true) : Ex ops listed p := by
 obtain ⟨o', ho', e, he, hbe, hor⟩ := before_bit ops hb
 rw [ho] at ho'; cases ho'
 have hlt := okDraw_edge hok ho he hbe
 have hex : Ex ops listed e.on := ⟨Nat.lt_trans hlt (Array.getElem?_eq_some_iff.1 ho).1, hall e he hbe⟩
 rcases hor with rfl | h
 ·exact hex
 ·exact ex_before hok I _ _ hex h
theorem not_ex {i : Nat} (hu : listed.getD i true = false) : ¬ Ex ops listed i := by
 rintro ⟨_, h⟩
 by_cases hlt : i < listed.size
 ·simp [hlt] at hu h; rw [hu] at h; cases h
 ·simp [Array.getElem?_eq_none (Nat.le_of_not_lt hlt)] at hu
theorem ex_set (I : Inv E sl B lo ops S H V G M₀ w₀ listed M a w) {i : Nat} (hi : i < ops.size) {k : Nat} : Ex ops (listed.setIfInBounds i true) k ↔ k = i ∨ Ex ops listed k := by
 have hls := I.lsize
 unfold Ex
 by_cases e : k = i
 ·subst e; simp [hi, hls]
 ·simp [e, getD_set_ne false (Ne.symm e)]
theorem looks_rel (hok : okDraw ops = true) (T : ∀ j o, ops[j]? = some o → Tr E sl C lo ops S H V G j o) (hK : KeepC C) (hlo : lo ≤ (H 0).length) (I : Inv E sl B lo ops S H V G M₀ w₀ listed M a w) {i : Nat} {o : Oper} (ho : ops[i]? = some o)
  (hu : listed.getD i true = false) (hall : ∀ e ∈ o.after, Region.binds .any e = true → listed.getD e.on false = true) {t : Tmp} (ht : t ∈ o.looksAt ops) {v v' : Value} (hv : (S i)[t]? = some v) (hv' : a.tmps[t]? = some v') :
  VRel (M.cut (H i).length) v v' := by
 have hi : i < ops.size := (Array.getElem?_eq_some_iff.1 ho).1
 have late : ∀ j, Ex ops listed j → dstOf ops j = some t → j < i := by
  intro j hj hd
  rcases Nat.lt_trichotomy j i with h | h | h
  ·exact h
  ·subst h; exact absurd hj (not_ex hu)
  ·obtain ⟨y, hy⟩ : ∃ y, ops[j]? = some y := ⟨ops[j]'hj.1, by simp [hj.1]⟩
   have hyd : y.dst = some t := by simpa [dstOf, hy] using hd
   rcases okDraw_apart hok h ho hy with h1 | h1
   ·exact absurd ht ((Oper.apart_spec h1).2.2 t hyd)
   ·exact absurd (ex_before hok I _ _ hj h1) (not_ex hu)
 rcases (slotval T i (by omega)).2 t v hv with ⟨k, h1, h2, h3, rfl⟩ | ⟨h1, h2⟩
 ·obtain ⟨x, hx⟩ : ∃ x, ops[k]? = some x := ⟨ops[k], by simp⟩
  have hxd : x.dst = some t := by simpa [dstOf, hx] using h2
  have hex : Ex ops listed k := by
   rcases okDraw_apart hok h1 hx ho with h4 | h4
   ·exact absurd ht ((Oper.apart_spec h4).1 t hxd)
   ·exact ready_before hok I ho hall h4
  exact (I.slotW t k v' hv' hex h2 fun j hj hd => h3 j (late j hj hd) hd).mono (cut_le (len_mono T hK hlo (by omega) (by omega)))
 ·exact (I.slot0 t v v' hv' h2 fun k hk hd => h1 k (late k hk hd) hd).mono (cut_le (len_mono T hK hlo (by omega) (by omega)))
theorem guard_rel' {σ : Slots} {a : Act} {o : Oper} (hsz : σ.length = a.tmps.size) (h : ∀ t ∈ o.looksAt ops, ∀ v v', σ[t]? = some v → a.tmps[t]? = some v' → VRel M v v') {b : Bool} (hb : guardA ops σ o = some b) :
  Region.wanted o (yielded ops a.tmps) = b := by
 unfold guardA at hb
 unfold Region.wanted
 cases hg : o.guard with
 | none => simp only [hg, Option.some.injEq] at hb ⊢; exact hb
 | some jw =>
  obtain ⟨j, want⟩ := jw
  simp only [hg] at hb ⊢
  split at hb
  ·rename_i c hc
   cases hb
   simp only [Option.bind_eq_some_iff] at hc
   obtain ⟨d, hd, hdv⟩ := hc
   have hlt : d < a.tmps.size := hsz ▸ (List.getElem?_eq_some_iff.1 hdv).1
   obtain ⟨p, hp, hpd⟩ := hd
   have := h d (by simp [Oper.looksAt, hg, hp, hpd]) _ a.tmps[d] hdv (by simp [hlt])
   have e := this.bool
   have e2 : yielded ops a.tmps j = some c := by
    unfold yielded
    simp [hp, hpd, hlt, e]
   rw [e2]
   cases c <;> cases want <;> rfl
  ·rename_i n hc
   cases hb
   simp only [Option.bind_eq_some_iff] at hc
   obtain ⟨d, hd, hdv⟩ := hc
   have hlt : d < a.tmps.size := hsz ▸ (List.getElem?_eq_some_iff.1 hdv).1
   obtain ⟨p, hp, hpd⟩ := hd
   have := h d (by simp [Oper.looksAt, hg, hp, hpd]) _ a.tmps[d] hdv (by simp [hlt])
   have e : a.tmps[d] = .tuple #[] := by
    generalize a.tmps[d] = u at this
    cases this with
    | skip => rfl
    | atom _ h => simp [Bm.atom] at h
   have e2 : yielded ops a.tmps j = none := by
    unfold yielded
    simp [hp, hpd, hlt, e]
   rw [e2]
   rfl
  ·cases hb
theorem opnd_rel {σ : Slots} {a : Act} {o : Oper} (hg : ∀ g v, E.glob g = some v → VRel M (cptr v) (.pointer (some ⟨g, 0, none⟩))) (hsz : σ.length = a.tmps.size) (h : ∀ t ∈ o.looksAt ops, ∀ v v', σ[t]? = some v → a.tmps[t]? = some v' → VRel M v v') :
  ∀ x ∈ o.op.operands, VRel M (evalA E σ x) (a.eval x) := by
 intro x hx
 cases x with
 | tmp t =>
  have ht : t ∈ o.looksAt ops := by
   simp only [Oper.looksAt, List.mem_append, List.mem_filterMap]
   exact .inl ⟨.tmp t, Array.mem_toList_iff.2 hx, rfl⟩
  show VRel M (σ.getD t undef) (a.tmps.getD t undef)
  by_cases hi : t < σ.length
  ·have hi' : t < a.tmps.size := hsz ▸ hi
   have e1 : σ.getD t undef = σ[t] := by simp [hi]
   have e2 : a.tmps.getD t undef = a.tmps[t] := by simp [hi']
   rw [e1, e2]
   exact h t ht _ _ (by simp [hi]) (by simp [hi'])
  ·rw [show σ.getD t undef = undef by simp [List.getElem?_eq_none (Nat.le_of_not_lt hi)]]
   exact .top _
 | const v =>
  show VRel M (if flat v then v else undef) v
  split
  ·exact VRel.of_flat ‹_›
  ·exact .top _
 | global g =>
  show VRel M (match E.glob g with | some v => cptr v | none => undef) _
  split
  ·rename_i v hv
   exact hg g v hv
  ·exact .top _
 | func f => exact .func _ _ _ _ _ rfl rfl (fun i u u' hu => by simp at hu) fun i u u' hu => by simp at hu
theorem cut_cut_le {M M' : Mem} {n : Nat} (h : ∀ o l, o < n → M.obj o = some l → ∃ l', M'.obj o = some l' ∧ Grew l l') (hp : ∀ b x v, M.phi b x = some v → M'.phi b x = some v) : (M.cut n).Le (M'.cut n) :=
 ⟨fun o l hl => by
  obtain ⟨h1, h2⟩ := cut_some hl
  obtain ⟨l', h3, h4⟩ := h o l h1 h2
  exact ⟨l', cut_of h1 h3, h4⟩, hp⟩
theorem Inv.more (_T : ∀ j o, ops[j]? = some o → Tr E sl C lo ops S H V G j o) (hok : okDraw ops = true) (I : Inv E sl B lo ops S H V G M₀ w₀ listed M a w) {i : Nat} {o : Oper} (ho : ops[i]? = some o)
  (hu : listed.getD i true = false) (hall : ∀ e ∈ o.after, Region.binds .any e = true → listed.getD e.on false = true) {M' : Mem} {w₁ : World} {v' : Value}
  (hv : VRel (M'.cut (H (i + 1)).length) (V i) v') (hcells : ∀ b o v, M'.phi b o = some v → w₁.cell? ⟨b, o, none⟩ = some v) (hle : ∀ n, (M.cut n).Le (M'.cut n)) (hdom : ∀ o l, M'.obj o = some l → (∃ l₀, M.obj o = some l₀) ∨ ((H i).length ≤ o ∧ o < (H (i + 1)).length))
  (hview : ∀ j, j ≤ ops.size → (∀ e, e < j → nq E sl ops G e → e = i ∨ Ex ops listed e) → (∀ e, (e = i ∨ Ex ops listed e) → nq E sl ops G e → e < j) → HSim E B (M'.cut (H j).length) (H j) w₁ ∧ Evo lo M₀ (H 0) w₀ (M'.cut (H j).length) (H j) w₁) :
  Inv E sl B lo ops S H V G M₀ w₀ (listed.setIfInBounds i true) M' (a.put o.dst v') w₁ := by
 have hi : i < ops.size := (Array.getElem?_eq_some_iff.1 ho).1
 have hx : ∀ {k}, Ex ops (listed.setIfInBounds i true) k ↔ k = i ∨ Ex ops listed k := fun {k} => ex_set I hi
 have hdst : dstOf ops i = o.dst := by simp [dstOf, ho]
 -- a slot of this operation is nobody's behind it
 have last : ∀ t, o.dst = some t → ∀ j, Ex ops listed j → dstOf ops j = some t → j < i := by
  intro t ht j hj hd
  rcases Nat.lt_trichotomy j i with h | h | h
  ·exact h
  ·subst h; exact absurd hj (not_ex hu)
  ·obtain ⟨y, hy⟩ : ∃ y, ops[j]? = some y := ⟨ops[j]'hj.1, by simp [hj.1]⟩
   have hyd : y.dst = some t := by simpa [dstOf, hy] using hd
   rcases okDraw_apart hok h ho hy with h1 | h1
   ·exact absurd hyd ((Oper.apart_spec h1).2.1 t ht)
   ·exact absurd (ex_before hok I _ _ hj h1) (not_ex hu)
 constructor
 ·simp [I.lsize]
 ·intro q oq hq hlq e he hb
  by_cases hqi : q = i
  ·subst hqi; rw [ho] at hq; cases hq
   exact getD_set_true (hall e he hb)
  ·rw [getD_set_ne false (Ne.symm hqi)] at hlq
   exact getD_set_true (I.closed q oq hq hlq e he hb)
 ·rw [Act.put_defers']; exact I.defers
 ·rw [I.tsize]; cases o.dst <;> simp [Act.put]
 ·intro t k u' ht hk hd hmax
  by_cases hto : o.dst = some t
  ·have hki : k = i := by
    rcases hx.1 hk with h | h
    ·exact h
    ·have h1 := last t hto k h hd
     have h2 := hmax i (hx.2 (.inl rfl)) (by rw [hdst]; exact hto)
     omega
   subst hki
   have hlt : t < a.tmps.size := by
    have := (Array.getElem?_eq_some_iff.1 ht).1
    simpa [hto, Act.put] using this
   simp only [hto, Act.put] at ht
   rw [Array.getElem?_setIfInBounds_self_of_lt hlt] at ht
   cases ht
   exact hv
  ·have hki : k ≠ i := by intro e; subst e; rw [hdst] at hd; exact hto hd
   have hk' : Ex ops listed k := (hx.1 hk).resolve_left hki
   have ht' : a.tmps[t]? = some u' := by
    cases hod : o.dst with
    | none => simpa [hod, Act.put] using ht
    | some d => simp only [hod, Act.put] at ht; rwa [Array.getElem?_setIfInBounds_ne (by rintro rfl; exact hto hod)] at ht
   exact (I.slotW t k u' ht' hk' hd fun j hj hjd => hmax j (hx.2 (.inr hj)) hjd).mono (hle _)
 ·intro t v u' ht hv0 hno
  have hto : o.dst ≠ some t := by intro h; exact hno i (hx.2 (.inl rfl)) (by rw [hdst]; exact h)
  have ht' : a.tmps[t]? = some u' := by
   cases hod : o.dst with
   | none => simpa [hod, Act.put] using ht
   | some d => simp only [hod, Act.put] at ht; rwa [Array.getElem?_setIfInBounds_ne (by rintro rfl; exact hto hod)] at ht
  exact (I.slot0 t v u' ht' hv0 fun k hk => hno k (hx.2 (.inr hk))).mono (hle _)
 ·intro j hj h1 h2
  exact hview j hj (fun e he hn => hx.1 (h1 e he hn)) fun e he hn => h2 e (hx.2 he) hn
 ·intro o' l hl
  rcases hdom o' l hl with ⟨l₀, hl₀⟩ | hin
  ·exact (I.dom o' l₀ hl₀).imp id fun ⟨k, h1, h2⟩ => ⟨k, hx.2 (.inr h1), h2⟩
  ·exact .inr ⟨i, hx.2 (.inl rfl), hin.1, hin.2⟩
 ·exact hcells
theorem HSim.pad {h ex : Heap} (hs : HSim E B M h w) : HSim E B M (h ++ ex) w := by
 have hget : ∀ o' l, M.obj o' = some l → (h ++ ex)[o']? = h[o']? := fun o' l hl => List.getElem?_append_left (hs.lt o' l hl)
 have hal : ∀ {o' l}, M.obj o' = some l → alive (h ++ ex) o' → alive h o' := fun {o' l} hl ⟨x, hx, hx'⟩ => ⟨x, by rw [← hget o' l hl]; exact hx, hx'⟩
 refine ⟨hs.glob, hs.phi, fun o l hl ha hr x => hs.sep o l hl (hal hl ha) hr x, hs.base, fun o' l hl => ?_, fun o' l t c g hl hob => ?_, fun o' l es ck hl hob => ?_, fun o₁ o₂ l₁ l₂ h2 h3 h4 h5 => hs.inj o₁ o₂ l₁ l₂ h2 h3 (hal h2 h4) (hal h3 h5)⟩
 ·obtain ⟨h1, h2⟩ := hs.dom o' l hl
  exact ⟨by simp; omega, h2⟩
 ·exact hs.obj o' l t c g hl (by rw [← hget o' l hl]; exact hob)
 ·exact hs.mp o' l es ck hl (by rw [← hget o' l hl]; exact hob)
theorem Evo.pad {M' : Mem} {h h' ex : Heap} {w' : World} (ev : Evo lo M h w M' h' w') (hlt : ∀ o l, M'.obj o = some l → o < h'.length) (hlo : lo ≤ h.length) : Evo lo M h w M' (h' ++ ex) w' := by
 have hal : ∀ {o'}, o' < h'.length → alive (h' ++ ex) o' → alive h' o' := fun {o'} hl ⟨x, hx, hx'⟩ => ⟨x, by rw [List.getElem?_append_left hl] at hx; exact hx, hx'⟩
 refine ⟨ev.os, ev.tape, ev.output, ev.size, ev.block, Nat.le_trans ev.len (by simp), fun o ho => ?_, fun o ho ha => ev.dead o ho (hal (Nat.lt_of_lt_of_le ho ev.len) ha), ev.ext, ev.le, ev.non, fun o l ho hl ha hr => ev.own o l ho hl (hal (hlt o l hl) ha) hr, ev.fro⟩
 have := ev.len
 rw [List.getElem?_append_left (by omega)]; exact ev.keep o ho
theorem Inv.step (hP : GoodP E.P) (hC : CSound E C) (hK : KeepC C) (T : ∀ j o, ops[j]? = some o → Tr E sl C lo ops S H V G j o) (hok : okDraw ops = true) (hlo : lo ≤ (H 0).length) (hglob : ∀ g v, E.glob g = some v → TRel M₀.phi (cptr v) (.pointer (some ⟨g, 0, none⟩)))
  (hphi : ∀ b x v, M₀.phi b x = some v → M.phi b x = some v)
  (I : Inv E sl B lo ops S H V G M₀ w₀ listed M a w) {i : Nat} {o : Oper} (ho : ops[i]? = some o)
  (hu : listed.getD i true = false) (hall : ∀ e ∈ o.after, Region.binds .any e = true → listed.getD e.on false = true) {Q : Exit → Act → World → Prop} {K : Act → World → Prop}
  (hn : ∀ M' a' w', Inv E sl B lo ops S H V G M₀ w₀ (listed.setIfInBounds i true) M' a' w' → (∀ b x v, M₀.phi b x = some v → M'.phi b x = some v) → K a' w') : wpOp E.P ops Q i K a w := by
 have hi : i < ops.size := (Array.getElem?_eq_some_iff.1 ho).1
 have t := T i o ho
 have hsz : (S i).length = a.tmps.size := (slotval T i (by omega)).1.trans I.tsize
 have hlook := fun x hx v v' => looks_rel hok T hK hlo I ho hu hall (t := x) hx (v := v) (v' := v')
 have hw := guard_rel' (ops := ops) hsz hlook t.guard
 have hL0 : lo ≤ (H i).length := Nat.le_trans hlo (len_mono T hK hlo (by omega) (by omega))
 have hLi : (H i).length ≤ (H (i + 1)).length := len_mono T hK hlo (by omega) (by omega)
 -- nothing but the slot has changed
 have still : ∀ {v' : Value}, H (i + 1) = H i → ¬ nq E sl ops G i → VRel (M.cut (H i).length) (V i) v' → K (a.put o.dst v') w := by
  intro v' e hnq hv
  refine hn M _ _ (I.more T hok ho hu hall (by rw [e]; exact hv) I.cells (fun _ => .refl _) (fun o l hl => .inl ⟨l, hl⟩) fun j hj c1 c2 => ?_) hphi
  exact I.view j hj (fun k hk hq => (c1 k hk hq).resolve_left fun e => hnq (e ▸ hq)) fun k hk hq => c2 k (.inr hk) hq
 unfold wpOp
 simp only [ho]
 rw [hw]
 cases hg : G i with
 | false =>
  simp only [Bool.false_eq_true, if_false]
  obtain ⟨e1, e2⟩ := t.skip hg
  refine still e2 (fun h => by rw [h.1] at hg; cases hg) ?_
  rw [e1]; exact .skip _
 | true =>
  simp only [if_true]
  refine .inl ?_
  have hrun := t.run hg
  have hops := opnd_rel (E := E) (M := M.cut (H i).length) (ops := ops) (fun g v hg => .tree _ _ _ _ ((hglob g v hg).mono hphi)) hsz hlook
  by_cases hcl : (sl && isLoad o.op) = true
  ·have hs1 : strictAt E sl ops (Region.before ops) i o = true := by unfold strictAt; rw [hcl]; rfl
   have hl := (Bool.and_eq_true_iff.1 hcl).2
   rw [hs1] at hrun
   refine still_upon hl hrun (M.cut (H i).length) w a I.cells hops K Q fun v' hv => still (load_same hl hrun) (fun h => ?_) hv
   obtain ⟨_, o', ho', hcw, _⟩ := h
   rw [ho] at ho'; cases ho'
   cases hop : o.op <;> rw [hop] at hl hcw <;> first | (cases hl; done) | (cases hcw; done)
  have hclf : (sl && isLoad o.op) = false := by simpa using hcl
  by_cases hc : clsOf E o.op = .pure
  ·obtain ⟨e, hp⟩ := pure_upon hc hrun
   refine hp (M.cut (H i).length) w a hops K Q fun v' hv => still e (fun h => ?_) hv
   obtain ⟨_, o', ho', hcw, _⟩ := h
   rw [ho] at ho'; cases ho'
   rw [hc] at hcw; cases hcw
  ·-- what else writes is ordered with this
   have hord : ∀ e, nq E sl ops G e → e ≠ i → (e < i → Ex ops listed e) ∧ (i < e → ¬ Ex ops listed e) := by
    intro e he hne
    obtain ⟨o1, o2⟩ := nq_ordered he ho (by unfold quietOp; rw [hclf, Bool.or_false]; simpa using hc) (Ne.symm hne)
    exact ⟨fun h => ready_before hok I ho hall (o1 h), fun h hx => not_ex hu (ex_before hok I _ _ hx (o2 h))⟩
   obtain ⟨hview, hevo⟩ := I.view i (by omega) (fun e he hq => (hord e hq (by omega)).1 he) fun e hx hq => by
    rcases Nat.lt_trichotomy e i with h | h | h
    ·exact h
    ·subst h; exact absurd hx (not_ex hu)
    ·exact absurd hx ((hord e hq (by omega)).2 h)
   have hfree : ∀ o, (H i).length ≤ o → o < (H (i + 1)).length → M.obj o = none := by
    intro o h1 h2
    cases hm : M.obj o with
    | none => rfl
    | some l =>
     rcases I.dom o l hm with h3 | ⟨k, hk, h3, h4⟩
     ·have := len_mono T hK hlo (i := 0) (j := i) (by omega) (by omega); omega
     ·rcases Nat.lt_trichotomy k i with h | h | h
      ·have := len_mono T hK hlo (i := k + 1) (j := i) (by omega) (by omega); omega
      ·subst h; exact absurd hk (not_ex hu)
      ·have := len_mono T hK hlo (i := i + 1) (j := k) (by omega) (Nat.le_of_lt hk.1); omega
   refine aop_sound hP hC hview hL0 hrun hops (evalA_func E _) fun v' w₁ hout => ?_
   obtain ⟨M₁, q1, q2, q3⟩ := hout
   have hdom₁ : ∀ o l, M₁.obj o = some l → o < (H (i + 1)).length := fun o l h => q2.lt o l h
   have hphi₁ : ∀ b x v, M₀.phi b x = some v → M₁.phi b x = some v := fun b x v h => q3.le.phi b x v (hphi b x v h)
   by_cases hnq : nq E sl ops G i
   ·-- it writes: all that looks into memory ahead of it has been carried out, nothing behind it
    have hlow : lo ≤ loOf E (strictAt E sl ops (Region.before ops) i o) o.op lo (H i) := by unfold loOf; split <;> omega
    have q3 := q3.weaken hlow
    -- nothing has been made behind it
    have hno : ∀ o' l, M.obj o' = some l → o' < (H i).length := by
     intro o' l hl
     rcases I.dom o' l hl with h | ⟨k, hk, h3, h4⟩
     ·exact Nat.lt_of_lt_of_le h (len_mono T hK hlo (by omega) (by omega))
     ·obtain ⟨y, hy⟩ : ∃ y, ops[k]? = some y := ⟨ops[k]'hk.1, by simp [hk.1]⟩
      have hki : k < i := by
       rcases Nat.lt_trichotomy k i with h | h | h
       ·exact h
       ·subst h; exact absurd hk (not_ex hu)
       ·exfalso
        have hyc : quietOp E sl y.op = false := by
         rw [Bool.eq_false_iff]
         intro hyp
         have tk := T k y hy
         cases hgk : G k with
         | false => obtain ⟨_, e⟩ := tk.skip hgk; rw [e] at h4; omega
         | true =>
          have e : H (k + 1) = H k := by
           unfold quietOp at hyp
           rw [Bool.or_eq_true] at hyp
           rcases hyp with hyp | hyp
           ·exact (pure_upon (by simpa using hyp) (tk.run hgk)).1
           ·exact load_same (Bool.and_eq_true_iff.1 hyp).2 (tk.run hgk)
          rw [e] at h4; omega
        have := (nq_ordered hnq hy hyc (by omega)).1 h
        exact not_ex hu (ex_before hok I _ _ hk this)
      exact Nat.lt_of_lt_of_le h4 (len_mono T hK hlo (by omega) (by omega))
    have hcutM : M.cut (H i).length = M := cut_eq hno
    rw [hcutM] at q3 hevo
    refine hn M₁ _ _ (I.more T hok ho hu hall (by rw [cut_eq hdom₁]; exact q1) q2.phi (fun n => cut_cut_le (fun o l _ hl => q3.le.obj o l hl) q3.le.phi) (fun o' l hl => ?_) fun j hj c1 c2 => ?_) hphi₁
    ·by_cases hlt : o' < (H i).length
     ·cases hm : M.obj o' with
      | none => have := q3.non o' hlt hm; rw [hl] at this; cases this
      | some l₀ => exact .inl ⟨l₀, rfl⟩
     ·exact .inr ⟨by omega, hdom₁ o' l hl⟩
    ·have hij : i < j := c2 i (.inl rfl) hnq
     have kr := keep_range T hK hlo (i := i + 1) (j := j) (by omega) hj fun k h1 h2 hq => by
      rcases c1 k h2 hq with h | h
      ·omega
      ·exact absurd h ((hord k hq (by omega)).2 (by omega))
     obtain ⟨ex, hex⟩ := kr.ext
     have hcut : M₁.cut (H j).length = M₁ := cut_eq fun o' l hl => Nat.lt_of_lt_of_le (hdom₁ o' l hl) kr.1
     rw [hcut, hex]
     exact ⟨q2.pad, (hevo.trans q3).pad hdom₁ hlo⟩
   ·-- it leaves what is there alone
    have hlow : loOf E (strictAt E sl ops (Region.before ops) i o) o.op lo (H i) = (H i).length := by
     unfold loOf
     rw [if_pos]
     by_cases hww : clsOf E o.op = .write
     ·cases hss : strictAt E sl ops (Region.before ops) i o with
      | true => rfl
      | false => exact absurd ⟨hg, o, ho, hww, hss⟩ hnq
     ·simp [hww]
    rw [hlow] at q3
    have noHad : ∀ b, ¬ Had (H i).length (M.cut (H i).length) (H i) b := by
     rintro b ⟨o, l, h1, h2, _⟩
     have := (cut_some h2).1
     omega
    have hblk : ∀ b, b < w.heap.size → w₁.heap[b]? = w.heap[b]? := fun b hb => q3.block b hb (noHad b)
    have hnew : ∀ b x v, M₁.phi b x = some v → M.phi b x = some v ∨ w.heap.size ≤ b := fun b x v hv => by
     rcases q3.fro b x v hv with h | h | h
     ·exact .inl h
     ·exact .inr h
     ·exact absurd h (noHad b)
    -- the new objects, and what was there
    obtain ⟨M', hM'⟩ : ∃ M' : Mem, M' = ⟨fun o => if (H i).length ≤ o ∧ o < (H (i + 1)).length then M₁.obj o else M.obj o, M₁.phi⟩ := ⟨_, rfl⟩
    have e1 : ∀ o, (H i).length ≤ o → o < (H (i + 1)).length → M'.obj o = M₁.obj o := fun o h1 h2 => by rw [hM']; simp [h1, h2]
    have e2 : ∀ o, ¬ ((H i).length ≤ o ∧ o < (H (i + 1)).length) → M'.obj o = M.obj o := fun o h => by rw [hM']; simp only [if_neg h]
    have e3 : M'.phi = M₁.phi := by rw [hM']
    have hle' : ∀ n, (M.cut n).Le (M'.cut n) := fun n => cut_cut_le (fun o l _ hl => ⟨l, by
     rw [e2 o fun h => by rw [hfree o h.1 h.2] at hl; cases hl]; exact hl, .refl l⟩) (by rw [e3]; exact q3.le.phi)
    have hle₁ : M₁.Le (M'.cut (H (i + 1)).length) := ⟨fun o l hl => ⟨l, cut_of (hdom₁ o l hl) (by
     by_cases h2 : o < (H i).length
     ·rw [q3.ext o h2] at hl
      rw [e2 o (by omega)]
      exact (cut_some hl).2
     ·rw [e1 o (by omega) (hdom₁ o l hl)]; exact hl), .refl l⟩, by
      intro b x v hv
      show M'.phi b x = some v
      rw [e3]; exact hv⟩
    refine hn M' _ _ (I.more T hok ho hu hall (q1.mono hle₁) (by rw [e3]; exact q2.phi) hle' (fun o' l hl => ?_) fun j hj c1 c2 => ?_) (by rw [e3]; exact hphi₁)
    ·by_cases hin : (H i).length ≤ o' ∧ o' < (H (i + 1)).length
     ·exact .inr hin
     ·rw [e2 o' hin] at hl; exact .inl ⟨l, hl⟩
    ·obtain ⟨old, oevo⟩ := I.view j hj (fun k hk hq => (c1 k hk hq).resolve_left fun e => hnq (e ▸ hq)) fun k hk hq => c2 k (.inr hk) hq
     have mono := hle' (H j).length
     -- an object is old, or it is new
     have part : ∀ o' l, (M'.cut (H j).length).obj o' = some l → ((M.cut (H j).length).obj o' = some l) ∨ ((H i).length ≤ o' ∧ o' < (H (i + 1)).length ∧ i < j ∧ M₁.obj o' = some l) := by
      intro o' l hl
      obtain ⟨h1, h2⟩ := cut_some hl
      by_cases hin : (H i).length ≤ o' ∧ o' < (H (i + 1)).length
      ·right
       rw [e1 o' hin.1 hin.2] at h2
       refine ⟨hin.1, hin.2, ?_, h2⟩
       rcases Nat.lt_or_ge i j with h | h
       ·exact h
       ·have := len_mono T hK hlo (i := j) (j := i) h (by omega); omega
      ·left; rw [e2 o' hin] at h2; exact cut_of h1 h2
     have same : ∀ {o'}, i < j → o' < (H (i + 1)).length → (H j)[o']? = (H (i + 1))[o']? := by
      intro o' hij hlt
      have kr := keep_range T hK hlo (i := i + 1) (j := j) (by omega) hj fun k h1 h2 hq => by
       rcases c1 k h2 hq with h | h
       ·omega
       ·exact absurd h ((hord k hq (by omega)).2 (by omega))
      exact kr.2.1 o' hlt
     have mono₁ : i < j → M₁.Le (M'.cut (H j).length) := fun hij => hle₁.trans (cut_le (len_mono T hK hlo (i := i + 1) (j := j) (by omega) hj))
     have fresh : ∀ o' l, (H i).length ≤ o' → M₁.obj o' = some l → alive (H (i + 1)) o' → l.real → w.heap.size ≤ l.blk := by
      intro o' l h1 h ha hr
      rcases q3.own o' l h1 h ha hr with r | r
      ·exact r
      ·exact absurd r (noHad _)
     have alv : ∀ {o'}, i < j → o' < (H (i + 1)).length → alive (H j) o' → alive (H (i + 1)) o' := fun {o'} hij hlt ⟨x, hx, hx'⟩ => ⟨x, by rw [← same hij hlt]; exact hx, hx'⟩
     have sim : HSim E B (M'.cut (H j).length) (H j) w₁ := by
      refine ⟨fun g v hg => (old.glob g v hg).mono mono, fun b x v hv => ?_, fun o' l hl ha hr x => ?_, Nat.le_trans old.base q3.size, fun o' l hl => ?_, fun o' l ty c g hl hob => ?_, fun o' l es ck hl hob => ?_, fun o₁ o₂ l₁ l₂ h2 h3 h4 h5 h6 h7 h8 => ?_⟩
      ·exact q2.phi b x v (by rw [← e3]; exact hv)
      ·show M'.phi l.blk x = none
       rw [e3]
       rcases part o' l hl with h | ⟨h0, h1, hij, h⟩
       ·cases hm : M₁.phi l.blk x with
        | none => rfl
        | some v =>
         have d := ((old.dom o' l h).2 hr).2
         rcases hnew _ _ _ hm with k | k
         ·have := old.sep o' l h ha hr x
          rw [show (M.cut (H j).length).phi l.blk x = M.phi l.blk x from rfl, k] at this; cases this
         ·omega
       ·exact q2.sep o' l h (alv hij h1 ha) hr x
      ·have hlt := (cut_some hl).1
       rcases part o' l hl with h | ⟨_, _, _, h⟩
       ·obtain ⟨_, r2⟩ := old.dom o' l h
        exact ⟨hlt, fun hr => ⟨(r2 hr).1, Nat.lt_of_lt_of_le (r2 hr).2 q3.size⟩⟩
       ·exact ⟨hlt, (q2.dom o' l h).2⟩
      ·rcases part o' l hl with h | ⟨h0, h1, hij, h⟩
       ·obtain ⟨r1, r2, r3, r4⟩ := old.obj o' l ty c g h hob
        refine ⟨r1, r2, r3, fun hr => ?_⟩
        obtain ⟨cs, tt, s1, s2, s3, s4⟩ := r4 hr
        exact ⟨cs, tt, by rw [hblk _ ((old.dom o' l h).2 hr).2]; exact s1, s2, s3, fun y v hv => ⟨(s4 y v hv).1, (s4 y v hv).2.imp fun _ k => ⟨k.1, k.2.mono mono⟩⟩⟩
       ·obtain ⟨r1, r2, r3, r4⟩ := q2.obj o' l ty c g h (by rw [← same hij h1]; exact hob)
        refine ⟨r1, r2, r3, fun hr => ?_⟩
        obtain ⟨cs, tt, s1, s2, s3, s4⟩ := r4 hr
        exact ⟨cs, tt, s1, s2, s3, fun y v hv => ⟨(s4 y v hv).1, (s4 y v hv).2.imp fun _ k => ⟨k.1, k.2.mono (mono₁ hij)⟩⟩⟩
      ·rcases part o' l hl with h | ⟨h0, h1, hij, h⟩
       ·obtain ⟨r0, es', r1, r2, r3⟩ := old.mp o' l es ck h hob
        refine ⟨r0, es', by rw [hblk _ ((old.dom o' l h).2 (.inl r0)).2]; exact r1, r2, fun y v hv => ?_⟩
        obtain ⟨e', r4, r5, r6, r7⟩ := r3 y v hv
        exact ⟨e', r4, r5, r6.mono mono, r7⟩
       ·obtain ⟨r0, es', r1, r2, r3⟩ := q2.mp o' l es ck h (by rw [← same hij h1]; exact hob)
        refine ⟨r0, es', r1, r2, fun y v hv => ?_⟩
        obtain ⟨e', r4, r5, r6, r7⟩ := r3 y v hv
        exact ⟨e', r4, r5, r6.mono (mono₁ hij), r7⟩
      ·rcases part o₁ l₁ h2 with p1 | ⟨p1, p1', hij, p2⟩ <;> rcases part o₂ l₂ h3 with s1 | ⟨s1, s1', hij', s2⟩
       ·exact old.inj o₁ o₂ l₁ l₂ p1 s1 h4 h5 h6 h7 h8
       ·have := fresh o₂ l₂ s1 s2 (alv hij' s1' h5) h7
        have := ((old.dom o₁ l₁ p1).2 h6).2
        omega
       ·have := fresh o₁ l₁ p1 p2 (alv hij p1' h4) h6
        have := ((old.dom o₂ l₂ s1).2 h7).2
        omega
       ·exact q2.inj o₁ o₂ l₁ l₂ p2 s2 (alv hij p1' h4) (alv hij' s1' h5) h6 h7 h8
     refine ⟨sim, ⟨q3.os.trans oevo.os, q3.tape.trans oevo.tape, q3.output.trans oevo.output, Nat.le_trans oevo.size q3.size, fun b hb hh => ?_, oevo.len, oevo.keep, oevo.dead, fun o' ho' => ?_, oevo.le.trans mono, fun o' ho' hn' => ?_, fun o' l ho' hl ha hr => ?_, fun b x v hv => ?_⟩⟩
     ·rw [hblk b (Nat.lt_of_lt_of_le hb oevo.size)]; exact oevo.block b hb hh
     ·rw [← oevo.ext o' ho']
      have : o' < (H i).length := by omega
      simp only [Mem.cut]
      split
      ·exact e2 o' (by omega)
      ·rfl
     ·have h1 : o' < (H i).length := Nat.lt_of_lt_of_le ho' (len_mono T hK hlo (i := 0) (j := i) (by omega) (by omega))
      have := oevo.non o' ho' hn'
      simp only [Mem.cut] at this ⊢
      rw [e2 o' (by omega)]; exact this
     ·rcases part o' l hl with h | ⟨h0, h1, hij, h⟩
      ·exact oevo.own o' l ho' h ha hr
      ·exact .inl (Nat.le_trans oevo.size (fresh o' l h0 h (alv hij h1 ha) hr))
     ·have hv : M₁.phi b x = some v := by rw [← e3]; exact hv
      rcases hnew b x v hv with h | h
      ·exact oevo.fro b x v h
      ·exact .inr (.inl (Nat.le_trans oevo.size h))
end
end Go.Proofs.YtjkemccfcabhgaaGreat.Bm
namespace Go.Proofs.YtjkemccfcabhgaaGreat.Bm
open Go Go.RowKit
theorem count_set {l : List Bool} : ∀ {i : Nat}, l[i]? = some false → (l.set i true).count false + 1 = l.count false := by
 induction l with
 | nil => intro i h; simp at h
 | cons b l ih =>
  intro i h
  cases i with
  | zero => simp at h; subst h; simp
  | succ i =>
   have := ih (i := i) (by simpa using h)
   simp only [List.set_cons_succ, List.count_cons]
   omega
section
variable {E : Env} {sl : Bool} {B : Nat} {C : Callee} {lo : Nat} {ops : Array Oper}
theorem draw_any (hP : GoodP E.P) (hC : CSound E C) (hK : KeepC C) {S : Nat → Slots} {H : Nat → Heap} {V : Nat → Value} {G : Nat → Bool} (T : ∀ j o, ops[j]? = some o → Tr E sl C lo ops S H V G j o) (hok : okDraw ops = true) (hlo : lo ≤ (H 0).length)
  {M₀ : Mem} (hglob : ∀ g v, E.glob g = some v → TRel M₀.phi (cptr v) (.pointer (some ⟨g, 0, none⟩))) {w₀ : World} {Q : Exit → Act → World → Prop}
  (hQ : ∀ listed M a w, Inv E sl B lo ops S H V G M₀ w₀ listed M a w → (∀ k, k < ops.size → Ex ops listed k) → Q .normal a w) :
  ∀ (fuel : Nat) (listed : Array Bool) (M : Mem) (a : Act) (w : World), listed.toList.count false ≤ fuel → (∀ b x v, M₀.phi b x = some v → M.phi b x = some v) → Inv E sl B lo ops S H V G M₀ w₀ listed M a w → wpAny E.P .any ops Q fuel listed a w := by
 have done : ∀ listed M a w, Inv E sl B lo ops S H V G M₀ w₀ listed M a w → Region.ready .any ops listed = [] → Q .normal a w := by
  intro listed M a w I hr
  refine hQ listed M a w I fun k => ?_
  induction k using Nat.strongRecOn with
  | _ k ih =>
   intro hk
   refine ⟨hk, ?_⟩
   have hls := I.lsize
   cases hl : listed.getD k false with
   | true => rfl
   | false =>
    have hmem : k ∈ Region.ready .any ops listed := by
     refine mem_ready.2 ⟨?_, ops[k], by simp [hk], fun e he hb => ?_⟩
     ·have hk' : k < listed.size := by omega
      simp [hk'] at hl ⊢; exact hl
     ·have hlt := okDraw_edge hok (q := k) (by simp [hk]) he hb
      exact (ih e.on hlt (by omega)).2
    rw [hr] at hmem; cases hmem
 intro fuel
 induction fuel with
 | zero =>
  intro listed M a w hc _ I
  have hr : Region.ready .any ops listed = [] := by
   cases hr : Region.ready .any ops listed with
   | nil => rfl
   | cons k r =>
    have hk := (mem_ready.1 (show k ∈ Region.ready .any ops listed by rw [hr]; simp)).1
    have : listed.toList.count false = 0 := by omega
    rw [List.count_eq_zero] at this
    by_cases hlt : k < listed.size
    ·simp [hlt] at hk
     exact absurd (by rw [← hk]; simp) this
    ·simp [Array.getElem?_eq_none (Nat.le_of_not_lt hlt)] at hk
  exact ⟨hr, done listed M a w I hr⟩
 | succ fuel ih =>
  intro listed M a w hc hphi I
  refine ⟨done listed M a w I, fun i hi => ?_⟩
  obtain ⟨hu, o, ho, hall⟩ := mem_ready.1 hi
  refine I.step hP hC hK T hok hlo hglob hphi ho hu hall fun M' a' w' I' hphi' => ih _ M' a' w' ?_ hphi' I'
  have hlt : i < listed.size := by
   have := (Array.getElem?_eq_some_iff.1 ho).1; have := I.lsize; omega
  have h1 : listed.toList[i]? = some false := by simp [hlt] at hu ⊢; exact hu
  have := count_set h1
  simp only [Array.toList_setIfInBounds]
  omega
theorem draw_sound (hm : E.P.follows .mixedOrders = true) (hP : GoodP E.P) (hC : CSound E C) (hK : KeepC C) (hok : okDraw ops = true) {id : Nat} {Q : Exit → Act → World → Prop} {σ σ' : Slots} {h h' : Heap} {a : Act} {M : Mem} {w : World}
  (hr : runOps E C lo ops (withStrict E sl true ops) σ h = some (σ', h')) (hlo : lo ≤ h.length) (hσ : SRel M σ a.tmps) (hd : a.defers = []) (hs : HSim E B M h w)
  (hQ : ∀ a' w', Aft E B lo M h w σ' h' a' w' → Q .normal a' w') : (Code.region id ops true).wp E.P Q a w := by
 have hl : ops.toList.zipIdx.length = ops.size := by simp
 have hws : withStrict E sl true ops = ops.toList.zipIdx.map fun x => (x.1, strictAt E sl ops (Region.before ops) x.2 x.1) := rfl
 rw [hws] at hr
 obtain ⟨S, H, V, G, rfl, rfl, hSn, hHn, hT⟩ := trace_of (E := E) (C := C) (lo := lo) (ops := ops) ops.toList.zipIdx 0 σ σ' h h' (fun j => by
  simp only [Nat.zero_add, List.getElem?_zipIdx, Array.getElem?_toList]) hr
 have T : ∀ j o, ops[j]? = some o → Tr E sl C lo ops S H V G j o := fun j o => hT j o (Nat.zero_le _)
 rw [hl, Nat.zero_add] at hSn hHn
 refine wp_region_any hm ?_
 have noEx : ∀ k, ¬ Ex ops (Array.replicate ops.size false) k := by
  rintro k ⟨h1, h2⟩
  simp [h1] at h2
 refine draw_any (B := B) (M₀ := M) (w₀ := w) hP hC hK T hok hlo (fun g v hg => (hs.glob g v hg).treeSome) ?_ ops.size (Array.replicate ops.size false) M a _ (by simp) (fun _ _ _ h => h) ?_
 ·intro listed M' a' w' I hall
  obtain ⟨v1, v2⟩ := I.view ops.size (Nat.le_refl _) (fun e he _ => hall e he) fun e he _ => he.1
  refine hQ a' w' ⟨I.defers, M'.cut (H ops.size).length, ?_, by rw [← hHn]; exact v1, by rw [← hHn]; exact v2⟩
  rw [← hSn]
  obtain ⟨s1, s2⟩ := slotval T ops.size (Nat.le_refl _)
  refine ⟨s1.trans I.tsize, fun t v v' hv hv' => ?_⟩
  rcases s2 t v hv with ⟨k, h1, h2, h3, rfl⟩ | ⟨h1, h2⟩
  ·exact (I.slotW t k v' hv' (hall k h1) h2 fun j hj hjd => h3 j hj.1 hjd).mono (cut_le (len_mono T hK hlo (by omega) (Nat.le_refl _)))
  ·exact (I.slot0 t v v' hv' h2 fun k hk => h1 k hk.1).mono (cut_le (len_mono T hK hlo (by omega) (Nat.le_refl _)))
 ·refine ⟨by simp, fun q o hq hlq => ?_, hd, hσ.1, fun t k v' _ hk => absurd hk (noEx k), fun t v v' hv' hv _ => ?_, fun i hi h1 h2 => ?_, fun o l hl => .inl (hs.lt o l hl), (hs.of_heap (w' := { w with drawn := w.drawn + 1 }) rfl).phi⟩
  ·exact absurd ⟨(Array.getElem?_eq_some_iff.1 hq).1, hlq⟩ (noEx q)
  ·rw [cut_eq hs.lt]; exact hσ.2 t v v' hv hv'
  ·have kr := keep_range T hK hlo (i := 0) (j := i) (Nat.zero_le _) hi fun k _ h hq => noEx k (h1 k h hq)
   obtain ⟨ex, hex⟩ := kr.ext
   rw [cut_eq fun o l hl => Nat.lt_of_lt_of_le (hs.lt o l hl) kr.1, hex]
   have hs' := hs.of_heap (w' := { w with drawn := w.drawn + 1 }) rfl
   refine ⟨hs'.pad, Evo.pad ?_ hs.lt hlo⟩
   exact ⟨rfl, rfl, rfl, Nat.le_refl _, fun _ _ _ => rfl, Nat.le_refl _, fun _ _ => rfl, fun _ _ ha => ha, fun _ _ => rfl, .refl M, fun _ _ h => h, fun o l ho hl ha hr => .inr ⟨o, l, ho, hl, ha, hr, rfl⟩, fun _ _ _ h => .inl h⟩
def okCode : Code → Bool
 | .region _ ops draw => !draw || okDraw ops
 | .seq a b => okCode a && okCode b
 | .cond _ a b => okCode a && okCode b
 | .block _ a => okCode a
 | .loop a => okCode a
 | .scope a => okCode a
 | _ => true
def BSound (E : Env) (B lo : Nat) (c : Code) (b : Body) : Prop :=
 ∀ σ h e σ' h', b σ h = some (e, σ', h') → lo ≤ h.length → ∀ M w (a : Act), SRel M σ a.tmps → a.defers = [] → HSim E B M h w →
  ∀ Q : Exit → Act → World → Prop, (∀ a' w', Aft E B lo M h w σ' h' a' w' → Q e a' w') → c.wp E.P Q a w
theorem Aft.trans {M M₁ : Mem} {h h₁ h₂ : Heap} {w w₁ : World} {σ₂ : Slots} {a₂ : Act} {w₂ : World} (ev : Evo lo M h w M₁ h₁ w₁) (k : Aft E B lo M₁ h₁ w₁ σ₂ h₂ a₂ w₂) : Aft E B lo M h w σ₂ h₂ a₂ w₂ :=
 let ⟨h1, M₂, h2, h3, h4⟩ := k
 ⟨h1, M₂, h2, h3, ev.trans h4⟩
theorem loop_sound {c : Code} {b : Body} (hb : BSound E B lo c b) (k : List Nat × List Nat) (m : Nat) : BSound E B lo (.loop c) (evLoop m k b) := by
 intro σ h e σ' h' hr hlo M w a hσ hd hs Q hQ
 refine wp_loop_rounds m ?_
 induction m generalizing σ h M w a with
 | zero => simp [evLoop] at hr
 | succ m ih =>
  rw [rounds_succ]
  simp only [evLoop, Option.bind_eq_some_iff] at hr
  obtain ⟨⟨e1, σ1, h1⟩, hbody, hr⟩ := hr
  refine hb _ _ _ _ _ hbody hlo M w a (hσ.forget _) hd hs _ fun a' w' haft => ?_
  obtain ⟨hd', M₁, q1, q2, q3⟩ := haft
  have fin : ∀ l, ∃ M₂, SRel M₂ (forget l σ1) a'.tmps ∧ HSim E B M₂ (trim h.length (forget l σ1) h1) w' ∧ Evo lo M h w M₂ (trim h.length (forget l σ1) h1) w' := by
   intro l
   obtain ⟨M₂, r1, r2, r3⟩ := trim_sound hs q2 q3 hlo (forget l σ1)
   have q1' := q1.forget l
   exact ⟨M₂, ⟨q1'.1, fun i v v' hv hv' => r3 v (List.mem_of_getElem? hv) v' (q1'.2 i v v' hv hv')⟩, r1, r2⟩
  cases e1 <;> simp only [Option.some.injEq, Prod.mk.injEq] at hr
  case normal =>
   obtain ⟨M₂, r1, r2, r3⟩ := fin k.1
   exact ih _ _ hr (Nat.le_trans hlo r3.len) M₂ w' a' r1 hd' r2 fun a'' w'' haft => hQ a'' w'' (haft.trans r3)
  all_goals
   obtain ⟨rfl, rfl, rfl⟩ := hr
   obtain ⟨M₂, r1, r2, r3⟩ := fin k.2
   exact hQ a' w' ⟨hd', M₂, r1, r2, r3⟩
theorem evG_sound (hm : E.P.follows .mixedOrders = true) (hP : GoodP E.P) (hC : CSound E C) (hK : KeepC C) {f : FuncId} {Lp : List Nat × List Nat → Body → Body}
  (hL : ∀ c b k, BSound E B lo c b → BSound E B lo (.loop c) (Lp k b)) (_hLK : ∀ k b, KeepB lo b → KeepB lo (Lp k b)) : ∀ c : Code, okCode c = true → BSound E B lo c (evG E f C Lp lo c) := by
 intro c
 induction c with
 | skip =>
  intro _ σ h e σ' h' hr hlo M w a hσ hd hs Q hQ
  simp only [evG, Option.some.injEq, Prod.mk.injEq] at hr
  obtain ⟨rfl, rfl, rfl⟩ := hr
  exact wp_skip (hQ a w ⟨hd, M, hσ, hs, Evo.refl hs lo⟩)
 | label l =>
  intro _ σ h e σ' h' hr hlo M w a hσ hd hs Q hQ
  simp only [evG, Option.some.injEq, Prod.mk.injEq] at hr
  obtain ⟨rfl, rfl, rfl⟩ := hr
  exact wp_label (hQ a w ⟨hd, M, hσ, hs, Evo.refl hs lo⟩)
 | region id ops draw =>
  intro hok σ h e σ' h' hr hlo M w a hσ hd hs Q hQ
  simp only [evG, Option.bind_eq_some_iff, Option.map_eq_some_iff, Prod.mk.injEq] at hr
  obtain ⟨⟨σ0, h0⟩, hp, ⟨σ1, h1⟩, hr, rfl, rfl, rfl⟩ := hr
  obtain ⟨M0, p1, p2, p3⟩ := prepare_sound (E := E) _ _ _ _ _ M hp hlo hσ hs
  have hQ' : ∀ a' w', Aft E B lo M0 h0 w σ1 h1 a' w' → Q .normal a' w' := fun a' w' haft => hQ a' w' (haft.trans p3)
  cases draw with
  | false => exact region_sound hP hC hr (Nat.le_trans hlo p3.len) p1 hd p2 hQ'
  | true => exact draw_sound hm hP hC hK (by simpa [okCode] using hok) hr (Nat.le_trans hlo p3.len) p1 hd p2 hQ'
 | seq x y ihx ihy =>
  intro hok σ h e σ' h' hr hlo M w a hσ hd hs Q hQ
  simp only [okCode, Bool.and_eq_true] at hok
  simp only [evG, Option.bind_eq_some_iff] at hr
  obtain ⟨⟨e1, σ1, h1⟩, hx, hr⟩ := hr
  refine wp_seq (ihx hok.1 _ _ _ _ _ hx hlo M w a hσ hd hs _ fun a' w' haft => ?_)
  obtain ⟨hd', M₁, q1, q2, q3⟩ := haft
  cases e1 <;> simp only [Option.some.injEq, Prod.mk.injEq] at hr
  case normal => exact ihy hok.2 _ _ _ _ _ hr (Nat.le_trans hlo q3.len) M₁ w' a' q1 hd' q2 _ fun a'' w'' haft => hQ a'' w'' (haft.trans q3)
  all_goals
   obtain ⟨rfl, rfl, rfl⟩ := hr
   exact hQ a' w' ⟨hd', M₁, q1, q2, q3⟩
 | cond c x y ihx ihy =>
  intro hok σ h e σ' h' hr hlo M w a hσ hd hs Q hQ
  simp only [okCode, Bool.and_eq_true] at hok
  have hc := eval_rel (E := E) hs.glob hσ c
  simp only [evG] at hr
  split at hr
  ·rename_i he
   rw [he] at hc
   exact wp_cond_true hc.bool (ihx hok.1 _ _ _ _ _ hr hlo M w a hσ hd hs Q hQ)
  ·rename_i he
   rw [he] at hc
   exact wp_cond_false hc.bool (ihy hok.2 _ _ _ _ _ hr hlo M w a hσ hd hs Q hQ)
  ·cases hr
 | block id x ihx =>
  intro hok σ h e σ' h' hr hlo M w a hσ hd hs Q hQ
  simp only [evG, Option.map_eq_some_iff] at hr
  obtain ⟨⟨e1, σ1, h1⟩, hx, hr⟩ := hr
  refine wp_block (ihx (by simpa [okCode] using hok) _ _ _ _ _ hx hlo M w a hσ hd hs _ fun a' w' haft => ?_)
  cases e1 <;> simp only at hr
  case exit id' =>
   simp only [Exit.inBlock]
   split at hr
   ·rename_i hid
    rw [if_pos hid]
    simp only [Prod.mk.injEq] at hr
    obtain ⟨rfl, rfl, rfl⟩ := hr
    exact hQ a' w' haft
   ·rename_i hid
    rw [if_neg hid]
    simp only [Prod.mk.injEq] at hr
    obtain ⟨rfl, rfl, rfl⟩ := hr
    exact hQ a' w' haft
  all_goals
   simp only [Prod.mk.injEq] at hr
   obtain ⟨rfl, rfl, rfl⟩ := hr
   exact hQ a' w' haft
 | loop x ihx =>
  intro hok
  exact hL x _ _ (ihx (by simpa [okCode] using hok))
 | scope x ihx =>
  intro hok σ h e σ' h' hr hlo M w a hσ hd hs Q hQ
  simp only [evG, Option.bind_eq_some_iff] at hr
  obtain ⟨⟨e1, σ1, h1⟩, hx, hr⟩ := hr
  refine wp_scope_straight (ihx (by simpa [okCode] using hok) _ _ _ _ _ hx hlo M w a hσ hd hs _ fun a' w' haft => ?_)
  cases e1 <;> simp only [Option.some.injEq, Prod.mk.injEq, reduceCtorEq] at hr
  all_goals
   obtain ⟨rfl, rfl, rfl⟩ := hr
   exact hQ a' w' haft
 | exit id =>
  intro _ σ h e σ' h' hr hlo M w a hσ hd hs Q hQ
  simp only [evG, Option.some.injEq, Prod.mk.injEq] at hr
  obtain ⟨rfl, rfl, rfl⟩ := hr
  exact wp_exit (hQ a w ⟨hd, M, hσ, hs, Evo.refl hs lo⟩)
 | ret =>
  intro _ σ h e σ' h' hr hlo M w a hσ hd hs Q hQ
  simp only [evG, Option.some.injEq, Prod.mk.injEq] at hr
  obtain ⟨rfl, rfl, rfl⟩ := hr
  exact wp_ret (hQ a w ⟨hd, M, hσ, hs, Evo.refl hs lo⟩)
 | _ => intro _ σ h e σ' h' hr; simp [evG] at hr
theorem rets_sound {σ : Slots} {M : Mem} {h : Heap} {w : World} {t : Array Value} (hσ : SRel M σ t) (hs : HSim E B M h w) {g : ResultVar → Sem Value} {ga : ResultVar → Option Value}
  (g1 : ∀ x, g (.tmp x) = pure (t.getD x undef)) (g2 : ∀ a ty, g (.cell a ty) = do loadVar ty (← asAddr (t.getD a undef))) (k1 : ∀ x, ga (.tmp x) = some (σ.getD x undef)) (k2 : ∀ a ty, ga (.cell a ty) = aLoad E.P h ty (σ.getD a undef)) :
  ∀ (rs : List ResultVar) (vs : List Value), rs.mapM ga = some vs → ∃ vs', (rs.mapM g).run E.P w = .ok vs' w ∧ VRels M vs vs'
 | [], vs, h => by simp at h; subst h; exact ⟨[], by simp, VRels.nil⟩
 | r :: rs, vs, hr => by
  simp only [List.mapM_cons, bind, Option.bind_eq_some_iff, pure, Option.some.injEq] at hr
  obtain ⟨v, hv, vs1, hvs, rfl⟩ := hr
  obtain ⟨vs', h1, h2⟩ := rets_sound hσ hs g1 g2 k1 k2 rs vs1 hvs
  cases r with
  | tmp x =>
   rw [k1] at hv
   cases hv
   refine ⟨t.getD x undef :: vs', ?_, VRels.cons (hσ.getD x) h2⟩
   simp only [List.mapM_cons, Sem.run_bind, g1, Sem.run_pure, Result.andThen_ok]
   rw [h1]; rfl
  | cell a ty =>
   rw [k2] at hv
   obtain ⟨v', hv1, hv2⟩ := load_sound hs hv (hσ.getD a)
   refine ⟨v' :: vs', ?_, VRels.cons hv2 h2⟩
   have hp : ∃ p, t.getD a undef = .pointer (some p) := by
    have hd := hσ.getD a
    generalize σ.getD a undef = x at hv hd
    unfold aLoad at hv
    split at hv
    ·obtain ⟨p', e, _⟩ := hd.ptrSome
     exact ⟨p', e⟩
    ·obtain ⟨p', _, e, _⟩ := hd.treeSome.cptrSome
     exact ⟨p', e⟩
    ·cases hv
   obtain ⟨p, hp⟩ := hp
   rw [hp] at hv1
   simp only [Instr.loadAt, Instr.sureAddr, Sem.run_bind, Sem.run_pure, Result.andThen_ok] at hv1
   simp only [List.mapM_cons, Sem.run_bind, g2, hp, asAddr, Sem.run_pure, Result.andThen_ok, hv1]
   rw [h1]; rfl
theorem ret_sound {fn : Func} {σ : Slots} {M : Mem} {h : Heap} {w : World} {t : Array Value} {v : Value} (hr : retA E fn σ h = some v) (hσ : SRel M σ t) (hs : HSim E B M h w) :
  ∃ v', (results fn t).run E.P w = .ok v' w ∧ VRel M v v' := by
 unfold retA at hr
 simp only [Option.map_eq_some_iff] at hr
 obtain ⟨vs, hvs, hv⟩ := hr
 unfold results
 simp only [Sem.run_bind, Array.mapM_eq_mapM_toList, Sem.run_map]
 obtain ⟨vs', h1, h2⟩ := rets_sound (g := fun r => match r with
  | .tmp t_1 => pure (t.getD t_1 undef)
  | .cell a t_1 => do
   let __do_lift ← asAddr (t.getD a undef)
   loadVar t_1 __do_lift) hσ hs (fun _ => rfl) (fun _ _ => rfl) (fun _ => rfl) (fun _ _ => rfl) _ _ hvs
 have key : ∀ {s : Sem (List Value)}, s.run E.P w = .ok vs' w → ∃ v', (((s.run E.P w).andThen fun a w' => Result.ok a.toArray w').andThen fun a w' => (pure (if h : a.size = 1 then a[0] else Value.tuple a) : Sem Value).run E.P w') = Result.ok v' w ∧ VRel M v v' := by
  intro s hs
  rw [hs]
  simp only [Result.andThen_ok, Sem.run_pure]
  refine ⟨_, rfl, ?_⟩
  have hlen := h2.1
  match vs, vs', hlen with
  | [], [], _ => simp at hv; subst hv; exact .top _
  | [u], [u'], _ => simp at hv ⊢; subst hv; exact h2.2 0 _ _ rfl rfl
  | u :: x :: r, u' :: x' :: r', hl =>
   simp at hv ⊢
   subst hv
   exact .tuple _ _ (by simpa using hl) fun i a b ha hb => h2.2 i a b (by simpa using ha) (by simpa using hb)
 exact key h1
end
structure OkProg (P : Program) : Prop where
 mixed : P.follows .mixedOrders = true
 good : GoodP P
 code : ∀ (f : FuncId) fn c, P.funcs[f]? = some fn → fn.body = some c → okCode c = true
structure OrcSound (E : Env) : Prop where
 dfd : ∀ f g, E.orc f = some g → ∀ args h lo r, g args h lo = some r → ∃ fn, E.P.funcs[f]? = some fn ∧ fn.body.isSome = true
 snd : ∀ f g, E.orc f = some g → ∀ args h lo v h', g args h lo = some (v, h') → lo ≤ h.length → ∀ B M w (args' : Array Value), HSim E B M h w → VRels M args args'.toList →
  Calls E.P f args' w fun e w' => ∃ v', e = .returned v' ∧ Out E B lo M h w v h' v' w'
 keep : OrcKeep E
theorem evF_sound {E : Env} (hP : OkProg E.P) (hO : OrcSound E) : ∀ n, CSound E (evF E n)
 | 0 => ⟨fun f args h lo r hr => by simp [evF] at hr, fun f args h lo v h' hr => by simp [evF] at hr⟩
 | n + 1 => by
  have ih := evF_sound (E := E) hP hO n
  refine ⟨fun f args h lo r hr => ?_, fun f args h lo v h' hr hlo B M w args' hs hargs => ?_⟩
  ·simp only [evF, evCall] at hr
   split at hr
   ·exact hO.dfd _ _ ‹_› _ _ _ _ hr
   simp only [evBody, Option.bind_eq_some_iff] at hr
   obtain ⟨fn, h1, c, h2, _⟩ := hr
   exact ⟨fn, h1, by rw [h2]; rfl⟩
  ·simp only [evF, evCall] at hr
   split at hr
   ·exact hO.snd _ _ ‹_› _ _ _ _ _ hr hlo B M w args' hs hargs
   simp only [evBody, Option.bind_eq_some_iff] at hr
   obtain ⟨fn, hf, c, hb, ⟨e, σ, h1⟩, hc, hr⟩ := hr
   refine calls_of_wp hf hb ?_
   have hsr : SRel M (args ++ List.replicate (fn.ntmps - args.length) undef) (args' ++ Array.replicate (fn.ntmps - args'.size) undef) := by
    have hl : args.length = args'.size := by simpa using hargs.1
    refine ⟨by simp [hl], fun i u u' hu hu' => ?_⟩
    by_cases hi : i < args.length
    ·rw [List.getElem?_append_left hi] at hu
     rw [Array.getElem?_append_left (by omega)] at hu'
     exact hargs.2 i u u' hu (by simpa using hu')
    ·rw [List.getElem?_append_right (Nat.le_of_not_lt hi), List.getElem?_replicate] at hu
     split at hu
     ·cases hu; exact .top _
     ·cases hu
   refine evG_sound hP.mixed hP.good ih (evF_keep hO.keep n) (fun c b k hb => loop_sound hb k n) (fun k b hb => evLoop_keep k b hb n) c (hP.code f fn c hf hb) _ _ _ _ _ hc hlo M w _ hsr rfl hs _ fun a' w' haft => ?_
   obtain ⟨hd, M₁, q1, q2, q3⟩ := haft
   cases e <;> simp only [Option.map_eq_some_iff, Prod.mk.injEq, reduceCtorEq] at hr
   case normal =>
    obtain ⟨v1, hv, rfl, rfl⟩ := hr
    obtain ⟨v', r1, r2⟩ := ret_sound hv q1 q2
    exact ⟨hd, v', r1, v', rfl, M₁, r2, q2, q3⟩
   case ret =>
    obtain ⟨v1, hv, rfl, rfl⟩ := hr
    obtain ⟨v', r1, r2⟩ := ret_sound hv q1 q2
    exact ⟨hd, v', r1, v', rfl, M₁, r2, q2, q3⟩
end Go.Proofs.YtjkemccfcabhgaaGreat.Bm
