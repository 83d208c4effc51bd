/-
 A region that keeps to the order of its text. Conditions: what is called is sound.
-/
import Derived.Test.YtjkemccfcabhgaaGreatQB07
namespace Go.Proofs.YtjkemccfcabhgaaGreat.Bm
open Go Go.RowKit
def Keep (lo : Nat) (h h' : Heap) : Prop := h.length ≤ h'.length ∧ (∀ o, o < lo → h'[o]? = h[o]?) ∧ ∀ o, o < h.length → alive h' o → alive h o
def KeepC (C : Callee) : Prop := ∀ f args h lo v h', C f args h lo = some (v, h') → lo ≤ h.length → Keep lo h h'
section
variable {E : Env} {h h' : Heap}
theorem Keep.refl (lo : Nat) (h : Heap) : Keep lo h h := ⟨Nat.le_refl _, fun _ _ => rfl, fun _ _ a => a⟩
theorem Keep.trans {lo : Nat} {h₁ h₂ : Heap} (a : Keep lo h h₁) (b : Keep lo h₁ h₂) : Keep lo h h₂ := ⟨Nat.le_trans a.1 b.1, fun o ho => (b.2.1 o ho).trans (a.2.1 o ho), fun o ho ha => a.2.2 o ho (b.2.2 o (Nat.lt_of_lt_of_le ho a.1) ha)⟩
theorem Keep.weaken {lo lo' : Nat} (a : Keep lo h h') (hl : lo' ≤ lo) : Keep lo' h h' := ⟨a.1, fun o ho => a.2.1 o (Nat.lt_of_lt_of_le ho hl), a.2.2⟩
theorem Keep.snoc {lo : Nat} (hlo : lo ≤ h.length) (x : AObj) : Keep lo h (h ++ [x]) := ⟨by simp, fun o ho => by rw [List.getElem?_append_left (by omega)], fun o ho ⟨y, hy, hy'⟩ => ⟨y, by rw [List.getElem?_append_left ho] at hy; exact hy, hy'⟩⟩
theorem Keep.ext (k : Keep h.length h h') : ∃ e, h' = h ++ e := by
 refine ⟨h'.drop h.length, ?_⟩
 apply List.ext_getElem?
 intro i
 by_cases hi : i < h.length
 ·rw [k.2.1 i hi, List.getElem?_append_left hi]
 ·rw [List.getElem?_append_right (Nat.le_of_not_lt hi), List.getElem?_drop]
  congr 1; omega
theorem wrN_keep {lo : Nat} {a : Addr} {vs : List Value} (hw : wrN h lo a vs = some h') : Keep lo h h' := by
 unfold wrN at hw
 split at hw
 ·rename_i hob
  split at hw
  ·rename_i hc
   cases hw
   exact ⟨by simp, fun o ho => by rw [List.getElem?_set_ne (by omega)], fun o _ ha => (alive_set hob).1 ha⟩
  ·cases hw
 ·cases hw
theorem box_keep {lo : Nat} (hlo : lo ≤ h.length) {t : TypeId} {x v : Value} (hv : aBox h t x = some (v, h')) : Keep lo h h' := by
 unfold aBox at hv
 simp only [Option.map_eq_some_iff] at hv
 obtain ⟨cs, _, e⟩ := hv
 cases e
 exact .snoc hlo _
theorem append_keep {lo : Nat} (hlo : lo ≤ h.length) {strict : Bool} {ts : Array TypeId} {d x v : Value} (hv : aAppend E h lo strict ts d x = some (v, h')) : Keep (if strict then h.length else lo) h h' := by
 have hl : (if strict then h.length else lo) ≤ h.length := by split <;> omega
 unfold aAppend at hv
 split at hv
 case h_2 => cases hv
 split at hv
 ·cases hv
 simp only [Option.bind_eq_some_iff] at hv
 obtain ⟨i, _, z, _, hv⟩ := hv
 split at hv
 ·cases hv
 simp only [Option.bind_eq_some_iff] at hv
 obtain ⟨new, _, hv⟩ := hv
 split at hv
 ·split at hv
  ·cases hv; exact .refl _ _
  ·split at hv
   ·cases hv; exact .snoc hl _
   ·cases hv
 ·split at hv
  ·split at hv
   ·cases hv; exact .refl _ _
   ·cases hv
  ·split at hv
   ·cases hv; exact .snoc hl _
   ·cases hv
 ·split at hv
  ·split at hv
   ·split at hv
    ·cases hv; exact .refl _ _
    ·cases hv
   ·split at hv
    ·cases hv
    ·rename_i hst
     simp only [Bool.or_eq_true, not_or, Bool.not_eq_true] at hst
     obtain ⟨rfl, _⟩ := hst
     simp only [Option.map_eq_some_iff] at hv
     obtain ⟨h1, hw, e⟩ := hv
     cases e
     simpa using wrN_keep hw
  ·split at hv
   ·split at hv
    ·split at hv
     ·cases hv; exact .snoc hl _
     ·cases hv
    ·rename_i hob _
     split at hv
     ·cases hv
     ·rename_i hst
      simp only [Bool.or_eq_true, Bool.not_eq_true', decide_eq_false_iff_not, not_or, Bool.not_eq_true, Decidable.not_not] at hst
      obtain ⟨⟨⟨⟨⟨rfl, hlo'⟩, _⟩, _⟩, _⟩, _⟩ := hst
      cases hv
      exact ⟨by simp, fun o ho => by rw [List.getElem?_set_ne (by simp at ho; omega)], fun o _ ha => (alive_set hob).1 ha⟩
    ·cases hv
   ·cases hv
 ·cases hv
theorem append2_keep {lo : Nat} (hlo : lo ≤ h.length) {strict : Bool} {ts : Array TypeId} {d x v : Value} (hv : aAppend2 E h lo strict ts d x = some (v, h')) : Keep (if strict then h.length else lo) h h' := by
 have hl : (if strict then h.length else lo) ≤ h.length := by split <;> omega
 unfold aAppend2 at hv
 split at hv
 ·unfold aAppendN at hv
  split at hv
  case h_2 => cases hv
  simp only [Option.bind_eq_some_iff] at hv
  obtain ⟨i, _, z, _, hv⟩ := hv
  split at hv
  ·cases hv
  split at hv
  case h_2 => cases hv
  split at hv
  ·cases hv; exact .snoc hl _
  ·cases hv
 ·exact append_keep hlo hv
theorem trim_keep {lo : Nat} {vs : List Value} (k : Keep lo h h') (hlo : lo ≤ h.length) : Keep lo h (trim h.length vs h') := by
 unfold trim
 split
 ·exact k
 ·split
  ·refine ⟨by rw [List.length_take]; exact Nat.le_min.2 ⟨Nat.le_refl _, k.1⟩, fun o ho => ?_, fun o ho ha => k.2.2 o ho (alive_take ha)⟩
   rw [List.getElem?_take, if_pos (by omega)]; exact k.2.1 o ho
  ·exact k
theorem Keep.dead {lo o : Nat} (hlo : lo ≤ o) : Keep lo h (h.set o .dead) :=
 ⟨by simp, fun o' ho => by rw [List.getElem?_set_ne (by omega)], fun o' _ ha => (alive_dead ha).2⟩
theorem freezeV_keep {P : Program} {lo : Nat} : ∀ (n : Nat) (h h' : Heap) (v u : Value), freezeV P n lo h v = some (u, h') → Keep lo h h'
 | 0, h, h', v, u, hr => by simp [freezeV] at hr
 | n + 1, h, h', v, u, hr => by
  have ih := freezeV_keep (P := P) (lo := lo) n
  have fold : ∀ (c acc : List Value) (h : Heap) (r : List Value × Heap), c.foldlM (init := (acc, h)) (fun r x => (freezeV P n lo r.2 x).map fun y => (r.1 ++ [y.1], y.2)) = some r → Keep lo h r.2 := by
   intro c
   induction c with
   | nil => intro acc h r hr; simp at hr; subst hr; exact .refl _ _
   | cons x c ihc =>
    intro acc h r hr
    simp only [List.foldlM_cons, bind, Option.bind_eq_some_iff, Option.map_eq_some_iff] at hr
    obtain ⟨_, ⟨⟨y, h1⟩, hy, rfl⟩, hr⟩ := hr
    exact (ih _ _ _ _ hy).trans (ihc _ _ _ hr)
  have all : ∀ {c : List Value} {h : Heap} {r : List Value × Heap}, (if c.all (settled depth) then some (c, h) else
    c.foldlM (init := ([], h)) fun r x => (freezeV P n lo r.2 x).map fun y => (r.1 ++ [y.1], y.2)) = some r → Keep lo h r.2 := by
   intro c h r hr
   split at hr
   ·cases hr; exact .refl _ _
   ·exact fold _ _ _ _ hr
  unfold freezeV at hr
  split at hr
  ·split at hr
   case h_2 => cases hr
   split at hr
   case isFalse => cases hr
   rename_i hc
   simp only [Option.bind_eq_some_iff] at hr
   obtain ⟨r, hall, hr⟩ := hr
   have := (Keep.dead (h := h) hc.1).trans (all hall)
   split at hr <;> first | (cases hr; exact this) | cases hr
  ·split at hr
   ·cases hr; exact .refl _ _
   ·split at hr
    case h_2 => cases hr
    simp only [Option.bind_eq_some_iff] at hr
    obtain ⟨s, _, hr⟩ := hr
    split at hr
    case isFalse => cases hr
    rename_i hc
    simp only [Option.bind_eq_some_iff, Option.map_eq_some_iff] at hr
    obtain ⟨r, hall, l, _, e⟩ := hr
    cases e
    exact (Keep.dead (h := h) hc.1).trans (all hall)
  ·simp only [Option.map_eq_some_iff] at hr
   obtain ⟨r, hall, e⟩ := hr
   cases e
   exact all hall
  ·split at hr
   ·cases hr; exact .refl _ _
   ·cases hr
theorem frzAll_keep {P : Program} {lo : Nat} {vs : List Value} {r : List Value × Heap} (hr : frzAll P lo vs h = some r) : Keep lo h r.2 := by
 have fold : ∀ (c acc : List Value) (h : Heap) (r : List Value × Heap), c.foldlM (init := (acc, h)) (fun r x => (freezeV P depth lo r.2 x).map fun y => (r.1 ++ [y.1], y.2)) = some r → Keep lo h r.2 := by
  intro c
  induction c with
  | nil => intro acc h r hr; simp at hr; subst hr; exact .refl _ _
  | cons x c ihc =>
   intro acc h r hr
   simp only [List.foldlM_cons, bind, Option.bind_eq_some_iff, Option.map_eq_some_iff] at hr
   obtain ⟨_, ⟨⟨y, h1⟩, hy, rfl⟩, hr⟩ := hr
   exact (freezeV_keep _ _ _ _ _ hy).trans (ihc _ _ _ hr)
 exact fold _ _ _ _ hr
theorem Keep.setMap {lo o : Nat} {x y : AObj} (hlo : lo ≤ o) (ho : h[o]? = some x) (hx : x ≠ .dead) : Keep lo h (h.set o y) :=
 ⟨by simp, fun o' ho' => List.getElem?_set_ne (by omega), fun o' _ ⟨z, hz, hz'⟩ => by
  by_cases e : o' = o
  ·subst e; exact ⟨x, ho, hx⟩
  ·rw [List.getElem?_set_ne (Ne.symm e)] at hz; exact ⟨z, hz, hz'⟩⟩
theorem Keep.app {lo : Nat} {h : Heap} (hlo : lo ≤ h.length) : ∀ (e : Heap), Keep lo h (h ++ e) := fun e =>
 ⟨by simp, fun o ho => by rw [List.getElem?_append_left (by omega)], fun o ho ⟨y, hy, hy'⟩ => ⟨y, by rw [List.getElem?_append_left ho] at hy; exact hy, hy'⟩⟩
theorem prepare_keep {P : Program} {lo : Nat} : ∀ (l : List Dir) (σ σ' : Slots) (h h' : Heap), lo ≤ h.length → prepare P lo l σ h = some (σ', h') → Keep lo h h'
 | [], σ, σ', h, h', _, hr => by simp only [prepare, Option.some.injEq, Prod.mk.injEq] at hr; rw [← hr.2]; exact .refl _ _
 | d :: l, σ, σ', h, h', hlo, hr => by
  simp only [prepare, Option.bind_eq_some_iff] at hr
  obtain ⟨⟨σ1, h1⟩, h2, hr⟩ := hr
  have k1 : Keep lo h h1 := by
   cases d with
   | still => simp only [prep1, Option.some.injEq, Prod.mk.injEq] at h2; rw [← h2.2]; exact .refl _ _
   | top s => simp only [prep1, Option.some.injEq, Prod.mk.injEq] at h2; rw [← h2.2]; exact .refl _ _
   | frz s =>
    simp only [prep1, Option.map_eq_some_iff, Prod.mk.injEq] at h2
    obtain ⟨r, hf, _, rfl⟩ := h2
    exact freezeV_keep _ _ _ _ _ hf
   | new s t =>
    simp only [prep1] at h2
    split at h2
    ·simp only [Option.bind_eq_some_iff] at h2
     obtain ⟨n, _, h2⟩ := h2
     split at h2
     ·cases h2
     ·simp only [Option.some.injEq, Prod.mk.injEq] at h2
      rw [← h2.2]; exact .snoc hlo _
    ·simp only [Option.bind_eq_some_iff] at h2
     obtain ⟨n, _, h2⟩ := h2
     split at h2
     ·cases h2
     ·simp only [Option.some.injEq, Prod.mk.injEq] at h2
      rw [← h2.2]; exact .snoc hlo _
    ·simp only [Option.some.injEq, Prod.mk.injEq] at h2; rw [← h2.2]; exact .refl _ _
   | news s t =>
    simp only [prep1] at h2
    split at h2
    case h_2 => cases h2
    split at h2
    case h_2 => cases h2
    rename_i hob
    simp only [Option.bind_eq_some_iff] at h2
    obtain ⟨n, _, h2⟩ := h2
    split at h2
    case isFalse => cases h2
    rename_i hc
    simp only [Option.some.injEq, Prod.mk.injEq] at h2
    rw [← h2.2]
    exact (Keep.setMap hc.2.1 hob (by simp)).trans (.app (by simpa using hlo) _)
   | newc s d t =>
    simp only [prep1] at h2
    split at h2
    case h_2 => cases h2
    split at h2
    case h_2 => cases h2
    rename_i hob
    simp only [Option.bind_eq_some_iff] at h2
    obtain ⟨n, _, h2⟩ := h2
    split at h2
    case isFalse => cases h2
    rename_i hc
    simp only [Option.some.injEq, Prod.mk.injEq] at h2
    rw [← h2.2]
    exact (Keep.setMap hc.2.1 hob (by simp)).trans (.app (by simpa using hlo) _)
  exact k1.trans (prepare_keep l _ _ _ _ (Nat.le_trans hlo k1.1) hr)
theorem putEntry_keep {P : Program} {lo : Nat} {kt : TypeId} {m k : Value} {old : Value → Value} {new : Option Value} {r} (hv : putEntry P h lo kt m k old new = some r) : Keep lo h r.2 := by
 unfold putEntry at hv
 split at hv
 case h_2 => cases hv
 split at hv
 case h_2 => cases hv
 rename_i es ck hob
 split at hv
 case isFalse => cases hv
 rename_i hc
 simp only [Option.bind_eq_some_iff] at hv
 obtain ⟨q, _, hv⟩ := hv
 split at hv
 ·simp only [Option.bind_eq_some_iff] at hv
  obtain ⟨e, _, hv⟩ := hv
  split at hv
  ·cases hv; exact .setMap hc.1 hob (by simp)
  ·cases hv
 ·simp only [Option.map_eq_some_iff] at hv
  obtain ⟨_, _, rfl⟩ := hv
  exact .setMap hc.1 hob (by simp)
theorem mapPut_keep {P : Program} {lo : Nat} {t : TypeId} {m k x : Value} (hv : aMapPut P h lo t m k x = some h') : Keep lo h h' := by
 unfold aMapPut at hv
 split at hv
 ·simp only [Option.map_eq_some_iff] at hv
  obtain ⟨r, hr, rfl⟩ := hv
  exact putEntry_keep hr
 ·cases hv
theorem aop_keep {C : Callee} (hC : KeepC C) {lo : Nat} (hlo : lo ≤ h.length) {strict : Bool} {op : Op} {ρA : Operand → Value} {v : Value}
  (hv : aop E C lo strict op ρA h = some (v, h')) (hfun : ∀ f, ρA (.func f) = .func (.func f) #[] #[]) : Keep (loOf E strict op lo h) h h' := by
 have hl : loOf E strict op lo h ≤ h.length := by unfold loOf; split <;> omega
 have same : ∀ {r : Option Value}, (r.map (·, h)) = some (v, h') → Keep (loOf E strict op lo h) h h' := by
  intro r hr
  simp only [Option.map_eq_some_iff, Prod.mk.injEq] at hr
  obtain ⟨_, _, _, rfl⟩ := hr
  exact .refl _ _
 cases op with
 | move x => simp only [aop, Option.some.injEq, Prod.mk.injEq] at hv; rw [← hv.2]; exact .refl _ _
 | assign x => simp only [aop, Option.some.injEq, Prod.mk.injEq] at hv; rw [← hv.2]; exact .refl _ _
 | pick c x y =>
  simp only [aop] at hv
  split at hv
  ·simp only [Option.some.injEq, Prod.mk.injEq] at hv; rw [← hv.2]; exact .refl _ _
  ·cases hv
 | alloc t =>
  simp only [aop, aAlloc, Option.bind_eq_some_iff] at hv
  obtain ⟨z, _, hv⟩ := hv
  split at hv
  ·exact box_keep hl hv
  ·cases hv
 | box t x => exact box_keep hl hv
 | build t parts => exact same hv
 | buildSlice t len parts =>
  simp only [aop, aBuildSlice] at hv
  split at hv
  case h_2 => cases hv
  simp only [Option.bind_eq_some_iff] at hv
  obtain ⟨i, _, z, _, hv⟩ := hv
  split at hv
  ·cases hv
  ·simp only [Option.bind_eq_some_iff] at hv
   obtain ⟨cs, _, hv⟩ := hv
   split at hv
   ·cases hv
    exact .snoc hl _
   split at hv
   ·simp only [Option.map_eq_some_iff, Prod.mk.injEq] at hv
    obtain ⟨_, _, _, rfl⟩ := hv
    exact .refl _ _
   ·cases hv
    exact .snoc hl _
 | load t x =>
  simp only [aop] at hv
  split at hv
  ·cases hv
  ·exact same hv
 | store t p x =>
  simp only [aop] at hv
  split at hv
  ·cases hv
  rename_i hst
  simp only [Option.map_eq_some_iff, Prod.mk.injEq] at hv
  obtain ⟨_, hb, _, rfl⟩ := hv
  have e : loOf E strict (.store t p x) lo h = lo := by simp at hst; simp [loOf, clsOf, hst]
  rw [e]
  unfold aStore at hb
  split at hb
  ·simp only [Option.bind_eq_some_iff] at hb
   obtain ⟨cs, _, hb⟩ := hb
   split at hb
   ·exact wrN_keep hb
   ·cases hb
  ·cases hb
 | nilCheck x =>
  simp only [aop] at hv
  split at hv
  ·simp only [Option.some.injEq, Prod.mk.injEq] at hv; rw [← hv.2]; exact .refl _ _
  ·simp only [Option.some.injEq, Prod.mk.injEq] at hv; rw [← hv.2]; exact .refl _ _
  ·simp only [Option.some.injEq, Prod.mk.injEq] at hv; rw [← hv.2]; exact .refl _ _
  ·cases hv
 | binOp op t x y yt => exact same hv
 | unOp op t x => exact same hv
 | convert s t x => exact same hv
 | makeFunc fn fst cap =>
  cases fn with
  | func f => simp only [aop, Option.some.injEq, Prod.mk.injEq] at hv; rw [← hv.2]; exact .refl _ _
  | _ => simp [aop] at hv
 | makeSlice t l c =>
  simp only [aop, aMakeSlice] at hv
  split at hv
  case h_2 => cases hv
  simp only [Option.bind_eq_some_iff] at hv
  obtain ⟨i, _, z, _, hv⟩ := hv
  split at hv
  ·cases hv; exact .snoc hl _
  ·cases hv
 | makeMap t r =>
  simp only [aop, aMakeMap] at hv
  split at hv
  ·cases hv; exact .snoc hl _
  ·cases hv
 | lookup t x k ok => exact same hv
 | mapUpdate t m k x =>
  simp only [aop] at hv
  split at hv
  ·cases hv
  rename_i hst
  simp only [Option.map_eq_some_iff, Prod.mk.injEq] at hv
  obtain ⟨_, hb, _, rfl⟩ := hv
  have e : loOf E strict (.mapUpdate t m k x) lo h = lo := by simp at hst; simp [loOf, clsOf, hst]
  rw [e]; exact mapPut_keep hb
 | insert t m k x =>
  simp only [aop] at hv
  split at hv
  ·cases hv
  rename_i hst
  simp only [Option.map_eq_some_iff, Prod.mk.injEq] at hv
  obtain ⟨_, hb, _, rfl⟩ := hv
  have e : loOf E strict (.insert t m k x) lo h = lo := by simp at hst; simp [loOf, clsOf, hst]
  rw [e]; exact mapPut_keep hb
 | mapEntry t m k =>
  simp only [aop] at hv
  split at hv
  ·cases hv
  rename_i hst
  have e : loOf E strict (.mapEntry t m k) lo h = lo := by simp at hst; simp [loOf, clsOf, hst]
  rw [e]
  unfold aMapEntry at hv
  split at hv
  ·simp only [Option.map_eq_some_iff, Prod.mk.injEq] at hv
   obtain ⟨r, hr, _, rfl⟩ := hv
   exact putEntry_keep hr
  ·cases hv
 | entryStore t m s x =>
  simp only [aop] at hv
  split at hv
  ·cases hv
  rename_i hst
  simp only [Option.map_eq_some_iff, Prod.mk.injEq] at hv
  obtain ⟨_, hb, _, rfl⟩ := hv
  have e : loOf E strict (.entryStore t m s x) lo h = lo := by simp at hst; simp [loOf, clsOf, hst]
  rw [e]
  unfold aEntryStore at hb
  split at hb
  case h_2 => cases hb
  split at hb
  case h_2 => cases hb
  rename_i es ck hob
  split at hb
  case isFalse => cases hb
  rename_i hlo'
  simp only [Option.bind_eq_some_iff, Option.map_eq_some_iff] at hb
  obtain ⟨_, _, _, _, rfl⟩ := hb
  exact .setMap hlo' hob (by simp)
 | slice t x l u m =>
  simp only [aop] at hv
  split at hv
  ·cases hv
  ·exact same hv
 | fieldAddr t x f => exact same hv
 | field t x f => exact same hv
 | indexAddr t x i => exact same hv
 | index t x i => exact same hv
 | extract x i =>
  simp only [aop] at hv
  split at hv
  ·exact same hv
  ·cases hv
 | call c =>
  simp only [aop] at hv
  split at hv
  ·rename_i f hcal
   unfold aCall at hv
   split at hv
   case h_2 => cases hv
   rename_i g first captured hf
   unfold retCall at hv
   split at hv
   ·simp only [Option.bind_eq_some_iff] at hv
    obtain ⟨_, _, r, _, hv⟩ := hv
    split at hv
    ·simp only [Option.some.injEq, Prod.mk.injEq] at hv; rw [← hv.2]; exact .refl _ _
    ·cases hv
   ·split at hv
    ·exact same hv
    ·cases hv
   ·rename_i hm
    split at hv
    ·cases hv
    rename_i hst
    have hcls : clsOf E (.call c) = .write := by
     unfold clsOf
     simp only [hcal]
     cases f with
     | func f0 =>
      have e1 := hfun f0
      rw [hf] at e1
      cases e1
      simp only [hm]
     | _ => rfl
    simp at hst
    have e : loOf E strict (.call c) lo h = lo := by simp [loOf, hcls, hst]
    rw [e]; exact hC _ _ _ _ _ _ hv hlo
   ·rename_i hm
    split at hv
    ·cases hv
    rename_i hst
    simp only [Option.bind_eq_some_iff, Option.map_eq_some_iff, Prod.mk.injEq] at hv
    obtain ⟨q, hq, r, hc, e1, e2⟩ := hv
    subst e1; subst e2
    have hcls : clsOf E (.call c) = .write := by
     unfold clsOf
     simp only [hcal]
     cases f with
     | func f0 =>
      have e1 := hfun f0
      rw [hf] at e1
      cases e1
      simp only [hm]
     | _ => rfl
    simp at hst
    have e : loOf E strict (.call c) lo h = lo := by simp [loOf, hcls, hst]
    rw [e]; exact frzAll_keep hq
   ·simp only [Option.bind_eq_some_iff, Option.map_eq_some_iff, Prod.mk.injEq] at hv
    obtain ⟨r, hc, q, hq, e1, e2⟩ := hv
    subst e1; subst e2
    have e : loOf E strict (.call c) lo h ≤ h.length := by unfold loOf; split <;> omega
    exact (trim_keep ((hC _ _ _ _ _ _ hc (Nat.le_refl _)).trans (freezeV_keep _ _ _ _ _ hq)) (Nat.le_refl _)).weaken e
   ·rename_i hm0 hm1 hm2 hm4 hm5
    split at hv
    ·cases hv
    rename_i hst
    simp only [Option.map_eq_some_iff, Prod.mk.injEq] at hv
    obtain ⟨r, hc, e1, e2⟩ := hv
    subst e1; subst e2
    have hcls : clsOf E (.call c) = .write := by
     unfold clsOf
     simp only [hcal]
     cases f with
     | func f0 =>
      have e1 := hfun f0
      rw [hf] at e1
      cases e1
      simp only
     | _ => rfl
    simp at hst
    have e : loOf E strict (.call c) lo h = lo := by simp [loOf, hcls, hst]
    rw [e]; exact trim_keep (hC _ _ _ _ _ _ hc hlo) hlo
  ·rename_i b hcal
   split at hv
   ·exact same hv
   ·exact same hv
   ·have e2 : loOf E strict (.call c) lo h = if strict then h.length else lo := by
     have hcls : clsOf E (.call c) = .write := by unfold clsOf; simp only [hcal]
     simp [loOf, hcls]
    rw [e2]; exact append2_keep hlo hv
   ·split at hv
    ·cases hv
    rename_i hst
    have e : loOf E strict (.call c) lo h = lo := by
     have hcls : clsOf E (.call c) = .write := by unfold clsOf; simp only [hcal]
     simp at hst
     simp [loOf, hcls, hst]
    rw [e]
    unfold aCopy at hv
    split at hv
    case h_2 => cases hv
    simp only [Option.bind_eq_some_iff] at hv
    obtain ⟨s, _, new, _, hv⟩ := hv
    split at hv
    ·cases hv; exact .refl _ _
    ·split at hv
     ·split at hv
      ·simp only [Option.map_eq_some_iff] at hv
       obtain ⟨h1, hw, e⟩ := hv
       cases e
       exact wrN_keep hw
      ·cases hv
     ·cases hv
   ·split at hv
    ·cases hv
    rename_i hst
    have e : loOf E strict (.call c) lo h = lo := by
     have hcls : clsOf E (.call c) = .write := by unfold clsOf; simp only [hcal]
     simp at hst
     simp [loOf, hcls, hst]
    rw [e]
    unfold aClear at hv
    split at hv
    ·cases hv; exact .refl _ _
    ·split at hv
     ·cases hv; exact .refl _ _
     ·simp only [Option.bind_eq_some_iff] at hv
      obtain ⟨i, _, z, _, hv⟩ := hv
      split at hv
      ·simp only [Option.map_eq_some_iff] at hv
       obtain ⟨h1, hw, e⟩ := hv
       cases e
       exact wrN_keep hw
      ·cases hv
    ·cases hv
   ·exact same hv
   ·exact same hv
   ·cases hv
  ·cases hv
 | _ => simp [aop] at hv
theorem evalA_func (E : Env) (σ : Slots) (f : FuncId) : evalA E σ (.func f) = .func (.func f) #[] #[] := rfl
theorem runOps_keep {C : Callee} (hC : KeepC C) {lo : Nat} {ops : Array Oper} : ∀ (l : List (Oper × Bool)) (σ σ' : Slots) (h h' : Heap), lo ≤ h.length → runOps E C lo ops l σ h = some (σ', h') → Keep lo h h'
 | [], σ, σ', h, h', _, hr => by simp only [runOps, Option.some.injEq, Prod.mk.injEq] at hr; rw [← hr.2]; exact .refl _ _
 | (o, st) :: l, σ, σ', h, h', hlo, hr => by
  simp only [runOps] at hr
  split at hr
  ·simp only [Option.bind_eq_some_iff] at hr
   obtain ⟨⟨v, h1⟩, hop, hr⟩ := hr
   have k1 := (aop_keep hC hlo hop (evalA_func E σ)).weaken (lo' := lo) (by unfold loOf; split <;> omega)
   exact k1.trans (runOps_keep hC l _ _ _ _ (Nat.le_trans hlo k1.1) hr)
  ·exact runOps_keep hC l _ _ _ _ hlo hr
  ·cases hr
def KeepB (lo : Nat) (b : Body) : Prop := ∀ σ h e σ' h', lo ≤ h.length → b σ h = some (e, σ', h') → Keep lo h h'
theorem evG_keep {f : FuncId} {C : Callee} (hC : KeepC C) {Lp : List Nat × List Nat → Body → Body} {lo : Nat} (hL : ∀ k b, KeepB lo b → KeepB lo (Lp k b)) : ∀ c : Code, KeepB lo (evG E f C Lp lo c) := by
 intro c
 induction c with
 | skip => intro σ h e σ' h' _ hr; simp only [evG, Option.some.injEq, Prod.mk.injEq] at hr; rw [← hr.2.2]; exact .refl _ _
 | label l => intro σ h e σ' h' _ hr; simp only [evG, Option.some.injEq, Prod.mk.injEq] at hr; rw [← hr.2.2]; exact .refl _ _
 | region id ops draw =>
  intro σ h e σ' h' hlo hr
  simp only [evG, Option.bind_eq_some_iff, Option.map_eq_some_iff, Prod.mk.injEq] at hr
  obtain ⟨⟨σ0, h0⟩, hp, ⟨σ1, h1⟩, hr, _, _, rfl⟩ := hr
  have k1 := prepare_keep _ _ _ _ _ hlo hp
  exact k1.trans (runOps_keep hC _ _ _ _ _ (Nat.le_trans hlo k1.1) hr)
 | seq a b iha ihb =>
  intro σ h e σ' h' hlo hr
  simp only [evG, Option.bind_eq_some_iff] at hr
  obtain ⟨⟨e1, σ1, h1⟩, ha, hr⟩ := hr
  have k1 := iha _ _ _ _ _ hlo ha
  cases e1 <;> simp only [Option.some.injEq, Prod.mk.injEq] at hr
  case normal => exact k1.trans (ihb _ _ _ _ _ (Nat.le_trans hlo k1.1) hr)
  all_goals (rw [← hr.2.2]; exact k1)
 | cond c a b iha ihb =>
  intro σ h e σ' h' hlo hr
  simp only [evG] at hr
  split at hr
  ·exact iha _ _ _ _ _ hlo hr
  ·exact ihb _ _ _ _ _ hlo hr
  ·cases hr
 | block id a iha =>
  intro σ h e σ' h' hlo hr
  simp only [evG, Option.map_eq_some_iff] at hr
  obtain ⟨⟨e1, σ1, h1⟩, ha, hr⟩ := hr
  have k1 := iha _ _ _ _ _ hlo ha
  have : h1 = h' := by
   cases e1 <;> simp only at hr
   case exit id' =>
    split at hr <;> simp only [Prod.mk.injEq] at hr <;> exact hr.2.2
   all_goals (simp only [Prod.mk.injEq] at hr; exact hr.2.2)
  rw [← this]; exact k1
 | loop a iha => exact hL _ _ iha
 | scope a iha =>
  intro σ h e σ' h' hlo hr
  simp only [evG, Option.bind_eq_some_iff] at hr
  obtain ⟨⟨e1, σ1, h1⟩, ha, hr⟩ := hr
  have k1 := iha _ _ _ _ _ hlo ha
  cases e1 <;> simp only [Option.some.injEq, Prod.mk.injEq, reduceCtorEq] at hr
  all_goals (rw [← hr.2.2]; exact k1)
 | exit id => intro σ h e σ' h' _ hr; simp only [evG, Option.some.injEq, Prod.mk.injEq] at hr; rw [← hr.2.2]; exact .refl _ _
 | ret => intro σ h e σ' h' _ hr; simp only [evG, Option.some.injEq, Prod.mk.injEq] at hr; rw [← hr.2.2]; exact .refl _ _
 | _ => intro σ h e σ' h' _ hr; simp [evG] at hr
theorem evLoop_keep {lo : Nat} (k : List Nat × List Nat) (b : Body) (hb : KeepB lo b) : ∀ m, KeepB lo (evLoop m k b) := by
 intro m
 induction m with
 | zero => intro σ h e σ' h' _ hr; simp [evLoop] at hr
 | succ m ih =>
  intro σ h e σ' h' hlo hr
  simp only [evLoop, Option.bind_eq_some_iff] at hr
  obtain ⟨⟨e1, σ1, h1⟩, ha, hr⟩ := hr
  have k1 := hb _ _ _ _ _ hlo ha
  cases e1 <;> simp only [Option.some.injEq, Prod.mk.injEq] at hr
  case normal =>
   have k2 := trim_keep (vs := forget k.1 σ1) k1 hlo
   exact k2.trans (ih _ _ _ _ _ (Nat.le_trans hlo k2.1) hr)
  all_goals (rw [← hr.2.2]; exact trim_keep k1 hlo)
theorem evBody_keep {C : Callee} (hC : KeepC C) {Lp : List Nat × List Nat → Body → Body} (hL : ∀ lo k b, KeepB lo b → KeepB lo (Lp k b)) : KeepC (evBody E C Lp) := by
 intro f args h lo v h' hr hlo
 simp only [evBody, Option.bind_eq_some_iff] at hr
 obtain ⟨fn, _, c, _, ⟨e, σ, h1⟩, hc, hr⟩ := hr
 have k1 := evG_keep hC (hL lo) c _ _ _ _ _ hlo hc
 cases e <;> simp only [Option.map_eq_some_iff, Prod.mk.injEq, reduceCtorEq] at hr
 all_goals (obtain ⟨_, _, _, rfl⟩ := hr; exact k1)
def OrcKeep (E : Env) : Prop := ∀ f g, E.orc f = some g → ∀ args h lo v h', g args h lo = some (v, h') → lo ≤ h.length → Keep lo h h'
theorem evCall_keep (hO : OrcKeep E) {C : Callee} (hC : KeepC C) {Lp : List Nat × List Nat → Body → Body} (hL : ∀ lo k b, KeepB lo b → KeepB lo (Lp k b)) : KeepC (evCall E C Lp) := by
 intro f args h lo v h' hr hlo
 unfold evCall at hr
 split at hr
 ·exact hO _ _ ‹_› _ _ _ _ _ hr hlo
 ·exact evBody_keep hC hL _ _ _ _ _ _ hr hlo
theorem evF_keep (hO : OrcKeep E) : ∀ n, KeepC (evF E n)
 | 0 => fun f args h lo v h' hr => by simp [evF] at hr
 | n + 1 => evCall_keep hO (evF_keep hO n) fun lo k b hb => evLoop_keep k b hb n
end
end Go.Proofs.YtjkemccfcabhgaaGreat.Bm
namespace Go.Proofs.YtjkemccfcabhgaaGreat.Bm
open Go Go.RowKit
def SRel (M : Mem) (σ : Slots) (t : Array Value) : Prop := σ.length = t.size ∧ ∀ (i : Nat) v v', σ[i]? = some v → t[i]? = some v' → VRel M v v'
section
variable {E : Env} {B : Nat} {M M' : Mem} {h : Heap} {w : World} {σ : Slots}
theorem SRel.mono {t : Array Value} (hm : M.Le M') (h : SRel M σ t) : SRel M' σ t :=
 ⟨h.1, fun i v v' hv hv' => (h.2 i v v' hv hv').mono hm⟩
theorem SRel.getD {t : Array Value} (h : SRel M σ t) (i : Nat) : VRel M (σ.getD i undef) (t.getD i undef) := by
 by_cases hi : i < σ.length
 ·have hi' : i < t.size := h.1 ▸ hi
  have e1 : σ.getD i undef = σ[i] := by simp [hi]
  have e2 : t.getD i undef = t[i] := by simp [hi']
  rw [e1, e2]
  exact h.2 i _ _ (by simp [hi]) (by simp [hi'])
 ·rw [show σ.getD i undef = undef by simp [List.getElem?_eq_none (Nat.le_of_not_lt hi)]]
  exact .top _
theorem SRel.put {a : Act} (h : SRel M σ a.tmps) (d : Option Tmp) {v v' : Value} (hv : VRel M v v') : SRel M (putA σ d v) (a.put d v').tmps := by
 cases d with
 | none => exact h
 | some d =>
  refine ⟨by simp [putA, Act.put, h.1], fun i u u' hu hu' => ?_⟩
  simp only [putA, Act.put] at hu hu'
  by_cases e : d = i
  ·subst e
   have hd : d < σ.length := by
    have := (List.getElem?_eq_some_iff.1 hu).1; simpa using this
   rw [List.getElem?_set_self hd] at hu
   rw [Array.getElem?_setIfInBounds_self_of_lt (h.1 ▸ hd)] at hu'
   cases hu; cases hu'; exact hv
  ·rw [List.getElem?_set_ne e] at hu
   rw [Array.getElem?_setIfInBounds_ne e] at hu'
   exact h.2 i u u' hu hu'
theorem eval_rel (hg : ∀ g v, E.glob g = some v → VRel M (cptr v) (.pointer (some ⟨g, 0, none⟩))) {a : Act} (h : SRel M σ a.tmps) (x : Operand) : VRel M (evalA E σ x) (a.eval x) := by
 cases x with
 | tmp t => exact h.getD t
 | const v =>
  show VRel M (if flat v then v else undef) v
  split
  ·exact VRel.of_flat ‹_›
  ·exact .top _
 | global g =>
  show VRel M (match E.glob g with | some v => cptr v | none => undef) _
  split
  ·rename_i v hv
   exact hg g v hv
  ·exact .top _
 | func f => exact .func _ _ _ _ _ rfl rfl (fun i u u' hu => by simp at hu) fun i u u' hu => by simp at hu
theorem guard_rel {a : Act} (h : SRel M σ a.tmps) {ops : Array Oper} {o : Oper} {b : Bool} (hb : guardA ops σ o = some b) : Region.wanted o (yielded ops a.tmps) = b := by
 unfold guardA at hb
 unfold Region.wanted
 cases hg : o.guard with
 | none => simp only [hg, Option.some.injEq] at hb ⊢; exact hb
 | some jw =>
  obtain ⟨j, want⟩ := jw
  simp only [hg] at hb ⊢
  split at hb
  ·rename_i c hc
   cases hb
   simp only [Option.bind_eq_some_iff] at hc
   obtain ⟨d, hd, hdv⟩ := hc
   have hlt : d < a.tmps.size := h.1 ▸ (List.getElem?_eq_some_iff.1 hdv).1
   have := h.2 d _ a.tmps[d] hdv (by simp [hlt])
   have e := this.bool
   have e2 : yielded ops a.tmps j = some c := by
    obtain ⟨p, hp, hpd⟩ := hd
    unfold yielded
    simp [hp, hpd, hlt, e]
   rw [e2]
   cases c <;> cases want <;> rfl
  ·rename_i n hc
   cases hb
   simp only [Option.bind_eq_some_iff] at hc
   obtain ⟨d, hd, hdv⟩ := hc
   have hlt : d < a.tmps.size := h.1 ▸ (List.getElem?_eq_some_iff.1 hdv).1
   have := h.2 d _ a.tmps[d] hdv (by simp [hlt])
   have e : a.tmps[d] = .tuple #[] := by
    generalize a.tmps[d] = u at this
    cases this with
    | skip => rfl
    | atom _ h => simp [Bm.atom] at h
   have e2 : yielded ops a.tmps j = none := by
    obtain ⟨p, hp, hpd⟩ := hd
    unfold yielded
    simp [hp, hpd, hlt, e]
   rw [e2]
   rfl
  ·cases hb
def Aft (E : Env) (B lo : Nat) (M : Mem) (h : Heap) (w : World) (σ' : Slots) (h' : Heap) (a' : Act) (w' : World) : Prop :=
 a'.defers = [] ∧ ∃ M', SRel M' σ' a'.tmps ∧ HSim E B M' h' w' ∧ Evo lo M h w M' h' w'
theorem Act.put_defers' (a : Act) (d : Option Tmp) (v : Value) : (a.put d v).defers = a.defers := by cases d <;> rfl
theorem ops_sound (hP : GoodP E.P) {C : Callee} (hC : CSound E C) {lo : Nat} {ops : Array Oper} {Q : Exit → Act → World → Prop} {M₀ : Mem} {h₀ : Heap} {w₀ : World}  :
  ∀ (l : List Oper) (k : Nat) (σ σ' : Slots) (h h' : Heap) (M : Mem) (a : Act) (w : World), (∀ j, l[j]? = ops[k + j]?) → k + l.length = ops.size →
   runOps E C lo ops (l.map (·, false)) σ h = some (σ', h') → lo ≤ h.length → SRel M σ a.tmps → a.defers = [] → HSim E B M h w → Evo lo M₀ h₀ w₀ M h w →
   (∀ a' w', Aft E B lo M₀ h₀ w₀ σ' h' a' w' → Q .normal a' w') → wpOps E.P ops Q (List.range' k l.length) a w
 | [], k, σ, σ', h, h', M, a, w, _, _, hr, _, hσ, hd, hs, hev, hQ => by
  simp only [List.map_nil, runOps, Option.some.injEq, Prod.mk.injEq] at hr
  obtain ⟨rfl, rfl⟩ := hr
  exact hQ a w ⟨hd, M, hσ, hs, hev⟩
 | o :: l, k, σ, σ', h, h', M, a, w, hl, hlen, hr, hlo, hσ, hd, hs, hev, hQ => by
  have h0 : ops[k]? = some o := by simpa using (hl 0).symm
  have hl' : ∀ j, l[j]? = ops[k + 1 + j]? := fun j => by have := hl (j + 1); simpa [Nat.add_assoc, Nat.add_comm 1 j] using this
  simp only [List.length_cons, List.range'_succ]
  simp only [List.map_cons, runOps] at hr
  rw [wpOps_cons]
  unfold wpOp
  simp only [h0]
  split at hr
  ·rename_i hg
   rw [guard_rel hσ hg]
   simp only [if_true]
   refine .inl ?_
   simp only [Option.bind_eq_some_iff] at hr
   obtain ⟨⟨v, h1⟩, hop, hr⟩ := hr
   refine aop_sound hP hC hs hlo hop (fun x _ => eval_rel hs.glob hσ x) (evalA_func E σ) fun v' w' ho => ?_
   obtain ⟨M1, q1, q2, q3⟩ := ho.weaken (lo' := lo) (by unfold loOf; split <;> omega)
   exact ops_sound hP hC l (k + 1) _ σ' h1 h' M1 _ w' hl' (by simp at hlen; omega) hr (Nat.le_trans hlo q3.len) ((hσ.mono q3.le).put o.dst q1) (by rw [Act.put_defers']; exact hd) q2 (hev.trans q3) hQ
  ·rename_i hg
   rw [guard_rel hσ hg]
   simp only [Bool.false_eq_true, if_false]
   exact ops_sound hP hC l (k + 1) _ σ' h h' M _ w hl' (by simp at hlen; omega) hr hlo (hσ.put o.dst (.skip _)) (by rw [Act.put_defers']; exact hd) hs hev hQ
  ·cases hr
theorem SRel.set {t : Array Value} (h : SRel M σ t) (d : Nat) {v : Value} (hv : ∀ v', t[d]? = some v' → VRel M v v') : SRel M (σ.set d v) t := by
 refine ⟨by simp [h.1], fun i u u' hu hu' => ?_⟩
 by_cases e : d = i
 ·subst e
  have hd : d < σ.length := by
   have := (List.getElem?_eq_some_iff.1 hu).1; simpa using this
  rw [List.getElem?_set_self hd] at hu
  cases hu; exact hv u' hu'
 ·rw [List.getElem?_set_ne e] at hu
  exact h.2 i u u' hu hu'
theorem SRel.forget {t : Array Value} : ∀ (l : List Nat) {σ : Slots}, SRel M σ t → SRel M (forget l σ) t
 | [], _, h => h
 | d :: l, _, h => SRel.forget l (h.set d fun _ _ => .top _)
theorem SRel.at {t : Array Value} (h : SRel M σ t) {i : Nat} {v' : Value} (hv : t[i]? = some v') : VRel M (σ.getD i undef) v' := by
 have := h.getD i
 rwa [show t.getD i undef = v' by simp [Array.getD_eq_getD_getElem?, hv]] at this
theorem nilRows_get : ∀ (k n j : Nat) (v : Value), (nilRows n k)[j]? = some v → j < k ∧ v = .slice (some ⟨n + j, 0, some 0⟩) 0 0
 | 0, n, j, v, h => by simp [nilRows] at h
 | k + 1, n, 0, v, h => by simp [nilRows] at h; exact ⟨by omega, by rw [← h]; rfl⟩
 | k + 1, n, j + 1, v, h => by
  have h : (nilRows (n + 1) k)[j]? = some v := h
  obtain ⟨h1, h2⟩ := nilRows_get k (n + 1) j v h
  exact ⟨by omega, by rw [h2]; congr 3; omega⟩
theorem nilRows_len : ∀ (k n : Nat), (nilRows n k).length = k
 | 0, _ => rfl
 | k + 1, n => by simp [nilRows, nilRows_len k]
theorem HSim.virts {t : TypeId} {g : Nat} (hg : g ≠ 0) : ∀ (k : Nat) {M : Mem} {h : Heap}, HSim E B M h w →
  ∃ M', HSim E B M' (h ++ List.replicate k (.cells t [] g)) w ∧ (∀ lo, lo ≤ h.length → Evo lo M h w M' (h ++ List.replicate k (.cells t [] g)) w) ∧ ∀ j, j < k → M'.obj (h.length + j) = some ⟨0, 0, 0, g, 0⟩
 | 0, M, h, hs => ⟨M, by simpa using hs, fun lo _ => by simpa using Evo.refl hs lo, fun j hj => absurd hj (Nat.not_lt_zero _)⟩
 | k + 1, M, h, hs => by
  obtain ⟨q1, q2⟩ := hs.virt (t := t) hg
  obtain ⟨M', r1, r2, r3⟩ := HSim.virts hg k q1
  have e : h ++ [AObj.cells t [] g] ++ List.replicate k (.cells t [] g) = h ++ List.replicate (k + 1) (.cells t [] g) := by
   rw [List.append_assoc, List.replicate_succ]; rfl
  rw [e] at r1 r2
  refine ⟨M', r1, fun lo hlo => (q2 lo hlo).trans (r2 lo (by simp; omega)), fun j hj => ?_⟩
  cases j with
  | zero =>
   have := (r2 (h.length + 1) (by simp)).ext h.length (by omega)
   rw [Nat.add_zero, this]
   exact Mem.put_self
  | succ j =>
   have := r3 j (by omega)
   rw [List.length_append, List.length_singleton] at this
   rw [← this]; congr 1; omega
theorem HSim.recell {lo : Nat} (hs : HSim E B M h w) {o g : Nat} {l : Loc} {t : TypeId} {c d : List Value} (hl : M.obj o = some l) (hob : h[o]? = some (.cells t c g)) (hlo : lo ≤ o) (hd : d.length = c.length)
  (hv : ∀ (j : Nat) u v v', c[j]? = some u → d[j]? = some v → VRel M u v' → one v = true ∧ VRel M v v') :
  HSim E B M (h.set o (.cells t d g)) w ∧ Evo lo M h w M (h.set o (.cells t d g)) w := by
 have hlt := hs.lt o l hl
 obtain ⟨hg, hlen, hnr, hre⟩ := hs.obj o l t c g hl hob
 constructor
 ·refine hs.change (.refl M) o (Nat.le_refl _) (by simp) (fun o₂ l₂ ho hl₂ => ⟨hl₂, List.getElem?_set_ne (Ne.symm ho)⟩) (fun _ _ _ _ _ _ => rfl) hs.phi (fun o₂ l₂ _ h2 h3 h4 => hs.sep o₂ l₂ h2 h3 h4) fun l₂ hl₂ => ?_
  rw [hl] at hl₂; cases hl₂
  refine ⟨by simpa using hlt, (hs.dom o l hl).2, fun _ hr => ⟨hs.sep o l hl ⟨_, hob, by simp⟩ hr, fun o₂ l₂ h1 h2 h3 h4 e => h1 (hs.inj o₂ o l₂ l h2 hl h3 ⟨_, hob, by simp⟩ h4 hr e)⟩, fun t' c' g' hob' => ?_, fun es ck hob' => by rw [List.getElem?_set_self hlt] at hob'; cases hob'⟩
  rw [List.getElem?_set_self hlt] at hob'
  cases hob'
  refine ⟨hg, fun h0 => by rw [hlen h0, hd], fun hn => List.eq_nil_of_length_eq_zero (by rw [hd, hnr hn]; rfl), fun hr => ?_⟩
  obtain ⟨cs, ty, r1, r2, r3, r4⟩ := hre hr
  refine ⟨cs, ty, r1, r2, by rw [hd]; exact r3, fun j v hj => ?_⟩
  have hjc : j < c.length := by rw [← hd]; exact (List.getElem?_eq_some_iff.1 hj).1
  obtain ⟨_, v', s2, s3⟩ := r4 j c[j] (List.getElem?_eq_getElem hjc)
  obtain ⟨k1, k2⟩ := hv j c[j] v v' (List.getElem?_eq_getElem hjc) hj s3
  exact ⟨k1, v', s2, k2⟩
 ·refine ⟨rfl, rfl, rfl, Nat.le_refl _, fun _ _ _ => rfl, by simp, fun o₂ ho => List.getElem?_set_ne (by omega), fun o₂ _ ha => (alive_set hob).1 ha, fun o₂ ho => rfl, .refl M, fun o₂ ho hn => hn, fun o₂ l₂ ho hl₂ ha hr₂ => ?_, fun b y v hv => .inl hv⟩
  exact .inr ⟨o₂, l₂, ho, hl₂, (alive_set hob).1 ha, hr₂, rfl⟩
theorem prepare_sound {lo : Nat} {t : Array Value} : ∀ (l : List Dir) (σ σ' : Slots) (h h' : Heap) (M : Mem), prepare E.P lo l σ h = some (σ', h') → lo ≤ h.length → SRel M σ t → HSim E B M h w →
  ∃ M', SRel M' σ' t ∧ HSim E B M' h' w ∧ Evo lo M h w M' h' w
 | [], σ, σ', h, h', M, hr, _, hσ, hs => by
  simp only [prepare, Option.some.injEq, Prod.mk.injEq] at hr
  obtain ⟨rfl, rfl⟩ := hr
  exact ⟨M, hσ, hs, Evo.refl hs lo⟩
 | d :: l, σ, σ', h, h', M, hr, hlo, hσ, hs => by
  simp only [prepare, Option.bind_eq_some_iff] at hr
  obtain ⟨⟨σ1, h1⟩, h2, hr⟩ := hr
  have k1 : ∃ M', SRel M' σ1 t ∧ HSim E B M' h1 w ∧ Evo lo M h w M' h1 w := by
   cases d with
   | top s =>
    simp only [prep1, Option.some.injEq, Prod.mk.injEq] at h2
    obtain ⟨rfl, rfl⟩ := h2
    exact ⟨M, hσ.set s fun _ _ => .top _, hs, Evo.refl hs lo⟩
   | frz s =>
    simp only [prep1, Option.map_eq_some_iff, Prod.mk.injEq] at h2
    obtain ⟨⟨r, hh⟩, hf, rfl, rfl⟩ := h2
    have hv := hσ.getD s
    obtain ⟨M', q1, q2, q3⟩ := freezeV_ok depth h _ r hh hf M w _ hs hv
    refine ⟨M', (hσ.mono q2.le).set s fun v' hv' => ?_, q1, q2⟩
    rw [show t.getD s undef = v' by simp [Array.getD_eq_getD_getElem?, hv']] at q3
    exact q3.toV
   | new s ty =>
    simp only [prep1] at h2
    split at h2
    ·rename_i he
     simp only [Option.bind_eq_some_iff] at h2
     obtain ⟨n, hn, h2⟩ := h2
     split at h2
     ·cases h2
     ·rename_i hn0
      simp only [Option.some.injEq, Prod.mk.injEq] at h2
      obtain ⟨rfl, rfl⟩ := h2
      obtain ⟨q1, q2⟩ := hs.virt (t := ty) hn0
      have q2 := q2 lo hlo
      refine ⟨_, (hσ.mono q2.le).set s fun v' hv' => ?_, q1, q2⟩
      have hv := hσ.at hv'
      rw [he] at hv
      obtain ⟨rfl, _⟩ := hv.sliceNone
      exact .empty _ 0 _ rfl Mem.put_self hn0 (Nat.le_refl _)
    ·rename_i he
     simp only [Option.bind_eq_some_iff] at h2
     obtain ⟨n, hn, h2⟩ := h2
     split at h2
     ·cases h2
     ·rename_i hn0
      simp only [Option.some.injEq, Prod.mk.injEq] at h2
      obtain ⟨rfl, rfl⟩ := h2
      obtain ⟨q1, q2⟩ := hs.virt (t := ty) hn0
      have q2 := q2 lo hlo
      refine ⟨_, (hσ.mono q2.le).set s fun v' hv' => ?_, q1, q2⟩
      have hv := hσ.at hv'
      rw [he] at hv
      rcases hv.treeSome.lstSome (by decide) with ⟨rfl, _⟩ | ⟨a', cap', s', f', rfl, _, hx, _⟩
      ·exact .empty _ 0 _ rfl Mem.put_self hn0 (Nat.le_refl _)
      ·have hx := hx rfl
       simp only [List.length_nil] at hx
       subst hx
       exact .slice _ _ 0 0 0 (Nat.le_refl _) ⟨_, Mem.put_self, hn0, Nat.le_refl _, fun _ => ⟨Nat.le_refl _, .inl rfl⟩⟩
    ·simp only [Option.some.injEq, Prod.mk.injEq] at h2
     obtain ⟨rfl, rfl⟩ := h2
     exact ⟨M, hσ, hs, Evo.refl hs lo⟩
   | still =>
    simp only [prep1, Option.some.injEq, Prod.mk.injEq] at h2
    obtain ⟨rfl, rfl⟩ := h2
    exact ⟨M, hσ, hs, Evo.refl hs lo⟩
   | news s ty =>
    simp only [prep1] at h2
    split at h2
    case h_2 => cases h2
    rename_i a len cap hval
    split at h2
    case h_2 => cases h2
    rename_i tc c g hob
    simp only [Option.bind_eq_some_iff] at h2
    obtain ⟨n, hn, h2⟩ := h2
    split at h2
    case isFalse => cases h2
    rename_i hc
    simp only [Option.some.injEq, Prod.mk.injEq] at h2
    obtain ⟨rfl, rfl⟩ := h2
    have hlt : a.block < h.length := (List.getElem?_eq_some_iff.1 hob).1
    obtain ⟨M1, q1, q2, q3⟩ := HSim.virts (t := ty) hc.1 c.length hs
    have ev := q2 lo hlo
    have hob2 : (h ++ List.replicate c.length (AObj.cells ty [] n))[a.block]? = some (.cells tc c g) := by rw [List.getElem?_append_left hlt]; exact hob
    cases hmo : M1.obj a.block with
    | none =>
     refine ⟨M1, hσ.mono ev.le, ?_, ?_⟩
     ·have e : (h.set a.block (AObj.cells tc (nilRows h.length c.length) g) ++ List.replicate c.length (AObj.cells ty [] n)) = (h ++ List.replicate c.length (AObj.cells ty [] n)).set a.block (AObj.cells tc (nilRows h.length c.length) g) := by
       rw [List.set_append_left _ _ hlt]
      rw [e]
      have al : ∀ o, o ≠ a.block → ((h ++ List.replicate c.length (AObj.cells ty [] n)).set a.block (AObj.cells tc (nilRows h.length c.length) g))[o]? = (h ++ List.replicate c.length (AObj.cells ty [] n))[o]? := fun o ho => List.getElem?_set_ne (Ne.symm ho)
      have ne : ∀ o l, M1.obj o = some l → o ≠ a.block := fun o l hl e => by rw [e, hmo] at hl; cases hl
      have alv : ∀ o l, M1.obj o = some l → alive ((h ++ List.replicate c.length (AObj.cells ty [] n)).set a.block (AObj.cells tc (nilRows h.length c.length) g)) o → alive (h ++ List.replicate c.length (AObj.cells ty [] n)) o := fun o l hl ⟨x, hx, hx'⟩ => ⟨x, by rw [← al o (ne o l hl)]; exact hx, hx'⟩
      exact ⟨q1.glob, q1.phi, fun o l hl ha => q1.sep o l hl (alv o l hl ha), q1.base, fun o l hl => by simpa using q1.dom o l hl, fun o l t c g hl hob => q1.obj o l t c g hl (by rw [← al o (ne o l hl)]; exact hob),
       fun o l es ck hl hob => q1.mp o l es ck hl (by rw [← al o (ne o l hl)]; exact hob), fun o₁ o₂ l₁ l₂ h1 h2 h3 h4 => q1.inj o₁ o₂ l₁ l₂ h1 h2 (alv o₁ l₁ h1 h3) (alv o₂ l₂ h2 h4)⟩
     ·refine ev.trans ⟨rfl, rfl, rfl, Nat.le_refl _, fun _ _ _ => rfl, by simp, fun o ho => ?_, fun o _ ⟨x, hx, hx'⟩ => ?_, fun _ _ => rfl, .refl M1, fun _ _ hn => hn, fun o l ho hl ha hr => ?_, fun b y v hv => .inl hv⟩
      ·rw [← List.set_append_left _ _ hlt]
       exact List.getElem?_set_ne (by omega)
      ·rw [← List.set_append_left _ _ hlt] at hx
       by_cases e : o = a.block
       ·subst e; exact ⟨_, hob2, by simp⟩
       ·rw [List.getElem?_set_ne (Ne.symm e)] at hx; exact ⟨x, hx, hx'⟩
      ·obtain ⟨x, hx, hx'⟩ := ha
       rw [← List.set_append_left _ _ hlt] at hx
       have e : o ≠ a.block := fun e => by rw [e, hmo] at hl; cases hl
       rw [List.getElem?_set_ne (Ne.symm e)] at hx
       exact .inr ⟨o, l, ho, hl, ⟨x, hx, hx'⟩, hr, rfl⟩
    | some l =>
     obtain ⟨r1, r2⟩ := q1.recell (lo := lo) (d := nilRows h.length c.length) hmo hob2 hc.2.1 (nilRows_len _ _) fun j u v v' hu hv hrel => by
      obtain ⟨hj, rfl⟩ := nilRows_get _ _ _ _ hv
      have hnil := List.all_eq_true.1 hc.2.2 u (List.mem_of_getElem? hu)
      have : u = .slice none 0 0 := by
       unfold isNil at hnil
       split at hnil
       ·rfl
       ·cases hnil
      subst this
      obtain ⟨rfl, _⟩ := hrel.sliceNone
      exact ⟨rfl, .empty _ 0 _ rfl (q3 j hj) hc.1 (Nat.le_refl _)⟩
     rw [List.set_append_left _ _ hlt] at r1 r2
     exact ⟨M1, hσ.mono ev.le, r1, ev.trans r2⟩
   | newc s dd ty =>
    simp only [prep1] at h2
    split at h2
    case h_2 => cases h2
    rename_i a hval
    split at h2
    case h_2 => cases h2
    rename_i tc c g hob
    simp only [Option.bind_eq_some_iff] at h2
    obtain ⟨n, hn, h2⟩ := h2
    split at h2
    case isFalse => cases h2
    rename_i hc
    simp only [Option.some.injEq, Prod.mk.injEq] at h2
    obtain ⟨rfl, rfl⟩ := h2
    have hlt : a.block < h.length := (List.getElem?_eq_some_iff.1 hob).1
    obtain ⟨M1, q1, q2, q3⟩ := HSim.virts (t := ty) hc.1 1 hs
    rw [show List.replicate 1 (AObj.cells ty [] n) = [AObj.cells ty [] n] from rfl] at q1 q2
    have ev := q2 lo hlo
    have hob2 : (h ++ [AObj.cells ty [] n])[a.block]? = some (.cells tc c g) := by rw [List.getElem?_append_left hlt]; exact hob
    cases hmo : M1.obj a.block with
    | none =>
     refine ⟨M1, hσ.mono ev.le, ?_, ?_⟩
     ·have e : (h.set a.block (AObj.cells tc (c.set (a.off + dd) (.slice (some ⟨h.length, 0, some 0⟩) 0 0)) g) ++ [AObj.cells ty [] n]) = (h ++ [AObj.cells ty [] n]).set a.block (AObj.cells tc (c.set (a.off + dd) (.slice (some ⟨h.length, 0, some 0⟩) 0 0)) g) := by
       rw [List.set_append_left _ _ hlt]
      rw [e]
      have al : ∀ o, o ≠ a.block → ((h ++ [AObj.cells ty [] n]).set a.block (AObj.cells tc (c.set (a.off + dd) (.slice (some ⟨h.length, 0, some 0⟩) 0 0)) g))[o]? = (h ++ [AObj.cells ty [] n])[o]? := fun o ho => List.getElem?_set_ne (Ne.symm ho)
      have ne : ∀ o l, M1.obj o = some l → o ≠ a.block := fun o l hl e => by rw [e, hmo] at hl; cases hl
      have alv : ∀ o l, M1.obj o = some l → alive ((h ++ [AObj.cells ty [] n]).set a.block (AObj.cells tc (c.set (a.off + dd) (.slice (some ⟨h.length, 0, some 0⟩) 0 0)) g)) o → alive (h ++ [AObj.cells ty [] n]) o := fun o l hl ⟨x, hx, hx'⟩ => ⟨x, by rw [← al o (ne o l hl)]; exact hx, hx'⟩
      exact ⟨q1.glob, q1.phi, fun o l hl ha => q1.sep o l hl (alv o l hl ha), q1.base, fun o l hl => by simpa using q1.dom o l hl, fun o l t c g hl hob => q1.obj o l t c g hl (by rw [← al o (ne o l hl)]; exact hob),
       fun o l es ck hl hob => q1.mp o l es ck hl (by rw [← al o (ne o l hl)]; exact hob), fun o₁ o₂ l₁ l₂ h1 h2 h3 h4 => q1.inj o₁ o₂ l₁ l₂ h1 h2 (alv o₁ l₁ h1 h3) (alv o₂ l₂ h2 h4)⟩
     ·refine ev.trans ⟨rfl, rfl, rfl, Nat.le_refl _, fun _ _ _ => rfl, by simp, fun o ho => ?_, fun o _ ⟨x, hx, hx'⟩ => ?_, fun _ _ => rfl, .refl M1, fun _ _ hn => hn, fun o l ho hl ha hr => ?_, fun b y v hv => .inl hv⟩
      ·rw [← List.set_append_left _ _ hlt]
       exact List.getElem?_set_ne (by omega)
      ·rw [← List.set_append_left _ _ hlt] at hx
       by_cases e : o = a.block
       ·subst e; exact ⟨_, hob2, by simp⟩
       ·rw [List.getElem?_set_ne (Ne.symm e)] at hx; exact ⟨x, hx, hx'⟩
      ·obtain ⟨x, hx, hx'⟩ := ha
       rw [← List.set_append_left _ _ hlt] at hx
       have e : o ≠ a.block := fun e => by rw [e, hmo] at hl; cases hl
       rw [List.getElem?_set_ne (Ne.symm e)] at hx
       exact .inr ⟨o, l, ho, hl, ⟨x, hx, hx'⟩, hr, rfl⟩
    | some l =>
     obtain ⟨r1, r2⟩ := q1.recell (lo := lo) (d := c.set (a.off + dd) (.slice (some ⟨h.length, 0, some 0⟩) 0 0)) hmo hob2 hc.2.1 (List.length_set ..) fun j u v v' hu hv hrel => by
      by_cases hj : a.off + dd = j
      ·subst hj
       have hlt2 : a.off + dd < c.length := (List.getElem?_eq_some_iff.1 hu).1
       rw [List.getElem?_set_self hlt2] at hv
       cases hv
       have hnil := hc.2.2
       rw [hu] at hnil
       have : u = .slice none 0 0 := by
        replace hnil : isNil u = true := hnil
        unfold isNil at hnil
        split at hnil
        ·rfl
        ·cases hnil
       subst this
       obtain ⟨rfl, _⟩ := hrel.sliceNone
       have q3 := q3 0 (by omega)
       rw [Nat.add_zero] at q3
       exact ⟨rfl, .empty _ 0 _ rfl q3 hc.1 (Nat.le_refl _)⟩
      ·rw [List.getElem?_set_ne hj, hu] at hv
       cases hv
       obtain ⟨_, _, _, hre⟩ := q1.obj _ l tc c g hmo hob2
       refine ⟨?_, hrel⟩
       by_cases hr : l.real
       ·obtain ⟨_, _, _, _, _, r4⟩ := hre hr
        exact (r4 j u hu).1
       ·obtain ⟨_, _, hnr, _⟩ := q1.obj _ l tc c g hmo hob2
        have := hnr hr
        subst this
        simp at hu
     rw [List.set_append_left _ _ hlt] at r1 r2
     exact ⟨M1, hσ.mono ev.le, r1, ev.trans r2⟩
  obtain ⟨M1, q1, q2, q3⟩ := k1
  obtain ⟨M2, r1, r2, r3⟩ := prepare_sound l σ1 σ' h1 h' M1 hr (Nat.le_trans hlo q3.len) q1 q2
  exact ⟨M2, r1, r2, q3.trans r3⟩
theorem region_sound {sl : Bool} (hP : GoodP E.P) {C : Callee} (hC : CSound E C) {lo id : Nat} {ops : Array Oper} {Q : Exit → Act → World → Prop} {σ' : Slots} {h' : Heap} {a : Act}
  (hr : runOps E C lo ops (withStrict E sl false ops) σ h = some (σ', h')) (hlo : lo ≤ h.length) (hσ : SRel M σ a.tmps) (hd : a.defers = []) (hs : HSim E B M h w)
  (hQ : ∀ a' w', Aft E B lo M h w σ' h' a' w' → Q .normal a' w') : (Code.region id ops false).wp E.P Q a w := by
 refine wp_region ?_
 rw [List.range_eq_range']
 have := ops_sound (ops := ops) hP hC ops.toList 0 σ σ' h h' M a w (fun j => by rw [Nat.zero_add]; simp) (by rw [Nat.zero_add]; simp) (by simpa [withStrict] using hr) hlo hσ hd hs (Evo.refl hs lo) hQ
 simpa using this
end
end Go.Proofs.YtjkemccfcabhgaaGreat.Bm
