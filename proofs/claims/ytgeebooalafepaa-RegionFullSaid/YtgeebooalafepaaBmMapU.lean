/-
  The machine's maps as lists of keys and values. Conditions: keys of plain data; nothing is taken out.
-/
import Derived.Test.YtgeebooalafepaaBmBlk
namespace Go.Proofs.Ytgeebooalafepaa.Bm
open Go Go.RowKit

/-- Plain data that stand for keys. -/
structure KeyEnc (P : Program) (kt : TypeId) {κ : Type} [DecidableEq κ] (enc : κ → Value) : Prop where
  flat : ∀ a, Bm.flat (enc a) = true
  ok : ∀ a, keyOk P 4 kt (enc a) = true
  eq : ∀ a b, aKeyEq P kt (enc a) (enc b) = some (decide (a = b))
  bits : ∀ a, Instr.sameBits 10000 (enc a) (enc a) = true

section
variable {κ : Type} {enc : κ → Value}

def ents (enc : κ → Value) : List (κ × Value) → Nat → List MapEntry
  | [], _ => []
  | p :: l, i => ⟨enc p.1, p.2, i⟩ :: ents enc l (i + 1)
theorem ents_len {l : List (κ × Value)} : ∀ {i : Nat}, (ents enc l i).length = l.length := by
  induction l with
  | nil => intro i; rfl
  | cons p l ih => intro i; simp [ents, ih]
theorem ents_app {a b : List (κ × Value)} : ∀ {i : Nat}, ents enc (a ++ b) i = ents enc a i ++ ents enc b (i + a.length) := by
  induction a with
  | nil => intro i; rfl
  | cons p a ih => intro i; simp [ents, ih]; congr 1; omega
def mapB (enc : κ → Value) (l : List (κ × Value)) : AObj := .map (ents enc l 0) l.length

variable [DecidableEq κ]

def aget : List (κ × Value) → κ → Option Value
  | [], _ => none
  | p :: l, k => if p.1 = k then some p.2 else aget l k
def aset : List (κ × Value) → κ → Value → List (κ × Value)
  | [], k, v => [(k, v)]
  | p :: l, k, v => if p.1 = k then (k, v) :: l else p :: aset l k v
def aidx : List (κ × Value) → κ → Nat
  | [], _ => 0
  | p :: l, k => if p.1 = k then 0 else aidx l k + 1

theorem aget_set {l : List (κ × Value)} {k j : κ} {v : Value} : aget (aset l k v) j = if k = j then some v else aget l j := by
  induction l with
  | nil => simp only [aset, aget]
  | cons p l ih =>
    unfold aset
    by_cases h : p.1 = k
    · rw [if_pos h]
      unfold aget
      by_cases h2 : k = j
      · simp [h2]
      · simp [h2, h]
    · rw [if_neg h]
      unfold aget
      by_cases h2 : p.1 = j
      · have : ¬ k = j := fun e => h (h2.trans e.symm)
        simp [h2, this]
      · simp [h2, ih]
theorem aset_set {l : List (κ × Value)} {k : κ} {u v : Value} : aset (aset l k u) k v = aset l k v := by
  induction l with
  | nil => simp [aset]
  | cons p l ih =>
    unfold aset
    by_cases h : p.1 = k
    · simp [h, aset]
    · simp [h, aset, ih]
theorem aidx_set {l : List (κ × Value)} {k : κ} {u : Value} : aidx (aset l k u) k = aidx l k := by
  induction l with
  | nil => simp [aset, aidx]
  | cons p l ih =>
    unfold aset
    by_cases h : p.1 = k
    · simp [h, aidx]
    · simp [h, aidx, ih]
theorem aidx_lt {l : List (κ × Value)} {k : κ} (h : aget l k ≠ none) : aidx l k < l.length := by
  induction l with
  | nil => simp [aget] at h
  | cons p l ih =>
    unfold aget at h
    unfold aidx
    split
    · simp
    · rename_i hp
      rw [if_neg hp] at h
      have := ih h
      simp; omega
theorem aset_len {l : List (κ × Value)} {k : κ} {v : Value} : (aset l k v).length = if aget l k = none then l.length + 1 else l.length := by
  induction l with
  | nil => simp [aset, aget]
  | cons p l ih =>
    unfold aset aget
    by_cases h : p.1 = k
    · simp [h]
    · simp only [h, if_false, List.length_cons, ih]
      split <;> rfl
theorem aset_new {l : List (κ × Value)} {k : κ} {v : Value} (h : aget l k = none) : aset l k v = l ++ [(k, v)] := by
  induction l with
  | nil => rfl
  | cons p l ih =>
    unfold aget at h
    split at h
    · cases h
    · rename_i hp
      unfold aset
      rw [if_neg hp, ih h]; rfl
theorem aidx_new {l : List (κ × Value)} {k : κ} (h : aget l k = none) : aidx l k = l.length := by
  induction l with
  | nil => rfl
  | cons p l ih =>
    unfold aget at h
    split at h
    · cases h
    · rename_i hp
      unfold aidx
      rw [if_neg hp, ih h]; rfl
theorem aset_old {l : List (κ × Value)} {k : κ} {v : Value} (h : aget l k = some v) : aset l k v = l := by
  induction l with
  | nil => simp [aget] at h
  | cons p l ih =>
    unfold aget at h
    unfold aset
    split
    · rename_i hp
      rw [if_pos hp] at h
      cases h; cases hp; rfl
    · rename_i hp
      rw [if_neg hp] at h
      rw [ih h]

variable {P : Program} {kt : TypeId}

theorem ents_get {l : List (κ × Value)} {k : κ} {v : Value} (h : aget l k = some v) : ∀ {i : Nat}, (ents enc l i)[aidx l k]? = some ⟨enc k, v, i + aidx l k⟩ := by
  induction l with
  | nil => simp [aget] at h
  | cons p l ih =>
    intro i
    unfold aget at h
    unfold aidx ents
    split
    · rename_i hp
      rw [if_pos hp] at h
      cases h; cases hp; rfl
    · rename_i hp
      rw [if_neg hp] at h
      rw [List.getElem?_cons_succ, ih h]
      congr 2; omega
theorem ents_set {l : List (κ × Value)} {k : κ} {v x : Value} (h : aget l k = some v) : ∀ {i : Nat}, (ents enc l i).set (aidx l k) ⟨enc k, x, i + aidx l k⟩ = ents enc (aset l k x) i := by
  induction l with
  | nil => simp [aget] at h
  | cons p l ih =>
    intro i
    unfold aget at h
    unfold aidx aset
    split
    · rfl
    · rename_i hp
      rw [if_neg hp] at h
      have := ih h (i := i + 1)
      unfold ents
      rw [List.set_cons_succ, ← this]
      congr 3; omega
theorem find_ents (K : KeyEnc P kt enc) {l : List (κ × Value)} {k : κ} : ∀ {i j : Nat}, aFind P kt (enc k) (ents enc l i) j = some ((aget l k).map fun v => (j + aidx l k, v)) := by
  induction l with
  | nil => intro i j; rfl
  | cons p l ih =>
    intro i j
    unfold ents aFind aget aidx
    simp only [K.eq, Option.bind_some]
    by_cases h : p.1 = k
    · simp [h]
    · have h' : ¬ k = p.1 := fun e => h e.symm
      simp only [h', decide_false, Bool.false_eq_true, if_false, h, ih]
      congr 2; funext v; simp; omega

variable {h : Heap} {lo r : Nat} {l : List (κ × Value)} {k : κ} {z : Option Value} {ok : Bool}

theorem lookup_none {et : Option MT} {zv : Value} (K : KeyEnc P kt enc) (het : et = some ⟨kt, some zv⟩) (hh : h[r]? = some (mapB enc l)) (hg : aget l k = none) :
    lookupT P et h (.map (some r)) (enc k) ok = some (if ok then .tuple #[zv, .bool false] else zv) := by
  subst het
  unfold lookupT entriesOf
  simp only [Option.bind_some, K.flat, K.ok, Bool.and_self, if_true, hh, mapB]
  simp [find_ents K, hg]
theorem lookup_some {et : Option MT} {v : Value} (K : KeyEnc P kt enc) (het : et = some ⟨kt, z⟩) (hh : h[r]? = some (mapB enc l)) (hg : aget l k = some v) :
    lookupT P et h (.map (some r)) (enc k) ok = some (if ok then .tuple #[v, .bool true] else v) := by
  subst het
  unfold lookupT entriesOf
  simp only [Option.bind_some, K.flat, K.ok, Bool.and_self, if_true, hh, mapB]
  simp [find_ents K, hg]

theorem put_map (K : KeyEnc P kt enc) (hh : h[r]? = some (mapB enc l)) (hlo : lo ≤ r) {x : Value} : mapPutT P (some ⟨kt, z⟩) h lo (.map (some r)) (enc k) x = some (h.set r (mapB enc (aset l k x))) := by
  unfold mapPutT putEntry
  simp only [Option.bind_some, hh, mapB, hlo, K.flat, K.ok, and_self, if_true, find_ents K]
  cases hg : aget l k with
  | none =>
    simp only [Option.map_none, Option.map_some]
    rw [aset_new hg, ents_app]
    simp [ents]
  | some v =>
    have hi := ents_get (enc := enc) hg (i := 0)
    rw [Nat.zero_add] at hi
    have hs := ents_set (enc := enc) (x := x) hg (i := 0)
    rw [Nat.zero_add] at hs
    simp only [Option.map_some, Nat.zero_add, hi, Option.bind_some, K.bits, if_true, hs, aset_len, hg]
    rfl
theorem entry_map (K : KeyEnc P kt enc) (hh : h[r]? = some (mapB enc l)) (hlo : lo ≤ r) {zv : Value} : mapEntryT P (some ⟨kt, some zv⟩) h lo (.map (some r)) (enc k) =
    some (.tuple #[(aget l k).getD zv, .int .i64 (aidx l k)], h.set r (mapB enc (aset l k ((aget l k).getD zv)))) := by
  unfold mapEntryT putEntry
  simp only [Option.bind_some, hh, mapB, hlo, K.flat, K.ok, and_self, if_true, find_ents K]
  cases hg : aget l k with
  | none =>
    simp only [Option.map_none, Option.map_some, Option.getD_none]
    rw [aset_new hg, ents_app, aidx_new hg]
    simp [ents]
  | some v =>
    have hi := ents_get (enc := enc) hg (i := 0)
    rw [Nat.zero_add] at hi
    have hs := ents_set (enc := enc) (x := v) hg (i := 0)
    rw [Nat.zero_add] at hs
    simp only [Option.map_some, Nat.zero_add, hi, Option.bind_some, K.bits, if_true, id, hs, aset_len, hg, Option.getD_some]
    rfl
theorem find_born {l : List (κ × Value)} {k : κ} (hg : aget l k ≠ none) : ∀ {i : Nat}, ((ents enc l i).findIdx? fun e => (e.born : Int) == ((i + aidx l k : Nat) : Int)) = some (aidx l k) := by
  induction l with
  | nil => simp [aget] at hg
  | cons p l ih =>
    intro i
    unfold aget at hg
    unfold aidx ents
    split
    · simp [List.findIdx?_cons]
    · rename_i hp
      rw [if_neg hp] at hg
      have := ih hg (i := i + 1)
      have e : i + (aidx l k + 1) = i + 1 + aidx l k := by omega
      have hne : ((i : Int) == ((i + 1 + aidx l k : Nat) : Int)) = false := by
        simp; omega
      rw [e, List.findIdx?_cons]
      simp only [hne, Bool.false_eq_true, if_false, this, Option.map_some]
theorem store_map {x : Value} (hh : h[r]? = some (mapB enc l)) (hlo : lo ≤ r) (hg : aget l k ≠ none) {n : Int} (hn : n = aidx l k) :
    aEntryStore h lo (.map (some r)) (.int .i64 n) x = some (h.set r (mapB enc (aset l k x))) := by
  subst hn
  unfold aEntryStore
  simp only [hh, mapB, hlo, if_true]
  have hf := find_born (enc := enc) hg (i := 0)
  rw [Nat.zero_add] at hf
  obtain ⟨v, hv⟩ : ∃ v, aget l k = some v := by
    cases h : aget l k with
    | none => exact absurd h hg
    | some v => exact ⟨v, rfl⟩
  have hi := ents_get (enc := enc) hv (i := 0)
  rw [Nat.zero_add] at hi
  have hs := ents_set (enc := enc) (x := x) hv (i := 0)
  rw [Nat.zero_add] at hs
  simp only [hf, Option.bind_some, hi, Option.map_some, hs, aset_len, hv]
  rfl

theorem flat_below {v : Value} (hf : Bm.flat v = true) {n : Nat} : below 8 n v = true := by
  have ha : ∀ (d : Nat) (u : Value), atom u = true → below (d + 1) n u = true := by
    intro d u hu
    cases u with
    | pointer p => cases p with
      | none => rfl
      | some a => simp [atom] at hu
    | slice p a b => cases p with
      | none => rfl
      | some a => simp [atom] at hu
    | map p => cases p with
      | none => rfl
      | some a => simp [atom] at hu
    | agg _ => simp [atom] at hu
    | tuple _ => simp [atom] at hu
    | func f _ _ => simp [atom] at hu
    | iface _ _ => simp [atom] at hu
    | _ => rfl
  cases v with
  | agg cs =>
    obtain ⟨cs⟩ := cs
    have hf : (cs.all atom) = true := by simpa [Bm.flat] using hf
    show cs.all (below 7 n) = true
    rw [List.all_eq_true] at hf ⊢
    exact fun x hx => ha 6 x (hf x hx)
  | _ => exact ha 7 _ hf
theorem belO_map {n : Nat} (K : KeyEnc P kt enc) (hl : ∀ p ∈ l, below 8 n p.2 = true) : belowO n (mapB enc l) = true := by
  unfold mapB belowO depth
  have : ∀ (l : List (κ × Value)) (i : Nat), (∀ p ∈ l, below 8 n p.2 = true) → (ents enc l i).all (fun e => below 8 n e.key && below 8 n e.val) = true := by
    intro l
    induction l with
    | nil => intro i _; rfl
    | cons p l ih =>
      intro i hl
      simp only [ents, List.all_cons, Bool.and_eq_true]
      exact ⟨⟨flat_below (K.flat _), hl p (by simp)⟩, ih _ fun q hq => hl q (by simp [hq])⟩
  exact this l 0 hl

end

theorem rop_makeMap {E : Env} {C : Callee} {lo : Nat} {st : Bool} {ρ : Operand → Value} {h : Heap} : ropR E C lo st (.makeMap none) ρ h = some (.map (some h.length), h ++ [.map [] 0]) := rfl
theorem rop_lookup {E : Env} {C : Callee} {lo : Nat} {st : Bool} {ρ : Operand → Value} {h : Heap} {mt : Option MT} {x k : Operand} {ok : Bool} : ropR E C lo st (.lookup mt x k ok) ρ h = (lookupT E.P mt h (ρ x) (ρ k) ok).map (·, h) := rfl
theorem rop_mapPut {E : Env} {C : Callee} {lo : Nat} {ρ : Operand → Value} {h : Heap} {mt : Option MT} {m k x : Operand} : ropR E C lo false (.mapPut mt m k x) ρ h = (mapPutT E.P mt h lo (ρ m) (ρ k) (ρ x)).map fun h' => (undef, h') := rfl
theorem rop_mapEntry {E : Env} {C : Callee} {lo : Nat} {ρ : Operand → Value} {h : Heap} {mt : Option MT} {m k : Operand} : ropR E C lo false (.mapEntry mt m k) ρ h = mapEntryT E.P mt h lo (ρ m) (ρ k) := rfl
theorem rop_entryStore {E : Env} {C : Callee} {lo : Nat} {ρ : Operand → Value} {h : Heap} {m s x : Operand} : ropR E C lo false (.entryStore m s x) ρ h = (aEntryStore h lo (ρ m) (ρ s) (ρ x)).map fun h' => (undef, h') := rfl
theorem mapB_nil {κ : Type} [DecidableEq κ] (enc : κ → Value) : AObj.map [] 0 = mapB enc [] := rfl
attribute [simp] rop_makeMap rop_lookup rop_mapPut rop_mapEntry rop_entryStore
end Go.Proofs.Ytgeebooalafepaa.Bm
