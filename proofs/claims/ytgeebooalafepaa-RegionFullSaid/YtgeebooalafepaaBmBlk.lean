/-
  Slots in blocks of sixteen: simp reaches each of them in few steps. And the maps of the machine, as lists of keys and values. Conditions: keys of plain data.
-/
import Derived.Test.YtgeebooalafepaaBmFor
namespace Go.Proofs.Ytgeebooalafepaa.Bm
open Go Go.RowKit

def blk (a0 a1 a2 a3 a4 a5 a6 a7 a8 a9 a10 a11 a12 a13 a14 a15 : Value) (l : Slots) : Slots := a0 :: a1 :: a2 :: a3 :: a4 :: a5 :: a6 :: a7 :: a8 :: a9 :: a10 :: a11 :: a12 :: a13 :: a14 :: a15 :: l

section
variable {a0 a1 a2 a3 a4 a5 a6 a7 a8 a9 a10 a11 a12 a13 a14 a15 v : Value} {l : Slots} {n : Nat}
@[simp] theorem blk_slot (n : Nat) : slot (blk a0 a1 a2 a3 a4 a5 a6 a7 a8 a9 a10 a11 a12 a13 a14 a15 l) (n + 16) = slot l n := rfl
@[simp] theorem blk_set (n : Nat) : setS (blk a0 a1 a2 a3 a4 a5 a6 a7 a8 a9 a10 a11 a12 a13 a14 a15 l) (n + 16) v = blk a0 a1 a2 a3 a4 a5 a6 a7 a8 a9 a10 a11 a12 a13 a14 a15 (setS l n v) := rfl
@[simp] theorem blk_slot0 : slot (blk a0 a1 a2 a3 a4 a5 a6 a7 a8 a9 a10 a11 a12 a13 a14 a15 l) 0 = a0 := rfl
@[simp] theorem blk_set0 : setS (blk a0 a1 a2 a3 a4 a5 a6 a7 a8 a9 a10 a11 a12 a13 a14 a15 l) 0 v = blk v a1 a2 a3 a4 a5 a6 a7 a8 a9 a10 a11 a12 a13 a14 a15 l := rfl
@[simp] theorem blk_slot1 : slot (blk a0 a1 a2 a3 a4 a5 a6 a7 a8 a9 a10 a11 a12 a13 a14 a15 l) 1 = a1 := rfl
@[simp] theorem blk_set1 : setS (blk a0 a1 a2 a3 a4 a5 a6 a7 a8 a9 a10 a11 a12 a13 a14 a15 l) 1 v = blk a0 v a2 a3 a4 a5 a6 a7 a8 a9 a10 a11 a12 a13 a14 a15 l := rfl
@[simp] theorem blk_slot2 : slot (blk a0 a1 a2 a3 a4 a5 a6 a7 a8 a9 a10 a11 a12 a13 a14 a15 l) 2 = a2 := rfl
@[simp] theorem blk_set2 : setS (blk a0 a1 a2 a3 a4 a5 a6 a7 a8 a9 a10 a11 a12 a13 a14 a15 l) 2 v = blk a0 a1 v a3 a4 a5 a6 a7 a8 a9 a10 a11 a12 a13 a14 a15 l := rfl
@[simp] theorem blk_slot3 : slot (blk a0 a1 a2 a3 a4 a5 a6 a7 a8 a9 a10 a11 a12 a13 a14 a15 l) 3 = a3 := rfl
@[simp] theorem blk_set3 : setS (blk a0 a1 a2 a3 a4 a5 a6 a7 a8 a9 a10 a11 a12 a13 a14 a15 l) 3 v = blk a0 a1 a2 v a4 a5 a6 a7 a8 a9 a10 a11 a12 a13 a14 a15 l := rfl
@[simp] theorem blk_slot4 : slot (blk a0 a1 a2 a3 a4 a5 a6 a7 a8 a9 a10 a11 a12 a13 a14 a15 l) 4 = a4 := rfl
@[simp] theorem blk_set4 : setS (blk a0 a1 a2 a3 a4 a5 a6 a7 a8 a9 a10 a11 a12 a13 a14 a15 l) 4 v = blk a0 a1 a2 a3 v a5 a6 a7 a8 a9 a10 a11 a12 a13 a14 a15 l := rfl
@[simp] theorem blk_slot5 : slot (blk a0 a1 a2 a3 a4 a5 a6 a7 a8 a9 a10 a11 a12 a13 a14 a15 l) 5 = a5 := rfl
@[simp] theorem blk_set5 : setS (blk a0 a1 a2 a3 a4 a5 a6 a7 a8 a9 a10 a11 a12 a13 a14 a15 l) 5 v = blk a0 a1 a2 a3 a4 v a6 a7 a8 a9 a10 a11 a12 a13 a14 a15 l := rfl
@[simp] theorem blk_slot6 : slot (blk a0 a1 a2 a3 a4 a5 a6 a7 a8 a9 a10 a11 a12 a13 a14 a15 l) 6 = a6 := rfl
@[simp] theorem blk_set6 : setS (blk a0 a1 a2 a3 a4 a5 a6 a7 a8 a9 a10 a11 a12 a13 a14 a15 l) 6 v = blk a0 a1 a2 a3 a4 a5 v a7 a8 a9 a10 a11 a12 a13 a14 a15 l := rfl
@[simp] theorem blk_slot7 : slot (blk a0 a1 a2 a3 a4 a5 a6 a7 a8 a9 a10 a11 a12 a13 a14 a15 l) 7 = a7 := rfl
@[simp] theorem blk_set7 : setS (blk a0 a1 a2 a3 a4 a5 a6 a7 a8 a9 a10 a11 a12 a13 a14 a15 l) 7 v = blk a0 a1 a2 a3 a4 a5 a6 v a8 a9 a10 a11 a12 a13 a14 a15 l := rfl
@[simp] theorem blk_slot8 : slot (blk a0 a1 a2 a3 a4 a5 a6 a7 a8 a9 a10 a11 a12 a13 a14 a15 l) 8 = a8 := rfl
@[simp] theorem blk_set8 : setS (blk a0 a1 a2 a3 a4 a5 a6 a7 a8 a9 a10 a11 a12 a13 a14 a15 l) 8 v = blk a0 a1 a2 a3 a4 a5 a6 a7 v a9 a10 a11 a12 a13 a14 a15 l := rfl
@[simp] theorem blk_slot9 : slot (blk a0 a1 a2 a3 a4 a5 a6 a7 a8 a9 a10 a11 a12 a13 a14 a15 l) 9 = a9 := rfl
@[simp] theorem blk_set9 : setS (blk a0 a1 a2 a3 a4 a5 a6 a7 a8 a9 a10 a11 a12 a13 a14 a15 l) 9 v = blk a0 a1 a2 a3 a4 a5 a6 a7 a8 v a10 a11 a12 a13 a14 a15 l := rfl
@[simp] theorem blk_slot10 : slot (blk a0 a1 a2 a3 a4 a5 a6 a7 a8 a9 a10 a11 a12 a13 a14 a15 l) 10 = a10 := rfl
@[simp] theorem blk_set10 : setS (blk a0 a1 a2 a3 a4 a5 a6 a7 a8 a9 a10 a11 a12 a13 a14 a15 l) 10 v = blk a0 a1 a2 a3 a4 a5 a6 a7 a8 a9 v a11 a12 a13 a14 a15 l := rfl
@[simp] theorem blk_slot11 : slot (blk a0 a1 a2 a3 a4 a5 a6 a7 a8 a9 a10 a11 a12 a13 a14 a15 l) 11 = a11 := rfl
@[simp] theorem blk_set11 : setS (blk a0 a1 a2 a3 a4 a5 a6 a7 a8 a9 a10 a11 a12 a13 a14 a15 l) 11 v = blk a0 a1 a2 a3 a4 a5 a6 a7 a8 a9 a10 v a12 a13 a14 a15 l := rfl
@[simp] theorem blk_slot12 : slot (blk a0 a1 a2 a3 a4 a5 a6 a7 a8 a9 a10 a11 a12 a13 a14 a15 l) 12 = a12 := rfl
@[simp] theorem blk_set12 : setS (blk a0 a1 a2 a3 a4 a5 a6 a7 a8 a9 a10 a11 a12 a13 a14 a15 l) 12 v = blk a0 a1 a2 a3 a4 a5 a6 a7 a8 a9 a10 a11 v a13 a14 a15 l := rfl
@[simp] theorem blk_slot13 : slot (blk a0 a1 a2 a3 a4 a5 a6 a7 a8 a9 a10 a11 a12 a13 a14 a15 l) 13 = a13 := rfl
@[simp] theorem blk_set13 : setS (blk a0 a1 a2 a3 a4 a5 a6 a7 a8 a9 a10 a11 a12 a13 a14 a15 l) 13 v = blk a0 a1 a2 a3 a4 a5 a6 a7 a8 a9 a10 a11 a12 v a14 a15 l := rfl
@[simp] theorem blk_slot14 : slot (blk a0 a1 a2 a3 a4 a5 a6 a7 a8 a9 a10 a11 a12 a13 a14 a15 l) 14 = a14 := rfl
@[simp] theorem blk_set14 : setS (blk a0 a1 a2 a3 a4 a5 a6 a7 a8 a9 a10 a11 a12 a13 a14 a15 l) 14 v = blk a0 a1 a2 a3 a4 a5 a6 a7 a8 a9 a10 a11 a12 a13 v a15 l := rfl
@[simp] theorem blk_slot15 : slot (blk a0 a1 a2 a3 a4 a5 a6 a7 a8 a9 a10 a11 a12 a13 a14 a15 l) 15 = a15 := rfl
@[simp] theorem blk_set15 : setS (blk a0 a1 a2 a3 a4 a5 a6 a7 a8 a9 a10 a11 a12 a13 a14 a15 l) 15 v = blk a0 a1 a2 a3 a4 a5 a6 a7 a8 a9 a10 a11 a12 a13 a14 v l := rfl
theorem blk_all {p : Value → Bool} : (blk a0 a1 a2 a3 a4 a5 a6 a7 a8 a9 a10 a11 a12 a13 a14 a15 l).all p = (p a0 && p a1 && p a2 && p a3 && p a4 && p a5 && p a6 && p a7 && p a8 && p a9 && p a10 && p a11 && p a12 && p a13 && p a14 && p a15 && l.all p) := by
  unfold blk; simp only [List.all_cons, Bool.and_assoc]
@[simp] theorem blk_below {d : Nat} : (blk a0 a1 a2 a3 a4 a5 a6 a7 a8 a9 a10 a11 a12 a13 a14 a15 l).all (below d n) = (below d n a0 && below d n a1 && below d n a2 && below d n a3 && below d n a4 && below d n a5 && below d n a6 && below d n a7 && below d n a8 && below d n a9 && below d n a10 && below d n a11 && below d n a12 && below d n a13 && below d n a14 && below d n a15 && l.all (below d n)) := blk_all
end

/-! ### Ahead of a region -/
section
variable {P : Program} {lo s : Nat} {σ : Slots} {h : Heap} {t : TypeId}
def newK (P : Program) (h : Heap) (σ : Slots) (s : Nat) (t : TypeId) (v : Value) : Option (Slots × Heap) := match v with
    | .slice none 0 0 => (szOf P t).bind fun n => if n = 0 then none else some (setS σ s (.slice (some ⟨h.length, 0, some 0⟩) 0 0), h ++ [.cells t [] n])
    | .func (.yield 1) ⟨[]⟩ ⟨[]⟩ => (szOf P t).bind fun n => if n = 0 then none else some (setS σ s (.slice (some ⟨h.length, 0, some 0⟩) 0 0), h ++ [.cells t [] n])
    | _ => some (σ, h)
theorem prep_new : prep1 P lo σ h (.new s t) = newK P h σ s t (slot σ s) := by
  unfold prep1 newK
  simp only [slot_eq, setS_eq]
  rfl
theorem newK_nil {n : Nat} (hs : szOf P t = some (n + 1)) : newK P h σ s t (.slice none 0 0) = some (setS σ s (.slice (some ⟨h.length, 0, some 0⟩) 0 0), h ++ [.cells t [] (n + 1)]) := by
  unfold newK; simp [hs]
theorem prep_frz : prep1 P lo σ h (.frz s) = (freezeV P depth lo h (slot σ s)).map fun r => (setS σ s r.1, r.2) := by
  unfold prep1
  simp only [slot_eq, setS_eq]
theorem prep_top : prep1 P lo σ h (.top s) = some (setS σ s undef, h) := by
  unfold prep1
  simp only [setS_eq]
def newsK (P : Program) (lo : Nat) (h : Heap) (σ : Slots) (t : TypeId) (v : Value) : Option (Slots × Heap) := match v with
    | .slice (some a) _ _ => match h[a.block]? with
      | some (.cells ty c g) => (szOf P t).bind fun n => if n ≠ 0 ∧ lo ≤ a.block ∧ c.all isNil = true then
          some (σ, h.set a.block (.cells ty (nilRows h.length c.length) g) ++ List.replicate c.length (.cells t [] n)) else none
      | _ => none
    | _ => none
theorem prep_news : prep1 P lo σ h (.news s t) = newsK P lo h σ t (slot σ s) := by
  unfold prep1 newsK
  simp only [slot_eq]
  rfl
theorem newsK_row {b n m g len cap : Nat} {ty : TypeId} {sp : Option Nat} {off : Nat} (hob : h[b]? = some (.cells ty (List.replicate m (.slice none 0 0)) g)) (hs : szOf P t = some (n + 1)) (hlo : lo ≤ b) :
    newsK P lo h σ t (.slice (some ⟨b, off, sp⟩) len cap) = some (σ, h.set b (.cells ty (nilRows h.length m) g) ++ List.replicate m (.cells t [] (n + 1))) := by
  unfold newsK
  simp only [hob, hs, Option.bind_some, List.length_replicate]
  rw [if_pos ⟨by omega, hlo, by simp [isNil]⟩]
end

/-! ### Rows that are made -/
section
variable {h : Heap} {n : Nat}
theorem zeros_one1 {z : Value} (hz : z.cells = #[z]) (n : Nat) : (zeros z n).toList = List.replicate n z := by
  unfold zeros
  simp only [hz]
  apply List.ext_getElem?
  intro i
  simp [List.getElem?_replicate]
  by_cases h : i < n
  · simp [h, Nat.mod_one]
  · simp [h]
theorem make_one {el : El} {k k' : IntKind} (hs : el.size = 1) (hz : el.z.cells = #[el.z]) (hn : n ≤ 1000000) (hb : el.bytes ≤ 1000) :
    makeSliceT (some el) h (.int k (n : Int)) (.int k' (n : Int)) = some (.slice (some ⟨h.length, 0, none⟩) n n, h ++ [.cells el.e (List.replicate n el.z) 0]) := by
  have hm : el.bytes * n ≤ 140737488355328 := Nat.le_trans (Nat.mul_le_mul hb hn) (by omega)
  unfold makeSliceT
  simp only [Option.bind_some]
  rw [if_pos ⟨by omega, by omega, by omega, by omega, by rw [hz]; simp⟩]
  simp only [Int.toNat_natCast, hs, Nat.mul_one, zeros_one1 hz]
theorem splice_ints {L : List Int} {k : Nat} {v : Int} {kk : IntKind} (hk : k < L.length) : splice (L.map (.int kk)) k [.int kk v] = (L.set k v).map (.int kk) := by
  rw [splice_one (by simpa using hk), List.map_set]
end

end Go.Proofs.Ytgeebooalafepaa.Bm
