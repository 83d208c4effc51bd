/-
  Slots in blocks of sixteen: simp reaches each of them in few steps. And the maps of the machine, as lists of keys and values. Conditions: keys of plain data.
-/
import Derived.Test.YtippkkkddhnmhaaBmFor
namespace Go.Proofs.Ytippkkkddhnmhaa.Bm
open Go Go.RowKit

def blk (a0 a1 a2 a3 a4 a5 a6 a7 a8 a9 a10 a11 a12 a13 a14 a15 : Value) (l : Slots) : Slots := a0 :: a1 :: a2 :: a3 :: a4 :: a5 :: a6 :: a7 :: a8 :: a9 :: a10 :: a11 :: a12 :: a13 :: a14 :: a15 :: l

section
variable {a0 a1 a2 a3 a4 a5 a6 a7 a8 a9 a10 a11 a12 a13 a14 a15 v : Value} {l : Slots} {n : Nat}
@[simp] theorem blk_slot (n : Nat) : slot (blk a0 a1 a2 a3 a4 a5 a6 a7 a8 a9 a10 a11 a12 a13 a14 a15 l) (n + 16) = slot l n := rfl
@[simp] theorem blk_set (n : Nat) : setS (blk a0 a1 a2 a3 a4 a5 a6 a7 a8 a9 a10 a11 a12 a13 a14 a15 l) (n + 16) v = blk a0 a1 a2 a3 a4 a5 a6 a7 a8 a9 a10 a11 a12 a13 a14 a15 (setS l n v) := rfl
@[simp] theorem blk_slot0 : slot (blk a0 a1 a2 a3 a4 a5 a6 a7 a8 a9 a10 a11 a12 a13 a14 a15 l) 0 = a0 := rfl
@[simp] theorem blk_set0 : setS (blk a0 a1 a2 a3 a4 a5 a6 a7 a8 a9 a10 a11 a12 a13 a14 a15 l) 0 v = blk v a1 a2 a3 a4 a5 a6 a7 a8 a9 a10 a11 a12 a13 a14 a15 l := rfl
@[simp] theorem blk_slot1 : slot (blk a0 a1 a2 a3 a4 a5 a6 a7 a8 a9 a10 a11 a12 a13 a14 a15 l) 1 = a1 := rfl
@[simp] theorem blk_set1 : setS (blk a0 a1 a2 a3 a4 a5 a6 a7 a8 a9 a10 a11 a12 a13 a14 a15 l) 1 v = blk a0 v a2 a3 a4 a5 a6 a7 a8 a9 a10 a11 a12 a13 a14 a15 l := rfl
@[simp] theorem blk_slot2 : slot (blk a0 a1 a2 a3 a4 a5 a6 a7 a8 a9 a10 a11 a12 a13 a14 a15 l) 2 = a2 := rfl
@[simp] theorem blk_set2 : setS (blk a0 a1 a2 a3 a4 a5 a6 a7 a8 a9 a10 a11 a12 a13 a14 a15 l) 2 v = blk a0 a1 v a3 a4 a5 a6 a7 a8 a9 a10 a11 a12 a13 a14 a15 l := rfl
@[simp] theorem blk_slot3 : slot (blk a0 a1 a2 a3 a4 a5 a6 a7 a8 a9 a10 a11 a12 a13 a14 a15 l) 3 = a3 := rfl
@[simp] theorem blk_set3 : setS (blk a0 a1 a2 a3 a4 a5 a6 a7 a8 a9 a10 a11 a12 a13 a14 a15 l) 3 v = blk a0 a1 a2 v a4 a5 a6 a7 a8 a9 a10 a11 a12 a13 a14 a15 l := rfl
@[simp] theorem blk_slot4 : slot (blk a0 a1 a2 a3 a4 a5 a6 a7 a8 a9 a10 a11 a12 a13 a14 a15 l) 4 = a4 := rfl
@[simp] theorem blk_set4 : setS (blk a0 a1 a2 a3 a4 a5 a6 a7 a8 a9 a10 a11 a12 a13 a14 a15 l) 4 v = blk a0 a1 a2 a3 v a5 a6 a7 a8 a9 a10 a11 a12 a13 a14 a15 l := rfl
@[simp] theorem blk_slot5 : slot (blk a0 a1 a2 a3 a4 a5 a6 a7 a8 a9 a10 a11 a12 a13 a14 a15 l) 5 = a5 := rfl
@[simp] theorem blk_set5 : setS (blk a0 a1 a2 a3 a4 a5 a6 a7 a8 a9 a10 a11 a12 a13 a14 a15 l) 5 v = blk a0 a1 a2 a3 a4 v a6 a7 a8 a9 a10 a11 a12 a13 a14 a15 l := rfl
@[simp] theorem blk_slot6 : slot (blk a0 a1 a2 a3 a4 a5 a6 a7 a8 a9 a10 a11 a12 a13 a14 a15 l) 6 = a6 := rfl
@[simp] theorem blk_set6 : setS (blk a0 a1 a2 a3 a4 a5 a6 a7 a8 a9 a10 a11 a12 a13 a14 a15 l) 6 v = blk a0 a1 a2 a3 a4 a5 v a7 a8 a9 a10 a11 a12 a13 a14 a15 l := rfl
@[simp] theorem blk_slot7 : slot (blk a0 a1 a2 a3 a4 a5 a6 a7 a8 a9 a10 a11 a12 a13 a14 a15 l) 7 = a7 := rfl
@[simp] theorem blk_set7 : setS (blk a0 a1 a2 a3 a4 a5 a6 a7 a8 a9 a10 a11 a12 a13 a14 a15 l) 7 v = blk a0 a1 a2 a3 a4 a5 a6 v a8 a9 a10 a11 a12 a13 a14 a15 l := rfl
@[simp] theorem blk_slot8 : slot (blk a0 a1 a2 a3 a4 a5 a6 a7 a8 a9 a10 a11 a12 a13 a14 a15 l) 8 = a8 := rfl
@[simp] theorem blk_set8 : setS (blk a0 a1 a2 a3 a4 a5 a6 a7 a8 a9 a10 a11 a12 a13 a14 a15 l) 8 v = blk a0 a1 a2 a3 a4 a5 a6 a7 v a9 a10 a11 a12 a13 a14 a15 l := rfl
@[simp] theorem blk_slot9 : slot (blk a0 a1 a2 a3 a4 a5 a6 a7 a8 a9 a10 a11 a12 a13 a14 a15 l) 9 = a9 := rfl
@[simp] theorem blk_set9 : setS (blk a0 a1 a2 a3 a4 a5 a6 a7 a8 a9 a10 a11 a12 a13 a14 a15 l) 9 v = blk a0 a1 a2 a3 a4 a5 a6 a7 a8 v a10 a11 a12 a13 a14 a15 l := rfl
@[simp] theorem blk_slot10 : slot (blk a0 a1 a2 a3 a4 a5 a6 a7 a8 a9 a10 a11 a12 a13 a14 a15 l) 10 = a10 := rfl
@[simp] theorem blk_set10 : setS (blk a0 a1 a2 a3 a4 a5 a6 a7 a8 a9 a10 a11 a12 a13 a14 a15 l) 10 v = blk a0 a1 a2 a3 a4 a5 a6 a7 a8 a9 v a11 a12 a13 a14 a15 l := rfl
@[simp] theorem blk_slot11 : slot (blk a0 a1 a2 a3 a4 a5 a6 a7 a8 a9 a10 a11 a12 a13 a14 a15 l) 11 = a11 := rfl
@[simp] theorem blk_set11 : setS (blk a0 a1 a2 a3 a4 a5 a6 a7 a8 a9 a10 a11 a12 a13 a14 a15 l) 11 v = blk a0 a1 a2 a3 a4 a5 a6 a7 a8 a9 a10 v a12 a13 a14 a15 l := rfl
@[simp] theorem blk_slot12 : slot (blk a0 a1 a2 a3 a4 a5 a6 a7 a8 a9 a10 a11 a12 a13 a14 a15 l) 12 = a12 := rfl
@[simp] theorem blk_set12 : setS (blk a0 a1 a2 a3 a4 a5 a6 a7 a8 a9 a10 a11 a12 a13 a14 a15 l) 12 v = blk a0 a1 a2 a3 a4 a5 a6 a7 a8 a9 a10 a11 v a13 a14 a15 l := rfl
@[simp] theorem blk_slot13 : slot (blk a0 a1 a2 a3 a4 a5 a6 a7 a8 a9 a10 a11 a12 a13 a14 a15 l) 13 = a13 := rfl
@[simp] theorem blk_set13 : setS (blk a0 a1 a2 a3 a4 a5 a6 a7 a8 a9 a10 a11 a12 a13 a14 a15 l) 13 v = blk a0 a1 a2 a3 a4 a5 a6 a7 a8 a9 a10 a11 a12 v a14 a15 l := rfl
@[simp] theorem blk_slot14 : slot (blk a0 a1 a2 a3 a4 a5 a6 a7 a8 a9 a10 a11 a12 a13 a14 a15 l) 14 = a14 := rfl
@[simp] theorem blk_set14 : setS (blk a0 a1 a2 a3 a4 a5 a6 a7 a8 a9 a10 a11 a12 a13 a14 a15 l) 14 v = blk a0 a1 a2 a3 a4 a5 a6 a7 a8 a9 a10 a11 a12 a13 v a15 l := rfl
@[simp] theorem blk_slot15 : slot (blk a0 a1 a2 a3 a4 a5 a6 a7 a8 a9 a10 a11 a12 a13 a14 a15 l) 15 = a15 := rfl
@[simp] theorem blk_set15 : setS (blk a0 a1 a2 a3 a4 a5 a6 a7 a8 a9 a10 a11 a12 a13 a14 a15 l) 15 v = blk a0 a1 a2 a3 a4 a5 a6 a7 a8 a9 a10 a11 a12 a13 a14 v l := rfl
theorem blk_all {p : Value → Bool} : (blk a0 a1 a2 a3 a4 a5 a6 a7 a8 a9 a10 a11 a12 a13 a14 a15 l).all p = (p a0 && p a1 && p a2 && p a3 && p a4 && p a5 && p a6 && p a7 && p a8 && p a9 && p a10 && p a11 && p a12 && p a13 && p a14 && p a15 && l.all p) := by
  unfold blk; simp only [List.all_cons, Bool.and_assoc]
@[simp] theorem blk_below {d : Nat} : (blk a0 a1 a2 a3 a4 a5 a6 a7 a8 a9 a10 a11 a12 a13 a14 a15 l).all (below d n) = (below d n a0 && below d n a1 && below d n a2 && below d n a3 && below d n a4 && below d n a5 && below d n a6 && below d n a7 && below d n a8 && below d n a9 && below d n a10 && below d n a11 && below d n a12 && below d n a13 && below d n a14 && below d n a15 && l.all (below d n)) := blk_all
end

end Go.Proofs.Ytippkkkddhnmhaa.Bm
