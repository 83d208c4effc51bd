/-
  The compacting of lists of integers of the library, laid at this program's numbers by the kit's shelf. Conditions: none.
-/
import Derived.Test.YtgeebooalafepaaBmSort
import Derived.Test.YtgeebooalafepaaChecked
import Derived.Shelf.Slices.CompactI
namespace Go.Proofs.Ytgeebooalafepaa
open Go Go.RowKit Go.Shelf Go.Sort
def laysNm220_ren : Go.Shelf.Ren := ⟨fun | 20 => 45 | n => n, fun | 22 => 63 | 3 => 3 | 4 => 4 | 0 => 0 | n => n, fun | n => n⟩
theorem laysNm220 : Go.Proofs.Lays2.n20 Try.prog laysNm220_ren := {
  mixed := by kernel_rfl
  f20 := Try.func45.trans (congrArg some (by kernel_rfl))
  t0 := Try.underlying0
  a0 := Try.isAgg0
  z0 := Try.sizeOf0
  v0 := Try.zeroValue0
  t3 := Try.underlying3
  a3 := Try.isAgg3
  z3 := Try.sizeOf3
  v3 := Try.zeroValue3
  t4 := Try.underlying4
  a4 := Try.isAgg4
  z4 := Try.sizeOf4
  v4 := Try.zeroValue4
  t22 := Try.underlying63
  a22 := Try.isAgg63
  z22 := Try.sizeOf63
  v22 := Try.zeroValue63
  i3 := by kernel_rfl }
theorem conComp : Bm.SortCon Try.prog 45 Bm.compF (some Bm.compN) where
  row blk off cap zs w hH hblk hsz hc := (Any.slices_Compact_int laysNm220 blk off cap zs w hH (by omega) hc).mono fun e w' h => by
    rw [Bm.compact_eq] at h
    exact ⟨h.1, h.2.imp fun n k => ⟨#[], by rw [k]; exact (grow_empty _).symm⟩⟩
  none p cap w := Any.slices_Compact_int_empty laysNm220 p cap w
  dfd := ⟨_, Try.func45, rfl⟩
  len := Bm.compF_len
  cut := fun m h zs => by cases h; exact Bm.compG_len zs none

end Go.Proofs.Ytgeebooalafepaa
