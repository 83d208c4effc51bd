/-
 Rows of records of 'k' cells: in the heap and as trees. Conditions: none.
-/
import Derived.Test.YtgefjhjmkejjbaaDoorQB16
import Derived.Test.YtgefjhjmkejjbaaDoorChecked
import Derived.Shelf.Sort.Plain
import Derived.Shelf.Slices.In.SortNone
import Derived.Test.YtgefjhjmkejjbaaDoorQB15
namespace Go.Proofs.YtgefjhjmkejjbaaDoor
open Go Go.RowKit Go.Shelf Go.Sort
def lays190_ren : Go.Shelf.Ren := ⟨fun | 190 => 40 | 125 => 60 | 258 => 59 | 128 => 83 | 129 => 84 | 302 => 74 | 303 => 75 | 304 => 76 | 305 => 77 | 306 => 78 | 307 => 79 | 308 => 80 | 309 => 81 | 310 => 82 | 333 => 87 | 329 => 88 | 330 => 89 | 334 => 90 | 335 => 91 | 336 => 92 | 344 => 93 | n => n, fun | 31 => 23 | 9 => 9 | 3 => 3 | 46 => 58 | 0 => 0 | 51 => 89 | 53 => 91 | 4 => 4 | 183 => 97 | 182 => 96 | 131 => 69 | 5 => 5 | 218 => 106 | 222 => 110 | 228 => 112 | 229 => 113 | n => n, fun | n => n⟩
theorem lays190 : Go.Proofs.Lays.n190 Tryd.prog lays190_ren := {
 mixed := by kernel_rfl
 f125 := Tryd.func60.trans (congrArg some (by kernel_rfl))
 f128 := Tryd.func83.trans (congrArg some (by kernel_rfl))
 f129 := Tryd.func84.trans (congrArg some (by kernel_rfl))
 f190 := Tryd.func40.trans (congrArg some (by kernel_rfl))
 f258 := Tryd.func59.trans (congrArg some (by kernel_rfl))
 f302 := Tryd.func74.trans (congrArg some (by kernel_rfl))
 f303 := Tryd.func75.trans (congrArg some (by kernel_rfl))
 f304 := Tryd.func76.trans (congrArg some (by kernel_rfl))
 f305 := Tryd.func77.trans (congrArg some (by kernel_rfl))
 f306 := Tryd.func78.trans (congrArg some (by kernel_rfl))
 f307 := Tryd.func79.trans (congrArg some (by kernel_rfl))
 f308 := Tryd.func80.trans (congrArg some (by kernel_rfl))
 f309 := Tryd.func81.trans (congrArg some (by kernel_rfl))
 f310 := Tryd.func82.trans (congrArg some (by kernel_rfl))
 f329 := Tryd.func88.trans (congrArg some (by kernel_rfl))
 f330 := Tryd.func89.trans (congrArg some (by kernel_rfl))
 f333 := Tryd.func87.trans (congrArg some (by kernel_rfl))
 f334 := Tryd.func90.trans (congrArg some (by kernel_rfl))
 f335 := Tryd.func91.trans (congrArg some (by kernel_rfl))
 f336 := Tryd.func92.trans (congrArg some (by kernel_rfl))
 f344 := Tryd.func93.trans (congrArg some (by kernel_rfl))
 t0 := Tryd.underlying0
 a0 := Tryd.isAgg0
 z0 := Tryd.sizeOf0
 v0 := Tryd.zeroValue0
 t3 := Tryd.underlying3
 a3 := Tryd.isAgg3
 z3 := Tryd.sizeOf3
 v3 := Tryd.zeroValue3
 t4 := Tryd.underlying4
 a4 := Tryd.isAgg4
 z4 := Tryd.sizeOf4
 v4 := Tryd.zeroValue4
 t5 := Tryd.underlying5
 a5 := Tryd.isAgg5
 z5 := Tryd.sizeOf5
 v5 := Tryd.zeroValue5
 t9 := Tryd.underlying9
 a9 := Tryd.isAgg9
 z9 := Tryd.sizeOf9
 v9 := Tryd.zeroValue9
 t31 := Tryd.underlying23
 a31 := Tryd.isAgg23
 z31 := Tryd.sizeOf23
 v31 := Tryd.zeroValue23
 t46 := Tryd.underlying58
 a46 := Tryd.isAgg58
 z46 := Tryd.sizeOf58
 v46 := Tryd.zeroValue58
 t51 := Tryd.underlying89
 a51 := Tryd.isAgg89
 z51 := Tryd.sizeOf89
 v51 := Tryd.zeroValue89
 t53 := Tryd.underlying91
 a53 := Tryd.isAgg91
 z53 := Tryd.sizeOf91
 v53 := Tryd.zeroValue91
 t131 := Tryd.underlying69
 a131 := Tryd.isAgg69
 z131 := Tryd.sizeOf69
 v131 := Tryd.zeroValue69
 t182 := Tryd.underlying96
 a182 := Tryd.isAgg96
 z182 := Tryd.sizeOf96
 v182 := Tryd.zeroValue96
 t183 := Tryd.underlying97
 a183 := Tryd.isAgg97
 z183 := Tryd.sizeOf97
 v183 := Tryd.zeroValue97
 t218 := Tryd.underlying106
 a218 := Tryd.isAgg106
 z218 := Tryd.sizeOf106
 v218 := Tryd.zeroValue106
 t222 := Tryd.underlying110
 a222 := Tryd.isAgg110
 z222 := Tryd.sizeOf110
 v222 := Tryd.zeroValue110
 t228 := Tryd.underlying112
 a228 := Tryd.isAgg112
 z228 := Tryd.sizeOf112
 v228 := Tryd.zeroValue112
 t229 := Tryd.underlying113
 a229 := Tryd.isAgg113
 z229 := Tryd.sizeOf113
 v229 := Tryd.zeroValue113 }
theorem putRow_str (w : World) (blk off : Nat) (ls : List (List UInt8)) : putRow encStr w blk off ls.toArray = putRow Value.string w blk off (ls.map fun l => (⟨⟨l⟩⟩ : ByteArray)).toArray := by
 unfold putRow
 congr 1
 funext c
 unfold putCells
 congr 1
 funext k x
 by_cases h : off ≤ k ∧ k < off + ls.toArray.size
 ·have h2 : off ≤ k ∧ k < off + (ls.map fun l => (⟨⟨l⟩⟩ : ByteArray)).toArray.size := by simpa using h
  rw [if_pos h, if_pos h2, getElem!_pos _ (k - off) (by omega), getElem!_pos _ (k - off) (by omega)]
  simp [encStr]
 ·have h2 : ¬ (off ≤ k ∧ k < off + (ls.map fun l => (⟨⟨l⟩⟩ : ByteArray)).toArray.size) := by simpa using h
  rw [if_neg h, if_neg h2]
theorem holds_str {w : World} {blk off : Nat} {zs : List ByteArray} (hH : Holds Value.string w blk off zs.toArray) : Holds encStr w blk off (zs.map fun b => b.data.toList).toArray := by
 intro j hj
 have hj' : j < zs.toArray.size := by simpa using hj
 have h1 := hH j hj'
 rw [getElem!_pos _ j hj'] at h1
 rw [getElem!_pos _ j hj]
 simpa [encStr] using h1
theorem conSortS : Bm.SortConS Tryd.prog 40 Co.sortB none where
 row blk off cap zs w hH hblk hsz _ := by
  have h := Any.slices_Sort_string lays190 blk off cap (zs.map fun b => b.data.toList) w (holds_str hH) hblk (by simpa using hsz)
  rw [List.length_map] at h
  refine h.mono fun e w' hq => ?_
  obtain ⟨h1, n, os, h2⟩ := hq
  exact ⟨h1, n, os, by rw [h2, putRow_str]; rfl⟩
 none p cap w := Any.slices_Sort_string_none lays190 p cap w
 dfd := ⟨_, Tryd.func40, rfl⟩
 len := Co.sortB_len
 cut := fun _ h => by cases h
end Go.Proofs.YtgefjhjmkejjbaaDoor
namespace Go.Proofs.YtgefjhjmkejjbaaDoor.Bm
open Go Go.RowKit
variable {h : Heap} {P : Program}
def cAt (b j : Nat) : Value := .pointer (some ⟨b, j, none⟩)
theorem obj_row {b : Nat} {t : TypeId} {c : List Value} (hob : h[b]? = some (.cells t c 0)) {j : Nat} : rowOf h ⟨b, j, none⟩ = some c := by
 unfold rowOf
 show (match h[b]? with | some (.cells _ c g) => _ | _ => none) = _
 rw [hob]; rfl
theorem obj_load {b j : Nat} {t : TypeId} {c : List Value} {v : Value} {sz : Option Nat} (hob : h[b]? = some (.cells t c 0)) (hc : c[j]? = some v) : loadT ⟨some false, sz⟩ h (cAt b j) = some v := by
 unfold cAt
 rw [load_one, obj_row hob, Option.bind_some, hc]
theorem obj_store {b j lo : Nat} {t : TypeId} {c : List Value} {v : Value} (hob : h[b]? = some (.cells t c 0)) (hj : j < c.length) (hlo : lo ≤ b) (hv : cellsOf v = some [v]) : storeT (some 1) h lo v (cAt b j) = some (h.set b (.cells t (c.set j v) 0)) := by
 unfold cAt
 rw [store_ptr, hv, Option.bind_some, if_pos (show 1 = [v].length from rfl)]
 unfold wrN
 show (match h[b]? with | some (.cells t c g) => _ | _ => none) = _
 rw [hob]
 show (if _ then _ else none) = _
 rw [if_pos ⟨hlo, rfl, by simp, by simp; omega⟩]
 show some (h.set b (.cells t (splice c j [v]) 0)) = _
 rw [splice_one hj]
theorem obj_all {b n : Nat} {t : TypeId} {c : List Value} (hob : h[b]? = some (.cells t c 0)) (hn : c.length = n) : loadT ⟨some true, some n⟩ h (cAt b 0) = some (.agg ⟨c⟩) := by
 unfold cAt
 rw [load_agg, obj_row hob, Option.bind_some]
 show (if 0 + n ≤ c.length then some (Value.agg ((c.drop 0).take n).toArray) else none) = _
 rw [if_pos (by omega), List.drop_zero, List.take_of_length_le (by omega)]
theorem obj_put {b n lo : Nat} {t : TypeId} {c d : List Value} (hob : h[b]? = some (.cells t c 0)) (hn : c.length = n) (hd : d.length = n) (h0 : 0 < n) (hlo : lo ≤ b) : storeT (some n) h lo (.agg ⟨d⟩) (cAt b 0) = some (h.set b (.cells t d 0)) := by
 unfold cAt
 rw [store_ptr, cellsOf_agg, Option.bind_some, if_pos hd.symm]
 unfold wrN
 show (match h[b]? with | some (.cells t c g) => _ | _ => none) = _
 rw [hob]
 show (if _ then _ else none) = _
 rw [if_pos ⟨hlo, rfl, by show 0 < d.length; omega, by show 0 + d.length ≤ c.length; omega⟩]
 show some (h.set b (.cells t (splice c 0 d) 0)) = _
 unfold splice
 rw [List.take_zero, List.nil_append, List.drop_of_length_le (by omega), List.append_nil]
end Go.Proofs.YtgefjhjmkejjbaaDoor.Bm
namespace Go.Proofs.YtgefjhjmkejjbaaDoor.Bm
open Go Go.RowKit
theorem LL_for {k : List Nat × List Nat} {b : Body} {σ₀ : Slots} {h₀ : Heap} {β γ : Type} (l : List β) (c₀ : γ) (up : Nat → γ → List (Nat × Value)) (H : Nat → γ → Heap)
  (R : Nat → List β → γ → Exit × List (Nat × Value) × Heap) (I : Nat → γ → Prop) (hb : l.length ≤ 9223372036854775807)
  (hI : I 0 c₀) (e0 : sets (up 0 c₀) (forget k.1 σ₀) = forget k.1 σ₀) (e1 : H 0 c₀ = h₀)
  (stop : ∀ (nx : Body) i c, i = l.length → I i c → lopK k.1 k.2 nx (H i c).length (b (forget k.1 (sets (up i c) (forget k.1 σ₀))) (H i c)) = fin (forget k.1 σ₀) (R i [] c))
  (step : ∀ (nx : Body) i v rest c (hi : i < l.length), l[i] = v → l.drop i = v :: rest → IntKind.i64.wrap ((i : Int) + 1) = (i : Int) + 1 → I i c →
   (∀ c', I (i + 1) c' → nx (sets (up (i + 1) c') (forget k.1 σ₀)) (H (i + 1) c') = fin (forget k.1 σ₀) (R (i + 1) rest c')) →
   lopK k.1 k.2 nx (H i c).length (b (forget k.1 (sets (up i c) (forget k.1 σ₀))) (H i c)) = fin (forget k.1 σ₀) (R i (v :: rest) c)) :
  LL k b σ₀ h₀ = fin (forget k.1 σ₀) (R 0 l c₀) := by
 have key := LL_rec (k := k) (b := b) (σ₀ := σ₀) (h₀ := h₀) (α := Nat × γ) (0, c₀) (fun a => up a.1 a.2) (fun a => H a.1 a.2) (fun a => R a.1 (l.drop a.1) a.2) (fun a => a.1 ≤ l.length ∧ I a.1 a.2) (fun a => l.length - a.1)
  ⟨Nat.zero_le _, hI⟩ e0 e1 fun nx a ⟨h1, h2⟩ ih => ?_
 ·simpa using key
 ·obtain ⟨i, c⟩ := a
  simp only at h1 h2 ih ⊢
  by_cases hi : i < l.length
  ·have hd : l.drop i = l[i] :: l.drop (i + 1) := List.drop_eq_getElem_cons hi
   rw [hd]
   refine step nx i l[i] (l.drop (i + 1)) c hi rfl hd (wrap64 (by omega) (by omega)) h2 fun c' hc' => ?_
   exact ih (i + 1, c') (by simp; omega) ⟨hi, hc'⟩
  ·have : i = l.length := by omega
   rw [List.drop_eq_nil_of_le (by omega)]
   exact stop nx i c this h2
end Go.Proofs.YtgefjhjmkejjbaaDoor.Bm
namespace Go.Proofs.YtgefjhjmkejjbaaDoor.Bm
open Go Go.RowKit
def blk (a0 a1 a2 a3 a4 a5 a6 a7 a8 a9 a10 a11 a12 a13 a14 a15 : Value) (l : Slots) : Slots := a0 :: a1 :: a2 :: a3 :: a4 :: a5 :: a6 :: a7 :: a8 :: a9 :: a10 :: a11 :: a12 :: a13 :: a14 :: a15 :: l
section
variable {a0 a1 a2 a3 a4 a5 a6 a7 a8 a9 a10 a11 a12 a13 a14 a15 v : Value} {l : Slots} {n : Nat}
@[simp] theorem blk_slot (n : Nat) : slot (blk a0 a1 a2 a3 a4 a5 a6 a7 a8 a9 a10 a11 a12 a13 a14 a15 l) (n + 16) = slot l n := rfl
@[simp] theorem blk_set (n : Nat) : setS (blk a0 a1 a2 a3 a4 a5 a6 a7 a8 a9 a10 a11 a12 a13 a14 a15 l) (n + 16) v = blk a0 a1 a2 a3 a4 a5 a6 a7 a8 a9 a10 a11 a12 a13 a14 a15 (setS l n v) := rfl
@[simp] theorem blk_slot0 : slot (blk a0 a1 a2 a3 a4 a5 a6 a7 a8 a9 a10 a11 a12 a13 a14 a15 l) 0 = a0 := rfl
@[simp] theorem blk_set0 : setS (blk a0 a1 a2 a3 a4 a5 a6 a7 a8 a9 a10 a11 a12 a13 a14 a15 l) 0 v = blk v a1 a2 a3 a4 a5 a6 a7 a8 a9 a10 a11 a12 a13 a14 a15 l := rfl
@[simp] theorem blk_slot1 : slot (blk a0 a1 a2 a3 a4 a5 a6 a7 a8 a9 a10 a11 a12 a13 a14 a15 l) 1 = a1 := rfl
@[simp] theorem blk_set1 : setS (blk a0 a1 a2 a3 a4 a5 a6 a7 a8 a9 a10 a11 a12 a13 a14 a15 l) 1 v = blk a0 v a2 a3 a4 a5 a6 a7 a8 a9 a10 a11 a12 a13 a14 a15 l := rfl
@[simp] theorem blk_slot2 : slot (blk a0 a1 a2 a3 a4 a5 a6 a7 a8 a9 a10 a11 a12 a13 a14 a15 l) 2 = a2 := rfl
@[simp] theorem blk_set2 : setS (blk a0 a1 a2 a3 a4 a5 a6 a7 a8 a9 a10 a11 a12 a13 a14 a15 l) 2 v = blk a0 a1 v a3 a4 a5 a6 a7 a8 a9 a10 a11 a12 a13 a14 a15 l := rfl
@[simp] theorem blk_slot3 : slot (blk a0 a1 a2 a3 a4 a5 a6 a7 a8 a9 a10 a11 a12 a13 a14 a15 l) 3 = a3 := rfl
@[simp] theorem blk_set3 : setS (blk a0 a1 a2 a3 a4 a5 a6 a7 a8 a9 a10 a11 a12 a13 a14 a15 l) 3 v = blk a0 a1 a2 v a4 a5 a6 a7 a8 a9 a10 a11 a12 a13 a14 a15 l := rfl
@[simp] theorem blk_slot4 : slot (blk a0 a1 a2 a3 a4 a5 a6 a7 a8 a9 a10 a11 a12 a13 a14 a15 l) 4 = a4 := rfl
@[simp] theorem blk_set4 : setS (blk a0 a1 a2 a3 a4 a5 a6 a7 a8 a9 a10 a11 a12 a13 a14 a15 l) 4 v = blk a0 a1 a2 a3 v a5 a6 a7 a8 a9 a10 a11 a12 a13 a14 a15 l := rfl
@[simp] theorem blk_slot5 : slot (blk a0 a1 a2 a3 a4 a5 a6 a7 a8 a9 a10 a11 a12 a13 a14 a15 l) 5 = a5 := rfl
@[simp] theorem blk_set5 : setS (blk a0 a1 a2 a3 a4 a5 a6 a7 a8 a9 a10 a11 a12 a13 a14 a15 l) 5 v = blk a0 a1 a2 a3 a4 v a6 a7 a8 a9 a10 a11 a12 a13 a14 a15 l := rfl
@[simp] theorem blk_slot6 : slot (blk a0 a1 a2 a3 a4 a5 a6 a7 a8 a9 a10 a11 a12 a13 a14 a15 l) 6 = a6 := rfl
@[simp] theorem blk_set6 : setS (blk a0 a1 a2 a3 a4 a5 a6 a7 a8 a9 a10 a11 a12 a13 a14 a15 l) 6 v = blk a0 a1 a2 a3 a4 a5 v a7 a8 a9 a10 a11 a12 a13 a14 a15 l := rfl
@[simp] theorem blk_slot7 : slot (blk a0 a1 a2 a3 a4 a5 a6 a7 a8 a9 a10 a11 a12 a13 a14 a15 l) 7 = a7 := rfl
@[simp] theorem blk_set7 : setS (blk a0 a1 a2 a3 a4 a5 a6 a7 a8 a9 a10 a11 a12 a13 a14 a15 l) 7 v = blk a0 a1 a2 a3 a4 a5 a6 v a8 a9 a10 a11 a12 a13 a14 a15 l := rfl
@[simp] theorem blk_slot8 : slot (blk a0 a1 a2 a3 a4 a5 a6 a7 a8 a9 a10 a11 a12 a13 a14 a15 l) 8 = a8 := rfl
@[simp] theorem blk_set8 : setS (blk a0 a1 a2 a3 a4 a5 a6 a7 a8 a9 a10 a11 a12 a13 a14 a15 l) 8 v = blk a0 a1 a2 a3 a4 a5 a6 a7 v a9 a10 a11 a12 a13 a14 a15 l := rfl
@[simp] theorem blk_slot9 : slot (blk a0 a1 a2 a3 a4 a5 a6 a7 a8 a9 a10 a11 a12 a13 a14 a15 l) 9 = a9 := rfl
@[simp] theorem blk_set9 : setS (blk a0 a1 a2 a3 a4 a5 a6 a7 a8 a9 a10 a11 a12 a13 a14 a15 l) 9 v = blk a0 a1 a2 a3 a4 a5 a6 a7 a8 v a10 a11 a12 a13 a14 a15 l := rfl
@[simp] theorem blk_slot10 : slot (blk a0 a1 a2 a3 a4 a5 a6 a7 a8 a9 a10 a11 a12 a13 a14 a15 l) 10 = a10 := rfl
@[simp] theorem blk_set10 : setS (blk a0 a1 a2 a3 a4 a5 a6 a7 a8 a9 a10 a11 a12 a13 a14 a15 l) 10 v = blk a0 a1 a2 a3 a4 a5 a6 a7 a8 a9 v a11 a12 a13 a14 a15 l := rfl
@[simp] theorem blk_slot11 : slot (blk a0 a1 a2 a3 a4 a5 a6 a7 a8 a9 a10 a11 a12 a13 a14 a15 l) 11 = a11 := rfl
@[simp] theorem blk_set11 : setS (blk a0 a1 a2 a3 a4 a5 a6 a7 a8 a9 a10 a11 a12 a13 a14 a15 l) 11 v = blk a0 a1 a2 a3 a4 a5 a6 a7 a8 a9 a10 v a12 a13 a14 a15 l := rfl
@[simp] theorem blk_slot12 : slot (blk a0 a1 a2 a3 a4 a5 a6 a7 a8 a9 a10 a11 a12 a13 a14 a15 l) 12 = a12 := rfl
@[simp] theorem blk_set12 : setS (blk a0 a1 a2 a3 a4 a5 a6 a7 a8 a9 a10 a11 a12 a13 a14 a15 l) 12 v = blk a0 a1 a2 a3 a4 a5 a6 a7 a8 a9 a10 a11 v a13 a14 a15 l := rfl
@[simp] theorem blk_slot13 : slot (blk a0 a1 a2 a3 a4 a5 a6 a7 a8 a9 a10 a11 a12 a13 a14 a15 l) 13 = a13 := rfl
@[simp] theorem blk_set13 : setS (blk a0 a1 a2 a3 a4 a5 a6 a7 a8 a9 a10 a11 a12 a13 a14 a15 l) 13 v = blk a0 a1 a2 a3 a4 a5 a6 a7 a8 a9 a10 a11 a12 v a14 a15 l := rfl
@[simp] theorem blk_slot14 : slot (blk a0 a1 a2 a3 a4 a5 a6 a7 a8 a9 a10 a11 a12 a13 a14 a15 l) 14 = a14 := rfl
@[simp] theorem blk_set14 : setS (blk a0 a1 a2 a3 a4 a5 a6 a7 a8 a9 a10 a11 a12 a13 a14 a15 l) 14 v = blk a0 a1 a2 a3 a4 a5 a6 a7 a8 a9 a10 a11 a12 a13 v a15 l := rfl
@[simp] theorem blk_slot15 : slot (blk a0 a1 a2 a3 a4 a5 a6 a7 a8 a9 a10 a11 a12 a13 a14 a15 l) 15 = a15 := rfl
@[simp] theorem blk_set15 : setS (blk a0 a1 a2 a3 a4 a5 a6 a7 a8 a9 a10 a11 a12 a13 a14 a15 l) 15 v = blk a0 a1 a2 a3 a4 a5 a6 a7 a8 a9 a10 a11 a12 a13 a14 v l := rfl
theorem blk_all {p : Value → Bool} : (blk a0 a1 a2 a3 a4 a5 a6 a7 a8 a9 a10 a11 a12 a13 a14 a15 l).all p = (p a0 && p a1 && p a2 && p a3 && p a4 && p a5 && p a6 && p a7 && p a8 && p a9 && p a10 && p a11 && p a12 && p a13 && p a14 && p a15 && l.all p) := by
 unfold blk; simp only [List.all_cons, Bool.and_assoc]
@[simp] theorem blk_below {d : Nat} : (blk a0 a1 a2 a3 a4 a5 a6 a7 a8 a9 a10 a11 a12 a13 a14 a15 l).all (below d n) = (below d n a0 && below d n a1 && below d n a2 && below d n a3 && below d n a4 && below d n a5 && below d n a6 && below d n a7 && below d n a8 && below d n a9 && below d n a10 && below d n a11 && below d n a12 && below d n a13 && below d n a14 && below d n a15 && l.all (below d n)) := blk_all
end
section
variable {P : Program} {lo s : Nat} {σ : Slots} {h : Heap} {t : TypeId}
def newK (P : Program) (h : Heap) (σ : Slots) (s : Nat) (t : TypeId) (v : Value) : Option (Slots × Heap) := match v with
  | .slice none 0 0 => (szOf P t).bind fun n => if n = 0 then none else some (setS σ s (.slice (some ⟨h.length, 0, some 0⟩) 0 0), h ++ [.cells t [] n])
  | .func (.yield 1) ⟨[]⟩ ⟨[]⟩ => (szOf P t).bind fun n => if n = 0 then none else some (setS σ s (.slice (some ⟨h.length, 0, some 0⟩) 0 0), h ++ [.cells t [] n])
  | _ => some (σ, h)
theorem prep_new : prep1 P lo σ h (.new s t) = newK P h σ s t (slot σ s) := by
 unfold prep1 newK
 simp only [slot_eq, setS_eq]
 rfl
theorem newK_nil {n : Nat} (hs : szOf P t = some (n + 1)) : newK P h σ s t (.slice none 0 0) = some (setS σ s (.slice (some ⟨h.length, 0, some 0⟩) 0 0), h ++ [.cells t [] (n + 1)]) := by
 unfold newK; simp [hs]
theorem prep_still : prep1 P lo σ h .still = some (σ, h) := rfl
theorem prep_fix : prep1 P lo σ h (.fix s) = some (σ, h) := rfl
def lateK (lo : Nat) (h : Heap) (σ : Slots) (v : Value) : Option (Slots × Heap) := match v with
  | .pointer (some a) => match h[a.block]? with
   | some (.cells ty c g) => match c[a.off]? with
    | some (.map (some m)) => match h[m]? with
     | some (.map es ck) => if lo ≤ a.block ∧ lo ≤ m then some (σ, (h.set m AObj.dead ++ [AObj.map es ck]).set a.block (AObj.cells ty (c.set a.off (.map (some h.length))) g)) else none
     | _ => none
    | _ => none
   | _ => none
  | _ => none
theorem prep_late : prep1 P lo σ h (.late s) = lateK lo h σ (slot σ s) := by
 unfold prep1 lateK
 simp only [slot_eq]
 rfl
theorem lateK_map {b m off g ck : Nat} {sp : Option Nat} {ty : TypeId} {c : List Value} {es : List MapEntry} (hob : h[b]? = some (.cells ty c g)) (hc : c[off]? = some (.map (some m))) (hm : h[m]? = some (.map es ck)) (h1 : lo ≤ b) (h2 : lo ≤ m) :
  lateK lo h σ (.pointer (some ⟨b, off, sp⟩)) = some (σ, (h.set m AObj.dead ++ [AObj.map es ck]).set b (.cells ty (c.set off (.map (some h.length))) g)) := by
 unfold lateK
 simp only [hob, hc, hm]
 rw [if_pos ⟨h1, h2⟩]
theorem lowF_at {b off : Nat} {sp : Option Nat} (hv : slot σ s = .pointer (some ⟨b, off, sp⟩)) (h1 : lo ≤ b) (h2 : b < h.length) : lowF (some s) σ lo h = b + 1 := by
 unfold lowF
 simp only [slot_eq, hv]
 exact if_pos ⟨h1, h2⟩
def newcK (P : Program) (lo : Nat) (h : Heap) (σ : Slots) (d : Nat) (t : TypeId) (v : Value) : Option (Slots × Heap) := match v with
  | .pointer (some a) => match h[a.block]? with
   | some (.cells ty c g) => (szOf P t).bind fun n => if n ≠ 0 ∧ lo ≤ a.block ∧ (c[a.off + d]?).any isNil = true then
     some (σ, h.set a.block (.cells ty (c.set (a.off + d) (.slice (some ⟨h.length, 0, some 0⟩) 0 0)) g) ++ [.cells t [] n]) else none
   | _ => none
  | _ => none
theorem prep_newc {d : Nat} : prep1 P lo σ h (.newc s d t) = newcK P lo h σ d t (slot σ s) := by
 unfold prep1 newcK
 simp only [slot_eq]
 rfl
theorem newcK_cell {b n g off d : Nat} {ty : TypeId} {sp : Option Nat} {c : List Value} (hob : h[b]? = some (.cells ty c g)) (hc : c[off + d]? = some (.slice none 0 0)) (hs : szOf P t = some (n + 1)) (hlo : lo ≤ b) :
  newcK P lo h σ d t (.pointer (some ⟨b, off, sp⟩)) = some (σ, h.set b (.cells ty (c.set (off + d) (.slice (some ⟨h.length, 0, some 0⟩) 0 0)) g) ++ [.cells t [] (n + 1)]) := by
 unfold newcK
 simp only [hob, hs, Option.bind_some, hc]
 rw [if_pos ⟨by omega, hlo, by simp [isNil]⟩]
end
section
variable {h : Heap} {n : Nat}
theorem zeros_one1 {z : Value} (hz : z.cells = #[z]) (n : Nat) : (zeros z n).toList = List.replicate n z := by
 unfold zeros
 simp only [hz]
 apply List.ext_getElem?
 intro i
 simp [List.getElem?_replicate]
 by_cases h : i < n
 ·simp [h, Nat.mod_one]
 ·simp [h]
theorem make_one {el : El} {k k' : IntKind} (hs : el.size = 1) (hz : el.z.cells = #[el.z]) (hn : n ≤ 1000000) (hb : el.bytes ≤ 1000) :
  makeSliceT (some el) h (.int k (n : Int)) (.int k' (n : Int)) = some (.slice (some ⟨h.length, 0, none⟩) n n, h ++ [.cells el.e (List.replicate n el.z) 0]) := by
 have hm : el.bytes * n ≤ 140737488355328 := Nat.le_trans (Nat.mul_le_mul hb hn) (by omega)
 unfold makeSliceT
 simp only [Option.bind_some]
 rw [if_pos ⟨by omega, by omega, by omega, by omega, by rw [hz]; simp⟩]
 simp only [Int.toNat_natCast, hs, Nat.mul_one, zeros_one1 hz]
end
end Go.Proofs.YtgefjhjmkejjbaaDoor.Bm
namespace Go.Proofs.YtgefjhjmkejjbaaDoor.Bm
open Go Go.RowKit
structure KeyEnc (P : Program) (kt : TypeId) {κ : Type} [DecidableEq κ] (enc : κ → Value) : Prop where
 flat : ∀ a, Bm.flat (enc a) = true
 ok : ∀ a, keyOk P 4 kt (enc a) = true
 eq : ∀ a b, aKeyEq P kt (enc a) (enc b) = some (decide (a = b))
 bits : ∀ a, Instr.sameBits 10000 (enc a) (enc a) = true
section
variable {κ : Type} {enc : κ → Value}
def ents (enc : κ → Value) : List (κ × Value) → Nat → List MapEntry
 | [], _ => []
 | p :: l, i => ⟨enc p.1, p.2, i⟩ :: ents enc l (i + 1)
theorem ents_app {a b : List (κ × Value)} : ∀ {i : Nat}, ents enc (a ++ b) i = ents enc a i ++ ents enc b (i + a.length) := by
 induction a with
 | nil => intro i; rfl
 | cons p a ih => intro i; simp [ents, ih]; congr 1; omega
def mapB (enc : κ → Value) (l : List (κ × Value)) : AObj := .map (ents enc l 0) l.length
variable [DecidableEq κ]
def aget : List (κ × Value) → κ → Option Value
 | [], _ => none
 | p :: l, k => if p.1 = k then some p.2 else aget l k
def aset : List (κ × Value) → κ → Value → List (κ × Value)
 | [], k, v => [(k, v)]
 | p :: l, k, v => if p.1 = k then (k, v) :: l else p :: aset l k v
def aidx : List (κ × Value) → κ → Nat
 | [], _ => 0
 | p :: l, k => if p.1 = k then 0 else aidx l k + 1
theorem aget_set {l : List (κ × Value)} {k j : κ} {v : Value} : aget (aset l k v) j = if k = j then some v else aget l j := by
 induction l with
 | nil => simp only [aset, aget]
 | cons p l ih =>
  unfold aset
  by_cases h : p.1 = k
  ·rw [if_pos h]
   unfold aget
   by_cases h2 : k = j
   ·simp [h2]
   ·simp [h2, h]
  ·rw [if_neg h]
   unfold aget
   by_cases h2 : p.1 = j
   ·have : ¬ k = j := fun e => h (h2.trans e.symm)
    simp [h2, this]
   ·simp [h2, ih]
theorem aset_len {l : List (κ × Value)} {k : κ} {v : Value} : (aset l k v).length = if aget l k = none then l.length + 1 else l.length := by
 induction l with
 | nil => simp [aset, aget]
 | cons p l ih =>
  unfold aset aget
  by_cases h : p.1 = k
  ·simp [h]
  ·simp only [h, if_false, List.length_cons, ih]
   split <;> rfl
theorem aset_new {l : List (κ × Value)} {k : κ} {v : Value} (h : aget l k = none) : aset l k v = l ++ [(k, v)] := by
 induction l with
 | nil => rfl
 | cons p l ih =>
  unfold aget at h
  split at h
  ·cases h
  ·rename_i hp
   unfold aset
   rw [if_neg hp, ih h]; rfl
variable {P : Program} {kt : TypeId}
theorem ents_get {l : List (κ × Value)} {k : κ} {v : Value} (h : aget l k = some v) : ∀ {i : Nat}, (ents enc l i)[aidx l k]? = some ⟨enc k, v, i + aidx l k⟩ := by
 induction l with
 | nil => simp [aget] at h
 | cons p l ih =>
  intro i
  unfold aget at h
  unfold aidx ents
  split
  ·rename_i hp
   rw [if_pos hp] at h
   cases h; cases hp; rfl
  ·rename_i hp
   rw [if_neg hp] at h
   rw [List.getElem?_cons_succ, ih h]
   congr 2; omega
theorem ents_set {l : List (κ × Value)} {k : κ} {v x : Value} (h : aget l k = some v) : ∀ {i : Nat}, (ents enc l i).set (aidx l k) ⟨enc k, x, i + aidx l k⟩ = ents enc (aset l k x) i := by
 induction l with
 | nil => simp [aget] at h
 | cons p l ih =>
  intro i
  unfold aget at h
  unfold aidx aset
  split
  ·rfl
  ·rename_i hp
   rw [if_neg hp] at h
   have := ih h (i := i + 1)
   unfold ents
   rw [List.set_cons_succ, ← this]
   congr 3; omega
theorem find_ents (K : KeyEnc P kt enc) {l : List (κ × Value)} {k : κ} : ∀ {i j : Nat}, aFind P kt (enc k) (ents enc l i) j = some ((aget l k).map fun v => (j + aidx l k, v)) := by
 induction l with
 | nil => intro i j; rfl
 | cons p l ih =>
  intro i j
  unfold ents aFind aget aidx
  simp only [K.eq, Option.bind_some]
  by_cases h : p.1 = k
  ·simp [h]
  ·have h' : ¬ k = p.1 := fun e => h e.symm
   simp only [h', decide_false, Bool.false_eq_true, if_false, h, ih]
   congr 2; funext v; simp; omega
variable {h : Heap} {lo r : Nat} {l : List (κ × Value)} {k : κ} {z : Option Value} {ok : Bool}
theorem lookup_none {et : Option MT} {zv : Value} (K : KeyEnc P kt enc) (het : et = some ⟨kt, some zv⟩) (hh : h[r]? = some (mapB enc l)) (hg : aget l k = none) :
  lookupT P et h (.map (some r)) (enc k) ok = some (if ok then .tuple #[zv, .bool false] else zv) := by
 subst het
 unfold lookupT entriesOf
 simp only [Option.bind_some, K.flat, K.ok, Bool.and_self, if_true, hh, mapB]
 simp [find_ents K, hg]
theorem lookup_some {et : Option MT} {v : Value} (K : KeyEnc P kt enc) (het : et = some ⟨kt, z⟩) (hh : h[r]? = some (mapB enc l)) (hg : aget l k = some v) :
  lookupT P et h (.map (some r)) (enc k) ok = some (if ok then .tuple #[v, .bool true] else v) := by
 subst het
 unfold lookupT entriesOf
 simp only [Option.bind_some, K.flat, K.ok, Bool.and_self, if_true, hh, mapB]
 simp [find_ents K, hg]
theorem put_map (K : KeyEnc P kt enc) (hh : h[r]? = some (mapB enc l)) (hlo : lo ≤ r) {x : Value} : mapPutT P (some ⟨kt, z⟩) h lo (.map (some r)) (enc k) x = some (h.set r (mapB enc (aset l k x))) := by
 unfold mapPutT putEntry
 simp only [Option.bind_some, hh, mapB, hlo, K.flat, K.ok, and_self, if_true, find_ents K]
 cases hg : aget l k with
 | none =>
  simp only [Option.map_none, Option.map_some]
  rw [aset_new hg, ents_app]
  simp [ents]
 | some v =>
  have hi := ents_get (enc := enc) hg (i := 0)
  rw [Nat.zero_add] at hi
  have hs := ents_set (enc := enc) (x := x) hg (i := 0)
  rw [Nat.zero_add] at hs
  simp only [Option.map_some, Nat.zero_add, hi, Option.bind_some, K.bits, if_true, hs, aset_len, hg]
  rfl
theorem flat_below {v : Value} (hf : Bm.flat v = true) {n : Nat} : below 8 n v = true := by
 have ha : ∀ (d : Nat) (u : Value), atom u = true → below (d + 1) n u = true := by
  intro d u hu
  cases u with
  | pointer p => cases p with
   | none => rfl
   | some a => simp [atom] at hu
  | slice p a b => cases p with
   | none => rfl
   | some a => simp [atom] at hu
  | map p => cases p with
   | none => rfl
   | some a => simp [atom] at hu
  | agg _ => simp [atom] at hu
  | tuple _ => simp [atom] at hu
  | func f _ _ => simp [atom] at hu
  | iface _ _ => simp [atom] at hu
  | _ => rfl
 cases v with
 | agg cs =>
  obtain ⟨cs⟩ := cs
  have hf : (cs.all atom) = true := by simpa [Bm.flat] using hf
  show cs.all (below 7 n) = true
  rw [List.all_eq_true] at hf ⊢
  exact fun x hx => ha 6 x (hf x hx)
 | _ => exact ha 7 _ hf
theorem belO_map {n : Nat} (K : KeyEnc P kt enc) (hl : ∀ p ∈ l, below 8 n p.2 = true) : belowO n (mapB enc l) = true := by
 unfold mapB belowO depth
 have : ∀ (l : List (κ × Value)) (i : Nat), (∀ p ∈ l, below 8 n p.2 = true) → (ents enc l i).all (fun e => below 8 n e.key && below 8 n e.val) = true := by
  intro l
  induction l with
  | nil => intro i _; rfl
  | cons p l ih =>
   intro i hl
   simp only [ents, List.all_cons, Bool.and_eq_true]
   exact ⟨⟨flat_below (K.flat _), hl p (by simp)⟩, ih _ fun q hq => hl q (by simp [hq])⟩
 exact this l 0 hl
end
theorem rop_makeMap {E : Env} {C : Callee} {lo : Nat} {st : Bool} {ρ : Operand → Value} {h : Heap} : ropR E C lo st (.makeMap none) ρ h = some (.map (some h.length), h ++ [.map [] 0]) := rfl
theorem rop_lookup {E : Env} {C : Callee} {lo : Nat} {st : Bool} {ρ : Operand → Value} {h : Heap} {mt : Option MT} {x k : Operand} {ok : Bool} : ropR E C lo st (.lookup mt x k ok) ρ h = (lookupT E.P mt h (ρ x) (ρ k) ok).map (·, h) := rfl
theorem rop_mapPut {E : Env} {C : Callee} {lo : Nat} {ρ : Operand → Value} {h : Heap} {mt : Option MT} {m k x : Operand} : ropR E C lo false (.mapPut mt m k x) ρ h = (mapPutT E.P mt h lo (ρ m) (ρ k) (ρ x)).map fun h' => (undef, h') := rfl
theorem rop_mapEntry {E : Env} {C : Callee} {lo : Nat} {ρ : Operand → Value} {h : Heap} {mt : Option MT} {m k : Operand} : ropR E C lo false (.mapEntry mt m k) ρ h = mapEntryT E.P mt h lo (ρ m) (ρ k) := rfl
theorem rop_entryStore {E : Env} {C : Callee} {lo : Nat} {ρ : Operand → Value} {h : Heap} {m s x : Operand} : ropR E C lo false (.entryStore m s x) ρ h = (aEntryStore h lo (ρ m) (ρ s) (ρ x)).map fun h' => (undef, h') := rfl
attribute [simp] rop_makeMap rop_lookup rop_mapPut rop_mapEntry rop_entryStore
end Go.Proofs.YtgefjhjmkejjbaaDoor.Bm
namespace Go.Proofs.YtgefjhjmkejjbaaDoor.Bm
end Go.Proofs.YtgefjhjmkejjbaaDoor.Bm
namespace Go.Proofs.YtgefjhjmkejjbaaDoor.Bm
open Go Go.RowKit
structure Rec (α : Type) where
 enc : α → List Value
 m : Nat
 len : ∀ a, (enc a).length = m + 1
 set : ∀ a, (enc a).all (settled 8) = true
 bel : ∀ a n, (enc a).all (below 8 n) = true
namespace Rec
variable {α : Type} (R : Rec α)
def k : Nat := R.m + 1
def val (a : α) : Value := .agg ⟨R.enc a⟩
def vals (l : List α) : List Value := l.map R.val
def flat (l : List α) : List Value := l.flatMap R.enc
def row (t : TypeId) (l : List α) : AObj := .cells t (R.flat l) (R.m + 1)
def sl (b : Nat) (l : List α) : Value := .slice (some ⟨b, 0, some (l.length * (R.m + 1))⟩) l.length l.length
variable {R}
theorem vals_len {l : List α} : (R.vals l).length = l.length := List.length_map _
theorem flat_len : ∀ {l : List α}, (R.flat l).length = l.length * (R.m + 1)
 | [] => by simp [flat]
 | a :: l => by
  have := flat_len (l := l)
  show (R.enc a ++ R.flat l).length = (l.length + 1) * (R.m + 1)
  rw [List.length_append, R.len, this, Nat.add_mul]; omega
theorem flat_app {l m : List α} : R.flat (l ++ m) = R.flat l ++ R.flat m := List.flatMap_append
theorem vals_app {l m : List α} : R.vals (l ++ m) = R.vals l ++ R.vals m := List.map_append
theorem vals_flat (l : List α) : (R.vals l).flatMap cellsL = R.flat l := by
 unfold vals flat
 rw [List.flatMap_map]; rfl
theorem vals_all (l : List α) : (R.vals l).all (fun v => (cellsL v).length == R.m + 1) = true := by
 unfold vals
 rw [List.all_map, List.all_eq_true]
 intro a _
 show ((R.enc a).length == R.m + 1) = true
 rw [R.len]; exact beq_self_eq_true _
theorem row_bel {n : Nat} {t : TypeId} (l : List α) : belowO n (R.row t l) = true := by
 show (R.flat l).all (below 8 n) = true
 unfold flat
 rw [List.all_flatMap, List.all_eq_true]
 exact fun a _ => R.bel a n
theorem sl_bel {n d b : Nat} {l : List α} (h : b < n) : below (d + 1) n (R.sl b l) = true := decide_eq_true h
theorem sl_len {h : Heap} {b : Nat} {l : List α} : lenT .sl h (R.sl b l) = some (.int .i64 l.length) := rfl
theorem cells_tree {h : Heap} {x : Bool} {s : Nat} (hs : s = R.m + 1) (l : List α) : sliceCells h s (lst x (R.vals l)) = some (R.flat l, l.length) := by
 subst hs
 rw [cells_lst (vals_all l), vals_flat, vals_len]
theorem app {el : El} {h : Heap} {lo b : Nat} {t : TypeId} {acc m : List α} {u : Value} (hel : el.size = R.m + 1) (hob : h[b]? = some (R.row t acc)) (hu : sliceCells h el.size u = some (R.flat m, m.length)) (hlo : lo ≤ b) (hb : (acc.length + m.length) * el.bytes ≤ 2 ^ 47) :
  appendT (some el) h lo false (R.sl b acc) u = some (R.sl b (acc ++ m), h.set b (R.row t (acc ++ m))) := by
 have hob' : h[b]? = some (.cells t (R.flat acc) (R.m + 1)) := hob
 unfold sl
 rw [append_slice, hu]
 show appS el h lo false _ _ _ h[b]? _ = _
 rw [hob']
 by_cases hm : m.length = 0
 ·have : m = [] := List.eq_nil_of_length_eq_zero hm
  subst this
  have hf : fitsRow h ⟨b, 0, some (acc.length * (R.m + 1))⟩ el.size = true := by
   unfold fitsRow
   show (match h[b]? with | some (.cells _ c g) => _ | _ => false) = true
   rw [hob']
   simp [stampOk, flat_len, hel]
  unfold appS
  simp only [List.append_nil, List.length_nil, Nat.add_zero, Nat.le_refl, if_true, hf, Option.bind_some]
  congr 2
  refine (List.ext_getElem? fun i => ?_)
  rw [List.getElem?_set]
  split
  ·rename_i e; subst e
   split
   ·exact hob
   ·rename_i hlt; rw [List.getElem?_eq_none (by omega)]
  ·rfl
 ·refine (appS_grown (m := m.length) hm flat_len.symm rfl hel flat_len.symm hlo hb).trans ?_
  unfold row
  rw [flat_app, ← flat_app, flat_len, List.length_append]
theorem index_tree {h0 : Nat} {x : Bool} {t : TypeId} {l : List α} {i : Nat} {k : IntKind} (hk : h0 = R.m + 1) (h1 : i < l.length) : indexAddrT (.sl t ⟨some true, some h0⟩) (lst x (R.vals l)) (.int k (i : Int)) = some (cptr (R.val l[i])) := by
 subst hk
 have e : (R.vals l)[i]? = some (R.val l[i]) := by simp [vals, h1]
 rw [index_lst, if_pos (by omega), show ((i : Int)).toNat = i by omega, e, Option.bind_some]
 have hs : (cellsL (R.val l[i])).length = R.m + 1 := R.len _
 rw [if_pos]
 rw [hs]
 have : fitsTT ⟨some true, some (R.m + 1)⟩ (R.val l[i]) = true := fits_ag (by show (R.enc l[i]).length = _; exact R.len _)
 rw [this]; simp
theorem flat_drop : ∀ {l : List α} {i : Nat}, (R.flat l).drop (i * (R.m + 1)) = R.flat (l.drop i)
 | [], i => by simp [flat]
 | a :: l, 0 => by simp
 | a :: l, i + 1 => by
  have := flat_drop (l := l) (i := i)
  show (R.enc a ++ R.flat l).drop _ = R.flat (l.drop i)
  rw [← this, List.drop_append, List.drop_of_length_le (by rw [R.len, Nat.add_mul]; omega), R.len, List.nil_append]
  congr 1
  rw [Nat.add_mul]; omega
def at_ (R : Rec α) (b : Nat) (l : List α) (i j : Nat) : Value := .pointer (some ⟨b, i * (R.m + 1) + j, some (l.length * (R.m + 1))⟩)
theorem app_room {el : El} {h : Heap} {lo b : Nat} {t : TypeId} {l m : List α} {i : Nat} {u : Value} (hel : el.size = R.m + 1) (hob : h[b]? = some (R.row t l)) (hu : sliceCells h el.size u = some (R.flat m, m.length)) (hlo : lo ≤ b) (hi : i + m.length ≤ l.length) :
  appendT (some el) h lo false (.slice (some ⟨b, 0, some (l.length * (R.m + 1))⟩) i l.length) u = some (.slice (some ⟨b, 0, some (l.length * (R.m + 1))⟩) (i + m.length) l.length, h.set b (R.row t (l.take i ++ m ++ l.drop (i + m.length)))) := by
 have hob' : h[b]? = some (.cells t (R.flat l) (R.m + 1)) := hob
 have hf : fitsRow h ⟨b, 0, some (l.length * (R.m + 1))⟩ el.size = true := by
  unfold fitsRow
  show (match h[b]? with | some (.cells _ c g) => _ | _ => false) = true
  rw [hob']
  simp [stampOk, flat_len, hel]
 rw [append_slice, hu]
 show appS el h lo false _ _ _ h[b]? _ = _
 unfold appS
 simp only [Option.bind_some]
 rw [if_pos hi]
 by_cases hm : m.length = 0
 ·have : m = [] := List.eq_nil_of_length_eq_zero hm
  subst this
  rw [if_pos hm, if_pos hf]
  congr 2
  rw [List.append_nil, List.length_nil, Nat.add_zero, List.take_append_drop]
  refine (List.ext_getElem? fun i => ?_)
  rw [List.getElem?_set]
  split
  ·rename_i e; subst e
   split
   ·exact hob
   ·rename_i hlt; rw [List.getElem?_eq_none (by omega)]
  ·rfl
 ·have hml : 0 < (R.flat m).length := by rw [flat_len]; exact Nat.mul_pos (by omega) (by omega)
  rw [if_neg hm, hf]
  simp only [Bool.not_true, Bool.or_false, Bool.false_eq_true, if_false]
  have hin : i * (R.m + 1) + m.length * (R.m + 1) ≤ l.length * (R.m + 1) := by rw [← Nat.add_mul]; exact Nat.mul_le_mul_right _ hi
  unfold wrN
  show Option.map _ (match h[b]? with | some (.cells t c g) => _ | _ => none) = _
  rw [hob']
  show Option.map _ (if _ then _ else none) = _
  rw [if_pos ⟨hlo, by unfold shift stampOk; rw [flat_len]; simp, hml, by unfold shift; rw [flat_len, flat_len, hel]; simp; exact hin⟩]
  show some (_, h.set b (.cells t (splice (R.flat l) (0 + i * el.size) (R.flat m)) (R.m + 1))) = _
  have e : splice (R.flat l) (0 + i * el.size) (R.flat m) = R.flat (l.take i ++ m ++ l.drop (i + m.length)) := by
   unfold splice
   rw [hel, Nat.zero_add, flat_len (l := m), ← Nat.add_mul, flat_drop, flat_app, flat_app]
   congr 2
   have k := congrArg (List.take (i * (R.m + 1))) (show R.flat l = R.flat (l.take i) ++ R.flat (l.drop i) by rw [← flat_app, List.take_append_drop])
   rw [k, List.take_append, List.take_of_length_le (by rw [flat_len, List.length_take]; exact Nat.mul_le_mul_right _ (Nat.min_le_left _ _))]
   have : (R.flat (l.take i)).length = i * (R.m + 1) := by rw [flat_len, List.length_take, Nat.min_eq_left (by omega)]
   rw [this, Nat.sub_self, List.take_zero, List.append_nil]
  rw [e]; rfl
end Rec
end Go.Proofs.YtgefjhjmkejjbaaDoor.Bm
