/-
  The sort by a function (slices.SortFunc) of the library at spans of regions, laid at this program's numbers by the kit's shelf; its comparator walked. Conditions: none.
-/
import Derived.Test.YtgeebooalafepaaBmSrtK
import Derived.Test.YtgeebooalafepaaChecked
import Derived.Shelf.SlSortCmp.WholeK
import Derived.Shelf.SlSortCmp.NoneTotal
import Derived.WalkKit
import Derived.Sort.AssemblyPlain
namespace Go.Proofs.Ytgeebooalafepaa
open Go Go.RowKit Go.Shelf Go.Sort
def laysSpan_ren : Go.Shelf.Ren := ⟨fun | 6 => 55 | 15 => 54 | 14 => 73 | 28 => 71 | 29 => 72 | 20 => 83 | 21 => 84 | 22 => 85 | 23 => 86 | 24 => 87 | 25 => 88 | 26 => 89 | 27 => 90 | 46 => 92 | 47 => 79 | 48 => 80 | 49 => 93 | 50 => 94 | 57 => 95 | n => n, fun | 22 => 57 | 24 => 59 | 25 => 79 | 3 => 3 | 39 => 76 | 0 => 0 | 53 => 94 | 55 => 96 | 4 => 4 | 46 => 87 | 45 => 86 | 50 => 82 | 5 => 5 | 9 => 9 | 66 => 103 | 70 => 107 | 76 => 114 | 77 => 68 | n => n, fun | n => n⟩
theorem laysSpan : Go.Proofs.SlLaysF0.n6 Try.prog laysSpan_ren := {
  mixed := by kernel_rfl
  f6 := ⟨Try.f55.name, by decide, Try.func55.trans (congrArg some (by kernel_rfl))⟩
  f14 := ⟨Try.f73.name, by decide, Try.func73.trans (congrArg some (by kernel_rfl))⟩
  f15 := Try.func54.trans (congrArg some (by kernel_rfl))
  f20 := ⟨Try.f83.name, by decide, Try.func83.trans (congrArg some (by kernel_rfl))⟩
  f21 := ⟨Try.f84.name, by decide, Try.func84.trans (congrArg some (by kernel_rfl))⟩
  f22 := ⟨Try.f85.name, by decide, Try.func85.trans (congrArg some (by kernel_rfl))⟩
  f23 := ⟨Try.f86.name, by decide, Try.func86.trans (congrArg some (by kernel_rfl))⟩
  f24 := ⟨Try.f87.name, by decide, Try.func87.trans (congrArg some (by kernel_rfl))⟩
  f25 := ⟨Try.f88.name, by decide, Try.func88.trans (congrArg some (by kernel_rfl))⟩
  f26 := ⟨Try.f89.name, by decide, Try.func89.trans (congrArg some (by kernel_rfl))⟩
  f27 := ⟨Try.f90.name, by decide, Try.func90.trans (congrArg some (by kernel_rfl))⟩
  f28 := Try.func71.trans (congrArg some (by kernel_rfl))
  f29 := Try.func72.trans (congrArg some (by kernel_rfl))
  f46 := ⟨Try.f92.name, by decide, Try.func92.trans (congrArg some (by kernel_rfl))⟩
  f47 := Try.func79.trans (congrArg some (by kernel_rfl))
  f48 := Try.func80.trans (congrArg some (by kernel_rfl))
  f49 := ⟨Try.f93.name, by decide, Try.func93.trans (congrArg some (by kernel_rfl))⟩
  f50 := ⟨Try.f94.name, by decide, Try.func94.trans (congrArg some (by kernel_rfl))⟩
  f57 := ⟨Try.f95.name, by decide, Try.func95.trans (congrArg some (by kernel_rfl))⟩
  t0 := Try.underlying0
  a0 := Try.isAgg0
  z0 := Try.sizeOf0
  v0 := Try.zeroValue0
  t3 := Try.underlying3
  a3 := Try.isAgg3
  z3 := Try.sizeOf3
  v3 := Try.zeroValue3
  t4 := Try.underlying4
  a4 := Try.isAgg4
  z4 := Try.sizeOf4
  v4 := Try.zeroValue4
  t5 := Try.underlying5
  a5 := Try.isAgg5
  z5 := Try.sizeOf5
  v5 := Try.zeroValue5
  t9 := Try.underlying9
  a9 := Try.isAgg9
  z9 := Try.sizeOf9
  v9 := Try.zeroValue9
  t22 := Try.underlying57
  a22 := Try.isAgg57
  z22 := Try.sizeOf57
  v22 := Try.zeroValue57
  t25 := Try.underlying79
  a25 := Try.isAgg79
  z25 := Try.sizeOf79
  v25 := Try.zeroValue79
  t39 := Try.underlying76
  a39 := Try.isAgg76
  z39 := Try.sizeOf76
  v39 := Try.zeroValue76
  t45 := Try.underlying86
  a45 := Try.isAgg86
  z45 := Try.sizeOf86
  v45 := Try.zeroValue86
  t46 := Try.underlying87
  a46 := Try.isAgg87
  z46 := Try.sizeOf87
  v46 := Try.zeroValue87
  t50 := Try.underlying82
  a50 := Try.isAgg82
  z50 := Try.sizeOf82
  v50 := Try.zeroValue82
  t53 := Try.underlying94
  a53 := Try.isAgg94
  z53 := Try.sizeOf94
  v53 := Try.zeroValue94
  t55 := Try.underlying96
  a55 := Try.isAgg96
  z55 := Try.sizeOf96
  v55 := Try.zeroValue96
  t66 := Try.underlying103
  a66 := Try.isAgg103
  z66 := Try.sizeOf103
  v66 := Try.zeroValue103
  t70 := Try.underlying107
  a70 := Try.isAgg107
  z70 := Try.sizeOf107
  v70 := Try.zeroValue107
  t76 := Try.underlying114
  a76 := Try.isAgg114
  z76 := Try.sizeOf114
  v76 := Try.zeroValue114
  t77 := Try.underlying68
  a77 := Try.isAgg68
  z77 := Try.sizeOf68
  v77 := Try.zeroValue68 }

/-- A span's two cells. -/
def spanV (x : Int × Int) : List Value := [.int .i64 x.1, .int .i64 x.2]
/-- The cells of spans, read. -/
def spanD : List Value → Option (List (Int × Int))
  | [] => some []
  | .int .i64 a :: .int .i64 b :: r => (spanD r).map ((a, b) :: ·)
  | _ => none
def cmpI (x y : Int) : Int := if x < y then -1 else if y < x then 1 else 0
def cmpS (x y : Int × Int) : Int := cmpI x.1 y.1
def sortS (d : List (Int × Int)) : List (Int × Int) := (pdq (ltOf cmpS) d.toArray 0 d.toArray.size (Lib.bitLen d.toArray.size) true true).toList
def sortSF (c : List Value) : Option (List Value) := (spanD c).map fun d => (sortS d).flatMap spanV

theorem ltS (x y : Int × Int) : ltOf cmpS x y = decide (x.1 < y.1) := by
  unfold ltOf cmpS cmpI
  by_cases h1 : x.1 < y.1
  · simp [h1]
  · by_cases h2 : y.1 < x.1 <;> simp [h1, h2]
theorem swoS : SWO (ltOf cmpS) where
  irrefl x := by rw [ltS]; simp
  trans x y z h1 h2 := by rw [ltS] at *; simp at *; omega
  ntrans x y z h1 h2 := by rw [ltS] at *; simp at *; omega
theorem spanD_some : ∀ {c : List Value} {d : List (Int × Int)}, spanD c = some d → c = d.flatMap spanV
  | [], d, h => by cases h; rfl
  | .int .i64 a :: .int .i64 b :: r, d, h => by
    unfold spanD at h
    cases e : spanD r with
    | none => rw [e] at h; cases h
    | some l =>
      rw [e] at h; cases h
      rw [spanD_some e]; rfl
theorem spanD_flat (d : List (Int × Int)) : spanD (d.flatMap spanV) = some d := by
  induction d with
  | nil => rfl
  | cons x d ih =>
    show (spanD (d.flatMap spanV)).map _ = _
    rw [ih]; rfl
theorem flat_len (d : List (Int × Int)) : (d.flatMap spanV).length = d.length * 2 := by
  induction d with
  | nil => rfl
  | cons x d ih =>
    show (d.flatMap spanV).length + 1 + 1 = (d.length + 1) * 2
    rw [ih]; omega
theorem flat_get : ∀ (d : List (Int × Int)) (t : Nat), t < d.length * 2 → (d.flatMap spanV)[t]! = (spanV d[t / 2]!)[t % 2]!
  | [], t, h => by simp at h
  | x :: d, 0, _ => rfl
  | x :: d, 1, _ => rfl
  | x :: d, t + 2, h => by
    have ih := flat_get d t (by simp at h; omega)
    have e1 : (t + 2) / 2 = t / 2 + 1 := by omega
    have e2 : (t + 2) % 2 = t % 2 := by omega
    rw [e1, e2]
    show (d.flatMap spanV)[t]! = _
    rw [ih]; rfl
theorem flatK_flat (d : Array (Int × Int)) : flatK spanV 2 d = (d.toList.flatMap spanV).toArray := by
  obtain ⟨l⟩ := d
  refine ext_get! (by rw [size_flatK]; show l.length * 2 = (l.flatMap spanV).length; rw [flat_len]) fun t ht => ?_
  have ht' : t < l.length * 2 := by simpa using ht
  rw [get_flatK spanV 2 ⟨l⟩ t ht']
  have e : (l.flatMap spanV).toArray[t]! = (l.flatMap spanV)[t]! := by simp
  have e2 : ∀ i, (l.toArray)[i]! = l[i]! := fun i => by first | rfl | exact (List.getElem!_toArray ..) | (by_cases h : i < l.length <;> simp [h])
  show (spanV l.toArray[t / 2]!)[t % 2]! = (l.flatMap spanV).toArray[t]!
  rw [e, flat_get l t ht', e2]
theorem sortS_both (d : List (Int × Int)) : PermIn 0 d.toArray.size d.toArray (sortS d).toArray ∧ SortedIn (ltOf cmpS) 0 d.toArray.size (sortS d).toArray := by
  unfold sortS
  rw [Array.toArray_toList]
  exact pdq_sorts (ltOf cmpS) swoS d.toArray 0 d.toArray.size _ true true (Nat.zero_le _) (Nat.le_refl _) (.inl rfl)
theorem sortS_perm (d : List (Int × Int)) : (sortS d).Perm d := by
  obtain ⟨h1, _, h3⟩ := (sortS_both d).1
  have hl : (sortS d).length = d.length := by simpa using h1
  have e1 : (sortS d).toArray.extract 0 d.toArray.size = (sortS d).toArray := by rw [← h1]; simp
  have e2 : d.toArray.extract 0 d.toArray.size = d.toArray := by simp
  rw [e1, e2] at h3
  simpa using h3
theorem sortS_sorted (d : List (Int × Int)) : (sortS d).Pairwise fun a b => a.1 ≤ b.1 := by
  have h := (sortS_both d).2
  have hl := (sortS_perm d).length_eq
  rw [List.pairwise_iff_getElem]
  intro i j hi hj hij
  have := h i j (Nat.zero_le _) hij (by simp; omega)
  rw [ltS] at this
  simp only [List.getElem!_toArray, hi, hj, getElem!_pos, decide_eq_false_iff_not, Int.not_lt] at this
  exact this
theorem sortSF_flat (d : List (Int × Int)) : sortSF (d.flatMap spanV) = some ((sortS d).flatMap spanV) := by
  unfold sortSF
  rw [spanD_flat]; rfl

set_option maxHeartbeats 1000000 in
theorem nan_walk (x : Int) (W : World) : Calls Try.prog 74 #[.int .i64 x] W fun e w' => e = .returned (.bool false) ∧ w' = W := by
  go_enter Try.func74, Try.ntmps74
  go_wp2
  go_ret
  exact ⟨rfl, rfl⟩
set_option maxHeartbeats 1000000 in
theorem compare_walk (x y : Int) (W : World) : Calls Try.prog 57 #[.int .i64 x, .int .i64 y] W fun e w' => e = .returned (.int .i64 (cmpI x y)) ∧ w' = W := by
  unfold cmpI
  have h1 := fun x W => nan_walk x W
  go_enter Try.func57, Try.ntmps57
  by_cases hxy : x < y
  · rw [if_pos hxy]
    go_wp2_with (go_at_call 74; refine (h1 _ _).mono ?_; rintro e w' ⟨rfl, rfl⟩)
    go_ret
    exact ⟨rfl, rfl⟩
  · rw [if_neg hxy]
    by_cases hyx : y < x
    · rw [if_pos hyx]
      go_wp2_with (go_at_call 74; refine (h1 _ _).mono ?_; rintro e w' ⟨rfl, rfl⟩)
      go_ret
      exact ⟨rfl, rfl⟩
    · rw [if_neg hyx]
      go_wp2_with (go_at_call 74; refine (h1 _ _).mono ?_; rintro e w' ⟨rfl, rfl⟩)
      go_ret
      exact ⟨rfl, rfl⟩
set_option maxHeartbeats 1000000 in
theorem closure_walk (x y : Int × Int) (W : World) : Calls Try.prog 56 #[.agg #[.int .i64 x.1, .int .i64 x.2], .agg #[.int .i64 y.1, .int .i64 y.2]] W fun e w' => e = .returned (.int .i64 (cmpS x y)) ∧ ∃ q os', w' = grow (W.drewN q) os' := by
  have hcon := fun W' => compare_walk x.1 y.1 W'
  unfold cmpS
  generalize cmpI x.1 y.1 = r at hcon ⊢
  go_enter Try.func56, Try.ntmps56
  go_wp2_with (go_at_call 57; refine (hcon _).mono ?_; rintro e w' ⟨rfl, rfl⟩)
  go_ret
  exact ⟨rfl, 0, _, by rw [alloc_eq_grow, alloc_eq_grow, grow_grow]; rfl⟩

theorem conSpan : Bm.CellCon Try.prog 55 56 2 sortSF where
  row blk off cap n c d w hF hc hH hblk h0 hn hcap := by
    unfold sortSF at hF
    cases e : spanD c with
    | none => rw [e] at hF; cases hF
    | some l =>
      rw [e] at hF; cases hF
      have ec := spanD_some e
      subst ec
      have hl : l.toArray.size = n := by
        rw [flat_len] at hc
        simp; omega
      have eg : ∀ args w, (callFunc 56 args).run Try.prog w = .ok (.enter 56 args) w := enters_of Try.func56 (by kernel_rfl) rfl
      have con := AnyQ.slices_SortFunc_eq laysSpan 2 Try.isAgg59 Try.sizeOf59 spanV (fun _ => rfl) (fun x v hv => by simp [spanV] at hv; rcases hv with rfl | rfl <;> rfl) cmpS swoS 56 #[] blk off cap l.toArray w eg (fun _ _ _ _ x y => closure_walk x y _) (by unfold HoldsK; rw [flatK_flat]; exact hH) hblk (by rw [hl]; exact hn)
      change Calls Try.prog 55 _ _ _ at con
      rw [hl] at con
      refine con.mono fun e w' he => ⟨he.1, ?_⟩
      obtain ⟨m, os, rfl⟩ := he.2
      refine ⟨m, os, ?_⟩
      unfold sortWorldK putRowK
      rw [flatK_flat]
      show _ = grow (putRow id (Sort.ahead w m) blk off ((sortS l).flatMap spanV).toArray) os
      unfold sortS
      rw [hl]
  none p cap w := AnyF.slices_SortFunc_none laysSpan p cap _ w
  dfd := ⟨_, Try.func55, rfl⟩
  len c d h := by
    unfold sortSF at h
    cases e : spanD c with
    | none => rw [e] at h; cases h
    | some l =>
      rw [e] at h; cases h
      rw [spanD_some e, flat_len, flat_len, (sortS_perm l).length_eq]
  atoms c d h := by
    unfold sortSF at h
    cases e : spanD c with
    | none => rw [e] at h; cases h
    | some l =>
      rw [e] at h; cases h
      have key : ∀ l : List (Int × Int), (l.flatMap spanV).all Bm.atom = true := by
        intro l
        induction l with
        | nil => rfl
        | cons x l ih => rw [List.flatMap_cons, List.all_append, ih]; rfl
      exact ⟨by rw [spanD_some e]; exact key _, key _⟩
  pos := by decide

end Go.Proofs.Ytgeebooalafepaa
