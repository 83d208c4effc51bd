/-
 Chapter 32: the examples, reckoned. Conditions: none.
-/
import Derived.Test.YtjkemccfcabhgaaGreatQB21
import Derived.Test.YtjkemccfcabhgaaGreatQB14
import Derived.Test.YtjkemccfcabhgaaGreatChecked
import Derived.Shelf.RegionOpenPlain
import Derived.WalkKit
import Derived.Deep.LoopGhost
import Derived.Lib.Walk
import Derived.Lib.SliceRun
import Derived.Shelf.Sort.Plain
import Derived.Shelf.Slices.In.SortNone
import Derived.Shelf.Slices.CompactI
import Derived.Test.YtjkemccfcabhgaaGreatRows
namespace Go.Proofs.YtjkemccfcabhgaaGreat.Bm
open Go Go.RowKit
variable {α β : Type}
def lz (R : Rec α) (b : Nat) (l : List α) : Value := if l = [] then lst true [] else R.sl b l
def lzH (R : Rec α) (t : TypeId) (l : List α) : Heap := if l = [] then [] else [R.row t l]
theorem lz_nil {R : Rec α} {b : Nat} : lz R b [] = lst true [] := rfl
theorem lzH_nil {R : Rec α} {t : TypeId} : lzH R t [] = [] := rfl
theorem lz_ne {R : Rec α} {b : Nat} {l : List α} (h : l ≠ []) : lz R b l = R.sl b l := if_neg h
theorem lzH_ne {R : Rec α} {t : TypeId} {l : List α} (h : l ≠ []) : lzH R t l = [R.row t l] := if_neg h
end Go.Proofs.YtjkemccfcabhgaaGreat.Bm
namespace Go.Proofs.YtjkemccfcabhgaaGreat.Bm
open Go Go.RowKit
open Rg (Rect Pt)
open Cw (limited limited_in)
theorem bel_lz {α : Type} {R : Rec α} {b d : Nat} {l : List α} (h : l ≠ []) : below (d + 1) b (lz R b l) = false := by
 rw [lz_ne h]
 exact decide_eq_false (Nat.lt_irrefl _)
theorem set_lz {α : Type} {R : Rec α} {b d : Nat} {l : List α} (h : l ≠ []) : settled (d + 1) (lz R b l) = false := by
 rw [lz_ne h]; rfl
end Go.Proofs.YtjkemccfcabhgaaGreat.Bm
namespace Go.Proofs.YtjkemccfcabhgaaGreat.Bm
open Go Go.RowKit Go.Lib
theorem iVol : ∃ i, Tryz.prog.info? 75 = some i ∧ i.zero = some (.agg #[.int .i64 0, .int .i64 0, .int .i64 0, .int .i64 0, .int .i64 0, .int .i64 0, .int .i64 0, .int .i64 0, .bool false]) ∧ i.size = 9 ∧ i.bytes = 72 := by
 have h : (Tryz.prog.info? 75).map (fun i => (i.zero, i.size, i.bytes)) = some (some (.agg #[.int .i64 0, .int .i64 0, .int .i64 0, .int .i64 0, .int .i64 0, .int .i64 0, .int .i64 0, .int .i64 0, .bool false]), 9, 72) := by kernel_rfl
 obtain ⟨i, h1, h2⟩ := Option.map_eq_some_iff.1 h
 simp only [Prod.mk.injEq] at h2
 exact ⟨i, h1, h2.1, h2.2.1, h2.2.2⟩
theorem tVol : Tryz.prog.underlying 62 = some (.slice 75) := by kernel_rfl
set_option maxHeartbeats 2000000 in
set_option maxRecDepth 100000 in
theorem clone_zeroVol (a : Addr) (c : Nat) (w : World) :
  Calls Tryz.prog 73 #[.slice (some a) 0 c] w fun e w' => ∃ a' c', e = .returned (.slice (some a') 0 c') ∧ Below w.heap.size w w' := by
 obtain ⟨i0, hi, hz0, hz1, hz2⟩ := iVol
 have q22 : ∀ (w : World) (a : Option Addr) (n c n' c' : Nat), (binOp .eql 62 (.slice a n c) (.slice none n' c')).run Tryz.prog w = .ok (.bool a.isNone) w := fun w a n c n' c' => Lib.run_eql_slice_nil w _ _ a n c n' c' tVol
 have u22 : ∀ w, Sem.run Tryz.prog (underlying 62) w = .ok (TypeDesc.slice 75) w := run_underlying tVol
 go_enter Tryz.func73, Tryz.ntmps73
 go_wp2_with (at_builtin; refine wpList_append_own _ rfl _ _ 62 rfl w.heap.size 75 i0 (.agg #[.int .i64 0, .int .i64 0, .int .i64 0, .int .i64 0, .int .i64 0, .int .i64 0, .int .i64 0, .int .i64 0, .bool false]) 9 72 tVol hi hz0 hz1 hz2 rfl (by decide) _ _ _ rfl (World.ownsRow_made w #[] 0 (Nat.le_refl _) (Nat.zero_le _) rfl) a 0 c [] rfl rfl (by intro j u hj; simp at hj) (by intro u hu; cases hu) (by unfold maxLen; omega) (by omega) (by simp) ?_)
 intro v' w1 hown hgrow hnil
 go_wp2
 go_ret
 have hne : v' ≠ .slice none 0 0 := by first | exact hnil | (intro e; exact absurd (hnil.1 e).1 (by simp))
 have hbel : Below w.heap.size w w1 := ((Below.refl _ w).alloc (Nat.le_refl _) _).grown hgrow (by simp) (by intro k hk; simp [Value.ownBlock] at hk; omega)
 rcases hown.2 with ⟨e, _⟩ | ⟨g, cap, cur, e, _⟩
 ·exact absurd e hne
 ·exact ⟨_, cap, by rw [e]; rfl, hbel⟩
theorem clone_nilVol (w : World) : Calls Tryz.prog 73 #[.slice none 0 0] w fun e w' => e = .returned (.slice none 0 0) ∧ w' = w := by
 have q22 : ∀ (w : World) (a : Option Addr) (n c n' c' : Nat), (binOp .eql 62 (.slice a n c) (.slice none n' c')).run Tryz.prog w = .ok (.bool a.isNone) w := fun w a n c n' c' => Lib.run_eql_slice_nil w _ _ a n c n' c' tVol
 go_enter Tryz.func73, Tryz.ntmps73
 go_wp2
 go_ret
 exact ⟨rfl, rfl⟩
theorem conCloVol : CloCon Tryz.prog 73 := ⟨⟨_, Tryz.func73, rfl⟩, clone_zeroVol, clone_nilVol⟩
theorem iEnt : ∃ i, Tryz.prog.info? 69 = some i ∧ i.zero = some (.agg #[.string ⟨⟨[]⟩⟩, .int .i64 0]) ∧ i.size = 2 ∧ i.bytes = 24 := by
 have h : (Tryz.prog.info? 69).map (fun i => (i.zero, i.size, i.bytes)) = some (some (.agg #[.string ⟨⟨[]⟩⟩, .int .i64 0]), 2, 24) := by kernel_rfl
 obtain ⟨i, h1, h2⟩ := Option.map_eq_some_iff.1 h
 simp only [Prod.mk.injEq] at h2
 exact ⟨i, h1, h2.1, h2.2.1, h2.2.2⟩
theorem tEnt : Tryz.prog.underlying 35 = some (.slice 69) := by kernel_rfl
set_option maxHeartbeats 2000000 in
set_option maxRecDepth 100000 in
theorem clone_zeroEnt (a : Addr) (c : Nat) (w : World) :
  Calls Tryz.prog 74 #[.slice (some a) 0 c] w fun e w' => ∃ a' c', e = .returned (.slice (some a') 0 c') ∧ Below w.heap.size w w' := by
 obtain ⟨i0, hi, hz0, hz1, hz2⟩ := iEnt
 have q22 : ∀ (w : World) (a : Option Addr) (n c n' c' : Nat), (binOp .eql 35 (.slice a n c) (.slice none n' c')).run Tryz.prog w = .ok (.bool a.isNone) w := fun w a n c n' c' => Lib.run_eql_slice_nil w _ _ a n c n' c' tEnt
 have u22 : ∀ w, Sem.run Tryz.prog (underlying 35) w = .ok (TypeDesc.slice 69) w := run_underlying tEnt
 go_enter Tryz.func74, Tryz.ntmps74
 go_wp2_with (at_builtin; refine wpList_append_own _ rfl _ _ 35 rfl w.heap.size 69 i0 (.agg #[.string ⟨⟨[]⟩⟩, .int .i64 0]) 2 24 tEnt hi hz0 hz1 hz2 rfl (by decide) _ _ _ rfl (World.ownsRow_made w #[] 0 (Nat.le_refl _) (Nat.zero_le _) rfl) a 0 c [] rfl rfl (by intro j u hj; simp at hj) (by intro u hu; cases hu) (by unfold maxLen; omega) (by omega) (by simp) ?_)
 intro v' w1 hown hgrow hnil
 go_wp2
 go_ret
 have hne : v' ≠ .slice none 0 0 := by first | exact hnil | (intro e; exact absurd (hnil.1 e).1 (by simp))
 have hbel : Below w.heap.size w w1 := ((Below.refl _ w).alloc (Nat.le_refl _) _).grown hgrow (by simp) (by intro k hk; simp [Value.ownBlock] at hk; omega)
 rcases hown.2 with ⟨e, _⟩ | ⟨g, cap, cur, e, _⟩
 ·exact absurd e hne
 ·exact ⟨_, cap, by rw [e]; rfl, hbel⟩
theorem clone_nilEnt (w : World) : Calls Tryz.prog 74 #[.slice none 0 0] w fun e w' => e = .returned (.slice none 0 0) ∧ w' = w := by
 have q22 : ∀ (w : World) (a : Option Addr) (n c n' c' : Nat), (binOp .eql 35 (.slice a n c) (.slice none n' c')).run Tryz.prog w = .ok (.bool a.isNone) w := fun w a n c n' c' => Lib.run_eql_slice_nil w _ _ a n c n' c' tEnt
 go_enter Tryz.func74, Tryz.ntmps74
 go_wp2
 go_ret
 exact ⟨rfl, rfl⟩
theorem conCloEnt : CloCon Tryz.prog 74 := ⟨⟨_, Tryz.func74, rfl⟩, clone_zeroEnt, clone_nilEnt⟩
end Go.Proofs.YtjkemccfcabhgaaGreat.Bm
namespace Go.Proofs.YtjkemccfcabhgaaGreat
open Go Go.RowKit Go.Shelf Go.Sort
def lays189_ren : Go.Shelf.Ren := ⟨fun | 189 => 54 | 125 => 79 | 257 => 78 | 128 => 101 | 129 => 102 | 294 => 92 | 295 => 93 | 296 => 94 | 297 => 95 | 298 => 96 | 299 => 97 | 216 => 98 | 300 => 99 | 301 => 100 | 328 => 104 | 329 => 105 | 330 => 106 | 331 => 107 | 332 => 108 | 215 => 103 | 343 => 109 | n => n, fun | 28 => 42 | 3 => 3 | 46 => 126 | 0 => 0 | 51 => 145 | 53 => 147 | 4 => 4 | 183 => 137 | 182 => 136 | 131 => 142 | 5 => 5 | 9 => 9 | 218 => 150 | 222 => 154 | 228 => 156 | 229 => 157 | n => n, fun | n => n⟩
theorem lays189 : Go.Proofs.Lays.n189 Tryz.prog lays189_ren := {
 mixed := by kernel_rfl
 f125 := Tryz.func79.trans (congrArg some (by kernel_rfl))
 f128 := Tryz.func101.trans (congrArg some (by kernel_rfl))
 f129 := Tryz.func102.trans (congrArg some (by kernel_rfl))
 f189 := Tryz.func54.trans (congrArg some (by kernel_rfl))
 f215 := Tryz.func103.trans (congrArg some (by kernel_rfl))
 f216 := Tryz.func98.trans (congrArg some (by kernel_rfl))
 f257 := Tryz.func78.trans (congrArg some (by kernel_rfl))
 f294 := Tryz.func92.trans (congrArg some (by kernel_rfl))
 f295 := Tryz.func93.trans (congrArg some (by kernel_rfl))
 f296 := Tryz.func94.trans (congrArg some (by kernel_rfl))
 f297 := Tryz.func95.trans (congrArg some (by kernel_rfl))
 f298 := Tryz.func96.trans (congrArg some (by kernel_rfl))
 f299 := Tryz.func97.trans (congrArg some (by kernel_rfl))
 f300 := Tryz.func99.trans (congrArg some (by kernel_rfl))
 f301 := Tryz.func100.trans (congrArg some (by kernel_rfl))
 f328 := Tryz.func104.trans (congrArg some (by kernel_rfl))
 f329 := Tryz.func105.trans (congrArg some (by kernel_rfl))
 f330 := Tryz.func106.trans (congrArg some (by kernel_rfl))
 f331 := Tryz.func107.trans (congrArg some (by kernel_rfl))
 f332 := Tryz.func108.trans (congrArg some (by kernel_rfl))
 f343 := Tryz.func109.trans (congrArg some (by kernel_rfl))
 t0 := Tryz.underlying0
 a0 := Tryz.isAgg0
 z0 := Tryz.sizeOf0
 v0 := Tryz.zeroValue0
 t3 := Tryz.underlying3
 a3 := Tryz.isAgg3
 z3 := Tryz.sizeOf3
 v3 := Tryz.zeroValue3
 t4 := Tryz.underlying4
 a4 := Tryz.isAgg4
 z4 := Tryz.sizeOf4
 v4 := Tryz.zeroValue4
 t5 := Tryz.underlying5
 a5 := Tryz.isAgg5
 z5 := Tryz.sizeOf5
 v5 := Tryz.zeroValue5
 t9 := Tryz.underlying9
 a9 := Tryz.isAgg9
 z9 := Tryz.sizeOf9
 v9 := Tryz.zeroValue9
 t28 := Tryz.underlying42
 a28 := Tryz.isAgg42
 z28 := Tryz.sizeOf42
 v28 := Tryz.zeroValue42
 t46 := Tryz.underlying126
 a46 := Tryz.isAgg126
 z46 := Tryz.sizeOf126
 v46 := Tryz.zeroValue126
 t51 := Tryz.underlying145
 a51 := Tryz.isAgg145
 z51 := Tryz.sizeOf145
 v51 := Tryz.zeroValue145
 t53 := Tryz.underlying147
 a53 := Tryz.isAgg147
 z53 := Tryz.sizeOf147
 v53 := Tryz.zeroValue147
 t131 := Tryz.underlying142
 a131 := Tryz.isAgg142
 z131 := Tryz.sizeOf142
 v131 := Tryz.zeroValue142
 t182 := Tryz.underlying136
 a182 := Tryz.isAgg136
 z182 := Tryz.sizeOf136
 v182 := Tryz.zeroValue136
 t183 := Tryz.underlying137
 a183 := Tryz.isAgg137
 z183 := Tryz.sizeOf137
 v183 := Tryz.zeroValue137
 t218 := Tryz.underlying150
 a218 := Tryz.isAgg150
 z218 := Tryz.sizeOf150
 v218 := Tryz.zeroValue150
 t222 := Tryz.underlying154
 a222 := Tryz.isAgg154
 z222 := Tryz.sizeOf154
 v222 := Tryz.zeroValue154
 t228 := Tryz.underlying156
 a228 := Tryz.isAgg156
 z228 := Tryz.sizeOf156
 v228 := Tryz.zeroValue156
 t229 := Tryz.underlying157
 a229 := Tryz.isAgg157
 z229 := Tryz.sizeOf157
 v229 := Tryz.zeroValue157 }
theorem conSort : Bm.SortCon Tryz.prog 54 Bm.sortI none where
 row blk off cap zs w hH hblk hsz _ := by
  rw [← Bm.sortI_eq]
  exact Any.slices_Sort_int lays189 blk off cap zs w hH hblk hsz
 none p cap w := Any.slices_Sort_int_none lays189 p cap w
 dfd := ⟨_, Tryz.func54, rfl⟩
 len := Bm.sortI_len
 cut := fun _ h => by cases h
end Go.Proofs.YtjkemccfcabhgaaGreat
namespace Go.Proofs.YtjkemccfcabhgaaGreat
open Go Go.RowKit Go.Shelf Go.Sort
def laysNm220_ren : Go.Shelf.Ren := ⟨fun | 20 => 55 | n => n, fun | 22 => 42 | 3 => 3 | 4 => 4 | 0 => 0 | n => n, fun | n => n⟩
theorem laysNm220 : Go.Proofs.Lays2.n20 Tryz.prog laysNm220_ren := {
 mixed := by kernel_rfl
 f20 := Tryz.func55.trans (congrArg some (by kernel_rfl))
 t0 := Tryz.underlying0
 a0 := Tryz.isAgg0
 z0 := Tryz.sizeOf0
 v0 := Tryz.zeroValue0
 t3 := Tryz.underlying3
 a3 := Tryz.isAgg3
 z3 := Tryz.sizeOf3
 v3 := Tryz.zeroValue3
 t4 := Tryz.underlying4
 a4 := Tryz.isAgg4
 z4 := Tryz.sizeOf4
 v4 := Tryz.zeroValue4
 t22 := Tryz.underlying42
 a22 := Tryz.isAgg42
 z22 := Tryz.sizeOf42
 v22 := Tryz.zeroValue42
 i3 := by kernel_rfl }
theorem conComp : Bm.SortCon Tryz.prog 55 Bm.compF (some Bm.compN) where
 row blk off cap zs w hH hblk hsz hc := (Any.slices_Compact_int laysNm220 blk off cap zs w hH (by omega) hc).mono fun e w' h => by
  rw [Bm.compact_eq] at h
  exact ⟨h.1, h.2.imp fun n k => ⟨#[], by rw [k]; exact (grow_empty _).symm⟩⟩
 none p cap w := Any.slices_Compact_int_empty laysNm220 p cap w
 dfd := ⟨_, Tryz.func55, rfl⟩
 len := Bm.compF_len
 cut := fun m h zs => by cases h; exact Bm.compG_len zs none
end Go.Proofs.YtjkemccfcabhgaaGreat
namespace Go.Proofs.YtjkemccfcabhgaaGreat.Bm
open Go Go.RowKit
open Rg (Rect)
theorem okE : OkProg E.P := okProg_of (by kernel_rfl) (by kernel_rfl)
theorem laidE : laidOutB E.P = true := by kernel_rfl
theorem mapsE : mapsRowed E.P = true := by kernel_rfl
noncomputable def tlE : List TypeId := closeT E.P 8 [37, 38, 41, 44, 3]
theorem closedE : closedT E.P tlE = true := by kernel_rfl
theorem in37 : 37 ∈ tlE := List.contains_iff_mem.1 (by kernel_rfl)
theorem in38 : 38 ∈ tlE := List.contains_iff_mem.1 (by kernel_rfl)
theorem in41 : 41 ∈ tlE := List.contains_iff_mem.1 (by kernel_rfl)
theorem in44 : 44 ∈ tlE := List.contains_iff_mem.1 (by kernel_rfl)
theorem in3 : 3 ∈ tlE := List.contains_iff_mem.1 (by kernel_rfl)
theorem u4 : E.P.underlying 4 = some .bool := by kernel_rfl
def i64ok (z : Int) : Prop := -9223372036854775808 ≤ z ∧ z ≤ 9223372036854775807
theorem recs_of {α : Type} (R : Rec α) {Q : α → Prop} {n : Nat} {t e : TypeId} {c : List Value} (hu : E.P.underlying t = some (.slice e)) (ge : aggT E.P e = some true) (hb : ∀ (m : Nat) (x : List Value), Wt E.P m e x → ∃ a, x = R.enc a ∧ Q a) (h : Wt E.P n t c) : ∃ l : List α, c = [lst false (R.vals l)] ∧ l.length ≤ maxLen ∧ ∀ a ∈ l, Q a := by
 obtain ⟨ls, rfl, h2, h3⟩ := wt_slice hu h
 obtain ⟨rs, rfl, k2⟩ := choose_list (cells := R.enc) (Q := Q) ls fun x hx => by
  obtain ⟨m, hm⟩ := h3 x hx
  exact hb m x hm
 refine ⟨rs, ?_, by simpa using h2, k2⟩
 have e : ∀ l : List α, (l.map R.enc).map (elemV E.P e) = R.vals l := by
  intro l
  induction l with
  | nil => rfl
  | cons r l ih =>
   rw [List.map_cons, List.map_cons, ih]
   unfold elemV
   rw [if_pos ge]
   rfl
 rw [e]
theorem ui : E.P.underlying 3 = some (.int .i64) := by kernel_rfl
theorem uB' : E.P.underlying 4 = some .bool := by kernel_rfl
theorem uSt : E.P.underlying 9 = some .string := by kernel_rfl
theorem nint : E.P.cellsOf 3 = 1 := by kernel_rfl
theorem nstring : E.P.cellsOf 9 = 1 := by kernel_rfl
theorem nbool : E.P.cellsOf 4 = 1 := by kernel_rfl
theorem uLEntry : E.P.underlying 35 = some (.slice 69) := by kernel_rfl
theorem nLEntry : E.P.cellsOf 35 = 1 := by kernel_rfl
theorem uLVolume : E.P.underlying 62 = some (.slice 75) := by kernel_rfl
theorem nLVolume : E.P.cellsOf 62 = 1 := by kernel_rfl
theorem uLPhase : E.P.underlying 56 = some (.slice 64) := by kernel_rfl
theorem nLPhase : E.P.cellsOf 56 = 1 := by kernel_rfl
theorem uLRight : E.P.underlying 38 = some (.slice 60) := by kernel_rfl
theorem gLRight : aggT E.P 38 = some false := by kernel_rfl
theorem uLPoint : E.P.underlying 39 = some (.slice 67) := by kernel_rfl
theorem nLPoint : E.P.cellsOf 39 = 1 := by kernel_rfl
theorem uLPlaced : E.P.underlying 34 = some (.slice 78) := by kernel_rfl
theorem nLPlaced : E.P.cellsOf 34 = 1 := by kernel_rfl
theorem uLint : E.P.underlying 42 = some (.slice 3) := by kernel_rfl
theorem nLint : E.P.cellsOf 42 = 1 := by kernel_rfl
theorem uLTable : E.P.underlying 23 = some (.slice 80) := by kernel_rfl
theorem nLTable : E.P.cellsOf 23 = 1 := by kernel_rfl
theorem uLDef : E.P.underlying 22 = some (.slice 178) := by kernel_rfl
theorem nLDef : E.P.cellsOf 22 = 1 := by kernel_rfl
theorem uLZone : E.P.underlying 24 = some (.slice 180) := by kernel_rfl
theorem nLZone : E.P.cellsOf 24 = 1 := by kernel_rfl
theorem uLRule : E.P.underlying 25 = some (.slice 184) := by kernel_rfl
theorem nLRule : E.P.cellsOf 25 = 1 := by kernel_rfl
theorem uLCap : E.P.underlying 26 = some (.slice 41) := by kernel_rfl
theorem nLCap : E.P.cellsOf 26 = 1 := by kernel_rfl
theorem uLView : E.P.underlying 27 = some (.slice 188) := by kernel_rfl
theorem nLView : E.P.cellsOf 27 = 1 := by kernel_rfl
theorem uLPoint3 : E.P.underlying 28 = some (.slice 186) := by kernel_rfl
theorem nLPoint3 : E.P.cellsOf 28 = 1 := by kernel_rfl
theorem uLLot : E.P.underlying 31 = some (.slice 190) := by kernel_rfl
theorem nLLot : E.P.cellsOf 31 = 1 := by kernel_rfl
theorem uLEasement : E.P.underlying 32 = some (.slice 192) := by kernel_rfl
theorem nLEasement : E.P.cellsOf 32 = 1 := by kernel_rfl
theorem uLWindow : E.P.underlying 33 = some (.slice 194) := by kernel_rfl
theorem nLWindow : E.P.cellsOf 33 = 1 := by kernel_rfl
theorem fRect : fsOf E.P 71 = some [(0, 3), (1, 3), (2, 3), (3, 3)] := by kernel_rfl
theorem nRect : E.P.cellsOf 71 = 4 := by kernel_rfl
theorem rect_of {n : Nat} {c : List Value} (h : Wt E.P n 71 c) : ∃ v : Rect, c = [.int .i64 v.x0, .int .i64 v.y0, .int .i64 v.x1, .int .i64 v.y1] := by
 obtain ⟨hl, hf⟩ := wt_struct fRect h
 rw [nRect] at hl
 obtain ⟨a0, c, rfl⟩ := List.exists_cons_of_length_eq_add_one hl; have hl := Nat.succ.inj hl
 obtain ⟨a1, c, rfl⟩ := List.exists_cons_of_length_eq_add_one hl; have hl := Nat.succ.inj hl
 obtain ⟨a2, c, rfl⟩ := List.exists_cons_of_length_eq_add_one hl; have hl := Nat.succ.inj hl
 obtain ⟨a3, c, rfl⟩ := List.exists_cons_of_length_eq_add_one hl; have hl := Nat.succ.inj hl
 obtain rfl := List.eq_nil_of_length_eq_zero hl
 obtain ⟨m0, q0⟩ := hf (0, 3) (by simp)
 replace q0 : Wt E.P m0 3 [a0] := by simpa [nint] using q0
 obtain ⟨m1, q1⟩ := hf (1, 3) (by simp)
 replace q1 : Wt E.P m1 3 [a1] := by simpa [nint] using q1
 obtain ⟨m2, q2⟩ := hf (2, 3) (by simp)
 replace q2 : Wt E.P m2 3 [a2] := by simpa [nint] using q2
 obtain ⟨m3, q3⟩ := hf (3, 3) (by simp)
 replace q3 : Wt E.P m3 3 [a3] := by simpa [nint] using q3
 obtain ⟨v0, e, h0⟩ := wt_int ui q0; obtain rfl := List.singleton_inj.1 e
 obtain ⟨v1, e, h1⟩ := wt_int ui q1; obtain rfl := List.singleton_inj.1 e
 obtain ⟨v2, e, h2⟩ := wt_int ui q2; obtain rfl := List.singleton_inj.1 e
 obtain ⟨v3, e, h3⟩ := wt_int ui q3; obtain rfl := List.singleton_inj.1 e
 exact ⟨⟨v0, v1, v2, v3⟩, rfl⟩
theorem fBox : fsOf E.P 73 = some [(0, 71), (4, 3), (5, 3)] := by kernel_rfl
theorem nBox : E.P.cellsOf 73 = 6 := by kernel_rfl
theorem box_of {n : Nat} {c : List Value} (h : Wt E.P n 73 c) : ∃ v : (Rect × Int × Int), c = [.int .i64 v.1.x0, .int .i64 v.1.y0, .int .i64 v.1.x1, .int .i64 v.1.y1, .int .i64 v.2.1, .int .i64 v.2.2] := by
 obtain ⟨hl, hf⟩ := wt_struct fBox h
 rw [nBox] at hl
 obtain ⟨a0, c, rfl⟩ := List.exists_cons_of_length_eq_add_one hl; have hl := Nat.succ.inj hl
 obtain ⟨a1, c, rfl⟩ := List.exists_cons_of_length_eq_add_one hl; have hl := Nat.succ.inj hl
 obtain ⟨a2, c, rfl⟩ := List.exists_cons_of_length_eq_add_one hl; have hl := Nat.succ.inj hl
 obtain ⟨a3, c, rfl⟩ := List.exists_cons_of_length_eq_add_one hl; have hl := Nat.succ.inj hl
 obtain ⟨a4, c, rfl⟩ := List.exists_cons_of_length_eq_add_one hl; have hl := Nat.succ.inj hl
 obtain ⟨a5, c, rfl⟩ := List.exists_cons_of_length_eq_add_one hl; have hl := Nat.succ.inj hl
 obtain rfl := List.eq_nil_of_length_eq_zero hl
 obtain ⟨m0, q0⟩ := hf (0, 71) (by simp)
 replace q0 : Wt E.P m0 71 [a0, a1, a2, a3] := by simpa [nRect] using q0
 obtain ⟨m1, q1⟩ := hf (4, 3) (by simp)
 replace q1 : Wt E.P m1 3 [a4] := by simpa [nint] using q1
 obtain ⟨m2, q2⟩ := hf (5, 3) (by simp)
 replace q2 : Wt E.P m2 3 [a5] := by simpa [nint] using q2
 obtain ⟨v0, e⟩ := rect_of q0
 simp only [List.cons.injEq, List.cons.injEq, and_true] at e; obtain ⟨rfl, rfl, rfl, rfl⟩ := e
 obtain ⟨v1, e, h1⟩ := wt_int ui q1; obtain rfl := List.singleton_inj.1 e
 obtain ⟨v2, e, h2⟩ := wt_int ui q2; obtain rfl := List.singleton_inj.1 e
 exact ⟨⟨v0, v1, v2⟩, rfl⟩
theorem fVolume : fsOf E.P 75 = some [(0, 73), (6, 3), (7, 3), (8, 4)] := by kernel_rfl
theorem nVolume : E.P.cellsOf 75 = 9 := by kernel_rfl
theorem gVolume : aggT E.P 75 = some true := by kernel_rfl
theorem vol_of {n : Nat} {c : List Value} (h : Wt E.P n 75 c) : ∃ v : Vo, c = volC v := by
 obtain ⟨hl, hf⟩ := wt_struct fVolume h
 rw [nVolume] at hl
 obtain ⟨a0, c, rfl⟩ := List.exists_cons_of_length_eq_add_one hl; have hl := Nat.succ.inj hl
 obtain ⟨a1, c, rfl⟩ := List.exists_cons_of_length_eq_add_one hl; have hl := Nat.succ.inj hl
 obtain ⟨a2, c, rfl⟩ := List.exists_cons_of_length_eq_add_one hl; have hl := Nat.succ.inj hl
 obtain ⟨a3, c, rfl⟩ := List.exists_cons_of_length_eq_add_one hl; have hl := Nat.succ.inj hl
 obtain ⟨a4, c, rfl⟩ := List.exists_cons_of_length_eq_add_one hl; have hl := Nat.succ.inj hl
 obtain ⟨a5, c, rfl⟩ := List.exists_cons_of_length_eq_add_one hl; have hl := Nat.succ.inj hl
 obtain ⟨a6, c, rfl⟩ := List.exists_cons_of_length_eq_add_one hl; have hl := Nat.succ.inj hl
 obtain ⟨a7, c, rfl⟩ := List.exists_cons_of_length_eq_add_one hl; have hl := Nat.succ.inj hl
 obtain ⟨a8, c, rfl⟩ := List.exists_cons_of_length_eq_add_one hl; have hl := Nat.succ.inj hl
 obtain rfl := List.eq_nil_of_length_eq_zero hl
 obtain ⟨m0, q0⟩ := hf (0, 73) (by simp)
 replace q0 : Wt E.P m0 73 [a0, a1, a2, a3, a4, a5] := by simpa [nBox] using q0
 obtain ⟨m1, q1⟩ := hf (6, 3) (by simp)
 replace q1 : Wt E.P m1 3 [a6] := by simpa [nint] using q1
 obtain ⟨m2, q2⟩ := hf (7, 3) (by simp)
 replace q2 : Wt E.P m2 3 [a7] := by simpa [nint] using q2
 obtain ⟨m3, q3⟩ := hf (8, 4) (by simp)
 replace q3 : Wt E.P m3 4 [a8] := by simpa [nbool] using q3
 obtain ⟨v0, e⟩ := box_of q0
 simp only [List.cons.injEq, List.cons.injEq, and_true] at e; obtain ⟨rfl, rfl, rfl, rfl, rfl, rfl⟩ := e
 obtain ⟨v1, e, h1⟩ := wt_int ui q1; obtain rfl := List.singleton_inj.1 e
 obtain ⟨v2, e, h2⟩ := wt_int ui q2; obtain rfl := List.singleton_inj.1 e
 obtain ⟨v3, e⟩ := wt_bool uB' q3; obtain rfl := List.singleton_inj.1 e
 exact ⟨⟨v0.1, v0.2.1, v0.2.2, v1, v2, v3⟩, rfl⟩
theorem fPlaced : fsOf E.P 78 = some [(0, 3), (1, 75)] := by kernel_rfl
theorem nPlaced : E.P.cellsOf 78 = 10 := by kernel_rfl
theorem gPlaced : aggT E.P 78 = some true := by kernel_rfl
theorem pd_of {n : Nat} {c : List Value} (h : Wt E.P n 78 c) : ∃ v : Pd, c = pdR.enc v := by
 obtain ⟨hl, hf⟩ := wt_struct fPlaced h
 rw [nPlaced] at hl
 obtain ⟨a0, c, rfl⟩ := List.exists_cons_of_length_eq_add_one hl; have hl := Nat.succ.inj hl
 obtain ⟨a1, c, rfl⟩ := List.exists_cons_of_length_eq_add_one hl; have hl := Nat.succ.inj hl
 obtain ⟨a2, c, rfl⟩ := List.exists_cons_of_length_eq_add_one hl; have hl := Nat.succ.inj hl
 obtain ⟨a3, c, rfl⟩ := List.exists_cons_of_length_eq_add_one hl; have hl := Nat.succ.inj hl
 obtain ⟨a4, c, rfl⟩ := List.exists_cons_of_length_eq_add_one hl; have hl := Nat.succ.inj hl
 obtain ⟨a5, c, rfl⟩ := List.exists_cons_of_length_eq_add_one hl; have hl := Nat.succ.inj hl
 obtain ⟨a6, c, rfl⟩ := List.exists_cons_of_length_eq_add_one hl; have hl := Nat.succ.inj hl
 obtain ⟨a7, c, rfl⟩ := List.exists_cons_of_length_eq_add_one hl; have hl := Nat.succ.inj hl
 obtain ⟨a8, c, rfl⟩ := List.exists_cons_of_length_eq_add_one hl; have hl := Nat.succ.inj hl
 obtain ⟨a9, c, rfl⟩ := List.exists_cons_of_length_eq_add_one hl; have hl := Nat.succ.inj hl
 obtain rfl := List.eq_nil_of_length_eq_zero hl
 obtain ⟨m0, q0⟩ := hf (0, 3) (by simp)
 replace q0 : Wt E.P m0 3 [a0] := by simpa [nint] using q0
 obtain ⟨m1, q1⟩ := hf (1, 75) (by simp)
 replace q1 : Wt E.P m1 75 [a1, a2, a3, a4, a5, a6, a7, a8, a9] := by simpa [nVolume] using q1
 obtain ⟨v0, e, h0⟩ := wt_int ui q0; obtain rfl := List.singleton_inj.1 e
 obtain ⟨v1, e⟩ := vol_of q1
 simp only [volC, List.cons.injEq, and_true] at e; obtain ⟨rfl, rfl, rfl, rfl, rfl, rfl, rfl, rfl, rfl⟩ := e
 exact ⟨⟨v0, v1⟩, rfl⟩
theorem fEntry : fsOf E.P 69 = some [(0, 9), (1, 3)] := by kernel_rfl
theorem nEntry : E.P.cellsOf 69 = 2 := by kernel_rfl
theorem gEntry : aggT E.P 69 = some true := by kernel_rfl
theorem ent_of {n : Nat} {c : List Value} (h : Wt E.P n 69 c) : ∃ v : (ByteArray × Int), c = entR.enc v := by
 obtain ⟨hl, hf⟩ := wt_struct fEntry h
 rw [nEntry] at hl
 obtain ⟨a0, c, rfl⟩ := List.exists_cons_of_length_eq_add_one hl; have hl := Nat.succ.inj hl
 obtain ⟨a1, c, rfl⟩ := List.exists_cons_of_length_eq_add_one hl; have hl := Nat.succ.inj hl
 obtain rfl := List.eq_nil_of_length_eq_zero hl
 obtain ⟨m0, q0⟩ := hf (0, 9) (by simp)
 replace q0 : Wt E.P m0 9 [a0] := by simpa [nstring] using q0
 obtain ⟨m1, q1⟩ := hf (1, 3) (by simp)
 replace q1 : Wt E.P m1 3 [a1] := by simpa [nint] using q1
 obtain ⟨v0, e, h0⟩ := wt_str uSt q0; obtain rfl := List.singleton_inj.1 e
 obtain ⟨v1, e, h1⟩ := wt_int ui q1; obtain rfl := List.singleton_inj.1 e
 exact ⟨⟨v0, v1⟩, rfl⟩
theorem ents_of {n : Nat} {c : List Value} (h : Wt E.P n 35 c) : ∃ l : List (ByteArray × Int), c = [lst false (entR.vals l)] ∧ l.length ≤ maxLen ∧ ∀ a ∈ l, (fun _ => True) a :=
 recs_of entR (Q := fun _ => True) uLEntry gEntry (fun _m _x hx => (ent_of hx).imp fun _a h => ⟨h, trivial⟩) h
theorem vols_of {n : Nat} {c : List Value} (h : Wt E.P n 62 c) : ∃ l : List Vo, c = [lst false (volR.vals l)] ∧ l.length ≤ maxLen ∧ ∀ a ∈ l, (fun _ => True) a :=
 recs_of volR (Q := fun _ => True) uLVolume gVolume (fun _m _x hx => (vol_of hx).imp fun _a h => ⟨h, trivial⟩) h
theorem pds_of {n : Nat} {c : List Value} (h : Wt E.P n 34 c) : ∃ l : List Pd, c = [lst false (pdR.vals l)] ∧ l.length ≤ maxLen ∧ ∀ a ∈ l, (fun _ => True) a :=
 recs_of pdR (Q := fun _ => True) uLPlaced gPlaced (fun _m _x hx => (pd_of hx).imp fun _a h => ⟨h, trivial⟩) h
theorem fPhase : fsOf E.P 64 = some [(0, 62), (1, 35)] := by kernel_rfl
theorem nPhase : E.P.cellsOf 64 = 2 := by kernel_rfl
theorem gPhase : aggT E.P 64 = some true := by kernel_rfl
theorem ph_of {n : Nat} {c : List Value} (h : Wt E.P n 64 c) : ∃ v : Ph, c = phR.enc v ∧ PhOk v := by
 obtain ⟨hl, hf⟩ := wt_struct fPhase h
 rw [nPhase] at hl
 obtain ⟨a0, c, rfl⟩ := List.exists_cons_of_length_eq_add_one hl; have hl := Nat.succ.inj hl
 obtain ⟨a1, c, rfl⟩ := List.exists_cons_of_length_eq_add_one hl; have hl := Nat.succ.inj hl
 obtain rfl := List.eq_nil_of_length_eq_zero hl
 obtain ⟨m0, q0⟩ := hf (0, 62) (by simp)
 replace q0 : Wt E.P m0 62 [a0] := by simpa [nLVolume] using q0
 obtain ⟨m1, q1⟩ := hf (1, 35) (by simp)
 replace q1 : Wt E.P m1 35 [a1] := by simpa [nLEntry] using q1
 obtain ⟨v0, e, h0, g0⟩ := vols_of q0; obtain rfl := List.singleton_inj.1 e
 obtain ⟨v1, e, h1, g1⟩ := ents_of q1; obtain rfl := List.singleton_inj.1 e
 exact ⟨⟨some false, v0, some false, v1⟩, rfl, ⟨Rec.ok_some, Rec.ok_some⟩⟩
theorem phs_of {n : Nat} {c : List Value} (h : Wt E.P n 56 c) : ∃ l : List Ph, c = [lst false (phR.vals l)] ∧ l.length ≤ maxLen ∧ ∀ a ∈ l, (PhOk) a :=
 recs_of phR (Q := PhOk) uLPhase gPhase (fun _m _x hx => ph_of hx) h
theorem fDrawing : fsOf E.P 58 = some [(0, 3), (1, 56)] := by kernel_rfl
theorem nDrawing : E.P.cellsOf 58 = 2 := by kernel_rfl
theorem drw_of {n : Nat} {c : List Value} (h : Wt E.P n 58 c) : ∃ v : (Int × List Ph), c = [.int .i64 v.1, lst false (phR.vals v.2)] ∧ ∀ a ∈ v.2, PhOk a := by
 obtain ⟨hl, hf⟩ := wt_struct fDrawing h
 rw [nDrawing] at hl
 obtain ⟨a0, c, rfl⟩ := List.exists_cons_of_length_eq_add_one hl; have hl := Nat.succ.inj hl
 obtain ⟨a1, c, rfl⟩ := List.exists_cons_of_length_eq_add_one hl; have hl := Nat.succ.inj hl
 obtain rfl := List.eq_nil_of_length_eq_zero hl
 obtain ⟨m0, q0⟩ := hf (0, 3) (by simp)
 replace q0 : Wt E.P m0 3 [a0] := by simpa [nint] using q0
 obtain ⟨m1, q1⟩ := hf (1, 56) (by simp)
 replace q1 : Wt E.P m1 56 [a1] := by simpa [nLPhase] using q1
 obtain ⟨v0, e, h0⟩ := wt_int ui q0; obtain rfl := List.singleton_inj.1 e
 obtain ⟨v1, e, h1, g1⟩ := phs_of q1; obtain rfl := List.singleton_inj.1 e
 exact ⟨⟨v0, v1⟩, rfl, g1⟩
theorem fRight : fsOf E.P 60 = some [(0, 3), (1, 3), (2, 58), (4, 3), (5, 3), (6, 4)] := by kernel_rfl
theorem nRight : E.P.cellsOf 60 = 7 := by kernel_rfl
theorem gRight : aggT E.P 60 = some true := by kernel_rfl
theorem rt_of {n : Nat} {c : List Value} (h : Wt E.P n 60 c) : ∃ v : Rt, c = rtR.enc v ∧ RtOk v := by
 obtain ⟨hl, hf⟩ := wt_struct fRight h
 rw [nRight] at hl
 obtain ⟨a0, c, rfl⟩ := List.exists_cons_of_length_eq_add_one hl; have hl := Nat.succ.inj hl
 obtain ⟨a1, c, rfl⟩ := List.exists_cons_of_length_eq_add_one hl; have hl := Nat.succ.inj hl
 obtain ⟨a2, c, rfl⟩ := List.exists_cons_of_length_eq_add_one hl; have hl := Nat.succ.inj hl
 obtain ⟨a3, c, rfl⟩ := List.exists_cons_of_length_eq_add_one hl; have hl := Nat.succ.inj hl
 obtain ⟨a4, c, rfl⟩ := List.exists_cons_of_length_eq_add_one hl; have hl := Nat.succ.inj hl
 obtain ⟨a5, c, rfl⟩ := List.exists_cons_of_length_eq_add_one hl; have hl := Nat.succ.inj hl
 obtain ⟨a6, c, rfl⟩ := List.exists_cons_of_length_eq_add_one hl; have hl := Nat.succ.inj hl
 obtain rfl := List.eq_nil_of_length_eq_zero hl
 obtain ⟨m0, q0⟩ := hf (0, 3) (by simp)
 replace q0 : Wt E.P m0 3 [a0] := by simpa [nint] using q0
 obtain ⟨m1, q1⟩ := hf (1, 3) (by simp)
 replace q1 : Wt E.P m1 3 [a1] := by simpa [nint] using q1
 obtain ⟨m2, q2⟩ := hf (2, 58) (by simp)
 replace q2 : Wt E.P m2 58 [a2, a3] := by simpa [nDrawing] using q2
 obtain ⟨m3, q3⟩ := hf (4, 3) (by simp)
 replace q3 : Wt E.P m3 3 [a4] := by simpa [nint] using q3
 obtain ⟨m4, q4⟩ := hf (5, 3) (by simp)
 replace q4 : Wt E.P m4 3 [a5] := by simpa [nint] using q4
 obtain ⟨m5, q5⟩ := hf (6, 4) (by simp)
 replace q5 : Wt E.P m5 4 [a6] := by simpa [nbool] using q5
 obtain ⟨v0, e, h0⟩ := wt_int ui q0; obtain rfl := List.singleton_inj.1 e
 obtain ⟨v1, e, h1⟩ := wt_int ui q1; obtain rfl := List.singleton_inj.1 e
 obtain ⟨v2, e, g2⟩ := drw_of q2
 simp only [List.cons.injEq, List.cons.injEq, and_true] at e; obtain ⟨rfl, rfl⟩ := e
 obtain ⟨v3, e, h3⟩ := wt_int ui q3; obtain rfl := List.singleton_inj.1 e
 obtain ⟨v4, e, h4⟩ := wt_int ui q4; obtain rfl := List.singleton_inj.1 e
 obtain ⟨v5, e⟩ := wt_bool uB' q5; obtain rfl := List.singleton_inj.1 e
 exact ⟨⟨v0, v1, v2.1, some false, v2.2, v3, v4, v5⟩, rfl, ⟨Rec.ok_some, g2⟩⟩
theorem rts_of {n : Nat} {c : List Value} (h : Wt E.P n 38 c) : ∃ l : List Rt, c = [lst false (rtR.vals l)] ∧ l.length ≤ maxLen ∧ ∀ a ∈ l, (RtOk) a :=
 recs_of rtR (Q := RtOk) uLRight gRight (fun _m _x hx => rt_of hx) h
theorem fTable : fsOf E.P 80 = some [(0, 9), (1, 35), (2, 3)] := by kernel_rfl
theorem nTable : E.P.cellsOf 80 = 3 := by kernel_rfl
theorem gTable : aggT E.P 80 = some true := by kernel_rfl
theorem tb_of {n : Nat} {c : List Value} (h : Wt E.P n 80 c) : ∃ v : Tb, c = tbR.enc v ∧ Rec.Ok v.kr v.rs := by
 obtain ⟨hl, hf⟩ := wt_struct fTable h
 rw [nTable] at hl
 obtain ⟨a0, c, rfl⟩ := List.exists_cons_of_length_eq_add_one hl; have hl := Nat.succ.inj hl
 obtain ⟨a1, c, rfl⟩ := List.exists_cons_of_length_eq_add_one hl; have hl := Nat.succ.inj hl
 obtain ⟨a2, c, rfl⟩ := List.exists_cons_of_length_eq_add_one hl; have hl := Nat.succ.inj hl
 obtain rfl := List.eq_nil_of_length_eq_zero hl
 obtain ⟨m0, q0⟩ := hf (0, 9) (by simp)
 replace q0 : Wt E.P m0 9 [a0] := by simpa [nstring] using q0
 obtain ⟨m1, q1⟩ := hf (1, 35) (by simp)
 replace q1 : Wt E.P m1 35 [a1] := by simpa [nLEntry] using q1
 obtain ⟨m2, q2⟩ := hf (2, 3) (by simp)
 replace q2 : Wt E.P m2 3 [a2] := by simpa [nint] using q2
 obtain ⟨v0, e, h0⟩ := wt_str uSt q0; obtain rfl := List.singleton_inj.1 e
 obtain ⟨v1, e, h1, g1⟩ := ents_of q1; obtain rfl := List.singleton_inj.1 e
 obtain ⟨v2, e, h2⟩ := wt_int ui q2; obtain rfl := List.singleton_inj.1 e
 exact ⟨⟨v0, some false, v1, v2⟩, rfl, Rec.ok_some⟩
theorem tbs_of {n : Nat} {c : List Value} (h : Wt E.P n 23 c) : ∃ l : List Tb, c = [lst false (tbR.vals l)] ∧ l.length ≤ maxLen ∧ ∀ a ∈ l, (fun v => Rec.Ok v.kr v.rs) a :=
 recs_of tbR (Q := fun v => Rec.Ok v.kr v.rs) uLTable gTable (fun _m _x hx => tb_of hx) h
theorem fPlan : fsOf E.P 30 = some [(0, 22), (1, 23), (2, 24), (3, 25), (4, 26), (5, 27), (6, 28), (7, 3)] := by kernel_rfl
theorem nPlan : E.P.cellsOf 30 = 8 := by kernel_rfl
theorem pn_of {n : Nat} {c : List Value} (h : Wt E.P n 30 c) : ∃ v : Pn, c = pnC v ∧ v.ts.length ≤ maxLen ∧ Rec.Ok v.kt v.ts ∧ ∀ b ∈ v.ts, Rec.Ok b.kr b.rs := by
 obtain ⟨hl, hf⟩ := wt_struct fPlan h
 rw [nPlan] at hl
 obtain ⟨a0, c, rfl⟩ := List.exists_cons_of_length_eq_add_one hl; have hl := Nat.succ.inj hl
 obtain ⟨a1, c, rfl⟩ := List.exists_cons_of_length_eq_add_one hl; have hl := Nat.succ.inj hl
 obtain ⟨a2, c, rfl⟩ := List.exists_cons_of_length_eq_add_one hl; have hl := Nat.succ.inj hl
 obtain ⟨a3, c, rfl⟩ := List.exists_cons_of_length_eq_add_one hl; have hl := Nat.succ.inj hl
 obtain ⟨a4, c, rfl⟩ := List.exists_cons_of_length_eq_add_one hl; have hl := Nat.succ.inj hl
 obtain ⟨a5, c, rfl⟩ := List.exists_cons_of_length_eq_add_one hl; have hl := Nat.succ.inj hl
 obtain ⟨a6, c, rfl⟩ := List.exists_cons_of_length_eq_add_one hl; have hl := Nat.succ.inj hl
 obtain ⟨a7, c, rfl⟩ := List.exists_cons_of_length_eq_add_one hl; have hl := Nat.succ.inj hl
 obtain rfl := List.eq_nil_of_length_eq_zero hl
 obtain ⟨m0, q0⟩ := hf (0, 22) (by simp)
 replace q0 : Wt E.P m0 22 [a0] := by simpa [nLDef] using q0
 obtain ⟨m1, q1⟩ := hf (1, 23) (by simp)
 replace q1 : Wt E.P m1 23 [a1] := by simpa [nLTable] using q1
 obtain ⟨m2, q2⟩ := hf (2, 24) (by simp)
 replace q2 : Wt E.P m2 24 [a2] := by simpa [nLZone] using q2
 obtain ⟨m3, q3⟩ := hf (3, 25) (by simp)
 replace q3 : Wt E.P m3 25 [a3] := by simpa [nLRule] using q3
 obtain ⟨m4, q4⟩ := hf (4, 26) (by simp)
 replace q4 : Wt E.P m4 26 [a4] := by simpa [nLCap] using q4
 obtain ⟨m5, q5⟩ := hf (5, 27) (by simp)
 replace q5 : Wt E.P m5 27 [a5] := by simpa [nLView] using q5
 obtain ⟨m6, q6⟩ := hf (6, 28) (by simp)
 replace q6 : Wt E.P m6 28 [a6] := by simpa [nLPoint3] using q6
 obtain ⟨m7, q7⟩ := hf (7, 3) (by simp)
 replace q7 : Wt E.P m7 3 [a7] := by simpa [nint] using q7
 obtain ⟨v0, e, h0⟩ := wt_list uLDef q0; obtain rfl := List.singleton_inj.1 e
 obtain ⟨v1, e, h1, g1⟩ := tbs_of q1; obtain rfl := List.singleton_inj.1 e
 obtain ⟨v2, e, h2⟩ := wt_list uLZone q2; obtain rfl := List.singleton_inj.1 e
 obtain ⟨v3, e, h3⟩ := wt_list uLRule q3; obtain rfl := List.singleton_inj.1 e
 obtain ⟨v4, e, h4⟩ := wt_list uLCap q4; obtain rfl := List.singleton_inj.1 e
 obtain ⟨v5, e, h5⟩ := wt_list uLView q5; obtain rfl := List.singleton_inj.1 e
 obtain ⟨v6, e, h6⟩ := wt_list uLPoint3 q6; obtain rfl := List.singleton_inj.1 e
 obtain ⟨v7, e, h7⟩ := wt_int ui q7; obtain rfl := List.singleton_inj.1 e
 exact ⟨⟨some (false, v0), some false, v1, some (false, v2), some (false, v3), some (false, v4), some (false, v5), some (false, v6), v7⟩, rfl, h1, Rec.ok_some, g1⟩
theorem fTown : fsOf E.P 37 = some [(0, 30), (8, 31), (9, 32), (10, 33), (11, 34), (12, 35)] := by kernel_rfl
theorem nTown : E.P.cellsOf 37 = 13 := by kernel_rfl
theorem gTown : aggT E.P 37 = some true := by kernel_rfl
theorem tw_of {n : Nat} {c : List Value} (h : Wt E.P n 37 c) : ∃ v : Tw, c = twC v ∧ v.p.ts.length ≤ maxLen ∧ TwOk v := by
 obtain ⟨hl, hf⟩ := wt_struct fTown h
 rw [nTown] at hl
 obtain ⟨a0, c, rfl⟩ := List.exists_cons_of_length_eq_add_one hl; have hl := Nat.succ.inj hl
 obtain ⟨a1, c, rfl⟩ := List.exists_cons_of_length_eq_add_one hl; have hl := Nat.succ.inj hl
 obtain ⟨a2, c, rfl⟩ := List.exists_cons_of_length_eq_add_one hl; have hl := Nat.succ.inj hl
 obtain ⟨a3, c, rfl⟩ := List.exists_cons_of_length_eq_add_one hl; have hl := Nat.succ.inj hl
 obtain ⟨a4, c, rfl⟩ := List.exists_cons_of_length_eq_add_one hl; have hl := Nat.succ.inj hl
 obtain ⟨a5, c, rfl⟩ := List.exists_cons_of_length_eq_add_one hl; have hl := Nat.succ.inj hl
 obtain ⟨a6, c, rfl⟩ := List.exists_cons_of_length_eq_add_one hl; have hl := Nat.succ.inj hl
 obtain ⟨a7, c, rfl⟩ := List.exists_cons_of_length_eq_add_one hl; have hl := Nat.succ.inj hl
 obtain ⟨a8, c, rfl⟩ := List.exists_cons_of_length_eq_add_one hl; have hl := Nat.succ.inj hl
 obtain ⟨a9, c, rfl⟩ := List.exists_cons_of_length_eq_add_one hl; have hl := Nat.succ.inj hl
 obtain ⟨a10, c, rfl⟩ := List.exists_cons_of_length_eq_add_one hl; have hl := Nat.succ.inj hl
 obtain ⟨a11, c, rfl⟩ := List.exists_cons_of_length_eq_add_one hl; have hl := Nat.succ.inj hl
 obtain ⟨a12, c, rfl⟩ := List.exists_cons_of_length_eq_add_one hl; have hl := Nat.succ.inj hl
 obtain rfl := List.eq_nil_of_length_eq_zero hl
 obtain ⟨m0, q0⟩ := hf (0, 30) (by simp)
 replace q0 : Wt E.P m0 30 [a0, a1, a2, a3, a4, a5, a6, a7] := by simpa [nPlan] using q0
 obtain ⟨m1, q1⟩ := hf (8, 31) (by simp)
 replace q1 : Wt E.P m1 31 [a8] := by simpa [nLLot] using q1
 obtain ⟨m2, q2⟩ := hf (9, 32) (by simp)
 replace q2 : Wt E.P m2 32 [a9] := by simpa [nLEasement] using q2
 obtain ⟨m3, q3⟩ := hf (10, 33) (by simp)
 replace q3 : Wt E.P m3 33 [a10] := by simpa [nLWindow] using q3
 obtain ⟨m4, q4⟩ := hf (11, 34) (by simp)
 replace q4 : Wt E.P m4 34 [a11] := by simpa [nLPlaced] using q4
 obtain ⟨m5, q5⟩ := hf (12, 35) (by simp)
 replace q5 : Wt E.P m5 35 [a12] := by simpa [nLEntry] using q5
 obtain ⟨v0, e, g0⟩ := pn_of q0
 simp only [pnC, List.cons.injEq, and_true] at e; obtain ⟨rfl, rfl, rfl, rfl, rfl, rfl, rfl, rfl⟩ := e
 obtain ⟨v1, e, h1⟩ := wt_list uLLot q1; obtain rfl := List.singleton_inj.1 e
 obtain ⟨v2, e, h2⟩ := wt_list uLEasement q2; obtain rfl := List.singleton_inj.1 e
 obtain ⟨v3, e, h3⟩ := wt_list uLWindow q3; obtain rfl := List.singleton_inj.1 e
 obtain ⟨v4, e, h4, g4⟩ := pds_of q4; obtain rfl := List.singleton_inj.1 e
 obtain ⟨v5, e, h5, g5⟩ := ents_of q5; obtain rfl := List.singleton_inj.1 e
 exact ⟨⟨v0, some (false, v1), some (false, v2), some (false, v3), some false, v4, some false, v5⟩, rfl, g0.1, ⟨g0.2.1, g0.2.2, Rec.ok_some, Rec.ok_some⟩⟩
theorem fPoint : fsOf E.P 67 = some [(0, 3), (1, 3)] := by kernel_rfl
theorem nPoint : E.P.cellsOf 67 = 2 := by kernel_rfl
theorem gPoint : aggT E.P 67 = some true := by kernel_rfl
theorem pt_of {n : Nat} {c : List Value} (h : Wt E.P n 67 c) : ∃ v : (Int × Int), c = spanR.enc v := by
 obtain ⟨hl, hf⟩ := wt_struct fPoint h
 rw [nPoint] at hl
 obtain ⟨a0, c, rfl⟩ := List.exists_cons_of_length_eq_add_one hl; have hl := Nat.succ.inj hl
 obtain ⟨a1, c, rfl⟩ := List.exists_cons_of_length_eq_add_one hl; have hl := Nat.succ.inj hl
 obtain rfl := List.eq_nil_of_length_eq_zero hl
 obtain ⟨m0, q0⟩ := hf (0, 3) (by simp)
 replace q0 : Wt E.P m0 3 [a0] := by simpa [nint] using q0
 obtain ⟨m1, q1⟩ := hf (1, 3) (by simp)
 replace q1 : Wt E.P m1 3 [a1] := by simpa [nint] using q1
 obtain ⟨v0, e, h0⟩ := wt_int ui q0; obtain rfl := List.singleton_inj.1 e
 obtain ⟨v1, e, h1⟩ := wt_int ui q1; obtain rfl := List.singleton_inj.1 e
 exact ⟨⟨v0, v1⟩, rfl⟩
theorem pts_of {n : Nat} {c : List Value} (h : Wt E.P n 39 c) : ∃ l : List (Int × Int), c = [lst false (spanR.vals l)] ∧ l.length ≤ maxLen ∧ ∀ a ∈ l, (fun _ => True) a :=
 recs_of spanR (Q := fun _ => True) uLPoint gPoint (fun _m _x hx => (pt_of hx).imp fun _a h => ⟨h, trivial⟩) h
theorem fCap : fsOf E.P 41 = some [(0, 9), (1, 3), (2, 3), (3, 39)] := by kernel_rfl
theorem nCap : E.P.cellsOf 41 = 4 := by kernel_rfl
theorem gCap : aggT E.P 41 = some true := by kernel_rfl
theorem cc_of {n : Nat} {c : List Value} (h : Wt E.P n 41 c) : ∃ v : Cc, c = ccC v ∧ i64ok v.lim := by
 obtain ⟨hl, hf⟩ := wt_struct fCap h
 rw [nCap] at hl
 obtain ⟨a0, c, rfl⟩ := List.exists_cons_of_length_eq_add_one hl; have hl := Nat.succ.inj hl
 obtain ⟨a1, c, rfl⟩ := List.exists_cons_of_length_eq_add_one hl; have hl := Nat.succ.inj hl
 obtain ⟨a2, c, rfl⟩ := List.exists_cons_of_length_eq_add_one hl; have hl := Nat.succ.inj hl
 obtain ⟨a3, c, rfl⟩ := List.exists_cons_of_length_eq_add_one hl; have hl := Nat.succ.inj hl
 obtain rfl := List.eq_nil_of_length_eq_zero hl
 obtain ⟨m0, q0⟩ := hf (0, 9) (by simp)
 replace q0 : Wt E.P m0 9 [a0] := by simpa [nstring] using q0
 obtain ⟨m1, q1⟩ := hf (1, 3) (by simp)
 replace q1 : Wt E.P m1 3 [a1] := by simpa [nint] using q1
 obtain ⟨m2, q2⟩ := hf (2, 3) (by simp)
 replace q2 : Wt E.P m2 3 [a2] := by simpa [nint] using q2
 obtain ⟨m3, q3⟩ := hf (3, 39) (by simp)
 replace q3 : Wt E.P m3 39 [a3] := by simpa [nLPoint] using q3
 obtain ⟨v0, e, h0⟩ := wt_str uSt q0; obtain rfl := List.singleton_inj.1 e
 obtain ⟨v1, e, h1⟩ := wt_int ui q1; obtain rfl := List.singleton_inj.1 e
 obtain ⟨v2, e, h2⟩ := wt_int ui q2; obtain rfl := List.singleton_inj.1 e
 obtain ⟨v3, e, h3, g3⟩ := pts_of q3; obtain rfl := List.singleton_inj.1 e
 exact ⟨⟨v0, v1, v2, false, v3⟩, rfl, i64_wf h2⟩
theorem ints_of {n : Nat} {c : List Value} (h : Wt E.P n 42 c) : ∃ l : List Int, c = [lst false (intE.vals l)] ∧ l.length ≤ maxLen ∧ ∀ a ∈ l, True := by
 obtain ⟨l, rfl, h1, h2⟩ := wt_ints uLint ui h
 exact ⟨l, rfl, h1, fun _ _ => trivial⟩
theorem fPeak : fsOf E.P 44 = some [(0, 9), (1, 3), (2, 42)] := by kernel_rfl
theorem nPeak : E.P.cellsOf 44 = 3 := by kernel_rfl
theorem gPeak : aggT E.P 44 = some true := by kernel_rfl
theorem pk_of {n : Nat} {c : List Value} (h : Wt E.P n 44 c) : ∃ v : Pk, c = pkC v ∧ Enc.Ok v.kt v.tops ∧ v.tops.length ≤ maxLen := by
 obtain ⟨hl, hf⟩ := wt_struct fPeak h
 rw [nPeak] at hl
 obtain ⟨a0, c, rfl⟩ := List.exists_cons_of_length_eq_add_one hl; have hl := Nat.succ.inj hl
 obtain ⟨a1, c, rfl⟩ := List.exists_cons_of_length_eq_add_one hl; have hl := Nat.succ.inj hl
 obtain ⟨a2, c, rfl⟩ := List.exists_cons_of_length_eq_add_one hl; have hl := Nat.succ.inj hl
 obtain rfl := List.eq_nil_of_length_eq_zero hl
 obtain ⟨m0, q0⟩ := hf (0, 9) (by simp)
 replace q0 : Wt E.P m0 9 [a0] := by simpa [nstring] using q0
 obtain ⟨m1, q1⟩ := hf (1, 3) (by simp)
 replace q1 : Wt E.P m1 3 [a1] := by simpa [nint] using q1
 obtain ⟨m2, q2⟩ := hf (2, 42) (by simp)
 replace q2 : Wt E.P m2 42 [a2] := by simpa [nLint] using q2
 obtain ⟨v0, e, h0⟩ := wt_str uSt q0; obtain rfl := List.singleton_inj.1 e
 obtain ⟨v1, e, h1⟩ := wt_int ui q1; obtain rfl := List.singleton_inj.1 e
 obtain ⟨v2, e, h2, g2⟩ := ints_of q2; obtain rfl := List.singleton_inj.1 e
 exact ⟨⟨v0, v1, some false, v2⟩, rfl, Enc.ok_some, h2⟩
theorem townV {n : Nat} {c : List Value} (h : Wt E.P n 37 c) : ∃ t : Tw, elemV E.P 37 c = twV t ∧ t.p.ts.length ≤ maxLen ∧ TwOk t := by
 obtain ⟨t, rfl, k⟩ := tw_of h
 exact ⟨t, by simp only [elemV, gTown, if_true]; rfl, k⟩
theorem rightsV {n : Nat} {c : List Value} (h : Wt E.P n 38 c) : ∃ l : List Rt, elemV E.P 38 c = lst false (rtR.vals l) ∧ l.length ≤ maxLen ∧ ∀ r ∈ l, RtOk r := by
 obtain ⟨l, rfl, h1, h2⟩ := rts_of h
 exact ⟨l, by simp [elemV, gLRight], h1, h2⟩
theorem capV {n : Nat} {c : List Value} (h : Wt E.P n 41 c) : ∃ k : Cc, elemV E.P 41 c = ccV k ∧ i64ok k.lim := by
 obtain ⟨t, rfl, k⟩ := cc_of h
 exact ⟨t, by simp only [elemV, gCap, if_true]; rfl, k⟩
theorem peakV {n : Nat} {c : List Value} (h : Wt E.P n 44 c) : ∃ k : Pk, elemV E.P 44 c = pkV k ∧ Enc.Ok k.kt k.tops ∧ k.tops.length ≤ maxLen := by
 obtain ⟨t, rfl, k⟩ := pk_of h
 exact ⟨t, by simp only [elemV, gPeak, if_true]; rfl, k⟩
theorem gint : aggT E.P 3 = some false := by kernel_rfl
theorem intV {n : Nat} {c : List Value} (h : Wt E.P n 3 c) : ∃ z : Int, elemV E.P 3 c = .int .i64 z ∧ i64ok z := by
 obtain ⟨z, rfl, hz⟩ := wt_int ui h
 exact ⟨z, by simp [elemV, gint], i64_wf hz⟩
theorem orcE : OrcSound E := by
 have h00 : ∀ f, E0.orc f = none := fun _ => rfl
 have key : ∀ g k, E.orc g = some k → (∃ F N, k = inG F N ∧ SortCon E.P g F N) ∨ (k = cloG E0 g ∧ CloCon E.P g) := fun g k h => by
  rw [E_orc] at h
  by_cases h0 : g = 73
  ·subst h0; simp at h; exact .inr ⟨h.symm, conCloVol⟩
  by_cases h4 : g = 74
  ·subst h4; simp at h; exact .inr ⟨h.symm, conCloEnt⟩
  by_cases h1 : g = 54
  ·subst h1; simp at h; exact .inl ⟨_, _, h.symm, conSort⟩
  by_cases h2 : g = 55
  ·subst h2; simp at h; exact .inl ⟨_, _, h.symm, conComp⟩
  simp only [h0, h1, h2, h4, if_false] at h; cases h
 refine ⟨fun g k hg args h lo r _ => ?_, fun g k hg args h lo v h' hr hlo B M w args' hs hv => ?_, fun g k hg args h lo v h' hr hlo => ?_⟩
 ·rcases key g k hg with ⟨F, N, _, hC⟩ | ⟨_, hC⟩
  ·exact hC.dfd
  ·exact hC.dfd
 ·rcases key g k hg with ⟨F, N, rfl, hC⟩ | ⟨rfl, hC⟩
  ·exact in_sound hC hr hlo args' hs hv
  ·exact cloG_sound (E₀ := E0) okE rfl rfl h00 hC hr hlo args' hs hv
 ·rcases key g k hg with ⟨F, N, rfl, _⟩ | ⟨rfl, _⟩
  ·exact inG_keep hr
  ·exact cloG_keep h00 hr hlo
end Go.Proofs.YtjkemccfcabhgaaGreat.Bm
namespace Go.Proofs.YtjkemccfcabhgaaGreat.Bm
open Go Go.RowKit
open Rg (Rect Pt)
open Cw (limited limited_in top)
def homeV (a u : Int) : Vo := ⟨⟨a, a, a + 1, a + 1⟩, 0, 3, 0, u, false⟩
set_option maxRecDepth 100000 in
theorem home1 : pureCall E.P (L E) 21 [.int .i64 1, .int .i64 3] = some (volR.val (homeV 1 3)) := pureCall_le (evF_L 20) (by kernel_rfl)
set_option maxRecDepth 100000 in
theorem home3 : pureCall E.P (L E) 21 [.int .i64 3, .int .i64 4] = some (volR.val (homeV 3 4)) := pureCall_le (evF_L 20) (by kernel_rfl)
set_option maxRecDepth 100000 in
theorem home5 : pureCall E.P (L E) 21 [.int .i64 5, .int .i64 6] = some (volR.val (homeV 5 6)) := pureCall_le (evF_L 20) (by kernel_rfl)
def nC : ByteArray := ⟨⟨[99]⟩⟩
def nD : ByteArray := ⟨⟨[100]⟩⟩
def cS : Cc := ⟨nC, 0, 10, true, [(0, 0), (9, 0), (9, 9), (0, 9)]⟩
def pS : Pn := ⟨none, none, [], none, none, none, none, none, 0⟩
def tS : Tw := ⟨pS, none, none, none, some true, [⟨1, homeV 1 3⟩], some true, [(nC, 2), (nD, 90)]⟩
def f1 : Ph := ⟨some true, [homeV 3 4], none, []⟩
def f2 : Ph := ⟨none, [], some true, [(nC, 5)]⟩
def f3 : Ph := ⟨some true, [homeV 5 6], none, []⟩
def rS : Rt := ⟨1, 0, 0, some true, [f1, f2, f3], 0, 0, false⟩
theorem v_load : loadT32 tS cS = 5 := by kernel_rfl
theorem v_f1 : phaseL tS.p.ts cS f1 = 4 := by kernel_rfl
theorem v_f2 : phaseL tS.p.ts cS f2 = -5 := by kernel_rfl
theorem v_f3 : phaseL tS.p.ts cS f3 = 6 := by kernel_rfl
theorem v_top : topR tS.p.ts cS rS = 5 := by
 have e : loadsR tS.p.ts cS rS = [4, -5, 6] := by
  show [phaseL tS.p.ts cS f1, phaseL tS.p.ts cS f2, phaseL tS.p.ts cS f3] = _
  rw [v_f1, v_f2, v_f3]
 unfold topR
 rw [e]; rfl
def eqG {α : Type} [DecidableEq α] (a b : List α) : Bool := decide (a = b)
theorem eqG_cons {α : Type} [DecidableEq α] {a b : α} {x y : List α} : eqG (a :: x) (b :: y) = (decide (a = b) && eqG x y) := by
 unfold eqG; simp only [List.cons.injEq, Bool.decide_and]
set_option maxHeartbeats 1000000 in
theorem equalI_spec (k m : Option Bool) (l r : List Int) (hk : Enc.Ok k l) (hm : Enc.Ok m r) (hl : l.length ≤ 9223372036854775807) : pureCall E.P (L E) 32 [intE.o k l, intE.o m r] = some (.bool (decide (l = r))) := by
 have ll := fun h => Enc.o_len (O := intE) (h := h) hk
 have lr := fun h => Enc.o_len (O := intE) (h := h) hm
 have il := fun (i : Nat) (hi : i < l.length) => Enc.index_o (O := intE) (t := 3) (k := .i64) hk hi
 have ir := fun (i : Nat) (hi : i < r.length) => Enc.index_o (O := intE) (t := 3) (k := .i64) hm hi
 generalize intE.o k l = VL at *
 generalize intE.o m r = VR at *
 rw [pureCall_fn F32 rfl]
 by_cases hlen : l.length = r.length
 ·simp -implicitDefEqProofs [r32, p32, ll, lr, hlen]
  rw [LL_for (γ := Unit) l () (fun i _ => [(13, .int .i64 i)]) (fun _ _ => []) (fun i rest _ => if eqG rest (r.drop i) then (.exit 0, [(13, undef)], []) else (.ret, [(4, .bool false), (13, undef)], [])) (fun _ _ => True) hl trivial]
  ·rw [List.drop_zero]
   by_cases q : l = r
   ·subst q
    have h : eqG l l = true := decide_eq_true rfl
    simp -implicitDefEqProofs [k32_4, h]
   ·have h : eqG l r = false := decide_eq_false q
    simp -implicitDefEqProofs [k32_4, h, q]
  ·simp -implicitDefEqProofs [k32_4]
  ·rfl
  ·intro nx i c hi _
   have hd0 : eqG [] (r.drop i) = true := by rw [List.drop_eq_nil_of_le (by omega)]; rfl
   rw [hd0]
   simp -implicitDefEqProofs [r32_4, k32_4, hi, hlen, trim_le]
  ·intro nx i v rest c hi hv hd hw _ ih
   have ih := ih () trivial
   have hi' : i < r.length := by omega
   have x1 := il i hi
   have x2 := ir i hi'
   rw [hv] at x1
   have hrd : r.drop i = r[i] :: r.drop (i + 1) := List.drop_eq_getElem_cons hi'
   rw [hrd, eqG_cons]
   simp -implicitDefEqProofs [k32_4] at ih
   by_cases he : v = r[i]
   ·rw [← he] at x2
    simp -implicitDefEqProofs [r32_4, k32_4, hi', x1, x2, hw, ← he, trim_le, iE]
    with_reducible exact ih
   ·simp -implicitDefEqProofs [r32_4, k32_4, hi', x1, x2, he, trim_le, iE]
 ·have : ¬ l = r := fun e => hlen (by rw [e])
  have hlen' : ¬ ((l.length : Int) = r.length) := by omega
  simp -implicitDefEqProofs [r32, p32, ll, lr, hlen', this]
def chkV (t : Tw) (c : Cc) (l : List Rt) (k : Pk) : Int := if k.nm = c.nm ∧ k.base = loadT32 t c ∧ k.tops = topsR t c l then 0 else 19
set_option maxHeartbeats 1000000 in
theorem check_spec32 (t : Tw) (ht : TwFew t) (c : Cc) (hc : c.cs.length ≤ 1000000) (k : Option Bool) (l : List Rt) (hl : RsFew k l) (q : Pk) (hq : Enc.Ok q.kt q.tops) (hqn : q.tops.length ≤ 9223372036854775807) :
  pureCall E.P (L E) 15 [twV t, rtR.o k l, ccV c, pkV q] = some (.int .i64 (chkV t c l q)) := by
 have hpk := peak_spec t ht c hc k l hl
 have eT : l.map (topR t.p.ts c) = topsR t c l := rfl
 have eR : ∀ W : List Int, pkV ⟨c.nm, loadT32 t c, some false, W⟩ = .agg ⟨[.string c.nm, .int .i64 (loadT32 t c), intE.o (some false) W]⟩ := fun W => rfl
 have eQ : pkV q = .agg ⟨[.string q.nm, .int .i64 q.base, intE.o q.kt q.tops]⟩ := rfl
 rw [eT, eR] at hpk
 rw [eQ]
 have heq := equalI_spec q.kt (some false) q.tops (topsR t c l) hq Enc.ok_some hqn
 have rq : ∀ h, reify E.P 8 h (intE.o q.kt q.tops) = some (intE.o q.kt q.tops) := fun h => Enc.o_reify
 have rw_ : ∀ h, reify E.P 8 h (intE.o (some false) (topsR t c l)) = some (intE.o (some false) (topsR t c l)) := fun h => Enc.o_reify
 have st : settled depth (twV t) = true := twC_set t 6
 have sc : settled depth (ccV c) = true := rfl
 have sr : settled depth (rtR.o k l) = true := Rec.o_set
 rw [pureCall_fn F15 rfl]
 unfold chkV
 unfold ccV ccC twV twC at *
 generalize tbR.o t.p.kt t.p.ts = VT at *
 generalize pdR.o t.kb t.bs = VB at *
 generalize entR.o t.ke t.es = VE at *
 generalize rtR.o k l = VL at *
 generalize loadT32 t c = n0 at *
 generalize topsR t c l = W at *
 generalize intE.o (some false) W = VW at *
 generalize intE.o q.kt q.tops = VQ at *
 by_cases h1 : q.nm = c.nm
 case neg =>
  rw [if_neg (fun h => h1 h.1)]
  simp -implicitDefEqProofs [r15, p15, ret1 m8, hpk, st, sc, sr, h1]
  done
 by_cases h2 : q.base = n0
 case neg =>
  rw [if_neg (fun h => h2 h.2.1)]
  simp -implicitDefEqProofs [r15, p15, ret1 m8, hpk, st, sc, sr, h1, h2]
  done
 by_cases h3 : q.tops = W
 ·rw [if_pos ⟨h1, h2, h3⟩]
  rw [decide_eq_true h3] at heq
  simp -implicitDefEqProofs [r15, p15, ret1 m8, hpk, st, sc, sr, h1, h2, ret0 m32, rq, rw_, heq]
  done
 ·rw [if_neg (fun h => h3 h.2.2)]
  rw [decide_eq_false h3] at heq
  simp -implicitDefEqProofs [r15, p15, ret1 m8, hpk, st, sc, sr, h1, h2, ret0 m32, rq, rw_, heq]
  done
end Go.Proofs.YtjkemccfcabhgaaGreat.Bm
