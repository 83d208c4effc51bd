/-
 Chapter 19: the law about strings that Read accepts. Conditions: the string is not longer than a string can be.
-/
import Derived.Test.YtplebjehcgcdeaaGreatDoorQT26
import Derived.Test.YtplebjehcgcdeaaGreatDoorQT13
import Derived.Test.YtplebjehcgcdeaaGreatDoorQT16
namespace Go.Proofs.YtplebjehcgcdeaaGreatDoor.Bm
open Go Go.RowKit
open Dw (Vol Ent Phs Drw readF formB)
theorem strV {n : Nat} {c : List Value} (h : Wt E.P n 9 c) : ∃ l : List UInt8, elemV E.P 9 c = .string ⟨⟨l⟩⟩ ∧ l.length ≤ 9223372036854775807 := by
 obtain ⟨⟨⟨l⟩⟩, rfl, hs⟩ := wt_str (show E.P.underlying 9 = some .string by kernel_rfl) h
 have hg : aggT E.P 9 = some false := by kernel_rfl
 exact ⟨l, by simp [elemV, hg], hs⟩
theorem form_all {d : Drw} (h : formB d = true) : d.all.length ≤ 1000000 := by
 unfold formB at h
 simp only [Bool.and_eq_true, decide_eq_true_eq, List.all_eq_true] at h
 obtain ⟨⟨⟨⟨⟨⟨⟨_, _⟩, _⟩, _⟩, _⟩, h6⟩, _⟩, _⟩ := h
 omega
theorem form_gives {d : Drw} (h : formB d = true) : ∀ p ∈ d.phs, p.gives.length ≤ 1000000 ∧ ∀ e ∈ p.gives, e.1.length ≤ 1000000 := fun p hp => by
 obtain ⟨h1, h2⟩ := (Dw.form_fit h).gives p hp
 exact ⟨by omega, fun e he => (h2 e he).1⟩
theorem canonical_law (l : List UInt8) (hl : l.length ≤ 9223372036854775807) : ∃ h', L E 6 [.string ⟨⟨l⟩⟩] [] 0 = some (.bool true, h') := by
 have sm := small_pure
 have ls : ∀ h, lenT .str h (.string ⟨⟨l⟩⟩) = some (.int .i64 l.length) := fun h => rfl
 have sS : ∀ z, settled depth (.string z) = true := fun z => rfl
 rw [L_fn F6 rfl]
 by_cases c1 : l.length ≤ 4000
 case neg =>
  have c1' : 4000 < (l.length : Int) := by omega
  refine ⟨[], ?_⟩
  simp -implicitDefEqProofs [r6, p6, ret0 m11, sm, ls, c1']
 have c1' : ¬ 4000 < (l.length : Int) := by omega
 have rd := read_pure l (by omega)
 cases hr : readF formB l with
 | none =>
  rw [hr] at rd
  have rd : pureCall E.P (L E) 31 [.string ⟨⟨l⟩⟩] = some (.tuple #[.agg #[.int .i64 0, .slice none 0 0], .int .i64 2]) := rd
  have sa : pureCall E.P (L E) 30 [.agg #[.int .i64 0, .slice none 0 0], .agg #[.int .i64 0, .slice none 0 0]] = some (.bool true) :=
   same_pure (k := none) (m := none) ⟨0, []⟩ ⟨0, []⟩ (fun _ => rfl) (fun _ => rfl) (by decide) (by decide) (fun p hp => by cases hp) (fun p hp => by cases hp)
  have rz : ∀ h, reify E.P 8 h (.agg #[.int .i64 0, .slice none 0 0]) = some (.agg #[.int .i64 0, .slice none 0 0]) := fun h => rfl
  have bd : buildT (.fs ⟨[.int .i64 0, .slice none 0 0]⟩ ⟨[(0, 1), (1, 1)]⟩) #[] = some (.agg #[.int .i64 0, .slice none 0 0]) := by kernel_rfl
  refine ⟨[.cells tD [.int .i64 0, .slice none 0 0] 0], ?_⟩
  simp -implicitDefEqProofs [r6, p6, ret0 m11, sm, ls, c1', ret1 m31, sS, rd, ret0 m30, sa, rz, bd, -reify_agg]
 | some d =>
  rw [hr] at rd
  obtain ⟨hf, he⟩ := Dw.read_good hr
  have hfit := Dw.form_fit hf
  have by_ := bytes_pure (some false) d Rec.ok_some (by have := hfit.phs; omega) (form_all hf) (form_gives hf)
  have fo := form_pure (some false) d Rec.ok_some (by have := hfit.phs; omega) (form_all hf) (form_gives hf)
  unfold resB at by_
  rw [hf, if_pos rfl, ← he] at by_
  rw [hf] at fo
  have rd : pureCall E.P (L E) 31 [.string ⟨⟨l⟩⟩] = some (.tuple #[.agg #[.int .i64 d.lot, phR.o (some false) d.phs], .int .i64 0]) := rd
  have by_ : pureCall E.P (L E) 13 [.agg #[.int .i64 d.lot, phR.o (some false) d.phs]] = some (.tuple #[.string ⟨⟨l⟩⟩, .int .i64 0]) := by_
  have fo : pureCall E.P (L E) 21 [.agg #[.int .i64 d.lot, phR.o (some false) d.phs]] = some (.bool true) := fo
  have rz : ∀ h, reify E.P 8 h (.agg #[.int .i64 d.lot, phR.o (some false) d.phs]) = some (.agg #[.int .i64 d.lot, phR.o (some false) d.phs]) := fun h => by
   have hs : ([.int .i64 d.lot, phR.o (some false) d.phs] : List Value).all (settled 8) = true := by
    simp only [List.all_cons, List.all_nil, Bool.and_true, Bool.and_eq_true]
    exact ⟨rfl, Rec.o_set⟩
   show reify E.P 8 h (.agg ⟨[.int .i64 d.lot, phR.o (some false) d.phs]⟩) = _
   rw [reify_agg, reifyC_set hs]; rfl
  have o1 : one (phR.o (some false) d.phs) = true := Rec.o_one
  have oc : cellsOf (phR.o (some false) d.phs) = some [phR.o (some false) d.phs] := Rec.o_cellsOf
  generalize phR.o (some false) d.phs = D at *
  refine ⟨[.cells tD [.int .i64 d.lot, D] 0], ?_⟩
  simp -implicitDefEqProofs [r6, p6, ret0 m11, sm, ls, c1', ret1 m31, sS, rd, ret0 m13, by_, rz, ret0 m21, fo, -reify_agg]
end Go.Proofs.YtplebjehcgcdeaaGreatDoor.Bm
