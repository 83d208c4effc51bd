/-
  Arithmetic of the machine: masks, quotients, remainders. Conditions: none.
-/
import Derived.Test.YtgeebooalafepaaBmAll
namespace Go.Proofs.Ytgeebooalafepaa.Bm
open Go Go.RowKit

section
variable {P : Program} {t : TypeId}
theorem and_mask (z : Int) : ∃ m : Nat, m < 4611686018427387904 ∧ aBin P .and t (.int .i64 z) (.int .i64 4611686018427387903) = some (.int .i64 (m : Int)) := by
  have hle : ((BitVec.ofInt 64 z &&& BitVec.ofInt 64 4611686018427387903).toNat) ≤ 4611686018427387903 := by
    rw [BitVec.toNat_and]
    refine Nat.le_trans Nat.and_le_right ?_
    decide
  refine ⟨(BitVec.ofInt 64 z &&& BitVec.ofInt 64 4611686018427387903).toNat, by omega, ?_⟩
  show some (Value.int .i64 (IntKind.i64.wrap ((BitVec.ofInt 64 z &&& BitVec.ofInt 64 4611686018427387903).toNat : Int))) = _
  rw [wrap64 (by omega) (by omega)]
theorem rem_nat {m n : Nat} (hn : 0 < n) : aBin P .rem t (.int .i64 (m : Int)) (.int .i64 (n : Int)) = some (.int .i64 ((m % n : Nat) : Int)) := by
  show (if (n : Int) = 0 then none else some (Value.int .i64 ((m : Int).tmod n))) = _
  rw [if_neg (by omega), Int.tmod_eq_emod_of_nonneg (by omega)]
  rfl
theorem quo_nat {m n : Nat} (hn : 0 < n) (hm : m < 9223372036854775808) : aBin P .quo t (.int .i64 (m : Int)) (.int .i64 (n : Int)) = some (.int .i64 ((m / n : Nat) : Int)) := by
  show (if (n : Int) = 0 then none else some (Value.int .i64 (IntKind.i64.wrap ((m : Int).tdiv n)))) = _
  have h : (m : Int).tdiv n = ((m / n : Nat) : Int) := by rw [Int.tdiv_eq_ediv_of_nonneg (by omega)]; rfl
  have hle := Nat.div_le_self m n
  rw [if_neg (by omega), h]
  generalize m / n = q at *
  rw [wrap64 (by omega) (by omega)]
end

end Go.Proofs.Ytgeebooalafepaa.Bm
