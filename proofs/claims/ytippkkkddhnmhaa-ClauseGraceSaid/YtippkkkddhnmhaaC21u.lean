/-
  Chapter 21: the law on the days that may be chosen. Conditions: integers within their kinds.
-/
import Derived.Test.YtippkkkddhnmhaaC21w
import Derived.Test.YtippkkkddhnmhaaBmBlk
namespace Go.Proofs.Ytippkkkddhnmhaa.Bm
open Go Go.RowKit

/-! ### Plain -/

def causeB (zones : List ByteArray) (day d : Int) (r : Rule) : Bool := decide (r.fr = d + 1) && decide (day - r.fr < r.gr) && !applies zones d r
def begB (day d z : Int) : Bool := decide (d < z) && decide (z ≤ day)

theorem change_B {zones : List ByteArray} {day d : Int} {r : Rule} (hd : d ≤ day) (h1 : begB day d r.fr = false) (h2 : begB day d r.un = false) : applies zones d r = applies zones day r := by
  unfold begB at h1 h2
  unfold applies inForce
  have e1 : decide (r.fr ≤ d) = decide (r.fr ≤ day) := by
    apply decide_eq_decide.2
    simp only [Bool.and_eq_false_iff, decide_eq_false_iff_not] at h1
    omega
  have e2 : (decide (r.un = 0) || decide (d < r.un)) = (decide (r.un = 0) || decide (day < r.un)) := by
    have : decide (d < r.un) = decide (day < r.un) := by
      apply decide_eq_decide.2
      simp only [Bool.and_eq_false_iff, decide_eq_false_iff_not] at h2
      omega
    rw [this]
  rw [e1, e2]

theorem grace_at {zones : List ByteArray} {p : Plan} {day : Int} {L : List Int} (hL : L = daysL p day) {i : Nat} (h0 : 0 < i) (h : i < L.length) :
    0 ≤ L[i] ∧ L[i] < day ∧ L[i] < L[i - 1] ∧ memI L L[i] = true ∧ p.rules.any (causeB zones day L[i]) = true := by
  subst hL
  have hp := daysL_desc p day
  have hlt : (daysL p day)[i] < (daysL p day)[i - 1] := List.pairwise_iff_getElem.1 hp (i - 1) i (by omega) h (by omega)
  have hm : memI (daysL p day) (daysL p day)[i] = true := memI_mem.2 (List.getElem_mem h)
  have h00 : (daysL p day)[0]'(by omega) = day := by
    have e := days_greedy p day
    simp only [e, List.getElem_cons_zero]
  have hlt0 : (daysL p day)[i] < day := by
    have := List.pairwise_iff_getElem.1 hp 0 i (by omega) h h0
    omega
  have hn := (daysL_mem p day (daysL p day)[i]).1 (List.getElem_mem h)
  rcases hn with e | hn
  · omega
  · obtain ⟨r, hr, hb, e⟩ := newF_mem.1 hn
    have hb' := newB_pos hb
    refine ⟨by omega, by omega, hlt, hm, List.any_eq_true.2 ⟨r, hr, ?_⟩⟩
    unfold causeB applies inForce
    unfold newB at hb
    simp only [Bool.and_eq_true, decide_eq_true_eq] at hb
    have q1 : r.fr = (daysL p day)[i] + 1 := by omega
    have q2 : ¬ (r.fr ≤ (daysL p day)[i]) := by omega
    simp only [q1, decide_true, Bool.and_eq_true, Bool.not_eq_true', decide_eq_true_eq, decide_eq_false_iff_not, Bool.and_eq_false_iff]
    refine ⟨⟨trivial, by omega⟩, .inl (.inl (by omega))⟩

/-! ### The walk -/

theorem u4g : E.P.underlying 4 = some .bool := by kernel_rfl

set_option maxRecDepth 20000 in
theorem p4 {a0 a1 a2 : Value} : padS [a0, a1, a2] 208 = blk a0 a1 a2 undef undef undef undef undef undef undef undef undef undef undef undef undef (blk undef undef undef undef undef undef undef undef undef undef undef undef undef undef undef undef (blk undef undef undef undef undef undef undef undef undef undef undef undef undef undef undef undef (blk undef undef undef undef undef undef undef undef undef undef undef undef undef undef undef undef (blk undef undef undef undef undef undef undef undef undef undef undef undef undef undef undef undef (blk undef undef undef undef undef undef undef undef undef undef undef undef undef undef undef undef (blk undef undef undef undef undef undef undef undef undef undef undef undef undef undef undef undef (blk undef undef undef undef undef undef undef undef undef undef undef undef undef undef undef undef (blk undef undef undef undef undef undef undef undef undef undef undef undef undef undef undef undef (blk undef undef undef undef undef undef undef undef undef undef undef undef undef undef undef undef (blk undef undef undef undef undef undef undef undef undef undef undef undef undef undef undef undef (blk undef undef undef undef undef undef undef undef undef undef undef undef undef undef undef undef (blk undef undef undef undef undef undef undef undef undef undef undef undef undef undef undef undef ([]))))))))))))) := rfl

set_option maxRecDepth 20000 in
set_option maxHeartbeats 16000000 in
theorem grace_spec (x y : Bool) (p : Plan) (zones : List ByteArray) (day : Int) (hp : PlanOk p) (hz : zones.length ≤ maxLen) (hd : i64ok day) :
    ∃ h', L E 4 [p.val x, lst y (zones.map .string), .int .i64 day] [] 0 = some (.bool true, h') := by
  have few := few_spec x y p zones hp.len hp.names hz
  simp only [Plan.val, Plan.cells] at few
  rw [L_fn F4 rfl]
  cases hf : fewB p zones
  · rw [hf] at few
    simp -implicitDefEqProofs [r4, p4, Plan.val, Plan.cells, ret0 m8, small_spec, ret0 m9, few]
  · rw [hf] at few
    have h20 : p.rules.length ≤ 20 := by
      unfold fewB at hf
      simp at hf
      exact hf.1.1
    unfold i64ok at hd
    by_cases hneg : day < 0
    · simp -implicitDefEqProofs [r4, p4, Plan.val, Plan.cells, ret0 m8, small_spec, ret0 m9, few, hneg]
    · have a1 := fun d => apply_spec x y p zones d (by omega) hp.names hz
      have d1 := days_spec x p day (by omega) hd.2
      have m1 := fun c => may_spec x p day c (by omega) hd.2
      obtain ⟨L, eL⟩ : ∃ L, L = daysL p day := ⟨_, rfl⟩
      have hL := daysL_len p day
      have hg := fun i => grace_at (zones := zones) eL (i := i)
      have hin := fun (z : Int) => (daysL_mem p day z).2
      obtain ⟨Lt, hLt⟩ : ∃ Lt, daysL p day = day :: Lt := ⟨_, days_greedy p day⟩
      have lh := fun (l : List Int) (hl : l.length ≤ maxLen) (z : Int) => lhas_spec false l z hl
      have il := fun d => Nat.le_trans (applyF_len zones d p.rules 0) hp.len
      have at1 := fun d (i : Nat) (hi : i < p.rules.length) => memI_at zones d p.rules hi
      rw [← eL] at hL hin hLt d1 m1
      have hL0 : (L.map (Value.int .i64))[0]? = some (.int .i64 day) := by rw [hLt]; rfl
      have hL1 : ¬ ((L.length : Int) < 1) := by rw [hLt, List.length_cons]; omega
      have hLl : L.length ≤ maxLen := by unfold maxLen; omega
      simp only [Plan.val, Plan.cells] at a1 d1 m1
      simp -implicitDefEqProofs [r4, p4, Plan.val, Plan.cells, ret0 m8, small_spec, ret0 m9, few, hneg, ret1s m15, d1, ret1s m13, a1, hL1, hL0]
      rw [LL_rec (α := Nat) 1 (fun i => [(10, .int .i64 i)]) (fun _ => [.cells 30 (p.cells x) 0]) (fun _ => (.exit 0, [(10, undef)], [.cells 30 (p.cells x) 0])) (fun i => 1 ≤ i ∧ i ≤ L.length) (fun i => L.length - i)]
      · simp -implicitDefEqProofs [k4_9, Plan.cells]
        rw [LL_for (γ := Unit) p.rules () (fun i _ => [(17, .int .i64 i)]) (fun _ _ => [.cells 30 (p.cells x) 0]) (fun _ _ _ => (.exit 4, [(17, undef)], [.cells 30 (p.cells x) 0])) (fun _ _ => True) (by omega) trivial]
        · simp -implicitDefEqProofs [k4_25]
        · simp -implicitDefEqProofs [k4_25]
        · simp -implicitDefEqProofs [Plan.cells]
        · intro nx i _ hi _
          simp -implicitDefEqProofs [r4_25, k4_25, Plan.cells, hi, trim_le]
        · intro nx i r rest _ hi hr hdr hw _ ih
          have ih := ih () trivial
          simp -implicitDefEqProofs [k4_25, Plan.cells] at ih
          simp -implicitDefEqProofs [r4_25, k4_25, Plan.cells, hi, hr, Rule.val, Rule.cells]
          have hrr := hp.ints r (hr ▸ List.getElem_mem hi)
          unfold i64ok at hrr
          by_cases c1 : 1 ≤ r.fr
          · by_cases c2 : r.fr ≤ day
            · have w1 := wrap64 (z := day - r.fr) (by omega) (by omega)
              have w2 := wrap64 (z := r.fr - 1) (by omega) (by omega)
              by_cases c3 : day - r.fr < r.gr
              · have hm : memI L (r.fr - 1) = true := memI_mem.2 (hin _ (.inr (newF_mem.2 ⟨r, hr ▸ List.getElem_mem hi, by simp [newB, c1, c2, c3], rfl⟩)))
                have lh := lh L hLl (r.fr - 1)
                rw [hm] at lh
                simp -implicitDefEqProofs [c1, c2, c3, w1, w2, ret0 m19, lh, hw, trim_cut]
                exact ih
              · simp -implicitDefEqProofs [c1, c2, c3, w1, hw, trim_cut]
                exact ih
            · simp -implicitDefEqProofs [c1, c2, hw, trim_cut]
              exact ih
          · simp -implicitDefEqProofs [c1, hw, trim_cut]
            exact ih
      · exact ⟨Nat.le_refl _, by rw [hLt, List.length_cons]; omega⟩
      · simp -implicitDefEqProofs [k4_9]
      · simp -implicitDefEqProofs [Plan.cells]
      · intro nx i ⟨hi1, hi2⟩ ih
        simp only [k4_9] at ih
        by_cases hi : i < L.length
        · obtain ⟨g1, g2, g3, g4, g5⟩ := hg i (by omega) hi
          have ih := ih (i + 1) (by omega) ⟨by omega, by omega⟩
          have hw := wrap64 (z := (i : Int) + 1) (by omega) (by omega)
          have hw2 := wrap64 (z := (i : Int) - 1) (by omega) (by omega)
          have hn1 : ((i : Int) - 1).toNat = i - 1 := by omega
          have hn2 : (1 : Int) ≤ (i : Int) := by omega
          have m1 := m1 L[i]
          have a1d := a1 L[i]
          have hi' : i - 1 < L.length := by omega
          obtain ⟨d, hgi⟩ : ∃ d, L[i] = d := ⟨_, rfl⟩
          obtain ⟨dm, hgd⟩ : ∃ d, L[i - 1] = d := ⟨_, rfl⟩
          rw [hgi] at g1 g2 g3 g4 g5 m1 a1d
          rw [hgd] at g3
          have dd : ¬ dm ≤ d := by omega
          have d0 : ¬ d < 0 := by omega
          simp -implicitDefEqProofs [Plan.cells] at ih
          simp -implicitDefEqProofs [r4_9, k4_9, Plan.cells, hi, hgi, ret1s m13, a1d]
          rw [LL_for (γ := Bool) p.rules false (fun i c => [(12, .bool c), (13, .int .i64 i)]) (fun _ _ => [.cells 30 (p.cells x) 0]) (fun _ rest c => (.exit 2, [(12, .bool (c || rest.any (causeB zones day d))), (13, undef)], [.cells 30 (p.cells x) 0])) (fun _ _ => True) (by omega) trivial]
          · simp -implicitDefEqProofs [k4_14, Plan.cells, g5, d0, hi, hgi, hw, hw2, hn1, hn2, hi', hgd, dd, ret0 m17, m1, g4, trim_le]
            exact ih
          · simp -implicitDefEqProofs [k4_14]
          · simp -implicitDefEqProofs [Plan.cells]
          · intro nx j c hj _
            simp -implicitDefEqProofs [r4_14, k4_14, Plan.cells, hj, trim_le]
          · intro nx j r rest c hj hr hdr hwj _ ih
            have t1 := lh _ (il d) (j : Int)
            have t2 := lh _ (il day) (j : Int)
            rw [at1 d j hj, hr] at t1
            rw [at1 day j hj, hr] at t2
            have chg := change_B (zones := zones) (r := r) (Int.le_of_lt g2)
            have ih1 := ih (c || causeB zones day d r) trivial
            have wd := wrap64 (z := d + 1) (by omega) (by omega)
            rw [List.any_cons, ← Bool.or_assoc]
            simp -implicitDefEqProofs [k4_14, Plan.cells, -List.any_eq_true] at ih1
            simp -implicitDefEqProofs [r4_14, k4_14, Plan.cells, hj, hr, hi, hgi, Rule.val, Rule.cells, -List.any_eq_true]
            generalize rest.any (causeB zones day d) = q at *
            by_cases q1 : r.fr = d + 1
            · have hA : applies zones d r = false := by unfold applies inForce; simp; omega
              rw [hA] at t1
              generalize applies zones day r = b at *
              have b1 : d < d + 1 := by omega
              have b2 : d + 1 ≤ day := by omega
              have b3 : d < day := g2
              have w1 := wrap64 (z := day - (d + 1)) (by omega) (by omega)
              · by_cases e1 : d < r.un
                · by_cases e2 : r.un ≤ day
                  · cases b
                    · by_cases q2 : day - (d + 1) < r.gr
                      · have hcv : causeB zones day d r = true := by simp [causeB, q1, q2, hA]
                        cases c
                        · simp -implicitDefEqProofs [hcv] at ih1
                          simp -implicitDefEqProofs [q1, b1, b2, w1, e1, e2, q2, hcv, ret0 m19, t1, t2, bin_neq_bool u4g, hwj, hi, hgi, wd, trim_cut]; exact ih1
                        · simp -implicitDefEqProofs [hcv] at ih1
                          simp -implicitDefEqProofs [q1, b1, b2, e1, e2, hcv, ret0 m19, t1, t2, bin_neq_bool u4g, hwj, hi, hgi, trim_cut]; exact ih1
                      · have hcv : causeB zones day d r = false := by simp [causeB, q1, q2, hA]
                        cases c
                        · simp -implicitDefEqProofs [hcv] at ih1
                          simp -implicitDefEqProofs [q1, b1, b2, w1, e1, e2, q2, hcv, ret0 m19, t1, t2, bin_neq_bool u4g, hwj, hi, hgi, wd, trim_cut]; exact ih1
                        · simp -implicitDefEqProofs [hcv] at ih1
                          simp -implicitDefEqProofs [q1, b1, b2, e1, e2, hcv, ret0 m19, t1, t2, bin_neq_bool u4g, hwj, hi, hgi, trim_cut]; exact ih1
                    · by_cases q2 : day - (d + 1) < r.gr
                      · have hcv : causeB zones day d r = true := by simp [causeB, q1, q2, hA]
                        cases c
                        · simp -implicitDefEqProofs [hcv] at ih1
                          simp -implicitDefEqProofs [q1, b1, b2, w1, e1, e2, q2, hcv, ret0 m19, t1, t2, bin_neq_bool u4g, hwj, hi, hgi, wd, trim_cut]; exact ih1
                        · simp -implicitDefEqProofs [hcv] at ih1
                          simp -implicitDefEqProofs [q1, b1, b2, e1, e2, hcv, ret0 m19, t1, t2, bin_neq_bool u4g, hwj, hi, hgi, trim_cut]; exact ih1
                      · have hcv : causeB zones day d r = false := by simp [causeB, q1, q2, hA]
                        cases c
                        · simp -implicitDefEqProofs [hcv] at ih1
                          simp -implicitDefEqProofs [q1, b1, b2, w1, e1, e2, q2, hcv, ret0 m19, t1, t2, bin_neq_bool u4g, hwj, hi, hgi, wd, trim_cut]; exact ih1
                        · simp -implicitDefEqProofs [hcv] at ih1
                          simp -implicitDefEqProofs [q1, b1, b2, e1, e2, hcv, ret0 m19, t1, t2, bin_neq_bool u4g, hwj, hi, hgi, trim_cut]; exact ih1
                  · cases b
                    · by_cases q2 : day - (d + 1) < r.gr
                      · have hcv : causeB zones day d r = true := by simp [causeB, q1, q2, hA]
                        cases c
                        · simp -implicitDefEqProofs [hcv] at ih1
                          simp -implicitDefEqProofs [q1, b1, b2, w1, e1, e2, q2, hcv, ret0 m19, t1, t2, bin_neq_bool u4g, hwj, hi, hgi, wd, trim_cut]; exact ih1
                        · simp -implicitDefEqProofs [hcv] at ih1
                          simp -implicitDefEqProofs [q1, b1, b2, e1, e2, hcv, ret0 m19, t1, t2, bin_neq_bool u4g, hwj, hi, hgi, trim_cut]; exact ih1
                      · have hcv : causeB zones day d r = false := by simp [causeB, q1, q2, hA]
                        cases c
                        · simp -implicitDefEqProofs [hcv] at ih1
                          simp -implicitDefEqProofs [q1, b1, b2, w1, e1, e2, q2, hcv, ret0 m19, t1, t2, bin_neq_bool u4g, hwj, hi, hgi, wd, trim_cut]; exact ih1
                        · simp -implicitDefEqProofs [hcv] at ih1
                          simp -implicitDefEqProofs [q1, b1, b2, e1, e2, hcv, ret0 m19, t1, t2, bin_neq_bool u4g, hwj, hi, hgi, trim_cut]; exact ih1
                    · by_cases q2 : day - (d + 1) < r.gr
                      · have hcv : causeB zones day d r = true := by simp [causeB, q1, q2, hA]
                        cases c
                        · simp -implicitDefEqProofs [hcv] at ih1
                          simp -implicitDefEqProofs [q1, b1, b2, w1, e1, e2, q2, hcv, ret0 m19, t1, t2, bin_neq_bool u4g, hwj, hi, hgi, wd, trim_cut]; exact ih1
                        · simp -implicitDefEqProofs [hcv] at ih1
                          simp -implicitDefEqProofs [q1, b1, b2, e1, e2, hcv, ret0 m19, t1, t2, bin_neq_bool u4g, hwj, hi, hgi, trim_cut]; exact ih1
                      · have hcv : causeB zones day d r = false := by simp [causeB, q1, q2, hA]
                        cases c
                        · simp -implicitDefEqProofs [hcv] at ih1
                          simp -implicitDefEqProofs [q1, b1, b2, w1, e1, e2, q2, hcv, ret0 m19, t1, t2, bin_neq_bool u4g, hwj, hi, hgi, wd, trim_cut]; exact ih1
                        · simp -implicitDefEqProofs [hcv] at ih1
                          simp -implicitDefEqProofs [q1, b1, b2, e1, e2, hcv, ret0 m19, t1, t2, bin_neq_bool u4g, hwj, hi, hgi, trim_cut]; exact ih1
                · cases b
                  · by_cases q2 : day - (d + 1) < r.gr
                    · have hcv : causeB zones day d r = true := by simp [causeB, q1, q2, hA]
                      cases c
                      · simp -implicitDefEqProofs [hcv] at ih1
                        simp -implicitDefEqProofs [q1, b1, b2, w1, e1, q2, hcv, ret0 m19, t1, t2, bin_neq_bool u4g, hwj, hi, hgi, wd, trim_cut]; exact ih1
                      · simp -implicitDefEqProofs [hcv] at ih1
                        simp -implicitDefEqProofs [q1, b1, b2, e1, hcv, ret0 m19, t1, t2, bin_neq_bool u4g, hwj, hi, hgi, trim_cut]; exact ih1
                    · have hcv : causeB zones day d r = false := by simp [causeB, q1, q2, hA]
                      cases c
                      · simp -implicitDefEqProofs [hcv] at ih1
                        simp -implicitDefEqProofs [q1, b1, b2, w1, e1, q2, hcv, ret0 m19, t1, t2, bin_neq_bool u4g, hwj, hi, hgi, wd, trim_cut]; exact ih1
                      · simp -implicitDefEqProofs [hcv] at ih1
                        simp -implicitDefEqProofs [q1, b1, b2, e1, hcv, ret0 m19, t1, t2, bin_neq_bool u4g, hwj, hi, hgi, trim_cut]; exact ih1
                  · by_cases q2 : day - (d + 1) < r.gr
                    · have hcv : causeB zones day d r = true := by simp [causeB, q1, q2, hA]
                      cases c
                      · simp -implicitDefEqProofs [hcv] at ih1
                        simp -implicitDefEqProofs [q1, b1, b2, w1, e1, q2, hcv, ret0 m19, t1, t2, bin_neq_bool u4g, hwj, hi, hgi, wd, trim_cut]; exact ih1
                      · simp -implicitDefEqProofs [hcv] at ih1
                        simp -implicitDefEqProofs [q1, b1, b2, e1, hcv, ret0 m19, t1, t2, bin_neq_bool u4g, hwj, hi, hgi, trim_cut]; exact ih1
                    · have hcv : causeB zones day d r = false := by simp [causeB, q1, q2, hA]
                      cases c
                      · simp -implicitDefEqProofs [hcv] at ih1
                        simp -implicitDefEqProofs [q1, b1, b2, w1, e1, q2, hcv, ret0 m19, t1, t2, bin_neq_bool u4g, hwj, hi, hgi, wd, trim_cut]; exact ih1
                      · simp -implicitDefEqProofs [hcv] at ih1
                        simp -implicitDefEqProofs [q1, b1, b2, e1, hcv, ret0 m19, t1, t2, bin_neq_bool u4g, hwj, hi, hgi, trim_cut]; exact ih1
            · have hcv : causeB zones day d r = false := by simp [causeB, q1]
              by_cases hAB : applies zones d r = applies zones day r
              · rw [← hAB] at t2
                generalize applies zones d r = a at *
                · by_cases b1 : d < r.fr
                  · by_cases b2 : r.fr ≤ day
                    · by_cases e1 : d < r.un
                      · by_cases e2 : r.un ≤ day
                        · cases c
                          · simp -implicitDefEqProofs [hcv] at ih1
                            simp -implicitDefEqProofs [q1, b1, b2, e1, e2, hcv, ret0 m19, t1, t2, bin_neq_bool u4g, hwj, hi, hgi, wd, trim_cut]; exact ih1
                          · simp -implicitDefEqProofs [hcv] at ih1
                            simp -implicitDefEqProofs [b1, b2, e1, e2, hcv, ret0 m19, t1, t2, bin_neq_bool u4g, hwj, hi, hgi, trim_cut]; exact ih1
                        · cases c
                          · simp -implicitDefEqProofs [hcv] at ih1
                            simp -implicitDefEqProofs [q1, b1, b2, e1, e2, hcv, ret0 m19, t1, t2, bin_neq_bool u4g, hwj, hi, hgi, wd, trim_cut]; exact ih1
                          · simp -implicitDefEqProofs [hcv] at ih1
                            simp -implicitDefEqProofs [b1, b2, e1, e2, hcv, ret0 m19, t1, t2, bin_neq_bool u4g, hwj, hi, hgi, trim_cut]; exact ih1
                      · cases c
                        · simp -implicitDefEqProofs [hcv] at ih1
                          simp -implicitDefEqProofs [q1, b1, b2, e1, hcv, ret0 m19, t1, t2, bin_neq_bool u4g, hwj, hi, hgi, wd, trim_cut]; exact ih1
                        · simp -implicitDefEqProofs [hcv] at ih1
                          simp -implicitDefEqProofs [b1, b2, e1, hcv, ret0 m19, t1, t2, bin_neq_bool u4g, hwj, hi, hgi, trim_cut]; exact ih1
                    · by_cases e1 : d < r.un
                      · by_cases e2 : r.un ≤ day
                        · cases c
                          · simp -implicitDefEqProofs [hcv] at ih1
                            simp -implicitDefEqProofs [q1, b1, b2, e1, e2, hcv, ret0 m19, t1, t2, bin_neq_bool u4g, hwj, hi, hgi, wd, trim_cut]; exact ih1
                          · simp -implicitDefEqProofs [hcv] at ih1
                            simp -implicitDefEqProofs [b1, b2, e1, e2, hcv, ret0 m19, t1, t2, bin_neq_bool u4g, hwj, hi, hgi, trim_cut]; exact ih1
                        · cases c
                          · simp -implicitDefEqProofs [hcv] at ih1
                            simp -implicitDefEqProofs [q1, b1, b2, e1, e2, hcv, ret0 m19, t1, t2, bin_neq_bool u4g, hwj, hi, hgi, wd, trim_cut]; exact ih1
                          · simp -implicitDefEqProofs [hcv] at ih1
                            simp -implicitDefEqProofs [b1, b2, e1, e2, hcv, ret0 m19, t1, t2, bin_neq_bool u4g, hwj, hi, hgi, trim_cut]; exact ih1
                      · cases c
                        · simp -implicitDefEqProofs [hcv] at ih1
                          simp -implicitDefEqProofs [q1, b1, b2, e1, hcv, ret0 m19, t1, t2, bin_neq_bool u4g, hwj, hi, hgi, wd, trim_cut]; exact ih1
                        · simp -implicitDefEqProofs [hcv] at ih1
                          simp -implicitDefEqProofs [b1, b2, e1, hcv, ret0 m19, t1, t2, bin_neq_bool u4g, hwj, hi, hgi, trim_cut]; exact ih1
                  · by_cases e1 : d < r.un
                    · by_cases e2 : r.un ≤ day
                      · cases c
                        · simp -implicitDefEqProofs [hcv] at ih1
                          simp -implicitDefEqProofs [q1, b1, e1, e2, hcv, ret0 m19, t1, t2, bin_neq_bool u4g, hwj, hi, hgi, wd, trim_cut]; exact ih1
                        · simp -implicitDefEqProofs [hcv] at ih1
                          simp -implicitDefEqProofs [b1, e1, e2, hcv, ret0 m19, t1, t2, bin_neq_bool u4g, hwj, hi, hgi, trim_cut]; exact ih1
                      · cases c
                        · simp -implicitDefEqProofs [hcv] at ih1
                          simp -implicitDefEqProofs [q1, b1, e1, e2, hcv, ret0 m19, t1, t2, bin_neq_bool u4g, hwj, hi, hgi, wd, trim_cut]; exact ih1
                        · simp -implicitDefEqProofs [hcv] at ih1
                          simp -implicitDefEqProofs [b1, e1, e2, hcv, ret0 m19, t1, t2, bin_neq_bool u4g, hwj, hi, hgi, trim_cut]; exact ih1
                    · cases c
                      · simp -implicitDefEqProofs [hcv] at ih1
                        simp -implicitDefEqProofs [q1, b1, e1, hcv, ret0 m19, t1, t2, bin_neq_bool u4g, hwj, hi, hgi, wd, trim_cut]; exact ih1
                      · simp -implicitDefEqProofs [hcv] at ih1
                        simp -implicitDefEqProofs [b1, e1, hcv, ret0 m19, t1, t2, bin_neq_bool u4g, hwj, hi, hgi, trim_cut]; exact ih1
              · have hne : begB day d r.fr = true ∨ begB day d r.un = true := by
                  cases k1 : begB day d r.fr <;> cases k2 : begB day d r.un <;> first | (exact absurd (chg k1 k2) hAB) | simp
                simp only [begB, Bool.and_eq_true, decide_eq_true_eq] at hne
                generalize applies zones d r = a at *
                generalize applies zones day r = b at *
                · by_cases b1 : d < r.fr
                  · by_cases b2 : r.fr ≤ day
                    · by_cases e1 : d < r.un
                      · by_cases e2 : r.un ≤ day
                        · cases a <;> cases b <;> first | (exact absurd rfl hAB) | skip
                          · cases c
                            · simp -implicitDefEqProofs [hcv] at ih1
                              simp -implicitDefEqProofs [q1, b1, b2, e1, e2, hcv, ret0 m19, t1, t2, bin_neq_bool u4g, hwj, hi, hgi, wd, trim_cut]; exact ih1
                            · simp -implicitDefEqProofs [hcv] at ih1
                              simp -implicitDefEqProofs [b1, b2, e1, e2, hcv, ret0 m19, t1, t2, bin_neq_bool u4g, hwj, hi, hgi, trim_cut]; exact ih1
                          · cases c
                            · simp -implicitDefEqProofs [hcv] at ih1
                              simp -implicitDefEqProofs [q1, b1, b2, e1, e2, hcv, ret0 m19, t1, t2, bin_neq_bool u4g, hwj, hi, hgi, wd, trim_cut]; exact ih1
                            · simp -implicitDefEqProofs [hcv] at ih1
                              simp -implicitDefEqProofs [b1, b2, e1, e2, hcv, ret0 m19, t1, t2, bin_neq_bool u4g, hwj, hi, hgi, trim_cut]; exact ih1
                        · cases a <;> cases b <;> first | (exact absurd rfl hAB) | skip
                          · cases c
                            · simp -implicitDefEqProofs [hcv] at ih1
                              simp -implicitDefEqProofs [q1, b1, b2, e1, e2, hcv, ret0 m19, t1, t2, bin_neq_bool u4g, hwj, hi, hgi, wd, trim_cut]; exact ih1
                            · simp -implicitDefEqProofs [hcv] at ih1
                              simp -implicitDefEqProofs [b1, b2, e1, e2, hcv, ret0 m19, t1, t2, bin_neq_bool u4g, hwj, hi, hgi, trim_cut]; exact ih1
                          · cases c
                            · simp -implicitDefEqProofs [hcv] at ih1
                              simp -implicitDefEqProofs [q1, b1, b2, e1, e2, hcv, ret0 m19, t1, t2, bin_neq_bool u4g, hwj, hi, hgi, wd, trim_cut]; exact ih1
                            · simp -implicitDefEqProofs [hcv] at ih1
                              simp -implicitDefEqProofs [b1, b2, e1, e2, hcv, ret0 m19, t1, t2, bin_neq_bool u4g, hwj, hi, hgi, trim_cut]; exact ih1
                      · cases a <;> cases b <;> first | (exact absurd rfl hAB) | skip
                        · cases c
                          · simp -implicitDefEqProofs [hcv] at ih1
                            simp -implicitDefEqProofs [q1, b1, b2, e1, hcv, ret0 m19, t1, t2, bin_neq_bool u4g, hwj, hi, hgi, wd, trim_cut]; exact ih1
                          · simp -implicitDefEqProofs [hcv] at ih1
                            simp -implicitDefEqProofs [b1, b2, e1, hcv, ret0 m19, t1, t2, bin_neq_bool u4g, hwj, hi, hgi, trim_cut]; exact ih1
                        · cases c
                          · simp -implicitDefEqProofs [hcv] at ih1
                            simp -implicitDefEqProofs [q1, b1, b2, e1, hcv, ret0 m19, t1, t2, bin_neq_bool u4g, hwj, hi, hgi, wd, trim_cut]; exact ih1
                          · simp -implicitDefEqProofs [hcv] at ih1
                            simp -implicitDefEqProofs [b1, b2, e1, hcv, ret0 m19, t1, t2, bin_neq_bool u4g, hwj, hi, hgi, trim_cut]; exact ih1
                    · by_cases e1 : d < r.un
                      · by_cases e2 : r.un ≤ day
                        · cases a <;> cases b <;> first | (exact absurd rfl hAB) | skip
                          · cases c
                            · simp -implicitDefEqProofs [hcv] at ih1
                              simp -implicitDefEqProofs [q1, b1, b2, e1, e2, hcv, ret0 m19, t1, t2, bin_neq_bool u4g, hwj, hi, hgi, wd, trim_cut]; exact ih1
                            · simp -implicitDefEqProofs [hcv] at ih1
                              simp -implicitDefEqProofs [b1, b2, e1, e2, hcv, ret0 m19, t1, t2, bin_neq_bool u4g, hwj, hi, hgi, trim_cut]; exact ih1
                          · cases c
                            · simp -implicitDefEqProofs [hcv] at ih1
                              simp -implicitDefEqProofs [q1, b1, b2, e1, e2, hcv, ret0 m19, t1, t2, bin_neq_bool u4g, hwj, hi, hgi, wd, trim_cut]; exact ih1
                            · simp -implicitDefEqProofs [hcv] at ih1
                              simp -implicitDefEqProofs [b1, b2, e1, e2, hcv, ret0 m19, t1, t2, bin_neq_bool u4g, hwj, hi, hgi, trim_cut]; exact ih1
                        · omega
                      · omega
                  · by_cases e1 : d < r.un
                    · by_cases e2 : r.un ≤ day
                      · cases a <;> cases b <;> first | (exact absurd rfl hAB) | skip
                        · cases c
                          · simp -implicitDefEqProofs [hcv] at ih1
                            simp -implicitDefEqProofs [q1, b1, e1, e2, hcv, ret0 m19, t1, t2, bin_neq_bool u4g, hwj, hi, hgi, wd, trim_cut]; exact ih1
                          · simp -implicitDefEqProofs [hcv] at ih1
                            simp -implicitDefEqProofs [b1, e1, e2, hcv, ret0 m19, t1, t2, bin_neq_bool u4g, hwj, hi, hgi, trim_cut]; exact ih1
                        · cases c
                          · simp -implicitDefEqProofs [hcv] at ih1
                            simp -implicitDefEqProofs [q1, b1, e1, e2, hcv, ret0 m19, t1, t2, bin_neq_bool u4g, hwj, hi, hgi, wd, trim_cut]; exact ih1
                          · simp -implicitDefEqProofs [hcv] at ih1
                            simp -implicitDefEqProofs [b1, e1, e2, hcv, ret0 m19, t1, t2, bin_neq_bool u4g, hwj, hi, hgi, trim_cut]; exact ih1
                      · omega
                    · omega
        · simp -implicitDefEqProofs [r4_9, k4_9, Plan.cells, hi, trim_le]

end Go.Proofs.Ytippkkkddhnmhaa.Bm
