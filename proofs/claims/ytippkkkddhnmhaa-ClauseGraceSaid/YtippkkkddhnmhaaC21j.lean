/-
  Chapter 21: the laws' arguments as data, and the frame of the statements. Conditions: none.
-/
import Derived.Test.YtippkkkddhnmhaaC21d
import Derived.Test.YtippkkkddhnmhaaBmDec
import Derived.Test.YtippkkkddhnmhaaRows
import Derived.Test.YtippkkkddhnmhaaC21y
namespace Go.Proofs.Ytippkkkddhnmhaa.Bm
open Go Go.RowKit

theorem okE : OkProg E.P := okProg_of (by kernel_rfl) (by kernel_rfl)
theorem laidE : laidOutB E.P = true := by kernel_rfl
theorem mapsE : mapsRowed E.P = true := by kernel_rfl
noncomputable def tlE : List TypeId := closeT E.P 6 [30, 31, 3, 51]
theorem closedE : closedT E.P tlE = true := by kernel_rfl
theorem in30 : 30 ∈ tlE := List.contains_iff_mem.1 (by kernel_rfl)
theorem in31 : 31 ∈ tlE := List.contains_iff_mem.1 (by kernel_rfl)
theorem in3 : 3 ∈ tlE := List.contains_iff_mem.1 (by kernel_rfl)
theorem in51 : 51 ∈ tlE := List.contains_iff_mem.1 (by kernel_rfl)

theorem u3 : E.P.underlying 3 = some (.int .i64) := by kernel_rfl
theorem u4 : E.P.underlying 4 = some .bool := by kernel_rfl
theorem u9 : E.P.underlying 9 = some .string := by kernel_rfl
theorem u51 : E.P.underlying 51 = some (.int .u16) := by kernel_rfl
theorem u31' : E.P.underlying 31 = some (.slice 9) := by kernel_rfl

def eOf (P : Program) (t : TypeId) : TypeId := match P.underlying t with | some (.slice e) => e | _ => 0
theorem u22 : E.P.underlying 22 = some (.slice (eOf E.P 22)) := by kernel_rfl
theorem u23 : E.P.underlying 23 = some (.slice (eOf E.P 23)) := by kernel_rfl
theorem u24 : E.P.underlying 24 = some (.slice (eOf E.P 24)) := by kernel_rfl
theorem u26 : E.P.underlying 26 = some (.slice (eOf E.P 26)) := by kernel_rfl
theorem u27 : E.P.underlying 27 = some (.slice (eOf E.P 27)) := by kernel_rfl
theorem u28 : E.P.underlying 28 = some (.slice (eOf E.P 28)) := by kernel_rfl
theorem u42 : E.P.underlying 42 = some (.slice (eOf E.P 42)) := by kernel_rfl
theorem u25 : E.P.underlying 25 = some (.slice 48) := by kernel_rfl
theorem f30 : fsOf E.P 30 = some [(0, 22), (1, 23), (2, 24), (3, 25), (4, 26), (5, 27), (6, 28), (7, 3)] := by kernel_rfl
theorem f48 : fsOf E.P 48 = some [(0, 9), (1, 31), (2, 31), (3, 3), (4, 3), (5, 3), (6, 4), (7, 3), (8, 44), (13, 46), (17, 3), (18, 3), (19, 3)] := by kernel_rfl
theorem f44 : fsOf E.P 44 = some [(0, 3), (1, 3), (2, 9), (3, 9), (4, 42)] := by kernel_rfl
theorem f46 : fsOf E.P 46 = some [(0, 3), (1, 3), (2, 3), (3, 3)] := by kernel_rfl
theorem n30 : E.P.cellsOf 30 = 8 := by kernel_rfl
theorem n48 : E.P.cellsOf 48 = 20 := by kernel_rfl
theorem n44 : E.P.cellsOf 44 = 5 := by kernel_rfl
theorem n46 : E.P.cellsOf 46 = 4 := by kernel_rfl
theorem n3 : E.P.cellsOf 3 = 1 := by kernel_rfl
theorem n4 : E.P.cellsOf 4 = 1 := by kernel_rfl
theorem n9 : E.P.cellsOf 9 = 1 := by kernel_rfl
theorem n31 : E.P.cellsOf 31 = 1 := by kernel_rfl
theorem n22 : E.P.cellsOf 22 = 1 := by kernel_rfl
theorem n23 : E.P.cellsOf 23 = 1 := by kernel_rfl
theorem n24 : E.P.cellsOf 24 = 1 := by kernel_rfl
theorem n25 : E.P.cellsOf 25 = 1 := by kernel_rfl
theorem n26 : E.P.cellsOf 26 = 1 := by kernel_rfl
theorem n27 : E.P.cellsOf 27 = 1 := by kernel_rfl
theorem n28 : E.P.cellsOf 28 = 1 := by kernel_rfl
theorem n42 : E.P.cellsOf 42 = 1 := by kernel_rfl
theorem g48 : aggT E.P 48 = some true := by kernel_rfl
theorem g30 : aggT E.P 30 = some true := by kernel_rfl

theorem rule_of {n : Nat} {c : List Value} (h : Wt E.P n 48 c) : ∃ r : Rule, c = r.cells ∧ (r.zones.length ≤ maxLen ∧ r.exc.length ≤ maxLen) ∧ i64ok r.fr ∧ i64ok r.un ∧ i64ok r.gr := by
  obtain ⟨hl, hf⟩ := wt_struct f48 h
  rw [n48] at hl
  obtain ⟨a0, c, rfl⟩ := List.exists_cons_of_length_eq_add_one hl; have hl := Nat.succ.inj hl
  obtain ⟨a1, c, rfl⟩ := List.exists_cons_of_length_eq_add_one hl; have hl := Nat.succ.inj hl
  obtain ⟨a2, c, rfl⟩ := List.exists_cons_of_length_eq_add_one hl; have hl := Nat.succ.inj hl
  obtain ⟨a3, c, rfl⟩ := List.exists_cons_of_length_eq_add_one hl; have hl := Nat.succ.inj hl
  obtain ⟨a4, c, rfl⟩ := List.exists_cons_of_length_eq_add_one hl; have hl := Nat.succ.inj hl
  obtain ⟨a5, c, rfl⟩ := List.exists_cons_of_length_eq_add_one hl; have hl := Nat.succ.inj hl
  obtain ⟨a6, c, rfl⟩ := List.exists_cons_of_length_eq_add_one hl; have hl := Nat.succ.inj hl
  obtain ⟨a7, c, rfl⟩ := List.exists_cons_of_length_eq_add_one hl; have hl := Nat.succ.inj hl
  obtain ⟨a8, c, rfl⟩ := List.exists_cons_of_length_eq_add_one hl; have hl := Nat.succ.inj hl
  obtain ⟨a9, c, rfl⟩ := List.exists_cons_of_length_eq_add_one hl; have hl := Nat.succ.inj hl
  obtain ⟨a10, c, rfl⟩ := List.exists_cons_of_length_eq_add_one hl; have hl := Nat.succ.inj hl
  obtain ⟨a11, c, rfl⟩ := List.exists_cons_of_length_eq_add_one hl; have hl := Nat.succ.inj hl
  obtain ⟨a12, c, rfl⟩ := List.exists_cons_of_length_eq_add_one hl; have hl := Nat.succ.inj hl
  obtain ⟨a13, c, rfl⟩ := List.exists_cons_of_length_eq_add_one hl; have hl := Nat.succ.inj hl
  obtain ⟨a14, c, rfl⟩ := List.exists_cons_of_length_eq_add_one hl; have hl := Nat.succ.inj hl
  obtain ⟨a15, c, rfl⟩ := List.exists_cons_of_length_eq_add_one hl; have hl := Nat.succ.inj hl
  obtain ⟨a16, c, rfl⟩ := List.exists_cons_of_length_eq_add_one hl; have hl := Nat.succ.inj hl
  obtain ⟨a17, c, rfl⟩ := List.exists_cons_of_length_eq_add_one hl; have hl := Nat.succ.inj hl
  obtain ⟨a18, c, rfl⟩ := List.exists_cons_of_length_eq_add_one hl; have hl := Nat.succ.inj hl
  obtain ⟨a19, c, rfl⟩ := List.exists_cons_of_length_eq_add_one hl; have hl := Nat.succ.inj hl
  obtain rfl := List.eq_nil_of_length_eq_zero hl
  · skip
    obtain ⟨mr0, qr0⟩ := hf (0, 9) (by simp)
    replace qr0 : Wt E.P mr0 9 [a0] := by simpa [n9] using qr0
    obtain ⟨mr1, qr1⟩ := hf (1, 31) (by simp)
    replace qr1 : Wt E.P mr1 31 [a1] := by simpa [n31] using qr1
    obtain ⟨mr2, qr2⟩ := hf (2, 31) (by simp)
    replace qr2 : Wt E.P mr2 31 [a2] := by simpa [n31] using qr2
    obtain ⟨mr3, qr3⟩ := hf (3, 3) (by simp)
    replace qr3 : Wt E.P mr3 3 [a3] := by simpa [n3] using qr3
    obtain ⟨mr4, qr4⟩ := hf (4, 3) (by simp)
    replace qr4 : Wt E.P mr4 3 [a4] := by simpa [n3] using qr4
    obtain ⟨mr5, qr5⟩ := hf (5, 3) (by simp)
    replace qr5 : Wt E.P mr5 3 [a5] := by simpa [n3] using qr5
    obtain ⟨mr6, qr6⟩ := hf (6, 4) (by simp)
    replace qr6 : Wt E.P mr6 4 [a6] := by simpa [n4] using qr6
    obtain ⟨mr7, qr7⟩ := hf (7, 3) (by simp)
    replace qr7 : Wt E.P mr7 3 [a7] := by simpa [n3] using qr7
    obtain ⟨mr8, qr8⟩ := hf (8, 44) (by simp)
    replace qr8 : Wt E.P mr8 44 [a8, a9, a10, a11, a12] := by simpa [n44] using qr8
    obtain ⟨mr13, qr13⟩ := hf (13, 46) (by simp)
    replace qr13 : Wt E.P mr13 46 [a13, a14, a15, a16] := by simpa [n46] using qr13
    obtain ⟨mr17, qr17⟩ := hf (17, 3) (by simp)
    replace qr17 : Wt E.P mr17 3 [a17] := by simpa [n3] using qr17
    obtain ⟨mr18, qr18⟩ := hf (18, 3) (by simp)
    replace qr18 : Wt E.P mr18 3 [a18] := by simpa [n3] using qr18
    obtain ⟨mr19, qr19⟩ := hf (19, 3) (by simp)
    replace qr19 : Wt E.P mr19 3 [a19] := by simpa [n3] using qr19
    obtain ⟨name, e, wname⟩ := wt_str u9 qr0; obtain rfl := List.singleton_inj.1 e
    obtain ⟨zones, e, wzones, _⟩ := wt_strs u31' u9 qr1; obtain rfl := List.singleton_inj.1 e
    obtain ⟨exc, e, wexc, _⟩ := wt_strs u31' u9 qr2; obtain rfl := List.singleton_inj.1 e
    obtain ⟨fr, e, wfr⟩ := wt_int u3 qr3; obtain rfl := List.singleton_inj.1 e
    obtain ⟨un, e, wun⟩ := wt_int u3 qr4; obtain rfl := List.singleton_inj.1 e
    obtain ⟨gr, e, wgr⟩ := wt_int u3 qr5; obtain rfl := List.singleton_inj.1 e
    obtain ⟨vary, e⟩ := wt_bool u4 qr6; obtain rfl := List.singleton_inj.1 e
    obtain ⟨kind, e, wkind⟩ := wt_int u3 qr7; obtain rfl := List.singleton_inj.1 e
    obtain ⟨uses, e, wuses⟩ := wt_int u3 qr17; obtain rfl := List.singleton_inj.1 e
    obtain ⟨other, e, wother⟩ := wt_int u3 qr18; obtain rfl := List.singleton_inj.1 e
    obtain ⟨nn, e, wnn⟩ := wt_int u3 qr19; obtain rfl := List.singleton_inj.1 e
    obtain ⟨_, hx⟩ := wt_struct f44 qr8
    obtain ⟨mx0, qx0⟩ := hx (0, 3) (by simp)
    replace qx0 : Wt E.P mx0 3 [a8] := by simpa [n3] using qx0
    obtain ⟨mx1, qx1⟩ := hx (1, 3) (by simp)
    replace qx1 : Wt E.P mx1 3 [a9] := by simpa [n3] using qx1
    obtain ⟨mx2, qx2⟩ := hx (2, 9) (by simp)
    replace qx2 : Wt E.P mx2 9 [a10] := by simpa [n9] using qx2
    obtain ⟨mx3, qx3⟩ := hx (3, 9) (by simp)
    replace qx3 : Wt E.P mx3 9 [a11] := by simpa [n9] using qx3
    obtain ⟨mx4, qx4⟩ := hx (4, 42) (by simp)
    replace qx4 : Wt E.P mx4 42 [a12] := by simpa [n42] using qx4
    obtain ⟨op, e, wop⟩ := wt_int u3 qx0; obtain rfl := List.singleton_inj.1 e
    obtain ⟨n1, e, wn1⟩ := wt_int u3 qx1; obtain rfl := List.singleton_inj.1 e
    obtain ⟨s1, e, ws1⟩ := wt_str u9 qx2; obtain rfl := List.singleton_inj.1 e
    obtain ⟨key, e, wkey⟩ := wt_str u9 qx3; obtain rfl := List.singleton_inj.1 e
    obtain ⟨args, e, wargs⟩ := wt_list u42 qx4; obtain rfl := List.singleton_inj.1 e
    obtain ⟨_, hy⟩ := wt_struct f46 qr13
    obtain ⟨my0, qy0⟩ := hy (0, 3) (by simp)
    replace qy0 : Wt E.P my0 3 [a13] := by simpa [n3] using qy0
    obtain ⟨my1, qy1⟩ := hy (1, 3) (by simp)
    replace qy1 : Wt E.P my1 3 [a14] := by simpa [n3] using qy1
    obtain ⟨my2, qy2⟩ := hy (2, 3) (by simp)
    replace qy2 : Wt E.P my2 3 [a15] := by simpa [n3] using qy2
    obtain ⟨my3, qy3⟩ := hy (3, 3) (by simp)
    replace qy3 : Wt E.P my3 3 [a16] := by simpa [n3] using qy3
    obtain ⟨side, e, wside⟩ := wt_int u3 qy0; obtain rfl := List.singleton_inj.1 e
    obtain ⟨base, e, wbase⟩ := wt_int u3 qy1; obtain rfl := List.singleton_inj.1 e
    obtain ⟨num, e, wnum⟩ := wt_int u3 qy2; obtain rfl := List.singleton_inj.1 e
    obtain ⟨den, e, wden⟩ := wt_int u3 qy3; obtain rfl := List.singleton_inj.1 e
    exact ⟨⟨name, zones, exc, fr, un, gr, vary, kind, op, n1, s1, key, args, side, base, num, den, uses, other, nn⟩, rfl, ⟨wzones, wexc⟩, i64_wf wfr, i64_wf wun, i64_wf wgr⟩

theorem rules_of {n : Nat} {c : List Value} (h : Wt E.P n 25 c) : ∃ l : List Rule, c = [lst false (l.map Rule.val)] ∧ l.length ≤ maxLen ∧ okRules l ∧ ∀ r ∈ l, i64ok r.fr ∧ i64ok r.un ∧ i64ok r.gr := by
  obtain ⟨ls, rfl, h2, h3⟩ := wt_slice u25 h
  obtain ⟨rs, rfl, k2⟩ := choose_list (cells := Rule.cells) (Q := fun r => (r.zones.length ≤ maxLen ∧ r.exc.length ≤ maxLen) ∧ i64ok r.fr ∧ i64ok r.un ∧ i64ok r.gr) ls fun x hx => by
    obtain ⟨m, hm⟩ := h3 x hx
    exact rule_of hm
  refine ⟨rs, ?_, by simpa using h2, fun r hr => (k2 r hr).1, fun r hr => (k2 r hr).2⟩
  have e : ∀ l : List Rule, (l.map Rule.cells).map (elemV E.P 48) = l.map Rule.val := by
    intro l
    induction l with
    | nil => rfl
    | cons r l ih =>
      simp only [List.map_cons, ih]
      unfold elemV
      rw [if_pos g48]
      rfl
  rw [e]

theorem plan_of {n : Nat} {c : List Value} (h : Wt E.P n 30 c) : ∃ p : Plan, c = p.cells false ∧ PlanOk p := by
  obtain ⟨hl, hf⟩ := wt_struct f30 h
  rw [n30] at hl
  obtain ⟨a0, c, rfl⟩ := List.exists_cons_of_length_eq_add_one hl; have hl := Nat.succ.inj hl
  obtain ⟨a1, c, rfl⟩ := List.exists_cons_of_length_eq_add_one hl; have hl := Nat.succ.inj hl
  obtain ⟨a2, c, rfl⟩ := List.exists_cons_of_length_eq_add_one hl; have hl := Nat.succ.inj hl
  obtain ⟨a3, c, rfl⟩ := List.exists_cons_of_length_eq_add_one hl; have hl := Nat.succ.inj hl
  obtain ⟨a4, c, rfl⟩ := List.exists_cons_of_length_eq_add_one hl; have hl := Nat.succ.inj hl
  obtain ⟨a5, c, rfl⟩ := List.exists_cons_of_length_eq_add_one hl; have hl := Nat.succ.inj hl
  obtain ⟨a6, c, rfl⟩ := List.exists_cons_of_length_eq_add_one hl; have hl := Nat.succ.inj hl
  obtain ⟨a7, c, rfl⟩ := List.exists_cons_of_length_eq_add_one hl; have hl := Nat.succ.inj hl
  obtain rfl := List.eq_nil_of_length_eq_zero hl
  · skip
    obtain ⟨mp0, qp0⟩ := hf (0, 22) (by simp)
    replace qp0 : Wt E.P mp0 22 [a0] := by simpa [n22] using qp0
    obtain ⟨mp1, qp1⟩ := hf (1, 23) (by simp)
    replace qp1 : Wt E.P mp1 23 [a1] := by simpa [n23] using qp1
    obtain ⟨mp2, qp2⟩ := hf (2, 24) (by simp)
    replace qp2 : Wt E.P mp2 24 [a2] := by simpa [n24] using qp2
    obtain ⟨mp3, qp3⟩ := hf (3, 25) (by simp)
    replace qp3 : Wt E.P mp3 25 [a3] := by simpa [n25] using qp3
    obtain ⟨mp4, qp4⟩ := hf (4, 26) (by simp)
    replace qp4 : Wt E.P mp4 26 [a4] := by simpa [n26] using qp4
    obtain ⟨mp5, qp5⟩ := hf (5, 27) (by simp)
    replace qp5 : Wt E.P mp5 27 [a5] := by simpa [n27] using qp5
    obtain ⟨mp6, qp6⟩ := hf (6, 28) (by simp)
    replace qp6 : Wt E.P mp6 28 [a6] := by simpa [n28] using qp6
    obtain ⟨mp7, qp7⟩ := hf (7, 3) (by simp)
    replace qp7 : Wt E.P mp7 3 [a7] := by simpa [n3] using qp7
    obtain ⟨defs, e, wdefs⟩ := wt_list u22 qp0; obtain rfl := List.singleton_inj.1 e
    obtain ⟨tables, e, wtables⟩ := wt_list u23 qp1; obtain rfl := List.singleton_inj.1 e
    obtain ⟨zones, e, wzones⟩ := wt_list u24 qp2; obtain rfl := List.singleton_inj.1 e
    obtain ⟨caps, e, wcaps⟩ := wt_list u26 qp4; obtain rfl := List.singleton_inj.1 e
    obtain ⟨views, e, wviews⟩ := wt_list u27 qp5; obtain rfl := List.singleton_inj.1 e
    obtain ⟨sun, e, wsun⟩ := wt_list u28 qp6; obtain rfl := List.singleton_inj.1 e
    obtain ⟨hours, e, whours⟩ := wt_int u3 qp7; obtain rfl := List.singleton_inj.1 e
    obtain ⟨rules, e, w1, w2, w3⟩ := rules_of qp3; obtain rfl := List.singleton_inj.1 e
    exact ⟨⟨defs, tables, zones, rules, caps, views, sun, hours⟩, rfl, ⟨w1, w2, w3⟩⟩

theorem planV {n : Nat} {c : List Value} (h : Wt E.P n 30 c) : ∃ p : Plan, elemV E.P 30 c = p.val false ∧ PlanOk p := by
  obtain ⟨p, rfl, hp⟩ := plan_of h
  exact ⟨p, by simp [elemV, g30, Plan.val], hp⟩
theorem strsV {n : Nat} {c : List Value} (h : Wt E.P n 31 c) : ∃ l : List ByteArray, elemV E.P 31 c = lst false (l.map .string) ∧ l.length ≤ maxLen := by
  obtain ⟨l, rfl, hl, _⟩ := wt_strs u31' u9 h
  exact ⟨l, by simp [elemV, a31], hl⟩
theorem intV {n : Nat} {c : List Value} (h : Wt E.P n 3 c) : ∃ z : Int, elemV E.P 3 c = .int .i64 z ∧ i64ok z := by
  obtain ⟨z, rfl, hz⟩ := wt_int u3 h
  exact ⟨z, by simp [elemV, a3], i64_wf hz⟩
theorem a51 : aggT E.P 51 = some false := by kernel_rfl
theorem u16V {n : Nat} {c : List Value} (h : Wt E.P n 51 c) : ∃ z : Int, elemV E.P 51 c = .int .u16 z ∧ 0 ≤ z ∧ z ≤ 65535 := by
  obtain ⟨z, rfl, hz⟩ := wt_int u51 h
  exact ⟨z, by simp [elemV, a51], u16_wf hz⟩

theorem orcE : OrcSound E := in_orc fun g k h => by
  rw [E_orc] at h
  by_cases h1 : g = 25
  · subst h1; simp only [if_true, Option.some.injEq] at h; exact ⟨_, _, h.symm, con25⟩
  · by_cases h2 : g = 26
    · subst h2; simp only [h1, if_false, if_true, Option.some.injEq] at h; exact ⟨_, _, h.symm, con26⟩
    · by_cases h3 : g = 27
      · subst h3; simp only [h1, h2, if_false, if_true, Option.some.injEq] at h; exact ⟨_, _, h.symm, con27⟩
      · simp only [h1, h2, h3, if_false] at h; cases h

end Go.Proofs.Ytippkkkddhnmhaa.Bm
