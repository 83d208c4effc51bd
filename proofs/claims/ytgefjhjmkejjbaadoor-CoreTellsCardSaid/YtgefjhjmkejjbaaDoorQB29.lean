/-
 Chapter 27: the law that all functions return what the reference returns. Conditions: arguments as data.
-/
import Derived.Test.YtgefjhjmkejjbaaDoorQB26
import Derived.Test.YtgefjhjmkejjbaaDoorQB28
namespace Go.Proofs.YtgefjhjmkejjbaaDoor.Bm
open Go Go.RowKit
def ascI (n : Int) : Option Int → List Int → Bool
 | _, [] => true
 | p, v :: r => !decide (v < 0) && (!decide (n ≤ v) && ((match p with | none => true | some q => !decide (v ≤ q)) && ascI n (some v) r))
set_option maxHeartbeats 2000000 in
theorem ascRI_spec {K : Option Bool} {l : List Int} {n : Int} (hK : Enc.Ok K l) (hl : l.length ≤ 1000000) : pureCall E.P (L E) 55 [intE.o K l, .int .i64 n] = some (.bool (ascI n none l)) := by
 have lA : ∀ H, lenT .sl H (intE.o K l) = some (.int .i64 l.length) := fun H => Enc.o_len hK
 have iA : ∀ (i : Nat) (hi : i < l.length), indexAddrT (.sl 3 ⟨some false, some 1⟩) (intE.o K l) (.int .i64 (i : Int)) = some (cptr (.int .i64 l[i])) := fun i hi => Enc.index_o hK hi
 rw [pureCall_fn F55 rfl]
 generalize intE.o K l = VA at *
 obtain ⟨R, hR⟩ : ∃ R : Bool, R = ascI n none l := ⟨_, rfl⟩
 rw [← hR]
 simp -implicitDefEqProofs [r55, p55]
 rw [LL_for (γ := Unit) l () (fun i _ => [(5, .int .i64 i)]) (fun _ _ => []) (fun i rest _ => if ascI n (if i = 0 then none else l[i - 1]?) rest = true then (.exit 0, [(5, undef)], []) else (.ret, [(4, .bool false), (5, undef)], [])) (fun _ _ => True) (by omega) trivial]
 ·rw [if_pos rfl, ← hR]
  cases R
  ·simp -implicitDefEqProofs [k55_2]
  ·simp -implicitDefEqProofs [k55_2]
 ·simp -implicitDefEqProofs [k55_2]
 ·rfl
 ·intro nx i c hi _
  have e0 : ∀ q, ascI n q [] = true := fun _ => rfl
  rw [e0]
  simp -implicitDefEqProofs [r55_2, k55_2, lA, hi, trim_le]
 ·intro nx i v rest c hi hv hd hw _ ih
  have ih := ih () trivial
  have hi2 : ((i : Int) < (l.length : Int)) := by omega
  have x1 := iA i hi
  rw [hv] at x1
  have e2 : (((i + 1 : Nat) : Int)) = (i : Int) + 1 := by omega
  rw [if_neg (show ¬ i + 1 = 0 by omega), show i + 1 - 1 = i from rfl, List.getElem?_eq_getElem hi, hv, e2] at ih
  have ea : ∀ q, ascI n q (v :: rest) = (!decide (v < 0) && (!decide (n ≤ v) && ((match q with | none => true | some q => !decide (v ≤ q)) && ascI n (some v) rest))) := fun _ => rfl
  rw [ea]
  generalize ascI n (some v) rest = ra at *
  simp -implicitDefEqProofs [k55_2] at ih
  by_cases q1 : v < 0
  ·rw [decide_eq_true q1, Bool.not_true, Bool.false_and]
   simp -implicitDefEqProofs [r55_2, k55_2, lA, hi2, x1, q1, trim_le]
  rw [decide_eq_false q1, Bool.not_false, Bool.true_and]
  by_cases q2 : n ≤ v
  ·rw [decide_eq_true q2, Bool.not_true, Bool.false_and]
   simp -implicitDefEqProofs [r55_2, k55_2, lA, hi2, x1, q1, q2, trim_le]
  rw [decide_eq_false q2, Bool.not_false, Bool.true_and]
  by_cases h0 : i = 0
  ·subst h0
   rw [if_pos rfl, Bool.true_and]
   have x1' : indexAddrT (.sl 3 ⟨some false, some 1⟩) VA (.int .i64 0) = some (cptr (.int .i64 v)) := x1
   have hw' : IntKind.i64.wrap 1 = 1 := wrap64 (by omega) (by omega)
   simp -implicitDefEqProofs at ih
   simp -implicitDefEqProofs [r55_2, k55_2, lA, hi, x1', q1, q2, hw', ih, trim_le]
  have hp : 0 < i := by omega
  have x0 := iA (i - 1) (by omega)
  have w1 : IntKind.i64.wrap ((i : Int) - 1) = ((i - 1 : Nat) : Int) := (wrap64 (by omega) (by omega)).trans (by omega)
  rw [if_neg h0, List.getElem?_eq_getElem (show i - 1 < l.length by omega)]
  generalize l[i - 1] = u at *
  generalize ((i - 1 : Nat) : Int) = j at *
  show _ = fin _ (if (!decide (v ≤ u) && ra) = true then _ else _)
  by_cases q3 : v ≤ u
  ·rw [decide_eq_true q3, Bool.not_true, Bool.false_and]
   simp -implicitDefEqProofs [r55_2, k55_2, lA, hi2, x1, x0, w1, q1, q2, q3, hp, trim_le]
  ·rw [decide_eq_false q3, Bool.not_false, Bool.true_and]
   simp -implicitDefEqProofs [r55_2, k55_2, lA, hi2, x1, x0, w1, q1, q2, q3, hp, hw, ih, trim_le]
end Go.Proofs.YtgefjhjmkejjbaaDoor.Bm
namespace Go.Proofs.YtgefjhjmkejjbaaDoor.Bm
open Go Go.RowKit
open Co (openR readV readL idxF disjR coversR RowK badK)
theorem ascI_some {n : Nat} : ∀ (l : List Int) (q : Int), ascI n (some q) l = ((match l with | [] => true | v :: _ => decide (q < v)) && idxF n l)
 | [], _ => rfl
 | [v], q => by
  show (!decide (v < 0) && (!decide ((n : Int) ≤ v) && (!decide (v ≤ q) && true))) = (decide (q < v) && (decide (0 ≤ v) && decide (v < (n : Int))))
  have e1 : decide (0 ≤ v) = !decide (v < 0) := by rw [Bool.eq_iff_iff]; simp
  have e2 : decide (v < (n : Int)) = !decide ((n : Int) ≤ v) := by rw [Bool.eq_iff_iff]; simp
  have e3 : decide (q < v) = !decide (v ≤ q) := by rw [Bool.eq_iff_iff]; simp
  rw [e1, e2, e3]
  cases decide (v < 0) <;> cases decide ((n : Int) ≤ v) <;> cases decide (v ≤ q) <;> rfl
 | v :: w :: l, q => by
  have ih := ascI_some (n := n) (w :: l) v
  show (!decide (v < 0) && (!decide ((n : Int) ≤ v) && (!decide (v ≤ q) && ascI n (some v) (w :: l)))) = (decide (q < v) && (decide (0 ≤ v) && (decide (v < (n : Int)) && (decide (v < w) && idxF n (w :: l)))))
  rw [ih]
  have e1 : decide (0 ≤ v) = !decide (v < 0) := by rw [Bool.eq_iff_iff]; simp
  have e2 : decide (v < (n : Int)) = !decide ((n : Int) ≤ v) := by rw [Bool.eq_iff_iff]; simp
  have e3 : decide (q < v) = !decide (v ≤ q) := by rw [Bool.eq_iff_iff]; simp
  rw [e1, e2, e3]
  show (!decide (v < 0) && (!decide ((n : Int) ≤ v) && (!decide (v ≤ q) && (decide (v < w) && idxF n (w :: l))))) = _
  generalize idxF n (w :: l) = t
  cases decide (v < 0) <;> cases decide ((n : Int) ≤ v) <;> cases decide (v ≤ q) <;> cases decide (v < w) <;> cases t <;> rfl
theorem ascI_idx {n : Nat} : ∀ l : List Int, ascI n none l = idxF n l
 | [] => rfl
 | [v] => by
  show (!decide (v < 0) && (!decide ((n : Int) ≤ v) && (true && true))) = (decide (0 ≤ v) && decide (v < (n : Int)))
  have e1 : decide (0 ≤ v) = !decide (v < 0) := by rw [Bool.eq_iff_iff]; simp
  have e2 : decide (v < (n : Int)) = !decide ((n : Int) ≤ v) := by rw [Bool.eq_iff_iff]; simp
  rw [e1, e2]
  cases decide (v < 0) <;> cases decide ((n : Int) ≤ v) <;> rfl
 | v :: w :: l => by
  have ih := ascI_some (n := n) (w :: l) v
  show (!decide (v < 0) && (!decide ((n : Int) ≤ v) && (true && ascI n (some v) (w :: l)))) = (decide (0 ≤ v) && (decide (v < (n : Int)) && (decide (v < w) && idxF n (w :: l))))
  rw [ih]
  have e1 : decide (0 ≤ v) = !decide (v < 0) := by rw [Bool.eq_iff_iff]; simp
  have e2 : decide (v < (n : Int)) = !decide ((n : Int) ≤ v) := by rw [Bool.eq_iff_iff]; simp
  rw [e1, e2]
  show (!decide (v < 0) && (!decide ((n : Int) ≤ v) && (true && (decide (v < w) && idxF n (w :: l))))) = _
  generalize idxF n (w :: l) = t
  cases decide (v < 0) <;> cases decide ((n : Int) ≤ v) <;> cases decide (v < w) <;> cases t <;> rfl
theorem o_dropZ {k : Option Bool} {l : List Int} (hk : Enc.Ok k l) {n : Nat} {z : Int} (hz : z = (n : Nat)) (hn : n ≤ l.length) : ∃ k', (∀ H : Heap, sliceT (.sl 3 ⟨some false, some 1⟩) H (intE.o k l) (some (.int .i64 z)) none none = some (intE.o k' (l.drop n))) ∧ Enc.Ok k' (l.drop n) := by
 subst hz
 cases k with
 | none =>
  have := hk rfl
  subst this
  have hn0 : n = 0 := by simpa using hn
  subst hn0
  exact ⟨none, fun _ => rfl, fun _ => rfl⟩
 | some x => exact ⟨some x, fun _ => Enc.drop_tree (O := intE) rfl hn, Enc.ok_some⟩
theorem ascRI_call {K : Option Bool} {l : List Int} {n : Nat} (hK : Enc.Ok K l) (hl : l.length ≤ 1000000) {lo : Nat} {st : Bool} {h : Heap} : retCall E (L E) lo st 55 [intE.o K l, .int .i64 (n : Int)] h = some (.bool (idxF n l), h) := by
 have r1 : ∀ H, reify E.P 8 H (intE.o K l) = some (intE.o K l) := fun H => Enc.o_reify
 have := ascRI_spec (n := (n : Int)) hK hl
 rw [ascI_idx] at this
 simp -implicitDefEqProofs [ret0 m55, r1, this]
theorem disj_call {K Ko Kp : Option Bool} {A : List (Option Bool × List ByteArray)} {o : List Nat} {t : List Int} (a : AlOk K A) (hKo : Enc.Ok Ko (castL o)) (hol : o.length ≤ 1000000) (hKp : Enc.Ok Kp t) (htl : t.length ≤ 1000000) (ht : idxF A.length t = true) {lo : Nat} {st : Bool} {h : Heap} :
  retCall E (L E) lo st 56 [listE.o K A, intE.o Ko (castL o), intE.o Kp t] h = some (.bool (disjR (als A) o [] (t.map Int.toNat)), h) := by
 have r1 : ∀ H, reify E.P 8 H (listE.o K A) = some (listE.o K A) := fun H => Enc.o_reify
 have r2 : ∀ H, reify E.P 8 H (intE.o Ko (castL o)) = some (intE.o Ko (castL o)) := fun H => Enc.o_reify
 have r3 : ∀ H, reify E.P 8 H (intE.o Kp t) = some (intE.o Kp t) := fun H => Enc.o_reify
 have e : t = castL (t.map Int.toNat) := (idx_cast ht).1.symm
 have hp : ∀ k ∈ t.map Int.toNat, k < A.length := (idx_cast ht).2
 have := disjoint_spec (Kp := Kp) (p := t.map Int.toNat) a hKo hol (by rw [← e]; exact hKp) (by rw [List.length_map]; exact htl) hp
 rw [← e] at this
 simp -implicitDefEqProofs [ret0 m56, r1, r2, r3, this]
theorem covers_call {K Ko Ka Kn : Option Bool} {A : List (Option Bool × List ByteArray)} {o : List Nat} {n : List Int} {aa : List ByteArray} (a : AlOk K A) (hKo : Enc.Ok Ko (castL o)) (hol : o.length ≤ 1000000) (ho : ∀ k ∈ o, k < A.length)
  (hKa : Enc.Ok Ka aa) (hal : aa.length ≤ 1000000) (hKn : Enc.Ok Kn n) (hnl : n.length ≤ 1000000) (hn : idxF aa.length n = true) {lo : Nat} {st : Bool} {h : Heap} :
  retCall E (L E) lo st 58 [listE.o K A, intE.o Ko (castL o), strE.o Ka aa, intE.o Kn n] h = some (.bool (coversR (als A) o aa (n.map Int.toNat)), h) := by
 have r1 : ∀ H, reify E.P 8 H (listE.o K A) = some (listE.o K A) := fun H => Enc.o_reify
 have r2 : ∀ H, reify E.P 8 H (intE.o Ko (castL o)) = some (intE.o Ko (castL o)) := fun H => Enc.o_reify
 have r3 : ∀ H, reify E.P 8 H (intE.o Kn n) = some (intE.o Kn n) := fun H => Enc.o_reify
 have r4 : ∀ H, reify E.P 8 H (strE.o Ka aa) = some (strE.o Ka aa) := fun H => Enc.o_reify
 have e : n = castL (n.map Int.toNat) := (idx_cast hn).1.symm
 have hp : ∀ k ∈ n.map Int.toNat, k < aa.length := (idx_cast hn).2
 have := covers_spec (Kn := Kn) (n := n.map Int.toNat) a hKo hol ho hKa hal (by rw [← e]; exact hKn) (by rw [List.length_map]; exact hnl) hp
 rw [← e] at this
 simp -implicitDefEqProofs [ret0 m58, r1, r2, r3, r4, this]
theorem frzAll4b {P : Program} {lo : Nat} {v1 v2 v3 v4 u2 : Value} {h h' : Heap} (h1 : ∀ h, freezeV P depth lo h v1 = some (v1, h)) (h2 : freezeV P depth lo h v2 = some (u2, h')) (h3 : ∀ h, freezeV P depth lo h v3 = some (v3, h)) (h4 : ∀ h, freezeV P depth lo h v4 = some (v4, h)) :
  frzAll P lo [v1, v2, v3, v4] h = some ([v1, u2, v3, v4], h') := by
 unfold frzAll
 simp [h1, h2, h3, h4]
structure RwOk (p : RowK) : Prop where
 k : p.1 = none → p.2 = []
 row : ∀ x ∈ p.2, Enc.Ok x.1 x.2 ∧ x.2.length ≤ 1000000
 len : p.2.length ≤ 1000000000000
theorem RwOk.enc {p : RowK} (h : RwOk p) : Enc.Ok p.1 p.2 := h.k
def RdS (K : Option Bool) (A : List (Option Bool × List ByteArray)) (b : Nat) (c : List ByteArray) : Prop := ∀ (Kc : Option Bool) (p : RowK), Enc.Ok Kc c → RwOk p →
  pureCall E.P (L E) 39 [listE.o K A, strE.o Kc c, .int .i64 (b : Int), rowE.o p.1 p.2] = some (.tuple #[rowE.o (readV (als A) (b + 1) c p).1.1 (readV (als A) (b + 1) c p).1.2, .bool (readV (als A) (b + 1) c p).2])
theorem readV_zero {l : List (List ByteArray)} {f : Nat} {c : List ByteArray} {k : Option Bool} {kx : Option Bool} {t : List Int} {rest : RowL} : readV l (f + 1) c (k, (kx, 0 :: t) :: rest) = ((k, rest), (idxF l.length t && decide (f + 1 ≤ t.length)) && disjR l (openR l c) [] (t.map Int.toNat)) := by
 unfold Co.readV
 exact if_pos rfl
theorem readV_nil {l : List (List ByteArray)} {f : Nat} {c : List ByteArray} {k : Option Bool} : readV l (f + 1) c (k, []) = badK := rfl
theorem readV_mt {l : List (List ByteArray)} {f : Nat} {c : List ByteArray} {k : Option Bool} {kx : Option Bool} {rest : RowL} : readV l (f + 1) c (k, (kx, []) :: rest) = badK := rfl
theorem readV_one {l : List (List ByteArray)} {f : Nat} {c : List ByteArray} {k : Option Bool} {kx : Option Bool} {c0 : Int} {rest : RowL} (h : c0 ≠ 0) : readV l (f + 1) c (k, (kx, [c0]) :: rest) = badK := by
 unfold Co.readV
 dsimp only
 rw [if_neg h]
theorem readV_go {l : List (List ByteArray)} {f : Nat} {c : List ByteArray} {k : Option Bool} {kx : Option Bool} {c0 k0 : Int} {n : List Int} {rest : RowL} (h : c0 ≠ 0) : readV l (f + 1) c (k, (kx, c0 :: k0 :: n) :: rest) =
  if n = [] ∨ f = 0 then badK else if c0 ≠ 1 ∨ ¬ k0 ∈ castL (openR l c) then badK
     else if (idxF (l.getD k0.toNat []).length n && coversR l (openR l c) (l.getD k0.toNat []) (n.map Int.toNat)) = true then
      readL (fun s i => match (l.getD k0.toNat [])[i]? with | some y => readV l f (c ++ [y]) s | none => badK) (n.map Int.toNat) ((k, rest), true)
     else badK := by
 conv => lhs; unfold Co.readV
 dsimp only
 rw [if_neg h]
 have ec : castL (openR l c) = (openR l c).map Int.ofNat := rfl
 rw [ec]
 by_cases h1 : n = [] ∨ f = 0
 ·simp only [if_pos h1]
 by_cases h2 : c0 ≠ 1 ∨ ¬ k0 ∈ (openR l c).map Int.ofNat
 ·simp only [if_neg h1, if_pos h2]
 simp only [if_neg h1, if_neg h2]
 congr 1
 refine congrArg (fun G => readL G _ _) (funext fun s => funext fun i => ?_)
 cases (l.getD k0.toNat [])[i]? <;> rfl
set_option maxHeartbeats 4000000 in
theorem read_step {K : Option Bool} {A : List (Option Bool × List ByteArray)} (a : AlOk K A) (he : errV A = 0) {b : Nat} {c : List ByteArray} (hb : b ≤ 100) (hc : c.length ≤ 1000) (ih : ∀ b' s, b = b' + 1 → RdS K A b' (c ++ [s])) : RdS K A b c := by
 intro Kc p hKc hp
 have g := good_of he
 have eal : (als A).length = A.length := List.length_map _
 have h8 : A.length ≤ 8 := by have := g.few; omega
 have h12 : ∀ x ∈ als A, x.length ≤ 12 := g.small
 have oc_ := fun lo st h => openR_call a hKc (by omega) (lo := lo) (st := st) (h := h)
 have hop : ∀ k ∈ openR (als A) c, k < A.length := fun k hk => by
  have := List.mem_range.1 (List.mem_filter.1 hk).1
  omega
 have hopl : (openR (als A) c).length ≤ 8 := by
  have h1 : (openR (als A) c).length ≤ (List.range (als A).length).length := List.length_filter_le _ _
  rw [List.length_range] at h1
  omega
 have lP : ∀ H, lenT .sl H (rowE.o p.1 p.2) = some (.int .i64 p.2.length) := fun H => Enc.o_len hp.enc
 have lA : ∀ H, lenT .sl H (listE.o K A) = some (.int .i64 A.length) := fun H => Enc.o_len a.k
 have wb1 : b < 1000 := by omega
 rw [pureCall_fn F39 rfl]
 have eb : rowE.o badK.1.1 badK.1.2 = .slice none 0 0 := rfl
 have eb2 : badK.2 = false := rfl
 obtain ⟨k, rows⟩ := p
 cases rows with
 | nil =>
  rw [readV_nil, eb, eb2]
  generalize rowE.o _ _ = VP at *
  generalize strE.o Kc c = VC at *
  generalize listE.o K A = VA at *
  simp -implicitDefEqProofs at lP
  simp -implicitDefEqProofs [r39, p39, lP]
 | cons x rest =>
  obtain ⟨kx, x⟩ := x
  obtain ⟨hxk, hxl⟩ := hp.row (kx, x) List.mem_cons_self
  simp only at hxk hxl
  have hlen := hp.len
  simp only [List.length_cons] at hlen
  have hkn : ∃ kb, k = some kb := by
   cases k with
   | none => have := hp.k rfl; cases this
   | some kb => exact ⟨kb, rfl⟩
  obtain ⟨kb, rfl⟩ := hkn
  have iP : indexAddrT (.sl 42 ⟨some false, some 1⟩) (rowE.o (some kb) ((kx, x) :: rest)) (.int .i64 0) = some (cptr (intE.o kx x)) := Enc.index_o (O := rowE) (x := some kb) (l := (kx, x) :: rest) (i := 0) Enc.ok_some (Nat.succ_pos _)
  have ldX : ∀ H sz, loadT ⟨some false, sz⟩ H (cptr (intE.o kx x)) = some (intE.o kx x) := fun H sz => Enc.load_e (O := rowE) (kx, x)
  have lX : ∀ H, lenT .sl H (intE.o kx x) = some (.int .i64 x.length) := fun H => Enc.o_len hxk
  have lp0 : ¬ ((((kx, x) :: rest).length : Int) = 0) := by rw [List.length_cons]; omega
  have dP : ∀ H : Heap, sliceT (.sl 42 ⟨some false, some 1⟩) H (rowE.o (some kb) ((kx, x) :: rest)) (some (.int .i64 1)) none none = some (rowE.o (some kb) rest) := fun H => Enc.drop_tree (O := rowE) (l := (kx, x) :: rest) (n := 1) rfl (by rw [List.length_cons]; omega)
  simp only at lP
  generalize ((((kx, x) :: rest).length : Nat) : Int) = LP at *
  cases x with
  | nil =>
   rw [readV_mt, eb, eb2]
   generalize hVX : intE.o kx [] = VX at *
   generalize rowE.o (some kb) ((kx, []) :: rest) = VP at *
   generalize strE.o Kc c = VC at *
   generalize listE.o K A = VA at *
   generalize intE.o (some false) (castL (openR (als A) c)) = VO at *
   simp -implicitDefEqProofs at lX
   simp -implicitDefEqProofs [r39, p39, lP, lp0, iP, ldX, oc_, lX]
  | cons c0 t =>
   have i0 : indexAddrT (.sl 3 ⟨some false, some 1⟩) (intE.o kx (c0 :: t)) (.int .i64 0) = some (cptr (.int .i64 c0)) := Enc.index_o (O := intE) (l := c0 :: t) (i := 0) hxk (Nat.succ_pos _)
   have lx1 : (0 : Int) < ((c0 :: t).length : Int) := by rw [List.length_cons]; omega
   rw [List.length_cons] at hxl
   obtain ⟨k1, d1, hk1⟩ := o_dropZ (z := 1) hxk (n := 1) rfl (by rw [List.length_cons]; omega)
   rw [show (c0 :: t).drop 1 = t from rfl] at d1 hk1
   have ac := fun lo st h => ascRI_call (n := A.length) hk1 (by omega) (lo := lo) (st := st) (h := h)
   have dc := fun ht lo st h => disj_call (Ko := some false) (o := openR (als A) c) a Enc.ok_some (by omega) hk1 (by omega) ht (lo := lo) (st := st) (h := h)
   have wl : IntKind.i64.wrap (((c0 :: t).length : Int) - 1) = (t.length : Int) := (wrap64 (by rw [List.length_cons]; omega) (by rw [List.length_cons]; omega)).trans (by rw [List.length_cons]; omega)
   have lx3 : ((c0 :: t).length : Int) < 3 ↔ t.length < 2 := by rw [List.length_cons]; omega
   generalize (((c0 :: t).length : Nat) : Int) = LX at *
   by_cases h0 : c0 = 0
   ·subst h0
    rw [readV_zero, eal]
    simp only
    have rr : ∀ H, reify E.P 8 H (rowE.o (some kb) rest) = some (rowE.o (some kb) rest) := fun H => Enc.o_reify
    generalize rowE.o (some kb) ((kx, 0 :: t) :: rest) = VP at *
    generalize rowE.o (some kb) rest = VR at *
    generalize intE.o kx (0 :: t) = VX at *
    generalize intE.o k1 t = VT at *
    generalize strE.o Kc c = VC at *
    generalize listE.o K A = VA at *
    generalize intE.o (some false) (castL (openR (als A) c)) = VO at *
    cases q1 : idxF A.length t
    ·rw [q1] at ac
     rw [Bool.false_and, Bool.false_and]
     simp -implicitDefEqProofs [r39, p39, lP, lp0, iP, ldX, oc_, lX, lA, lx1, i0, d1, ac, dP, reifyAll_cons, reifyAll_nil, rr]
    ·rw [q1] at ac
     have dc := dc q1
     rw [Bool.true_and]
     by_cases q2 : b < t.length
     ·have q2' : (b : Int) < (t.length : Int) := by omega
      rw [decide_eq_true (show b + 1 ≤ t.length by omega), Bool.true_and]
      generalize disjR (als A) (openR (als A) c) [] (t.map Int.toNat) = dj at *
      simp -implicitDefEqProofs [r39, p39, lP, lp0, iP, ldX, oc_, lX, lA, lx1, i0, d1, ac, wl, q2, q2', dc, dP, reifyAll_cons, reifyAll_nil, rr]
     ·have q2' : ¬ (b : Int) < (t.length : Int) := by omega
      rw [decide_eq_false (show ¬ b + 1 ≤ t.length by omega), Bool.false_and]
      simp -implicitDefEqProofs [r39, p39, lP, lp0, iP, ldX, oc_, lX, lA, lx1, i0, d1, ac, wl, q2, q2', dP, reifyAll_cons, reifyAll_nil, rr]
   have h0z : ¬ c0 = 0 := h0
   by_cases ht2 : t.length < 2 ∨ b = 0
   ·have bad : readV (als A) (b + 1) c (some kb, (kx, c0 :: t) :: rest) = badK := by
     cases t with
     | nil => exact readV_one h0
     | cons k0 n =>
      rw [readV_go h0, if_pos]
      rcases ht2 with q | q
      ·exact .inl (List.eq_nil_of_length_eq_zero (by rw [List.length_cons] at q; omega))
      ·exact .inr q
    rw [bad, eb, eb2]
    generalize rowE.o (some kb) ((kx, c0 :: t) :: rest) = VP at *
    generalize intE.o kx (c0 :: t) = VX at *
    generalize strE.o Kc c = VC at *
    generalize listE.o K A = VA at *
    generalize intE.o (some false) (castL (openR (als A) c)) = VO at *
    by_cases q : LX < 3
    ·simp -implicitDefEqProofs [r39, p39, lP, lp0, iP, ldX, oc_, lX, lx1, i0, h0z, q]
    ·have hb0 : b = 0 := by
      rcases ht2 with q2 | q2
      ·exact absurd (lx3.2 q2) q
      ·exact q2
     subst hb0
     simp -implicitDefEqProofs [r39, p39, lP, lp0, iP, ldX, oc_, lX, lx1, i0, h0z, q]
   have q3 : ¬ LX < 3 := fun q => ht2 (.inl (lx3.1 q))
   have hb0 : b ≠ 0 := fun q => ht2 (.inr q)
   obtain ⟨b', rfl⟩ : ∃ b', b = b' + 1 := ⟨b - 1, by omega⟩
   have qb : ¬ (((b' + 1 : Nat) : Int) < 1) := by omega
   cases t with
   | nil => exact absurd (.inl (by show 0 < 2; omega)) ht2
   | cons k0 n =>
    have hn : n ≠ [] := fun e => ht2 (.inl (by rw [e]; show 1 < 2; omega))
    rw [readV_go h0, if_neg (by
     rintro (q | q)
     ·exact hn q
     ·omega)]
    have i1 : indexAddrT (.sl 3 ⟨some false, some 1⟩) (intE.o kx (c0 :: k0 :: n)) (.int .i64 1) = some (cptr (.int .i64 k0)) := Enc.index_o (O := intE) (l := c0 :: k0 :: n) (i := 1) hxk (by rw [List.length_cons, List.length_cons]; omega)
    have ic := fun lo st h => index_call (K := some false) (l := castL (openR (als A) c)) (s := k0) Enc.ok_some (by rw [cast_len]; omega) (lo := lo) (st := st) (h := h)
    by_cases h2 : c0 ≠ 1 ∨ ¬ k0 ∈ castL (openR (als A) c)
    ·rw [if_pos h2, eb, eb2]
     generalize rowE.o (some kb) ((kx, c0 :: k0 :: n) :: rest) = VP at *
     generalize intE.o kx (c0 :: k0 :: n) = VX at *
     generalize strE.o Kc c = VC at *
     generalize listE.o K A = VA at *
     generalize hVO : intE.o (some false) (castL (openR (als A) c)) = VO at *
     by_cases q : c0 = 1
     ·have hm : Co.memB k0 (castL (openR (als A) c)) = false := Bool.eq_false_iff.2 fun e => by
       rcases h2 with h2 | h2
       ·exact h2 q
       ·exact h2 (Co.memB_iff.1 e)
      rw [hm] at ic
      subst q
      simp -implicitDefEqProofs [r39, p39, lP, lp0, iP, ldX, oc_, lX, lx1, i0, q3, qb, i1, ic, -Int.natCast_add]
     ·simp -implicitDefEqProofs [r39, p39, lP, lp0, iP, ldX, oc_, lX, lx1, i0, h0z, q3, qb, q, -Int.natCast_add]
    rw [if_neg h2]
    have hc1 : c0 = 1 := Classical.byContradiction fun q => h2 (.inl q)
    have hkm : k0 ∈ castL (openR (als A) c) := Classical.byContradiction fun q => h2 (.inr q)
    subst hc1
    have hm : Co.memB k0 (castL (openR (als A) c)) = true := Co.memB_iff.2 hkm
    rw [hm] at ic
    obtain ⟨j0, hj0, hjk⟩ := List.mem_map.1 (show k0 ∈ (openR (als A) c).map Int.ofNat from hkm)
    have hjk : (j0 : Int) = k0 := hjk
    subst hjk
    have hjA : j0 < A.length := hop j0 hj0
    rw [Int.toNat_natCast, als_get A hjA]
    have hai := List.getElem_mem hjA
    have hka := a.row _ hai
    have hsm : A[j0].2.length ≤ 12 := h12 _ (List.mem_map.2 ⟨_, hai, rfl⟩)
    have iA := Enc.index_o (O := listE) (t := 23) (k := .i64) a.k hjA
    have ldA : ∀ h sz, loadT ⟨some false, sz⟩ h (cptr (listE.e A[j0])) = some (strE.o A[j0].1 A[j0].2) := fun h sz => Enc.load_e (O := listE) _
    have lS : ∀ H, lenT .sl H (strE.o A[j0].1 A[j0].2) = some (.int .i64 A[j0].2.length) := fun H => Enc.o_len hka
    have as_ : ∀ (i : Nat) (hi : i < A[j0].2.length), indexAddrT (.sl 9 ⟨some false, some 1⟩) (strE.o A[j0].1 A[j0].2) (.int .i64 (i : Int)) = some (cptr (.string A[j0].2[i])) := fun i hi => Enc.index_o hka hi
    simp only [List.length_cons] at hxl
    obtain ⟨k2, d2, hk2⟩ := o_dropZ (z := 2) hxk (n := 2) rfl (by rw [List.length_cons, List.length_cons]; omega)
    rw [show ((1 : Int) :: (j0 : Int) :: n).drop 2 = n from rfl] at d2 hk2
    have lN : ∀ H, lenT .sl H (intE.o k2 n) = some (.int .i64 n.length) := fun H => Enc.o_len hk2
    have acn := fun lo st h => ascRI_call (n := A[j0].2.length) hk2 (by omega) (lo := lo) (st := st) (h := h)
    have ccn := fun (hx : idxF A[j0].2.length n = true) lo st h => covers_call (Ko := some false) (o := openR (als A) c) (aa := A[j0].2) (n := n) a Enc.ok_some (by omega) hop hka (by omega) hk2 (by omega) hx (lo := lo) (st := st) (h := h)
    by_cases h3 : (idxF A[j0].2.length n && coversR (als A) (openR (als A) c) A[j0].2 (n.map Int.toNat)) = true
    case neg =>
     rw [if_neg h3, eb, eb2]
     generalize rowE.o (some kb) ((kx, 1 :: (j0 : Int) :: n) :: rest) = VP at *
     generalize intE.o kx (1 :: (j0 : Int) :: n) = VX at *
     generalize intE.o k2 n = VN at *
     generalize strE.o Kc c = VC at *
     generalize listE.o K A = VA at *
     generalize strE.o A[j0].1 A[j0].2 = VS at *
     generalize cptr (listE.e A[j0]) = VE at *
     generalize hVO : intE.o (some false) (castL (openR (als A) c)) = VO at *
     cases q1 : idxF A[j0].2.length n
     ·rw [q1] at acn
      simp -implicitDefEqProofs [r39, p39, lP, lp0, iP, ldX, oc_, lX, lx1, i0, q3, qb, i1, ic, iA, ldA, d2, lS, acn, -Int.natCast_add]
     ·rw [q1] at acn
      have ccn := ccn q1
      rw [q1, Bool.true_and] at h3
      rw [Bool.eq_false_iff.2 h3] at ccn
      simp -implicitDefEqProofs [r39, p39, lP, lp0, iP, ldX, oc_, lX, lx1, i0, q3, qb, i1, ic, iA, ldA, d2, lS, acn, ccn, -Int.natCast_add]
    rw [if_pos h3]
    obtain ⟨q1, q2⟩ := Bool.and_eq_true_iff.1 h3
    rw [q1] at acn
    have ccn2 := ccn q1
    rw [q2] at ccn2
    clear ccn
    have eN : castL (n.map Int.toNat) = n := (idx_cast q1).1
    have hNl : ∀ i ∈ n.map Int.toNat, i < A[j0].2.length := (idx_cast q1).2
    have hrest : RwOk ((some kb, rest) : RowK) := ⟨fun h => (by cases h), fun y hy => hp.row y (List.mem_cons_of_mem _ hy), by show rest.length ≤ 1000000000000; omega⟩
    obtain ⟨G, hG⟩ : ∃ G : RowK → Nat → RowK × Bool, G = fun s i => match A[j0].2[i]? with | some y => readV (als A) (b' + 1) (c ++ [y]) s | none => badK := ⟨_, rfl⟩
    have hGc : ∀ (s : RowK) (i : Nat) (hi : i < A[j0].2.length), RwOk s → RwOk (G s i).1 ∧ pureCall E.P (L E) 39 [listE.o K A, strE.o (some false) (c ++ [A[j0].2[i]]), .int .i64 (b' : Int), rowE.o s.1 s.2] = some (.tuple #[rowE.o (G s i).1.1 (G s i).1.2, .bool (G s i).2]) := fun s i hi hs => by
     have e : G s i = readV (als A) (b' + 1) (c ++ [A[j0].2[i]]) s := by rw [hG]; dsimp only; rw [List.getElem?_eq_getElem hi]
     rw [e]
     have ro := Co.read_ok (als A) (b' + 1) (c ++ [A[j0].2[i]]) s hs.k
     exact ⟨⟨ro.ok, fun x hx => hs.row x (ro.suf x hx), Nat.le_trans ro.len hs.len⟩, ih b' A[j0].2[i] rfl (some false) s Enc.ok_some hs⟩
    have eGG : (fun (s : RowK) (i : Nat) => match A[j0].2[i]? with | some y => readV (als A) (b' + 1) (c ++ [y]) s | none => badK) = G := by rw [hG]
    have eG2 : readL (fun s i => match A[j0].2[i]? with | some y => readV (als A) (b' + 1) (c ++ [y]) s | none => badK) (n.map Int.toNat) ((some kb, rest), true) = readL G (n.map Int.toNat) ((some kb, rest), true) := by rw [← eGG]
    rw [eG2]
    clear eG2 eGG hG
    have an : ∀ (i : Nat) (hi : i < (n.map Int.toNat).length), indexAddrT (.sl 3 ⟨some false, some 1⟩) (intE.o k2 n) (.int .i64 (i : Int)) = some (cptr (.int .i64 ((n.map Int.toNat)[i] : Int))) := fun i hi => by
     have hk2' : Enc.Ok k2 (castL (n.map Int.toNat)) := by rw [eN]; exact hk2
     have := Enc.index_o (O := intE) (t := 3) (k := .i64) hk2' (i := i) (by rw [cast_len]; exact hi)
     rw [cast_get hi] at this
     rw [eN] at this
     exact this
    have hnl : n.length = (n.map Int.toNat).length := (List.length_map _).symm
    rw [hnl] at lN
    generalize hnn : n.map Int.toNat = nn at *
    have fA : ∀ h, freezeV E.P depth 0 h (listE.o K A) = some (listE.o K A, h) := fun h => Enc.o_frz
    have bA : ∀ d n, below (d + 1) n (listE.o K A) = true := fun d n => Enc.o_bel
    have bC : ∀ d n, below (d + 1) n (strE.o Kc c) = true := fun d n => Enc.o_bel
    have bO : ∀ d n, below (d + 1) n (intE.o (some false) (castL (openR (als A) c))) = true := fun d n => Enc.o_bel
    have bP : ∀ d m, below (d + 1) m (rowE.o (some kb) ((kx, 1 :: (j0 : Int) :: n) :: rest)) = true := fun d m => Enc.o_bel
    have bX : ∀ d m, below (d + 1) m (intE.o kx (1 :: (j0 : Int) :: n)) = true := fun d m => Enc.o_bel
    have bN : ∀ d m, below (d + 1) m (intE.o k2 n) = true := fun d m => Enc.o_bel
    have bS : ∀ d n, below (d + 1) n (strE.o A[j0].1 A[j0].2) = true := fun d n => Enc.o_bel
    have bE : ∀ d n, below (d + 1) n (cptr (listE.e A[j0])) = true := fun _ _ => rfl
    have bR : ∀ d m (s : RowK), below (d + 1) m (rowE.o s.1 s.2) = true := fun d m s => Enc.o_bel
    have pu := fun (s : ByteArray) => push1 (O := strE) (el := elStr) (lo := 0) (H := []) (k := Kc) (a := c) (s := s) rfl hKc (by show (c.length + 1) * 16 ≤ _; omega) (Nat.zero_le _)
    have fz : ∀ (s : ByteArray), freezeV E.P depth 0 [strE.row 9 (c ++ [s])] (Enc.sl 0 (c ++ [s])) = some (strE.o (some false) (c ++ [s]), [AObj.dead]) := fun s => by
     have := Enc.frz_sl (O := strE) (P := E.P) (h := [strE.row 9 (c ++ [s])]) (b := 0) (lo := 0) (t := 9) (l := c ++ [s]) rfl sStr aStr (Nat.zero_le _)
     rw [if_neg (by rw [List.length_append]; simp)] at this
     exact this
    have f4 := fun (s : ByteArray) (r : RowK) => frzAll4b (v3 := .int .i64 (b' : Int)) fA (fz s) (fun h => frz_int (n := 7)) (fun h => Enc.o_frz (O := rowE) (k := r.1) (l := r.2))
    have wb2 : IntKind.i64.wrap (((b' + 1 : Nat) : Int) - 1) = (b' : Int) := (wrap64 (by omega) (by omega)).trans (by omega)
    have l0_ : ∀ H, buildSliceT (some elStr) false H 0 #[] = some (lst true [], H) := fun _ => rfl
    have l1_ : ∀ H s, buildSliceT (some elStr) false H 1 #[(0, .string s)] = some (lst true (strE.vals [s]), H) := fun H s => Enc.lit (O := strE) s rfl rfl rfl
    have rr : ∀ H (s : RowK), reify E.P 8 H (rowE.o s.1 s.2) = some (rowE.o s.1 s.2) := fun H s => Enc.o_reify
    obtain ⟨R, hR⟩ : ∃ R, R = readL G nn ((some kb, rest), true) := ⟨_, rfl⟩
    rw [← hR]
    obtain ⟨V0, hV0⟩ : ∃ V0, V0 = rowE.o (some kb) rest := ⟨_, rfl⟩
    rw [← hV0] at dP
    have bV0 : ∀ d m, below (d + 1) m V0 = true := fun d m => by rw [hV0]; exact Enc.o_bel
    generalize rowE.o (some kb) ((kx, 1 :: (j0 : Int) :: n) :: rest) = VP at *
    generalize intE.o kx (1 :: (j0 : Int) :: n) = VX at *
    generalize intE.o k2 n = VN at *
    generalize hVC : strE.o Kc c = VC at *
    generalize listE.o K A = VA at *
    generalize strE.o A[j0].1 A[j0].2 = VS at *
    generalize cptr (listE.e A[j0]) = VE at *
    generalize hVO : intE.o (some false) (castL (openR (als A) c)) = VO at *
    simp -implicitDefEqProofs [r39, p39, lP, lp0, iP, ldX, oc_, lX, lx1, i0, q3, qb, i1, ic, iA, ldA, d2, lS, acn, ccn2, dP, -Int.natCast_add]
    rw [LL_for (γ := RowK × Bool) nn ((some kb, rest), true) (fun i s => [(15, rowE.o s.1.1 s.1.2), (16, .bool s.2), (17, .int .i64 (i : Int))]) (fun _ _ => []) (fun i r s => (.exit 0, [(15, rowE.o (readL G r s).1.1 (readL G r s).1.2), (16, .bool (readL G r s).2), (17, undef)], [])) (fun _ s => RwOk s.1) (by omega) hrest]
    ·rw [← hR]
     have rr := rr [] R.1
     generalize rowE.o R.1.1 R.1.2 = VR at *
     simp -implicitDefEqProofs [k39_19, reifyAll_cons, reifyAll_nil, rr]
    ·rw [hV0]
     simp -implicitDefEqProofs [k39_19]
    ·rfl
    ·intro nx i s hi _
     have e0 : readL G [] s = s := rfl
     rw [e0]
     simp -implicitDefEqProofs [r39_19, k39_19, lN, hi, trim_le]
    ·intro nx i v rst s hi hv hd hw hI ihl
     have hi2 : ((i : Int) < (nn.length : Int)) := by omega
     obtain ⟨sp, sb⟩ := s
     simp only at hI
     dsimp only
     have ee : readL G (v :: rst) (sp, sb) = if sb = true then readL G rst (G sp v) else (sp, sb) := rfl
     rw [ee]
     cases sb
     ·rw [if_neg (by decide)]
      simp -implicitDefEqProofs [r39_19, k39_19, lN, hi2, trim_le]
     ·rw [if_pos rfl]
      have hvl : v < A[j0].2.length := hNl v (by rw [← hv]; exact List.getElem_mem hi)
      have x1 := an i hi
      rw [hv] at x1
      have x2 := as_ v hvl
      obtain ⟨g1, g2⟩ := hGc sp v hvl hI
      have ihl := ihl (G sp v) g1
      obtain ⟨V1, H1, a1, a2⟩ := pu A[j0].2[v]
      have f4 := f4 A[j0].2[v] sp
      have l1_ := fun H => l1_ H A[j0].2[v]
      have bR1 := fun d m => bR d m sp
      have bR2 := fun d m => bR d m (G sp v).1
      have e2 : (((i + 1 : Nat) : Int)) = (i : Int) + 1 := by omega
      rw [e2] at ihl
      simp -implicitDefEqProofs only [List.nil_append, List.length_nil] at a2
      generalize A[j0].2[v] = y at *
      generalize rowE.o sp.1 sp.2 = VSP at *
      generalize rowE.o (G sp v).1.1 (G sp v).1.2 = VG at *
      generalize readL G rst (G sp v) = RL at *
      generalize rowE.o RL.1.1 RL.1.2 = VRL at *
      generalize strE.o (some false) (c ++ [y]) = VCS at *
      generalize Enc.sl 0 (c ++ [y]) = V2 at *
      generalize strE.row 9 (c ++ [y]) = RW at *
      simp -implicitDefEqProofs [k39_19, -Int.natCast_add] at ihl
      simp -implicitDefEqProofs [r39_19, k39_19, lN, hi2, x1, x2, l0_, l1_, a1, a2, wb2, ret4 m39, f4, g2, hw, ihl, trim_cut, bA, bC, bO, bP, bX, bN, bS, bE, bV0, bR1, bR2, -List.all_eq_true, -List.all_map, -Int.natCast_add]
theorem read_spec {K : Option Bool} {A : List (Option Bool × List ByteArray)} (a : AlOk K A) (he : errV A = 0) : ∀ (b : Nat) (c : List ByteArray), b ≤ 100 → c.length + b ≤ 1000 → RdS K A b c := by
 intro b
 induction b with
 | zero => intro c h1 h2; exact read_step a he h1 (by omega) fun b' s e => by omega
 | succ b ih =>
  intro c h1 h2
  refine read_step a he h1 (by omega) fun b' s e => ?_
  have e : b = b' := by omega
  subst e
  exact ih (c ++ [s]) (by omega) (by rw [List.length_append, List.length_singleton]; omega)
theorem hitsR_call {K kc : Option Bool} {A : List (Option Bool × List ByteArray)} {c : List ByteArray} (a : AlOk K A) (hkc : Enc.Ok kc c) (hc : c.length ≤ 1000000) {lo : Nat} {st : Bool} {h : Heap} : retCall E (L E) lo st 18 [listE.o K A, strE.o kc c] h = some (.bool (Co.hitsF (als A) c), h) := by
 have r1 : ∀ H, reify E.P 8 H (listE.o K A) = some (listE.o K A) := fun H => Enc.o_reify
 have r2 : ∀ H, reify E.P 8 H (strE.o kc c) = some (strE.o kc c) := fun H => Enc.o_reify
 have hl := a.len
 have := hitsR_spec a.k a.row (by omega) (fun x hx => by have := a.sm x hx; omega) hkc (show c.length ≤ 9223372036854775807 by omega)
 simp -implicitDefEqProofs [ret0 m18, r1, r2, this]
set_option maxHeartbeats 1000000 in
theorem checkR_spec {K kc : Option Bool} {A : List (Option Bool × List ByteArray)} {c : List ByteArray} {R : RowK} (a : AlOk K A) (hkc : Enc.Ok kc c) (hc : c.length ≤ 100) (hR : RwOk R) :
  pureCall E.P (L E) 20 [listE.o K A, strE.o kc c, rowE.o R.1 R.2] = some (.int .i64 (checkV A c (R.2.map (·.2)))) := by
 have mc := fun lo st h => mayR_call a (lo := lo) (st := st) (h := h)
 have hl := a.len
 have ac := fun lo st h => ascR_call (k := kc) (l := c) hkc (by omega) (lo := lo) (st := st) (h := h)
 have hc_ := fun lo st h => hitsR_call (c := c) a hkc (by omega) (lo := lo) (st := st) (h := h)
 rw [pureCall_fn F20 rfl]
 by_cases he : errV A = 0
 case neg =>
  have e : checkV A c (R.2.map (·.2)) = errV A := by unfold checkV; rw [if_pos he]
  rw [e]
  generalize rowE.o R.1 R.2 = VR at *
  generalize strE.o kc c = VC at *
  generalize listE.o K A = VA at *
  simp -implicitDefEqProofs [r20, p20, mc, he]
 have g := good_of he
 have lc : ∀ H, lenT .sl H (strE.o kc c) = some (.int .i64 (c.length : Int)) := fun H => Enc.o_len hkc
 cases q1 : Co.ascB Co.ltB c
 ·have e : checkV A c (R.2.map (·.2)) = 19 := check_no he (by rw [q1]; rfl)
  rw [e]
  rw [q1] at ac
  rw [he] at mc
  generalize rowE.o R.1 R.2 = VR at *
  generalize strE.o kc c = VC at *
  generalize listE.o K A = VA at *
  simp -implicitDefEqProofs [r20, p20, mc, ac]
 cases q2 : Co.hitsF (als A) c
 ·have e : checkV A c (R.2.map (·.2)) = 19 := check_no he (by rw [q1, q2]; rfl)
  rw [e]
  rw [q1] at ac
  rw [q2] at hc_
  rw [he] at mc
  generalize rowE.o R.1 R.2 = VR at *
  generalize strE.o kc c = VC at *
  generalize listE.o K A = VA at *
  simp -implicitDefEqProofs [r20, p20, mc, ac, hc_]
 rw [q1] at ac
 rw [q2] at hc_
 have hpos : 0 < c.length := by
  obtain ⟨x, r, e⟩ := List.exists_cons_of_ne_nil g.pos
  obtain ⟨s, _, hs⟩ := Co.hits_iff.1 q2 x (by rw [e]; exact List.mem_cons_self)
  exact List.length_pos_of_mem hs
 have rd := read_spec a he (c.length - 1) [] (by omega) (by show 0 + _ ≤ 1000; omega) none R (fun _ => rfl) hR
 have e1 : c.length - 1 + 1 = c.length := by omega
 rw [e1] at rd
 have ro := Co.read_ok (als A) c.length [] R hR.k
 rw [Co.left_nil] at ro
 have ev : checkV A c (R.2.map (·.2)) = if Co.followF (als A) c.length (R.2.map (·.2)) (Co.allF (als A)) = some [] then 0 else 19 := by
  unfold checkV
  rw [if_neg (by rw [he]; decide), q1, q2]; rfl
 have wl : IntKind.i64.wrap ((c.length : Int) - 1) = ((c.length - 1 : Nat) : Int) := (wrap64 (by omega) (by omega)).trans (by omega)
 have e0 : strE.o none [] = .slice none 0 0 := rfl
 rw [e0] at rd
 have f4 := fun lo h => frzAll4b (P := E.P) (lo := lo) (h := h) (v2 := .slice none 0 0) (u2 := .slice none 0 0) (h' := h) (v3 := .int .i64 ((c.length - 1 : Nat) : Int)) (fun h => Enc.o_frz (O := listE) (k := K) (l := A)) rfl (fun h => frz_int (n := 7)) (fun h => Enc.o_frz (O := rowE) (k := R.1) (l := R.2))
 obtain ⟨rv, hrv⟩ : ∃ rv, rv = Co.readV (als A) c.length [] R := ⟨_, rfl⟩
 rw [← hrv] at rd ro
 have lv : ∀ H, lenT .sl H (rowE.o rv.1.1 rv.1.2) = some (.int .i64 rv.1.2.length) := fun H => Enc.o_len ro.ok
 rw [he] at mc
 rw [ev]
 have hy := ro.yes
 have hn := ro.no
 generalize rv.2 = ok at *
 have hlz : rv.1.2.length = 0 ↔ rv.1.2.map (·.2) = [] := by rw [List.length_eq_zero_iff, List.map_eq_nil_iff]
 generalize rowE.o rv.1.1 rv.1.2 = VV at *
 generalize Co.followF (als A) c.length (R.2.map (·.2)) (Co.allF (als A)) = F at *
 generalize rowE.o R.1 R.2 = VR at *
 generalize strE.o kc c = VC at *
 generalize listE.o K A = VA at *
 generalize ((c.length - 1 : Nat) : Int) = b at *
 cases ok
 ·rw [if_neg (by rw [hn rfl]; simp)]
  simp -implicitDefEqProofs [r20, p20, mc, ac, hc_, lc, wl, ret4 m39, f4, rd]
 ·have hy := hy rfl
  by_cases q : rv.1.2.length = 0
  ·rw [if_pos (by rw [hy, hlz.1 q])]
   have q' : ¬ 0 < rv.1.2.length := by omega
   simp -implicitDefEqProofs [r20, p20, mc, ac, hc_, lc, wl, ret4 m39, f4, rd, lv, q']
  ·rw [if_neg (by
    rw [hy]
    intro e
    exact q (hlz.2 (Option.some.inj e)))]
   have q' : 0 < rv.1.2.length := by omega
   simp -implicitDefEqProofs [r20, p20, mc, ac, hc_, lc, wl, ret4 m39, f4, rd, lv, q']
theorem checkR_call {K kc : Option Bool} {A : List (Option Bool × List ByteArray)} {c : List ByteArray} {R : RowK} (a : AlOk K A) (hkc : Enc.Ok kc c) (hc : c.length ≤ 100) (hR : RwOk R) {lo : Nat} {st : Bool} {h : Heap} :
  retCall E (L E) lo st 20 [listE.o K A, strE.o kc c, rowE.o R.1 R.2] h = some (.int .i64 (checkV A c (R.2.map (·.2))), h) := by
 have r1 : ∀ H, reify E.P 8 H (listE.o K A) = some (listE.o K A) := fun H => Enc.o_reify
 have r2 : ∀ H, reify E.P 8 H (strE.o kc c) = some (strE.o kc c) := fun H => Enc.o_reify
 have r3 : ∀ H, reify E.P 8 H (rowE.o R.1 R.2) = some (rowE.o R.1 R.2) := fun H => Enc.o_reify
 have := checkR_spec a hkc hc hR
 simp -implicitDefEqProofs [ret0 m20, r1, r2, r3, this]
end Go.Proofs.YtgefjhjmkejjbaaDoor.Bm
namespace Go.Proofs.YtgefjhjmkejjbaaDoor.Bm
open Go Go.RowKit
open Co (ltB ascB hitsF coreF RowK)
theorem FlP.rw {k : Option Bool} {R : RowL} (h : FlP k R) : RwOk ((k, R) : RowK) := ⟨h.kk, fun x hx => ⟨(h.rows x hx).1, by have := (h.rows x hx).2; omega⟩, h.len⟩
theorem fl_same {k k' : Option Bool} {R R' : RowL} (h : FlP k R) (hk : k' = none → R' = []) (hr : ∀ x ∈ R', Enc.Ok x.1 x.2) (e : R'.map (·.2) = R.map (·.2)) : FlP k' R' := ⟨hk, fun x hx => ⟨hr x hx, by
 have : x.2 ∈ R.map (·.2) := by rw [← e]; exact List.mem_map.2 ⟨x, hx, rfl⟩
 obtain ⟨y, hy, hxy⟩ := List.mem_map.1 this
 have := (h.rows y hy).2
 rw [hxy] at this
 exact this⟩, by
 have := congrArg List.length e
 rw [List.length_map, List.length_map] at this
 have := h.len
 omega⟩
set_option maxHeartbeats 4000000 in
theorem tells_law {A : List (Option Bool × List ByteArray)} {c : List ByteArray} {R : RowL} (hA : ∀ x ∈ A, Enc.Ok x.1 x.2) (hAl : A.length ≤ 9223372036854775807) (hR : ∀ x ∈ R, Enc.Ok x.1 x.2) (hRl : R.length ≤ 9223372036854775807) (hcl : c.length ≤ 9223372036854775807) :
  ∃ h', L E 3 [listE.o (some false) A, strE.o (some false) c, rowE.o (some false) R] [] 0 = some (.bool true, h') := by
 have fw := fun lo st h => fewA_call (K := some false) Enc.ok_some hA hAl (lo := lo) (st := st) (h := h)
 have fp := fun lo st h => few_call (k := some false) Enc.ok_some hR hRl (lo := lo) (st := st) (h := h)
 have lc : ∀ H, lenT .sl H (strE.o (some false) c) = some (.int .i64 c.length) := fun H => Enc.o_len Enc.ok_some
 have sm := fun lo st h => small_call (lo := lo) (st := st) (h := h)
 rw [L_fn F3 rfl]
 by_cases hq : (fewA A && decide (A.length ≤ 10)) = true ∧ c.length ≤ 14 ∧ (fewB R && decide (R.length ≤ 200)) = true
 case neg =>
  refine ⟨[], ?_⟩
  generalize listE.o (some false) A = VA at *
  generalize strE.o (some false) c = VC at *
  generalize rowE.o (some false) R = VR at *
  cases q1 : (fewA A && decide (A.length ≤ 10))
  ·simp only [q1] at fw
   simp -implicitDefEqProofs [r3, p3, sm, fw]
  ·simp only [q1] at fw
   by_cases q2 : c.length ≤ 14
   ·have q2' : ¬ (14 : Int) < (c.length : Int) := by omega
    have q3 : (fewB R && decide (R.length ≤ 200)) = false := by
     cases q3 : (fewB R && decide (R.length ≤ 200))
     ·rfl
     ·exact absurd ⟨q1, q2, q3⟩ hq
    simp only [q3] at fp
    simp -implicitDefEqProofs [r3, p3, sm, fw, lc, q2', fp]
   ·have q2' : (14 : Int) < (c.length : Int) := by omega
    simp -implicitDefEqProofs [r3, p3, sm, fw, lc, q2']
 obtain ⟨q1, q2, q3⟩ := hq
 have q2' : ¬ (14 : Int) < (c.length : Int) := by omega
 simp only [q1] at fw
 simp only [q3] at fp
 rw [Bool.and_eq_true, decide_eq_true_eq] at q1 q3
 have al := few_al (K := some false) Enc.ok_some hA q1.1 q1.2
 have fl := few_fl hR (k := some false) Enc.ok_some q3.1 q3.2
 obtain ⟨ko, hco⟩ := core_ok (A := A)
 have le := fun lo h => least_call al (lo := lo) (h := h)
 have lr := fun lo st h => leastR_call al (lo := lo) (st := st) (h := h)
 have pr := fun lo st h => prove_call al (lo := lo) (st := st) (h := h)
 obtain ⟨kr, kr1, kr2, kr3, prr⟩ := proveR_top al
 have fk : FlP kr.1 kr.2 := fl_same proof_fl kr1 kr2 kr3
 have tx := fun lo st h => texts_call ko ko (by omega) (by omega) (lo := lo) (st := st) (h := h)
 have px := fun lo st h => proofs_call (proof_fl (A := A)) fk (proof_fl (A := A)).len (lo := lo) (st := st) (h := h)
 rw [decide_eq_true kr3.symm] at px
 rw [decide_eq_true rfl] at tx
 have ht := fun lo st h => hits_call al (kc := some false) (c := c) Enc.ok_some (by omega) (lo := lo) (st := st) (h := h)
 have htr := fun lo st h => hitsR_call al (kc := some false) (c := c) Enc.ok_some (by omega) (lo := lo) (st := st) (h := h)
 have c1 := fun lo st h => check_call al (kc := some false) (c := c) Enc.ok_some (by omega) fl (lo := lo) (st := st) (h := h)
 have d1 := fun lo st h => checkR_call al (kc := some false) (c := c) Enc.ok_some (by omega) fl.rw (lo := lo) (st := st) (h := h)
 have c2 := fun lo st h => check_call al (kc := (coreO A).1) (c := (coreO A).2) ko (by omega) fl (lo := lo) (st := st) (h := h)
 have d2 := fun lo st h => checkR_call al (kc := (coreO A).1) (c := (coreO A).2) ko (by omega) fl.rw (lo := lo) (st := st) (h := h)
 have c3 := fun lo st h => check_call al (kc := some false) (c := c) Enc.ok_some (by omega) fk (lo := lo) (st := st) (h := h)
 have d3 := fun lo st h => checkR_call al (kc := some false) (c := c) Enc.ok_some (by omega) fk.rw (lo := lo) (st := st) (h := h)
 simp only at d1 d2 d3
 generalize checkV A c (R.map (·.2)) = v1 at *
 generalize checkV A (coreO A).2 (R.map (·.2)) = v2 at *
 generalize checkV A c (kr.2.map (·.2)) = v3 at *
 generalize errV A = ev at *
 generalize hitsF (als A) c = hv at *
 generalize listE.o (some false) A = VA at *
 generalize strE.o (some false) c = VC at *
 generalize rowE.o (some false) R = VR at *
 generalize strE.o (coreO A).1 (coreO A).2 = VO at *
 generalize rowE.o (proofO A).1 (proofO A).2 = VP at *
 generalize rowE.o kr.1 kr.2 = VK at *
 refine ⟨[], ?_⟩
 have bn : aBin E.P .neq 4 (.bool hv) (.bool hv) = some (.bool false) := by
  rw [bin_neq_bool (by kernel_rfl)]
  cases hv <;> rfl
 simp -implicitDefEqProofs [r3, p3, sm, fw, lc, q2', fp, le, lr, pr, prr, tx, px, ht, htr, c1, d1, c2, d2, c3, d3, bn]
end Go.Proofs.YtgefjhjmkejjbaaDoor.Bm
