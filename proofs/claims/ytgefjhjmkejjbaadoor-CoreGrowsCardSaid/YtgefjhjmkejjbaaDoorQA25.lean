/-
  Chapter 27: the law of the least core. Conditions: arguments as data.
-/
import Derived.Test.YtgefjhjmkejjbaaDoorQA24
namespace Go.Proofs.YtgefjhjmkejjbaaDoor.Bm
open Go Go.RowKit
open Co (ltB ascB insF namesF)
def cntF (s : ByteArray) : List ByteArray → Nat
  | [] => 0
  | a :: l => if ltB a s = true then cntF s l + 1 else 0
theorem cnt_le (s : ByteArray) : ∀ l, cntF s l ≤ l.length
  | [] => Nat.le_refl _
  | a :: l => by
    have := cnt_le s l
    unfold cntF
    split
    · rw [List.length_cons]; omega
    · omega
theorem ins_old (s : ByteArray) : ∀ l : List ByteArray, l[cntF s l]? = some s → insF ltB s l = l
  | [], h => by simp [cntF] at h
  | a :: l, h => by
    unfold cntF at h
    unfold insF
    by_cases q : ltB a s = true
    · rw [if_pos q] at h ⊢
      rw [ins_old s l (by simpa using h)]
    · rw [if_neg q] at h ⊢
      have : a = s := by simpa using h
      rw [if_pos this]
theorem ins_new (s : ByteArray) : ∀ l : List ByteArray, l[cntF s l]? ≠ some s → insF ltB s l = l.take (cntF s l) ++ [s] ++ l.drop (cntF s l)
  | [], _ => rfl
  | a :: l, h => by
    unfold cntF at h ⊢
    unfold insF
    by_cases q : ltB a s = true
    · rw [if_pos q] at h ⊢
      rw [if_pos q, ins_new s l (by simpa using h)]; rfl
    · rw [if_neg q] at h ⊢
      have : a ≠ s := by simpa using h
      rw [if_neg q, if_neg this]; rfl
def OutV (H : Heap) (V : Value) (l : List ByteArray) : Prop := (∃ k, Enc.Ok k l ∧ V = strE.o k l) ∨ ∃ b, V = Enc.sl b l ∧ H[b]? = some (strE.row 9 l)
theorem OutV.trim {H : Heap} {V : Value} {l : List ByteArray} (o : OutV H V l) {n : Nat} {vs : List Value} (hv : V ∈ vs) : OutV (Bm.trim n vs H) V l := by
  rcases o with o | ⟨b, rfl, hb⟩
  · exact .inl o
  · refine .inr ⟨b, rfl, ?_⟩
    unfold Bm.trim
    split
    · exact hb
    · split
      · rename_i q
        rw [Bool.and_eq_true] at q
        have h1 : decide (b < n) = true := List.all_eq_true.1 q.1 _ hv
        rw [List.getElem?_take_of_lt (of_decide_eq_true h1)]; exact hb
      · exact hb
theorem sStr : szOf E.P 9 = some 1 := by kernel_rfl
theorem aStr : aggT E.P 9 = some false := by kernel_rfl
theorem OutV.frz {H : Heap} {V : Value} {l : List ByteArray} (o : OutV H V l) : ∃ k H', freezeV E.P depth 0 H V = some (strE.o k l, H') ∧ Enc.Ok k l := by
  rcases o with ⟨k, hk, rfl⟩ | ⟨b, rfl, hb⟩
  · exact ⟨k, H, Enc.o_frz, hk⟩
  · exact ⟨some false, _, Enc.frz_sl (O := strE) hb sStr aStr (Nat.zero_le _), Enc.ok_some⟩
theorem OutV.reify {H : Heap} {V : Value} {l : List ByteArray} (o : OutV H V l) : ∃ k, reifyR E.P H V = some (strE.o k l) ∧ Enc.Ok k l := by
  rcases o with ⟨k, hk, rfl⟩ | ⟨b, rfl, hb⟩
  · exact ⟨k, Enc.o_reifyR, hk⟩
  · exact ⟨some false, Enc.reifyR_sl (O := strE) hb sStr aStr, Enc.ok_some⟩
theorem o_take {k : Option Bool} {l : List ByteArray} (hk : Enc.Ok k l) {n : Nat} (hn : n ≤ l.length) : ∃ k', (∀ H : Heap, sliceT (.sl 9 ⟨some false, some 1⟩) H (strE.o k l) none (some (.int .i64 (n : Int))) none = some (strE.o k' (l.take n))) ∧ Enc.Ok k' (l.take n) := by
  cases k with
  | none =>
    have := hk rfl
    subst this
    have hn0 : n = 0 := by simpa using hn
    subst hn0
    exact ⟨none, fun _ => rfl, fun _ => rfl⟩
  | some x => exact ⟨some (x && n == l.length), fun _ => Enc.take_tree (O := strE) hn, Enc.ok_some⟩
theorem o_drop {k : Option Bool} {l : List ByteArray} (hk : Enc.Ok k l) {n : Nat} (hn : n ≤ l.length) : ∃ k', (∀ H : Heap, sliceT (.sl 9 ⟨some false, some 1⟩) H (strE.o k l) (some (.int .i64 (n : Int))) none none = some (strE.o k' (l.drop n))) ∧ Enc.Ok k' (l.drop n) := by
  cases k with
  | none =>
    have := hk rfl
    subst this
    have hn0 : n = 0 := by simpa using hn
    subst hn0
    exact ⟨none, fun _ => rfl, fun _ => rfl⟩
  | some x => exact ⟨some x, fun _ => Enc.drop_tree (O := strE) rfl hn, Enc.ok_some⟩
theorem push3 {H : Heap} {k1 k2 : Option Bool} {a d : List ByteArray} {s : ByteArray} (h1 : Enc.Ok k1 a) (h2 : Enc.Ok k2 d) (hl : a.length + d.length ≤ 2000000) : ∃ V1 H1 V2 H2, (∀ st, appendT (some elStr) H 0 st (lst true []) (strE.o k1 a) = some (V1, H1)) ∧ appendT (some elStr) H1 0 false V1 (lst true (strE.vals [s])) = some (V2, H2) ∧
    appendT (some elStr) H2 0 false V2 (strE.o k2 d) = some (Enc.sl H.length (a ++ [s] ++ d), H ++ [strE.row 9 (a ++ [s] ++ d)]) := by
  have last : ∀ x : List ByteArray, (H ++ [strE.row 9 x])[H.length]? = some (strE.row 9 x) := fun x => by rw [List.getElem?_append_right (Nat.le_refl _)]; simp
  have sets : ∀ x y : List ByteArray, (H ++ [strE.row 9 x]).set H.length (strE.row 9 y) = H ++ [strE.row 9 y] := fun x y => by rw [List.set_append_right _ _ (Nat.le_refl _), Nat.sub_self]; rfl
  have fin : ∀ x : List ByteArray, x = a ++ [s] → appendT (some elStr) (H ++ [strE.row 9 x]) 0 false (Enc.sl H.length x) (strE.o k2 d) = some (Enc.sl H.length (a ++ [s] ++ d), H ++ [strE.row 9 (a ++ [s] ++ d)]) := fun x hx => by
    subst hx
    have := Enc.app (O := strE) (el := elStr) (lo := 0) (m := d) (h := H ++ [strE.row 9 (a ++ [s])]) (b := H.length) (t := 9) (l := a ++ [s]) rfl (last _) (Enc.cells_o h2) (Nat.zero_le _) (by rw [List.length_append]; show (a.length + 1 + d.length) * 16 ≤ _; omega)
    rw [sets] at this
    exact this
  by_cases ha : a = []
  · subst ha
    refine ⟨lst true [], H, Enc.sl H.length [s], H ++ [strE.row 9 [s]], fun st => Enc.app_none (O := strE) rfl (Enc.cells_o h1), ?_, fin [s] rfl⟩
    exact Enc.app_tree (O := strE) (el := elStr) (l := []) (m := [s]) rfl (Enc.cells_tree (O := strE)) (by simp) (by show (0 + 1) * 16 ≤ _; omega)
  · refine ⟨Enc.sl H.length a, H ++ [strE.row 9 a], Enc.sl H.length (a ++ [s]), H ++ [strE.row 9 (a ++ [s])], fun st => ?_, ?_, fin _ rfl⟩
    · exact Enc.app_tree (O := strE) (el := elStr) (l := []) (m := a) rfl (Enc.cells_o h1) ha (by show (0 + a.length) * 16 ≤ _; omega)
    · have := Enc.app (O := strE) (el := elStr) (lo := 0) (m := [s]) (h := H ++ [strE.row 9 a]) (b := H.length) (t := 9) (l := a) rfl (last _) (Enc.cells_tree (O := strE) (x := true)) (Nat.zero_le _) (by show (a.length + 1) * 16 ≤ _; omega)
      rw [sets] at this
      exact this
def LpG {U : Type} (nx : Body) (k1 k2 : List Nat) (n : Nat) (Fh : U → Heap → CRes) (Kk : U → Heap → Prop) (r : CRes) : Prop := ∃ u h', lopK k1 k2 nx n r = Fh u h' ∧ Kk u h'
theorem LpG.peel {U V : Type} {nx : Body} {k1 k2 : List Nat} {n : Nat} {Fh : U → Heap → CRes} {Kk : U → Heap → Prop} {E : Env} {C : Callee} {Lp : List Nat × List Nat → Body → Body} {lo i j : Nat} {X : CRes} {rc : RCode} {Fi : V → Heap → CRes} {Ki : V → Heap → Prop}
    (h : ∃ u h', X = Fi u h' ∧ Ki u h') (k : ∀ u h', Ki u h' → LpG nx k1 k2 n Fh Kk (seqC E C Lp lo (blkK i (blkK j (Fi u h'))) rc)) : LpG nx k1 k2 n Fh Kk (seqC E C Lp lo (blkK i (blkK j X)) rc) := by
  obtain ⟨u, h', rfl, hk⟩ := h
  exact k u h' hk
theorem LL_uz {k : List Nat × List Nat} {b : Body} {σ₀ : Slots} {h₀ : Heap} {α U : Type} (a₀ : α) (up : α → List (Nat × Value)) (H : α → Heap) (e : Exit) (ups : U → List (Nat × Value)) (K : U → Heap → Prop) (I : α → Prop) (ms : α → Nat)
    (hI : I a₀) (e0 : sets (up a₀) (forget k.1 σ₀) = forget k.1 σ₀) (e1 : H a₀ = h₀)
    (step : ∀ F : U → Heap → CRes, (∀ u h', F u h' = fin (forget k.1 σ₀) (e, ups u, h')) → ∀ (nx : Body) a, I a → (∀ a', ms a' < ms a → I a' → ∃ u h', nx (sets (up a') (forget k.1 σ₀)) (H a') = F u h' ∧ K u h') →
      LpG nx k.1 k.2 (H a).length F K (b (forget k.1 (sets (up a) (forget k.1 σ₀))) (H a))) :
    ∃ u h', LL k b σ₀ h₀ = fin (forget k.1 σ₀) (e, ups u, h') ∧ K u h' :=
  LL_ux a₀ up H e ups K I ms hI e0 e1 fun nx a ha ih => step (fun u h' => fin (forget k.1 σ₀) (e, ups u, h')) (fun _ _ => rfl) nx a ha ih
theorem lop_ih2 {nx : Body} {σ : Slots} {α U : Type} {G : α → Heap} {Fh : U → Heap → CRes} {Kk : U → Heap → Prop} {Pp : α → Prop} {F : Slots → α} (ihl : ∀ e', Pp e' → ∃ u h', nx σ (G e') = Fh u h' ∧ Kk u h') (hp : Pp (F σ)) : ∃ u h', nx σ (G (F σ)) = Fh u h' ∧ Kk u h' := ihl _ hp
def foldN (a : List ByteArray) (o : List ByteArray) : List ByteArray := a.foldl (fun o s => insF ltB s o) o
theorem fold_le (a o : List ByteArray) : (foldN a o).length ≤ a.length + o.length := Co.fold_len a o
set_option maxHeartbeats 1000000 in
theorem names_spec {K : Option Bool} {A : List (Option Bool × List ByteArray)} (hK : Enc.Ok K A) (hrow : ∀ x ∈ A, Enc.Ok x.1 x.2) (hsm : ∀ x ∈ A, x.2.length ≤ 1000) (hA : A.length ≤ 1000) : ∃ k, Enc.Ok k (namesF ltB (als A)) ∧ pureCall E.P (L E) 21 [listE.o K A] = some (strE.o k (namesF ltB (als A))) := by
  have ll : ∀ H, lenT .sl H (listE.o K A) = some (.int .i64 A.length) := fun H => Enc.o_len hK
  have il : ∀ (i : Nat) (hi : i < A.length), indexAddrT (.sl 23 ⟨some false, some 1⟩) (listE.o K A) (.int .i64 (i : Int)) = some (cptr (listE.e A[i])) := fun i hi => Enc.index_o hK hi
  rw [pureCall_fn F21 rfl]
  generalize listE.o K A = VA at *
  simp -implicitDefEqProofs [r21, p21]
  generalize hT : namesF ltB (als A) = T
  refine ux_goal (G := fun X => ∃ k, Enc.Ok k T ∧ (Option.bind (retK [RRes.tmp 2] (seqC E (L E) LL 0 (blkK 0 X) _)) fun r => reifyR E.P r.2 r.1) = some (strE.o k T))
    (LL_uz (α := Nat × Value × Heap × List ByteArray) (U := Value) (0, .slice none 0 0, [], []) (fun a => [(3, a.2.1), (4, .int .i64 (a.1 : Int))]) (fun a => a.2.2.1)
      (.exit 0) (fun u => [(3, u), (4, undef)]) (fun u h' => OutV h' u T)
      (fun a => a.1 ≤ A.length ∧ OutV a.2.2.1 a.2.1 a.2.2.2 ∧ a.2.2.2.length ≤ 1000 * a.1 ∧ ((als A).drop a.1).foldl (fun o b => foldN b o) a.2.2.2 = T)
      (fun a => A.length - a.1) ?_ ?_ ?_ ?_) ?_
  · exact ⟨Nat.zero_le _, .inl ⟨none, fun _ => rfl, rfl⟩, Nat.le_refl _, hT⟩
  · simp -implicitDefEqProofs [k21_3]
  · rfl
  · intro F hF nx a ha ihl
    obtain ⟨i, V, H, l⟩ := a
    obtain ⟨c1, c2, c3, c4⟩ := ha
    simp only at c1 c2 c3 c4 ihl ⊢
    by_cases hi : i < A.length
    case neg =>
      have ei : i = A.length := by omega
      subst ei
      rw [List.drop_eq_nil_of_le (by unfold als; rw [List.length_map]; omega)] at c4
      have c4 : l = T := c4
      subst c4
      refine ⟨V, H, ?_, c2⟩
      rw [hF]
      simp -implicitDefEqProofs [r21_3, k21_3, ll, trim_le]
    have hi2 : (i : Int) < (A.length : Int) := by omega
    have x1 := il i hi
    have lA : ∀ H sz, loadT ⟨some false, sz⟩ H (cptr (listE.e A[i])) = some (strE.o A[i].1 A[i].2) := fun H sz => Enc.load_e (O := listE) _
    have hka := hrow _ (List.getElem_mem hi)
    have hla := hsm _ (List.getElem_mem hi)
    have la : ∀ H, lenT .sl H (strE.o A[i].1 A[i].2) = some (.int .i64 A[i].2.length) := fun H => Enc.o_len hka
    have ia : ∀ (j : Nat) (hj : j < A[i].2.length), indexAddrT (.sl 9 ⟨some false, some 1⟩) (strE.o A[i].1 A[i].2) (.int .i64 (j : Int)) = some (cptr (.string A[i].2[j])) := fun j hj => Enc.index_o hka hj
    have wi : IntKind.i64.wrap ((i : Int) + 1) = ((i + 1 : Nat) : Int) := (wrap64 (by omega) (by omega)).trans (by omega)
    have hd : (als A).drop i = A[i].2 :: (als A).drop (i + 1) := by
      unfold als
      rw [← List.map_drop, List.drop_eq_getElem_cons hi, List.map_cons, List.map_drop]
    rw [hd, List.foldl_cons] at c4
    generalize cptr (listE.e A[i]) = VE at *
    generalize A[i].2 = aa at *
    generalize strE.o A[i].1 aa = VS at *
    simp -implicitDefEqProofs [r21_3, k21_3, hi2, ll]
    refine LpG.peel
      (LL_uz (α := Nat × Value × Heap × List ByteArray) (U := Value) (0, V, H, l) (fun a => [(3, a.2.1), (5, .int .i64 (a.1 : Int))]) (fun a => a.2.2.1)
        (.exit 2) (fun u => [(3, u), (5, undef)]) (fun u h' => OutV h' u (foldN aa l))
        (fun a => a.1 ≤ aa.length ∧ OutV a.2.2.1 a.2.1 a.2.2.2 ∧ a.2.2.2.length ≤ 1000 * i + a.1 ∧ foldN (aa.drop a.1) a.2.2.2 = foldN aa l)
        (fun a => aa.length - a.1) ?_ ?_ ?_ ?_) ?_
    · exact ⟨Nat.zero_le _, c2, by show l.length ≤ 1000 * i + 0; omega, rfl⟩
    · simp -implicitDefEqProofs [k21_6]
    · rfl
    · intro F2 hF2 nx2 a ha ihl2
      obtain ⟨j, V2, H2, l2⟩ := a
      obtain ⟨d1, d2, d3, d4⟩ := ha
      simp only at d1 d2 d3 d4 ihl2 ⊢
      by_cases hj : j < aa.length
      case neg =>
        have ej : j = aa.length := by omega
        subst ej
        rw [List.drop_length] at d4
        have d4 : l2 = foldN aa l := d4
        refine ⟨V2, H2, ?_, by rw [← d4]; exact d2⟩
        rw [hF2]
        simp -implicitDefEqProofs [r21_6, k21_6, x1, lA, la, trim_le]
      have hj2 : (j : Int) < (aa.length : Int) := by omega
      have y1 := ia j hj
      have wj : IntKind.i64.wrap ((j : Int) + 1) = ((j + 1 : Nat) : Int) := (wrap64 (by omega) (by omega)).trans (by omega)
      have hdj : aa.drop j = aa[j] :: aa.drop (j + 1) := List.drop_eq_getElem_cons hj
      rw [hdj] at d4
      have d4 : foldN (aa.drop (j + 1)) (insF ltB aa[j] l2) = foldN aa l := d4
      generalize aa[j] = s at *
      obtain ⟨kl, H3, fz, hkl⟩ := d2.frz
      have ln : ∀ H, lenT .sl H (strE.o kl l2) = some (.int .i64 l2.length) := fun H => Enc.o_len hkl
      have in_ : ∀ (m : Nat) (hm : m < l2.length), indexAddrT (.sl 9 ⟨some false, some 1⟩) (strE.o kl l2) (.int .i64 (m : Int)) = some (cptr (.string l2[m])) := fun m hm => Enc.index_o hkl hm
      have hcl := cnt_le s l2
      obtain ⟨k1, t1, t2⟩ := o_take hkl hcl
      obtain ⟨k2, t3, t4⟩ := o_drop hkl hcl
      have out0 : OutV H3 (strE.o kl l2) l2 := .inl ⟨kl, hkl, rfl⟩
      simp -implicitDefEqProofs [r21_6, k21_6, x1, lA, la, hj2, prep_frz, fz]
      rw [LL_for (γ := Unit) l2 () (fun m _ => [(6, .int .i64 (m : Int))]) (fun _ _ => H3) (fun m rest _ => (.exit 4, [(6, .int .i64 ((m + cntF s rest : Nat) : Int))], H3)) (fun _ _ => True) (by omega) trivial]
      · rw [Nat.zero_add]
        generalize hm : cntF s l2 = m at *
        by_cases hold : l2[m]? = some s
        · have hml : m < l2.length := (List.getElem?_eq_some_iff.1 hold).1
          have hml2 : (m : Int) < (l2.length : Int) := by omega
          have z1 := in_ m hml
          have z2 : l2[m] = s := (List.getElem?_eq_some_iff.1 hold).2
          rw [z2] at z1
          have hins : insF ltB s l2 = l2 := ins_old s l2 (by rw [hm]; exact hold)
          rw [hins] at d4
          have qn := fun (e' : Heap) (hp : OutV e' (strE.o kl l2) l2) => ihl2 (j + 1, strE.o kl l2, e', l2) (by show aa.length - (j + 1) < aa.length - j; omega) ⟨hj, hp, by show l2.length ≤ 1000 * i + (j + 1); omega, d4⟩
          simp only at qn
          obtain ⟨u, h', r1, r2⟩ := lop_ih2 (F := fun vs => Bm.trim H2.length vs H3) qn (out0.trim (by simp -implicitDefEqProofs [k21_6, blk]))
          refine ⟨u, h', ?_, r2⟩
          rw [← r1]
          simp -implicitDefEqProofs [k21_6, -Int.natCast_add]
          simp -implicitDefEqProofs [k21_9, x1, lA, y1, ln, hml2, z1, wj, -Int.natCast_add]
        · have hins : insF ltB s l2 = l2.take m ++ [s] ++ l2.drop m := by
            have := ins_new s l2 (by rw [hm]; exact hold)
            rw [hm] at this
            exact this
          rw [hins] at d4
          have hl3 : (l2.take m ++ [s] ++ l2.drop m).length = l2.length + 1 := by simp; omega
          obtain ⟨V1, H1, V2', H2', p1, p2, p3⟩ := push3 (H := H3) (s := s) t2 t4 (by rw [List.length_take, List.length_drop]; omega)
          generalize hl3' : l2.take m ++ [s] ++ l2.drop m = l3 at *
          have out3 : OutV (H3 ++ [strE.row 9 l3]) (Enc.sl H3.length l3) l3 := .inr ⟨H3.length, rfl, by rw [List.getElem?_append_right (Nat.le_refl _)]; simp⟩
          have qn := fun (e' : Heap) (hp : OutV e' (Enc.sl H3.length l3) l3) => ihl2 (j + 1, Enc.sl H3.length l3, e', l3) (by show aa.length - (j + 1) < aa.length - j; omega) ⟨hj, hp, by show l3.length ≤ 1000 * i + (j + 1); omega, d4⟩
          simp only at qn
          obtain ⟨u, h', r1, r2⟩ := lop_ih2 (F := fun vs => Bm.trim H2.length vs (H3 ++ [strE.row 9 l3])) qn (out3.trim (by simp -implicitDefEqProofs [k21_6, blk]))
          refine ⟨u, h', ?_, r2⟩
          rw [← r1]
          have li0 : ∀ H, buildSliceT (some elStr) false H 0 #[] = some (lst true [], H) := fun _ => rfl
          have li1 : ∀ H, buildSliceT (some elStr) false H 1 #[(0, .string s)] = some (lst true (strE.vals [s]), H) := fun H => Enc.lit (O := strE) s rfl rfl rfl
          generalize strE.o k1 (l2.take m) = W1 at *
          generalize strE.o k2 (l2.drop m) = W2 at *
          generalize strE.row 9 l3 = RW at *
          generalize lst true (strE.vals [s]) = LS at *
          generalize Enc.sl H3.length l3 = VE3 at *
          by_cases hml : m < l2.length
          · have hml2 : (m : Int) < (l2.length : Int) := by omega
            have z1 := in_ m hml
            have z2 : ¬ l2[m] = s := fun e => hold (by rw [List.getElem?_eq_getElem hml, e])
            generalize l2[m] = w at *
            simp -implicitDefEqProofs [k21_6, -Int.natCast_add]
            simp -implicitDefEqProofs [k21_9, x1, lA, y1, ln, hml2, z1, z2, li0, li1, t1, t3, p1, p2, p3, wj, -Int.natCast_add]
          · have hml2 : ¬ (m : Int) < (l2.length : Int) := by omega
            simp -implicitDefEqProofs [k21_6, -Int.natCast_add]
            simp -implicitDefEqProofs [k21_9, x1, lA, y1, ln, hml2, li0, li1, t1, t3, p1, p2, p3, wj, -Int.natCast_add]
      · simp -implicitDefEqProofs [k21_9]
      · rfl
      · intro nx3 m c3' hm _
        have e : cntF s [] = 0 := rfl
        have hm2 : ¬ (m : Int) < (l2.length : Int) := by omega
        simp -implicitDefEqProofs [r21_9, k21_9, ln, hm, e, trim_le]
      · intro nx3 m u rest c3' hm hu hd3 hw3 _ ih3
        have ih3 := ih3 () trivial
        have hm2 : (m : Int) < (l2.length : Int) := by omega
        have z1 := in_ m hm
        rw [hu] at z1
        have e3 : (((m + 1 : Nat) : Int)) = (m : Int) + 1 := by omega
        have e4 : cntF s (u :: rest) = if ltB u s = true then cntF s rest + 1 else 0 := rfl
        rw [e4]
        by_cases q : ltB u s = true
        · rw [if_pos q]
          have e5 : m + (cntF s rest + 1) = m + 1 + cntF s rest := by omega
          rw [e5]
          simp -implicitDefEqProofs [k21_9, -Int.natCast_add] at ih3
          have hw4 : IntKind.i64.wrap ((m : Int) + 1) = ((m + 1 : Nat) : Int) := by rw [hw3]; omega
          simp -implicitDefEqProofs [r21_9, k21_9, ln, hm2, z1, x1, lA, y1, bin_lss_str, q, hw4, trim_le, ih3, -Int.natCast_add]
        · rw [if_neg q]
          have q' : ltB u s = false := by simpa using q
          simp -implicitDefEqProofs [r21_9, k21_9, ln, hm2, z1, x1, lA, y1, bin_lss_str, q', trim_le]
    · intro V3 H3 o3
      have hfl := fold_le aa l
      have qn := fun (e' : Heap) (hp : OutV e' V3 (foldN aa l)) => ihl (i + 1, V3, e', foldN aa l) (by show A.length - (i + 1) < A.length - i; omega) ⟨hi, hp, by show (foldN aa l).length ≤ 1000 * (i + 1); omega, c4⟩
      simp only at qn
      obtain ⟨u, h', r1, r2⟩ := lop_ih2 (F := fun vs => Bm.trim H.length vs H3) qn (o3.trim (by simp -implicitDefEqProofs [k21_3, blk]))
      refine ⟨u, h', ?_, r2⟩
      rw [← r1]
      simp -implicitDefEqProofs [k21_3, -Int.natCast_add]
      simp -implicitDefEqProofs [k21_6, wi, -Int.natCast_add]
  · intro V H o
    obtain ⟨k, h1, h2⟩ := o.reify
    refine ⟨k, h2, ?_⟩
    simp -implicitDefEqProofs [k21_3, h1]
end Go.Proofs.YtgefjhjmkejjbaaDoor.Bm
namespace Go.Proofs.YtgefjhjmkejjbaaDoor.Bm
open Go Go.RowKit
open Co (ltB ascB rem maskF allF proveF coreF namesF errF followF hitsF lessL subF)
theorem names_call {K : Option Bool} {A : List (Option Bool × List ByteArray)} (hK : Enc.Ok K A) (hrow : ∀ x ∈ A, Enc.Ok x.1 x.2) (hsm : ∀ x ∈ A, x.2.length ≤ 1000) (hA : A.length ≤ 1000) : ∃ k, Enc.Ok k (namesF ltB (als A)) ∧ ∀ lo st h, retCall E (L E) lo st 21 [listE.o K A] h = some (strE.o k (namesF ltB (als A)), h) := by
  obtain ⟨k, h1, h2⟩ := names_spec hK hrow hsm hA
  exact ⟨k, h1, fun lo st h => by rw [ret1s m21 prv_set, h2]; rfl⟩
theorem bin_rem2 {P : Program} {t : TypeId} (n : Nat) : aBin P .rem t (.int .i64 (n : Int)) (.int .i64 2) = some (.int .i64 ((n % 2 : Nat) : Int)) := by
  show (if (2 : Int) = 0 then none else some (Value.int .i64 ((n : Int).tmod 2))) = _
  rw [if_neg (by decide), Int.tmod_eq_emod_of_nonneg (by omega)]; rfl
theorem bin_quo2 {P : Program} {t : TypeId} (n : Nat) (h : n ≤ 1000000) : aBin P .quo t (.int .i64 (n : Int)) (.int .i64 2) = some (.int .i64 ((n / 2 : Nat) : Int)) := by
  show (if (2 : Int) = 0 then none else some (Value.int .i64 (IntKind.i64.wrap ((n : Int).tdiv 2)))) = _
  rw [if_neg (by decide), Int.tdiv_eq_ediv_of_nonneg (by omega)]
  have : IntKind.i64.wrap ((n : Int) / 2) = ((n / 2 : Nat) : Int) := (wrap64 (by omega) (by omega)).trans (by omega)
  rw [this]
theorem least_sub_ok {A : List (Option Bool × List ByteArray)} (he : errV A = 0) (s : Nat) (h : hitsF (als A) (subF (namesF ltB (als A)) s) = true) :
    (coreF ltB (als A)).length ≤ (subF (namesF ltB (als A)) s).length ∧ ((subF (namesF ltB (als A)) s).length = (coreF ltB (als A)).length → lessL ltB (subF (namesF ltB (als A)) s) (coreF ltB (als A)) = false) := by
  have k := Co.core_is Co.ordB (good_of he).ne
  exact ⟨k.least _ h, k.first _ (Co.sub_sub _ _) h⟩
theorem found_ok {A : List (Option Bool × List ByteArray)} (he : errV A = 0) : ((List.range (2 ^ (namesF ltB (als A)).length)).any fun s => decide (subF (namesF ltB (als A)) s = coreF ltB (als A))) = true := by
  have k := Co.core_is Co.ordB (good_of he).ne
  obtain ⟨s, h1, h2⟩ := Co.sub_all k.sub
  exact List.any_eq_true.2 ⟨s, List.mem_range.2 h1, decide_eq_true h2⟩
theorem check_core {A : List (Option Bool × List ByteArray)} (he : errV A = 0) : checkV A (coreF ltB (als A)) (proveF (als A) (coreF ltB (als A)).length (allF (als A))) = 0 := by
  have k := Co.core_is Co.ordB (good_of he).ne
  refine (check_prf he ?_).2.2 rfl
  rw [Bool.and_eq_true]
  exact ⟨(Co.ascB_iff Co.ordB).2 ((Co.names_asc Co.ordB _).sublist k.sub), k.hits⟩
def LwG (X : Res) : Prop := ∃ h', X = some (.bool true, h')
set_option maxHeartbeats 4000000 in
theorem least_law {A : List (Option Bool × List ByteArray)} (hA : ∀ x ∈ A, Enc.Ok x.1 x.2) (hAl : A.length ≤ 9223372036854775807) :
    ∃ h', L E 4 [listE.o (some false) A] [] 0 = some (.bool true, h') := by
  have fw := fun lo st h => fewA_call (K := some false) Enc.ok_some hA hAl (lo := lo) (st := st) (h := h)
  have sm := fun lo st h => small_call (lo := lo) (st := st) (h := h)
  have lA : ∀ H, lenT .sl H (listE.o (some false) A) = some (.int .i64 A.length) := fun H => Enc.o_len Enc.ok_some
  rw [L_fn F4 rfl]
  cases q1 : (fewA A && decide (A.length ≤ 10))
  · refine ⟨[], ?_⟩
    simp only [q1] at fw
    generalize listE.o (some false) A = VA at *
    simp -implicitDefEqProofs [r4, p4, sm, fw]
  simp only [q1] at fw
  rw [Bool.and_eq_true, decide_eq_true_eq] at q1
  have al := few_al (K := some false) Enc.ok_some hA q1.1 q1.2
  have hsm : ∀ x ∈ A, x.2.length ≤ 1000 := fun x hx => by
    have := List.all_eq_true.1 q1.1 x hx
    simp only [Bool.and_eq_true, decide_eq_true_eq] at this
    omega
  obtain ⟨kn, nk, nm⟩ := names_call (K := some false) Enc.ok_some hA hsm (by omega)
  have le := fun lo h => least_call al (lo := lo) (h := h)
  have pr := fun lo st h => prove_call al (lo := lo) (st := st) (h := h)
  have ln : ∀ H, lenT .sl H (strE.o kn (namesF ltB (als A))) = some (.int .i64 (namesF ltB (als A)).length) := fun H => Enc.o_len nk
  have lo_ : ∀ H, lenT .sl H (strE.o (coreO A).1 (coreO A).2) = some (.int .i64 (coreO A).2.length) := fun H => Enc.o_len core_ok.1
  have lp : ∀ H, lenT .sl H (rowE.o (proofO A).1 (proofO A).2) = some (.int .i64 (proofO A).2.length) := fun H => Enc.o_len proof_fl.kk
  by_cases he : errV A = 0
  case neg =>
    refine ⟨[], ?_⟩
    have hc : coreO A = (none, []) := if_neg he
    have hp : proofO A = (none, []) := if_neg he
    rw [hc] at le lo_
    rw [hp] at pr lp
    generalize listE.o (some false) A = VA at *
    generalize strE.o kn (namesF ltB (als A)) = VN at *
    simp only [] at le lo_ pr lp
    generalize strE.o none [] = VO at *
    generalize rowE.o none [] = VP at *
    simp -implicitDefEqProofs [r4, p4, sm, fw, nm, le, pr, he, lo_, lp]
  have hco : coreO A = (some false, coreF ltB (als A)) := if_pos he
  have hpo : proofO A = (some false, prfL (proveF (als A) (coreF ltB (als A)).length (allF (als A)))) := if_pos he
  by_cases hbig : (namesF ltB (als A)).length > 10 ∨ A.length > 8
  · refine ⟨[], ?_⟩
    rw [he] at le pr
    generalize listE.o (some false) A = VA at *
    generalize strE.o kn (namesF ltB (als A)) = VN at *
    generalize strE.o (coreO A).1 (coreO A).2 = VO at *
    generalize rowE.o (proofO A).1 (proofO A).2 = VP at *
    by_cases hb : (namesF ltB (als A)).length > 10
    · have hb' : (10 : Int) < ((namesF ltB (als A)).length : Int) := by omega
      simp -implicitDefEqProofs [r4, p4, sm, fw, nm, le, pr, ln, hb']
    · have hb' : ¬ (10 : Int) < ((namesF ltB (als A)).length : Int) := by omega
      have hb2 : (8 : Int) < (A.length : Int) := by omega
      simp -implicitDefEqProofs [r4, p4, sm, fw, nm, le, pr, ln, lA, hb', hb2]
  have hn10 : (namesF ltB (als A)).length ≤ 10 := by omega
  have hA8 : A.length ≤ 8 := by omega
  have hb1 : ¬ (10 : Int) < ((namesF ltB (als A)).length : Int) := by omega
  have hb2 : ¬ (8 : Int) < (A.length : Int) := by omega
  have hcl := (core_pos he).2
  have k := Co.core_is Co.ordB (good_of he).ne
  have ht := fun lo st h => hits_call al (kc := some false) (c := coreF ltB (als A)) Enc.ok_some (by omega) (lo := lo) (st := st) (h := h)
  rw [k.hits] at ht
  have ck := fun lo st h => check_call al (kc := some false) (c := coreF ltB (als A)) Enc.ok_some (by omega) (proof_fl (A := A)) (lo := lo) (st := st) (h := h)
  have hpr : (proofO A).2.map (·.2) = proveF (als A) (coreF ltB (als A)).length (allF (als A)) := by rw [hpo]; exact prfL_snd _
  rw [hpr, check_core he] at ck
  rw [he, hco] at le
  rw [hco] at lo_
  rw [he] at pr
  have le : ∀ lo h, retCall E (Bm.L E) lo false 11 [listE.o (some false) A] h = some (.tuple #[strE.o (some false) (coreF ltB (als A)), .int .i64 0], h) := le
  have lo_ : ∀ H, lenT .sl H (strE.o (some false) (coreF ltB (als A))) = some (.int .i64 (coreF ltB (als A)).length) := lo_
  -- a set of names, by its number
  have hts := fun s => hits_top al (kc := some false) (c := subF (namesF ltB (als A)) s) Enc.ok_some (by have := Co.sub_len (namesF ltB (als A)) s; omega)
  have txs := fun s => texts_spec (ka := some false) (kb := some false) (a := subF (namesF ltB (als A)) s) (b := coreF ltB (als A)) Enc.ok_some Enc.ok_some (by have := Co.sub_len (namesF ltB (als A)) s; omega) (by omega)
  have lss := fun s => less_spec (ka := some false) (kb := some false) (a := subF (namesF ltB (als A)) s) (b := coreF ltB (als A)) Enc.ok_some Enc.ok_some (by have := Co.sub_len (namesF ltB (als A)) s; omega) (by omega)
  have rA : ∀ H, reify E.P 8 H (listE.o (some false) A) = some (listE.o (some false) A) := fun H => Enc.o_reify
  have rO : ∀ H, reify E.P 8 H (strE.o (some false) (coreF ltB (als A))) = some (strE.o (some false) (coreF ltB (als A))) := fun H => Enc.o_reify
  have in_ : ∀ (m : Nat) (hm : m < (namesF ltB (als A)).length), indexAddrT (.sl 9 ⟨some false, some 1⟩) (strE.o kn (namesF ltB (als A))) (.int .i64 (m : Int)) = some (cptr (.string (namesF ltB (als A))[m])) := fun m hm => Enc.index_o nk hm
  have hso := fun s => least_sub_ok he s
  have hfo := found_ok he
  generalize hns : namesF ltB (als A) = ns at *
  generalize hcf : coreF ltB (als A) = cf at *
  generalize listE.o (some false) A = VA at *
  generalize strE.o kn ns = VN at *
  generalize rowE.o (proofO A).1 (proofO A).2 = VP at *
  have rowR : ∀ (H : Heap) (x : List ByteArray), reify E.P 8 (H ++ [strE.row 9 x]) (Enc.sl H.length x) = some (strE.o (some false) x) := fun H x => Enc.reify_sl (O := strE) (t := 9) (by rw [List.getElem?_append_right (Nat.le_refl _)]; simp) sStr aStr
  have lx : ∀ (H : Heap) (b : Nat) (x : List ByteArray), lenT .sl H (Enc.sl b x) = some (.int .i64 x.length) := fun H b x => Enc.sl_len
  have hpw : 2 ^ ns.length ≤ 1024 := Nat.le_trans (Nat.pow_le_pow_right (by omega) hn10) (by decide)
  simp -implicitDefEqProofs [r4, p4, sm, fw, nm, le, pr, ln, lA, hb1, hb2, ht, ck]
  show LwG _
  rw [LL_for (γ := Unit) ns () (fun i _ => [(9, .int .i64 ((2 ^ i : Nat) : Int)), (10, .int .i64 (i : Int))]) (fun _ _ => []) (fun _ _ _ => (.exit 0, [(9, .int .i64 ((2 ^ ns.length : Nat) : Int)), (10, undef)], [])) (fun _ _ => True) (by omega) trivial]
  rotate_left
  · simp -implicitDefEqProofs [k4_15]
  · rfl
  · intro nx i c hi _
    subst hi
    simp -implicitDefEqProofs [r4_15, k4_15, ln, trim_le]
  · intro nx i v rest c hi hv hd hw _ ih
    have ih := ih () trivial
    have hi2 : ((i : Int) < (ns.length : Int)) := by omega
    have hp : 2 ^ (i + 1) ≤ 2 ^ 10 := Nat.pow_le_pow_right (by omega) (by omega)
    rw [Nat.pow_succ] at hp
    have w2 : IntKind.i64.wrap (2 * ((2 ^ i : Nat) : Int)) = ((2 ^ (i + 1) : Nat) : Int) := (wrap64 (by omega) (by omega)).trans (by rw [Nat.pow_succ]; omega)
    have ec : (((i + 1 : Nat) : Int)) = (i : Int) + 1 := by omega
    generalize ((2 ^ (i + 1) : Nat) : Int) = p2 at *
    generalize ((2 ^ i : Nat) : Int) = p1 at *
    generalize ((2 ^ ns.length : Nat) : Int) = pn at *
    rw [ec] at ih
    simp -implicitDefEqProofs [k4_15] at ih
    simp -implicitDefEqProofs [r4_15, k4_15, ln, hi2, w2, hw, trim_le, ih]
  obtain ⟨sz, hsz⟩ : ∃ sz, sz = 2 ^ ns.length := ⟨_, rfl⟩
  rw [← hsz] at hpw hfo ⊢
  simp -implicitDefEqProofs [k4_15, -Int.natCast_pow]
  refine ux_goal (G := fun X => LwG (retK [RRes.tmp 2] (seqC E (L E) LL 0 (blkK 2 X) _)))
    (LL_uz (α := Nat × Bool × Heap) (U := Unit) (0, false, []) (fun a => [(11, .bool a.2.1), (12, .int .i64 (a.1 : Int))]) (fun a => a.2.2)
      (.exit 2) (fun _ => [(11, .bool true), (12, undef)]) (fun _ _ => True)
      (fun a => a.1 ≤ sz ∧ a.2.1 = (List.range a.1).any fun s => decide (subF ns s = cf))
      (fun a => sz - a.1) ?_ ?_ ?_ ?_) ?_
  · exact ⟨Nat.zero_le _, rfl⟩
  · simp -implicitDefEqProofs [k4_20]
  · rfl
  · intro F hF nx a ha ihl
    obtain ⟨m, fd, H⟩ := a
    obtain ⟨c1, c2⟩ := ha
    simp only at c1 c2 ihl ⊢
    by_cases hm : m < sz
    case neg =>
      have em : m = sz := by omega
      subst em
      rw [hfo] at c2
      subst c2
      refine ⟨(), H, ?_, trivial⟩
      rw [hF]
      simp -implicitDefEqProofs [r4_20, k4_20, trim_le]
    have hm2 : (m : Int) < (sz : Int) := by omega
    have wm : IntKind.i64.wrap ((m : Int) + 1) = ((m + 1 : Nat) : Int) := (wrap64 (by omega) (by omega)).trans (by omega)
    have hnew := fun (h : Heap) (σ : Slots) (s : Nat) => newK_nil (P := E.P) (t := 9) (h := h) (σ := σ) (s := s) (n := 0) sStr
    simp -implicitDefEqProofs [r4_20, k4_20, hm2, prep_new, hnew]
    rw [LL_for (γ := List ByteArray × Nat) ns ([], m) (fun j c => [(13, Enc.sl H.length c.1), (14, .int .i64 (c.2 : Int)), (15, .int .i64 (j : Int))]) (fun _ c => H ++ [strE.row 9 c.1]) (fun j rest c => (.exit 4, [(13, Enc.sl H.length (c.1 ++ subF rest c.2)), (14, undef), (15, undef)], H ++ [strE.row 9 (c.1 ++ subF rest c.2)]))
      (fun j c => c.1.length ≤ j ∧ c.2 ≤ 1024) (by omega) ⟨Nat.le_refl _, by show m ≤ 1024; omega⟩]
    rotate_left
    · simp -implicitDefEqProofs [k4_25]; rfl
    · rfl
    · intro nx2 j c hj _
      have e : ∀ q, subF ([] : List ByteArray) q = [] := fun _ => rfl
      simp -implicitDefEqProofs [r4_25, k4_25, ln, hj, e, trim_le]
    · intro nx2 j v rest c hj hv hd hw hI ih
      obtain ⟨x, q⟩ := c
      obtain ⟨hx, hq⟩ := hI
      have hx : x.length ≤ j := hx
      have hq : q ≤ 1024 := hq
      have hj2 : ((j : Int) < (ns.length : Int)) := by omega
      have z1 := in_ j hj
      rw [hv] at z1
      have r2 := bin_rem2 (P := E.P) (t := 3) q
      have q2 := bin_quo2 (P := E.P) (t := 3) q (by omega)
      have hw2 : IntKind.i64.wrap ((j : Int) + 1) = ((j + 1 : Nat) : Int) := by rw [hw]; omega
      rw [show subF (v :: rest) q = if q % 2 = 1 then v :: subF rest (q / 2) else subF rest (q / 2) from rfl]
      by_cases ho : q % 2 = 1
      · rw [if_pos ho]
        have li1 : ∀ H, buildSliceT (some elStr) false H 1 #[(0, .string v)] = some (lst true (strE.vals [v]), H) := fun H => Enc.lit (O := strE) v rfl rfl rfl
        have ap : appendT (some elStr) (H ++ [strE.row 9 x]) 0 false (Enc.sl H.length x) (lst true (strE.vals [v])) = some (Enc.sl H.length (x ++ [v]), H ++ [strE.row 9 (x ++ [v])]) := by
          have := Enc.app (O := strE) (el := elStr) (lo := 0) (m := [v]) (h := H ++ [strE.row 9 x]) (b := H.length) (t := 9) (l := x) rfl (by rw [List.getElem?_append_right (Nat.le_refl _)]; simp) (Enc.cells_tree (O := strE) (x := true)) (Nat.zero_le _) (by show (x.length + 1) * 16 ≤ _; omega)
          rw [List.set_append_right _ _ (Nat.le_refl _), Nat.sub_self] at this
          exact this
        have ih := ih (x ++ [v], q / 2) ⟨by show (x ++ [v]).length ≤ j + 1; simp; omega, by show q / 2 ≤ 1024; omega⟩
        rw [ho] at r2
        simp -implicitDefEqProofs [k4_25, -Int.natCast_add, -Int.natCast_ediv] at ih
        simp -implicitDefEqProofs [r4_25, k4_25, ln, hj2, z1, r2, q2, li1, ap, hw2, trim_le, ih, -Int.natCast_add, -Int.natCast_ediv]
      · rw [if_neg ho]
        have ho' : q % 2 = 0 := by omega
        have ih := ih (x, q / 2) ⟨by show x.length ≤ j + 1; omega, by show q / 2 ≤ 1024; omega⟩
        rw [ho'] at r2
        simp -implicitDefEqProofs [k4_25, -Int.natCast_add, -Int.natCast_ediv] at ih
        simp -implicitDefEqProofs [r4_25, k4_25, ln, hj2, r2, q2, hw2, trim_le, ih, -Int.natCast_add, -Int.natCast_ediv]
    have hts := hts m
    have txs := txs m
    have lss := lss m
    have hso := hso m
    rw [List.nil_append]
    have hrs : ((List.range (m + 1)).any fun s => decide (subF ns s = cf)) = (fd || decide (subF ns m = cf)) := by
      rw [List.range_succ, List.any_append, ← c2, List.any_cons, List.any_nil, Bool.or_false]
    generalize subF ns m = x at *
    have rR := rowR H x
    have rx : reify E.P 8 (H ++ [strE.row 9 x]) (Enc.sl H.length x) = some (strE.o (some false) x) := rR
    have qn := fun (e' : Heap) (_ : True) => ihl (m + 1, fd || decide (x = cf), e') (by show sz - (m + 1) < sz - m; omega) ⟨hm, hrs.symm⟩
    simp only at qn
    obtain ⟨u, h', r1, r2⟩ := lop_ih2 (F := fun vs => Bm.trim H.length vs (H ++ [strE.row 9 x])) qn trivial
    refine ⟨u, h', ?_, r2⟩
    rw [← r1]
    generalize decide (x = cf) = bx at *
    generalize hH2 : H ++ [strE.row 9 x] = H2 at *
    have lxs : ∀ H', lenT .sl H' (Enc.sl H.length x) = some (.int .i64 x.length) := fun H' => Enc.sl_len
    generalize Enc.sl H.length x = VX at *
    cases hh : hitsF (als A) x
    · rw [hh] at hts
      cases fd
      · simp -implicitDefEqProofs [k4_20, -Int.natCast_add]
        simp -implicitDefEqProofs [k4_25, ret0 m15, ret0 m17, rA, rO, rx, hts, txs, wm, -Int.natCast_add]
      · simp -implicitDefEqProofs [k4_20, -Int.natCast_add]
        simp -implicitDefEqProofs [k4_25, ret0 m17, rA, rx, hts, wm, -Int.natCast_add]
    · rw [hh] at hts
      obtain ⟨g1, g2⟩ := hso hh
      have g3 : ¬ (x.length : Int) < (cf.length : Int) := by omega
      by_cases g4 : x.length = cf.length
      · have g5 := g2 g4
        rw [g5] at lss
        have g4' := eq_true g4
        have g4'' : ((x.length : Int) = (cf.length : Int)) = True := eq_true (by omega)
        cases fd
        · simp -implicitDefEqProofs [k4_20, -Int.natCast_add]
          simp -implicitDefEqProofs [k4_25, ret0 m15, ret0 m17, ret0 m22, rA, rO, rx, lo_, hts, txs, lss, lxs, g3, g4'', wm, -Int.natCast_add]
        · simp -implicitDefEqProofs [k4_20, -Int.natCast_add]
          simp -implicitDefEqProofs [k4_25, ret0 m17, ret0 m22, rA, rO, rx, lo_, hts, lss, lxs, g3, g4'', wm, -Int.natCast_add]
      · have g4' := eq_false g4
        have g4'' : ((x.length : Int) = (cf.length : Int)) = False := eq_false (by omega)
        cases fd
        · simp -implicitDefEqProofs [k4_20, -Int.natCast_add]
          simp -implicitDefEqProofs [k4_25, ret0 m15, ret0 m17, rA, rO, rx, lo_, hts, txs, lxs, g3, g4'', wm, -Int.natCast_add]
        · simp -implicitDefEqProofs [k4_20, -Int.natCast_add]
          simp -implicitDefEqProofs [k4_25, ret0 m17, rA, rx, lo_, hts, lxs, g3, g4'', wm, -Int.natCast_add]
  · intro u h' _
    refine ⟨h', ?_⟩
    simp -implicitDefEqProofs [k4_20]
end Go.Proofs.YtgefjhjmkejjbaaDoor.Bm
