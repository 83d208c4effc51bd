/-
  Chapter 27: what the law of more names needs: rows that hold a live list, and cores of more or fewer names. Conditions: each lemma says its own.
-/
import Derived.Test.YtgefjhjmkejjbaaDoorQA25
namespace Go.Proofs.YtgefjhjmkejjbaaDoor.Bm
open Go Go.RowKit
open Co (ltB ascB rem maskF allF proveF coreF namesF errF followF hitsF lessL)
theorem push2 {H : Heap} {k1 k2 : Option Bool} {a d : List ByteArray} (h1 : Enc.Ok k1 a) (h2 : Enc.Ok k2 d) (hl : a.length + d.length ≤ 2000000) : ∃ V1 H1, (∀ st, appendT (some elStr) H 0 st (lst true []) (strE.o k1 a) = some (V1, H1)) ∧
    ((a ++ d = [] ∧ appendT (some elStr) H1 0 false V1 (strE.o k2 d) = some (strE.o (some true) [], H)) ∨ appendT (some elStr) H1 0 false V1 (strE.o k2 d) = some (Enc.sl H.length (a ++ d), H ++ [strE.row 9 (a ++ d)])) := by
  have last : ∀ x : List ByteArray, (H ++ [strE.row 9 x])[H.length]? = some (strE.row 9 x) := fun x => by rw [List.getElem?_append_right (Nat.le_refl _)]; simp
  by_cases ha : a = []
  · subst ha
    refine ⟨lst true [], H, fun st => Enc.app_none (O := strE) rfl (Enc.cells_o h1), ?_⟩
    by_cases hd : d = []
    · subst hd
      exact .inl ⟨rfl, Enc.app_none (O := strE) rfl (Enc.cells_o h2)⟩
    · exact .inr (Enc.app_tree (O := strE) (el := elStr) (l := []) (m := d) rfl (Enc.cells_o h2) hd (by show (0 + d.length) * 16 ≤ _; omega))
  · refine ⟨Enc.sl H.length a, H ++ [strE.row 9 a], fun st => Enc.app_tree (O := strE) (el := elStr) (l := []) (m := a) rfl (Enc.cells_o h1) ha (by show (0 + a.length) * 16 ≤ _; omega), .inr ?_⟩
    have := Enc.app (O := strE) (el := elStr) (lo := 0) (m := d) (h := H ++ [strE.row 9 a]) (b := H.length) (t := 9) (l := a) rfl (last _) (Enc.cells_o h2) (Nat.zero_le _) (by show (a.length + d.length) * 16 ≤ _; omega)
    rw [List.set_append_right _ _ (Nat.le_refl _), Nat.sub_self] at this
    exact this
def frzF (P : Program) (n lo : Nat) (r : List Value × Heap) (x : Value) : Option (List Value × Heap) := (freezeV P n lo r.2 x).map fun y => (r.1 ++ [y.1], y.2)
theorem freeze_slice {P : Program} {n lo b k len cap g : Nat} {h : Heap} {t : TypeId} {c : List Value} (ho : h[b]? = some (.cells t c g)) (h0 : len ≠ 0) (hs : szOf P t = some 1) (ha : aggT P t = some false) (hlo : lo ≤ b) (hst : stampOk (some k) g c.length = true) (hlen : len = c.length) (hset : c.all (settled 8) = false) :
    freezeV P (n + 1) lo h (.slice (some ⟨b, 0, some k⟩) len cap) = (c.foldlM (frzF P n lo) ([], h.set b .dead)).map fun r => (lst false r.1, r.2) := by
  show (if len = 0 then _ else _) = _
  rw [if_neg h0]
  show (match h[b]? with | some (.cells t c g) => _ | _ => none) = _
  rw [ho]
  show (szOf P t).bind _ = _
  rw [hs, Option.bind_some, if_pos ⟨hlo, hst, Nat.one_pos, by show 0 + len * 1 ≤ c.length; omega⟩]
  have e : (c.drop 0).take (len * 1) = c := by rw [List.drop_zero, Nat.mul_one, hlen, List.take_length]
  show Option.bind (if ((c.drop 0).take (len * 1)).all (settled 8) = true then _ else _) _ = _
  rw [e, hset, if_neg (by decide)]
  show (c.foldlM (frzF P n lo) ([], h.set b .dead)).bind _ = _
  cases c.foldlM (frzF P n lo) ([], h.set b .dead) with
  | none => rfl
  | some r =>
    show (elemsOf P t len r.1).map _ = _
    rw [elems_one ha hs]; rfl
theorem fold_frz {P : Program} {n lo : Nat} : ∀ (xs : List Value) (r : List Value × Heap), (∀ x ∈ xs, settled 8 x = true ∧ one x = true) → xs.foldlM (frzF P (n + 1) lo) r = some (r.1 ++ xs, r.2)
  | [], r, _ => by rw [List.append_nil]; rfl
  | x :: xs, r, h => by
    obtain ⟨h1, h2⟩ := h x List.mem_cons_self
    rw [List.foldlM_cons]
    show ((freezeV P (n + 1) lo r.2 x).map fun y => (r.1 ++ [y.1], y.2)).bind _ = _
    rw [frz_set1 h1 h2]
    show xs.foldlM (frzF P (n + 1) lo) (r.1 ++ [x], r.2) = _
    rw [fold_frz xs _ fun y hy => h y (List.mem_cons_of_mem _ hy), List.append_assoc]; rfl
theorem sLst : szOf E.P 23 = some 1 := by kernel_rfl
theorem aLst : aggT E.P 23 = some false := by kernel_rfl
theorem frz_live {H : Heap} {A : List (Option Bool × List ByteArray)} {fw : List ByteArray} {b c k : Nat} (hob : H[b]? = some (.cells 23 ((listE.vals A).set k (Enc.sl c fw)) 1)) (hoc : H[c]? = some (strE.row 9 fw)) (hbc : b ≠ c) (hk : k < A.length) :
    ∃ H', freezeV E.P depth 0 H (Enc.sl b A) = some (listE.o (some false) (A.set k (some false, fw)), H') := by
  have hl : (listE.vals A).length = A.length := Enc.vals_len
  have hsp : (listE.vals A).set k (Enc.sl c fw) = (listE.vals A).take k ++ Enc.sl c fw :: (listE.vals A).drop (k + 1) := by
    rw [List.set_eq_take_append_cons_drop, if_pos (by omega)]
  have hset : ∀ x ∈ listE.vals A, settled 8 x = true ∧ one x = true := fun x hx => by
    obtain ⟨a, _, rfl⟩ := List.mem_map.1 hx
    exact ⟨Enc.o_set, Enc.o_one⟩
  have h1 : ((listE.vals A).set k (Enc.sl c fw)).all (settled 8) = false := by
    rw [hsp, List.all_append, List.all_cons]
    have : settled 8 (Enc.sl c fw) = false := rfl
    rw [this, Bool.false_and, Bool.and_false]
  have h2 := freeze_slice (P := E.P) (n := 7) (lo := 0) (k := A.length) (len := A.length) (cap := A.length) hob (by omega) sLst aLst (Nat.zero_le _) (by rw [List.length_set, hl]; simp [stampOk]) (by rw [List.length_set, hl]) h1
  have h3 : (H.set b AObj.dead)[c]? = some (strE.row 9 fw) := by rw [List.getElem?_set_ne hbc]; exact hoc
  have h4 : freezeV E.P 7 0 (H.set b AObj.dead) (Enc.sl c fw) = some (strE.o (some false) fw, if fw.length = 0 then H.set b AObj.dead else (H.set b AObj.dead).set c .dead) := by
    unfold Enc.sl
    have := frz_one1 (P := E.P) (n := 6) (lo := 0) (b := c) (k := fw.length) (len := fw.length) (cap := fw.length) (t := 9) (l := strE.vals fw) h3 sStr aStr (Nat.zero_le _) Enc.vals_len.symm Enc.vals_len.symm (Enc.vals_set _)
    exact this
  generalize (if fw.length = 0 then H.set b AObj.dead else (H.set b AObj.dead).set c .dead) = H2 at h4
  refine ⟨H2, ?_⟩
  show freezeV E.P (7 + 1) 0 H (.slice (some ⟨b, 0, some A.length⟩) A.length A.length) = _
  rw [h2, hsp, List.foldlM_append]
  rw [fold_frz (n := 6) ((listE.vals A).take k) ([], H.set b AObj.dead) fun x hx => hset x (List.mem_of_mem_take hx)]
  show ((List.foldlM (frzF E.P 7 0) ([] ++ (listE.vals A).take k, H.set b AObj.dead) (Enc.sl c fw :: (listE.vals A).drop (k + 1))).map fun r => (lst false r.1, r.2)) = _
  rw [List.foldlM_cons]
  show ((((freezeV E.P 7 0 (H.set b AObj.dead) (Enc.sl c fw)).map fun y => (([] ++ (listE.vals A).take k) ++ [y.1], y.2)).bind fun r => List.foldlM (frzF E.P 7 0) r ((listE.vals A).drop (k + 1))).map fun r => (lst false r.1, r.2)) = _
  rw [h4]
  show ((List.foldlM (frzF E.P 7 0) (([] ++ (listE.vals A).take k) ++ [strE.o (some false) fw], H2) ((listE.vals A).drop (k + 1))).map fun r => (lst false r.1, r.2)) = _
  rw [fold_frz (n := 6) ((listE.vals A).drop (k + 1)) _ fun x hx => hset x (List.mem_of_mem_drop hx)]
  show some (lst false (([] ++ (listE.vals A).take k) ++ [strE.o (some false) fw] ++ (listE.vals A).drop (k + 1)), H2) = some (lst false (listE.vals (A.set k (some false, fw))), H2)
  rw [← Enc.vals_put, List.set_eq_take_append_cons_drop, if_pos (by omega), List.nil_append, List.append_assoc]; rfl
theorem frzAll_one {lo : Nat} {v u : Value} {h h' : Heap} (hf : freezeV E.P depth lo h v = some (u, h')) : frzAll E.P lo [v] h = some ([u], h') := by
  unfold frzAll
  rw [List.foldlM_cons, hf]; rfl
theorem als_app (A : List (Option Bool × List ByteArray)) (x : Option Bool × List ByteArray) : als (A ++ [x]) = als A ++ [x.2] := by unfold als; rw [List.map_append]; rfl
theorem als_set (A : List (Option Bool × List ByteArray)) (k : Nat) (x : Option Bool × List ByteArray) : als (A.set k x) = (als A).set k x.2 := by unfold als; rw [List.map_set]
theorem grow_app {A : List (Option Bool × List ByteArray)} {x : Option Bool × List ByteArray} (h1 : errV A = 0) (h2 : errV (A ++ [x]) = 0) : (coreF ltB (als A)).length ≤ (coreF ltB (als (A ++ [x]))).length := by
  refine Co.core_more Co.ordB (good_of h1).ne (good_of h2).ne fun C hC => ?_
  rw [als_app] at hC
  exact Co.hits_app hC
theorem grow_set {A : List (Option Bool × List ByteArray)} {k : Nat} {x : Option Bool × List ByteArray} (hk : k < A.length) (hs : x.2.Sublist A[k].2) (h1 : errV A = 0) : (errV (A.set k x) = 4 ↔ x.2 = []) ∧ (errV (A.set k x) = 0 → (coreF ltB (als A)).length ≤ (coreF ltB (als (A.set k x))).length) := by
  have g := good_of h1
  have hkl : k < (als A).length := by unfold als; rw [List.length_map]; exact hk
  have ek : (als A)[k] = A[k].2 := List.getElem_map _
  have hl : (als (A.set k x)).length = (als A).length := by rw [als_set, List.length_set]
  have hbad : Co.badA ltB (als (A.set k x)) = false := by
    unfold Co.badA
    have hp := List.length_pos_iff.2 g.pos
    have hf := g.few
    rw [hl, decide_eq_false (by omega), decide_eq_false (by omega), Bool.false_or, Bool.false_or, List.any_eq_false]
    intro a ha
    rw [als_set] at ha
    rcases List.mem_or_eq_of_mem_set ha with ha | rfl
    · have q1 := g.small a ha
      have q2 := g.asc a ha
      rw [q2]; simp; omega
    · have q1 := g.small _ (List.getElem_mem hkl)
      have q2 := g.asc _ (List.getElem_mem hkl)
      rw [ek] at q1 q2
      have q3 := Co.ascB_sub Co.ordB hs q2
      have q4 := hs.length_le
      rw [q3]; simp; omega
  have he : errV (A.set k x) = if ((als (A.set k x)).any fun a => a.isEmpty) = true then 4 else 0 := by
    unfold errV Co.errF
    rw [hbad, if_neg (by decide)]
  constructor
  · rw [he]
    constructor
    · intro q
      split at q
      · rename_i h
        obtain ⟨a, ha, hae⟩ := List.any_eq_true.1 h
        rw [als_set] at ha
        rcases List.mem_or_eq_of_mem_set ha with ha | rfl
        · exact absurd (List.isEmpty_iff.1 hae) (g.ne a ha)
        · exact List.isEmpty_iff.1 hae
      · cases q
    · intro q
      rw [if_pos]
      rw [List.any_eq_true]
      refine ⟨x.2, ?_, by rw [q]; rfl⟩
      rw [als_set]
      exact List.mem_set hkl _
  · intro h2
    refine Co.core_more Co.ordB g.ne (good_of h2).ne fun C hC => ?_
    rw [als_set] at hC
    exact Co.hits_set hkl (fun y hy => by rw [ek]; exact hs.subset hy) hC
theorem maxI (a b : Int) : aMinMax true [.int .i64 a, .int .i64 b] = some (.int .i64 (max a b)) := by
  show some (Value.int .i64 (if b > a then b else a)) = _
  congr 2
  omega
theorem bin_remN {P : Program} {t : TypeId} (a b : Nat) (hb : b ≠ 0) : aBin P .rem t (.int .i64 (a : Int)) (.int .i64 (b : Int)) = some (.int .i64 ((a % b : Nat) : Int)) := by
  show (if (b : Int) = 0 then none else some (Value.int .i64 ((a : Int).tmod (b : Int)))) = _
  rw [if_neg (by omega), Int.tmod_eq_emod_of_nonneg (by omega)]; rfl
theorem litL0 (H : Heap) : buildSliceT (some elList) false H 0 #[] = some (lst true (listE.vals []), H) := rfl
theorem litL1 (H : Heap) (k : Option Bool) (x : List ByteArray) : buildSliceT (some elList) false H 1 #[(0, strE.o k x)] = some (lst true (listE.vals [(k, x)]), H) := Enc.lit (O := listE) (k, x) rfl rfl rfl
set_option maxHeartbeats 4000000 in
theorem grows_law {A : List (Option Bool × List ByteArray)} {mo : List ByteArray} {at_ out : Nat} (hA : ∀ x ∈ A, Enc.Ok x.1 x.2) (hAl : A.length ≤ 9223372036854775807) (hml : mo.length ≤ 9223372036854775807) (hat : at_ ≤ 255) (hout : out ≤ 255) :
    LwG (L E 6 [listE.o (some false) A, strE.o (some false) mo, .int .u8 (at_ : Int), .int .u8 (out : Int)] [] 0) := by
  have fw := fun lo st h => fewA_call (K := some false) Enc.ok_some hA hAl (lo := lo) (st := st) (h := h)
  have sm := fun lo st h => small_call (lo := lo) (st := st) (h := h)
  have lA : ∀ H, lenT .sl H (listE.o (some false) A) = some (.int .i64 A.length) := fun H => Enc.o_len Enc.ok_some
  have lm : ∀ H, lenT .sl H (strE.o (some false) mo) = some (.int .i64 mo.length) := fun H => Enc.o_len Enc.ok_some
  rw [L_fn F6 rfl]
  by_cases hq : (fewA A && decide (A.length ≤ 10)) = true ∧ mo.length ≤ 14
  case neg =>
    refine ⟨[], ?_⟩
    generalize listE.o (some false) A = VA at *
    generalize strE.o (some false) mo = VM at *
    cases q1 : (fewA A && decide (A.length ≤ 10))
    · simp only [q1] at fw
      simp -implicitDefEqProofs [r6, p6, sm, fw]
    · simp only [q1] at fw
      have q2 : (14 : Int) < (mo.length : Int) := by
        have : ¬ mo.length ≤ 14 := fun h => hq ⟨q1, h⟩
        omega
      simp -implicitDefEqProofs [r6, p6, sm, fw, lm, q2]
  obtain ⟨q1, q2⟩ := hq
  simp only [q1] at fw
  rw [Bool.and_eq_true, decide_eq_true_eq] at q1
  have q2' : ¬ (14 : Int) < (mo.length : Int) := by omega
  have al := few_al (K := some false) Enc.ok_some hA q1.1 q1.2
  have hsm : ∀ x ∈ A, x.2.length ≤ 1000 := fun x hx => by
    have := List.all_eq_true.1 q1.1 x hx
    simp only [Bool.and_eq_true, decide_eq_true_eq] at this
    omega
  have le := fun lo h => least_call al (lo := lo) (h := h)
  by_cases he : errV A = 0
  case neg =>
    refine ⟨[], ?_⟩
    have hc : coreO A = (none, []) := if_neg he
    rw [hc] at le
    generalize listE.o (some false) A = VA at *
    generalize strE.o (some false) mo = VM at *
    generalize strE.o none [] = VO at *
    simp -implicitDefEqProofs [r6, p6, sm, fw, lm, q2', le, he]
  have g := good_of he
  have hAp : 0 < A.length := by
    have := List.length_pos_iff.2 g.pos
    unfold als at this
    rwa [List.length_map] at this
  have hne : A ≠ [] := List.length_pos_iff.1 hAp
  obtain ⟨kn, nk, nm⟩ := names_call (K := some false) Enc.ok_some hA hsm (by omega)
  have hco : coreO A = (some false, coreF ltB (als A)) := if_pos he
  rw [he, hco] at le
  have le : ∀ lo h, retCall E (Bm.L E) lo false 11 [listE.o (some false) A] h = some (.tuple #[strE.o (some false) (coreF ltB (als A)), .int .i64 0], h) := le
  have hcl := (core_pos he).2
  have k := Co.core_is Co.ordB g.ne
  have lo_ : ∀ H, lenT .sl H (strE.o (some false) (coreF ltB (als A))) = some (.int .i64 (coreF ltB (als A)).length) := fun H => Enc.o_len Enc.ok_some
  have io : ∀ (m : Nat) (hm : m < (coreF ltB (als A)).length), indexAddrT (.sl 9 ⟨some false, some 1⟩) (strE.o (some false) (coreF ltB (als A))) (.int .i64 (m : Int)) = some (cptr (.string (coreF ltB (als A))[m])) := fun m hm => Enc.index_o Enc.ok_some hm
  have ln : ∀ H, lenT .sl H (strE.o kn (namesF ltB (als A))) = some (.int .i64 (namesF ltB (als A)).length) := fun H => Enc.o_len nk
  have in_ : ∀ (m : Nat) (hm : m < (namesF ltB (als A)).length), indexAddrT (.sl 9 ⟨some false, some 1⟩) (strE.o kn (namesF ltB (als A))) (.int .i64 (m : Int)) = some (cptr (.string (namesF ltB (als A))[m])) := fun m hm => Enc.index_o nk hm
  have hnl := Co.good_names g
  have hsub : ∀ s ∈ coreF ltB (als A), ((namesF ltB (als A)).any fun q => decide (q = s)) = true := fun s hs => List.any_eq_true.2 ⟨s, k.sub.subset hs, decide_eq_true rfl⟩
  -- one alternative more
  have al2 : AlOk (some false) (A ++ [(some false, mo)]) := ⟨Enc.ok_some, fun x hx => by
    rcases List.mem_append.1 hx with hx | hx
    · exact hA x hx
    · rw [List.mem_singleton.1 hx]; exact Enc.ok_some, fun x hx => by
    rcases List.mem_append.1 hx with hx | hx
    · have := hsm x hx; omega
    · rw [List.mem_singleton.1 hx]; show mo.length ≤ _; omega, by rw [List.length_append, List.length_singleton]; omega⟩
  have ap1 : ∀ H : Heap, appendT (some elList) H 0 false (lst true (listE.vals [])) (listE.o (some false) A) = some (Enc.sl H.length A, H ++ [listE.row 23 A]) := fun H => Enc.app_tree (O := listE) (el := elList) (l := []) (m := A) rfl (Enc.cells_o Enc.ok_some) hne (by show (0 + A.length) * 24 ≤ _; omega)
  have ap2 : appendT (some elList) [listE.row 23 A] 0 false (Enc.sl 0 A) (lst true (listE.vals [(some false, mo)])) = some (Enc.sl 0 (A ++ [(some false, mo)]), [listE.row 23 (A ++ [(some false, mo)])]) :=
    Enc.app (O := listE) (el := elList) (lo := 0) (m := [(some false, mo)]) (h := [listE.row 23 A]) (b := 0) (t := 23) (l := A) rfl rfl (Enc.cells_tree (O := listE) (x := true)) (Nat.zero_le _) (by show (A.length + 1) * 24 ≤ _; omega)
  have fz2 : freezeV E.P depth 0 [listE.row 23 (A ++ [(some false, mo)])] (Enc.sl 0 (A ++ [(some false, mo)])) = some (listE.o (some false) (A ++ [(some false, mo)]), [AObj.dead]) := by
    have := Enc.frz_sl (P := E.P) (O := listE) (lo := 0) (h := [listE.row 23 (A ++ [(some false, mo)])]) (b := 0) (t := 23) (l := A ++ [(some false, mo)]) rfl sLst aLst (Nat.zero_le _)
    rw [if_neg (by rw [List.length_append]; simp)] at this
    exact this
  have le2 : retCall E (Bm.L E) 0 false 11 [Enc.sl 0 (A ++ [(some false, mo)])] [listE.row 23 (A ++ [(some false, mo)])] = some (.tuple #[strE.o (coreO (A ++ [(some false, mo)])).1 (coreO (A ++ [(some false, mo)])).2, .int .i64 (errV (A ++ [(some false, mo)]))], [AObj.dead]) := by
    rw [ret4 m11, frzAll_one fz2, Option.bind_some, least_top al2]; rfl
  have lb : ∀ H, lenT .sl H (strE.o (coreO (A ++ [(some false, mo)])).1 (coreO (A ++ [(some false, mo)])).2) = some (.int .i64 (coreO (A ++ [(some false, mo)])).2.length) := fun H => Enc.o_len core_ok.1
  have hgrow : errV (A ++ [(some false, mo)]) = 0 → ¬ ((coreO (A ++ [(some false, mo)])).2.length : Int) < ((coreF ltB (als A)).length : Int) := fun h2 => by
    have := grow_app he h2
    rw [show coreO (A ++ [(some false, mo)]) = (some false, coreF ltB (als (A ++ [(some false, mo)]))) from if_pos h2]
    show ¬ ((coreF ltB (als (A ++ [(some false, mo)]))).length : Int) < _
    omega
  -- one name less
  have rem1 := bin_remN (P := E.P) (t := 3) at_ A.length (by omega)
  have hkz : at_ % A.length < A.length := Nat.mod_lt _ hAp
  generalize at_ % A.length = kz at *
  have iA : indexAddrT (.sl 23 ⟨some false, some 1⟩) (listE.o (some false) A) (.int .i64 (kz : Int)) = some (cptr (listE.e A[kz])) := Enc.index_o Enc.ok_some hkz
  have leA : ∀ H sz, loadT ⟨some false, sz⟩ H (cptr (listE.e A[kz])) = some (strE.o A[kz].1 A[kz].2) := fun H sz => Enc.load_e (O := listE) _
  have hka := hA _ (List.getElem_mem hkz)
  have hla := hsm _ (List.getElem_mem hkz)
  have hkne : A[kz].2 ≠ [] := g.ne _ (by unfold als; exact List.mem_map.2 ⟨_, List.getElem_mem hkz, rfl⟩)
  have hkp := List.length_pos_iff.2 hkne
  have la : ∀ H, lenT .sl H (strE.o A[kz].1 A[kz].2) = some (.int .i64 A[kz].2.length) := fun H => Enc.o_len hka
  have rem2 := bin_remN (P := E.P) (t := 3) out A[kz].2.length (by omega)
  have hmz : out % A[kz].2.length < A[kz].2.length := Nat.mod_lt _ hkp
  generalize out % A[kz].2.length = mz at *
  obtain ⟨k1, t1, t2⟩ := o_take hka (n := mz) (by omega)
  obtain ⟨k2, t3, t4⟩ := o_drop hka (n := mz + 1) (by omega)
  have hsl : (A[kz].2.take mz ++ A[kz].2.drop (mz + 1)).Sublist A[kz].2 := by
    have h1 : (A[kz].2.take mz ++ A[kz].2.drop (mz + 1)).Sublist (A[kz].2.take mz ++ A[kz].2.drop mz) := List.Sublist.append_left (by
      have : A[kz].2.drop (mz + 1) = (A[kz].2.drop mz).drop 1 := by rw [List.drop_drop]
      rw [this]; exact List.drop_sublist _ _) _
    rw [List.take_append_drop] at h1
    exact h1
  obtain ⟨V1, H1, p1, p2⟩ := push2 (H := [AObj.dead, listE.row 23 A]) t2 t4 (by rw [List.length_take, List.length_drop]; omega)
  generalize hfw : A[kz].2.take mz ++ A[kz].2.drop (mz + 1) = fwr at *
  have mx1 : aMinMax true [.int .i64 1, .int .i64 (A.length : Int)] = some (.int .i64 (A.length : Int)) := by rw [maxI]; congr 2; omega
  have mx2 : aMinMax true [.int .i64 1, .int .i64 (A[kz].2.length : Int)] = some (.int .i64 (A[kz].2.length : Int)) := by rw [maxI]; congr 2; omega
  have mn1 : aMinMax false [.int .i64 (mz : Int), .int .i64 (A[kz].2.length : Int)] = some (.int .i64 (mz : Int)) := by rw [minI]; congr 2; omega
  have mn2 : aMinMax false [.int .i64 ((mz + 1 : Nat) : Int), .int .i64 (A[kz].2.length : Int)] = some (.int .i64 ((mz + 1 : Nat) : Int)) := by rw [minI]; congr 2; omega
  have w1 : IntKind.i64.wrap (at_ : Int) = (at_ : Int) := wrap64 (by omega) (by omega)
  have w2 : IntKind.i64.wrap (out : Int) = (out : Int) := wrap64 (by omega) (by omega)
  have w3 : IntKind.i64.wrap ((mz : Int) + 1) = ((mz + 1 : Nat) : Int) := (wrap64 (by omega) (by omega)).trans (by omega)
  have ix1 : indexAddrT (.sl 23 ⟨some false, some 1⟩) (Enc.sl 1 A) (.int .i64 (kz : Int)) = some (Enc.at_ 1 A kz) := Enc.sl_index hkz
  -- the two forms of what is stored
  have two : ∃ V2 H2 kk H3 H4, appendT (some elStr) H1 0 false V1 (strE.o k2 (A[kz].2.drop (mz + 1))) = some (V2, H2) ∧ storeT (some 1) H2 0 V2 (Enc.at_ 1 A kz) = some H3 ∧ freezeV E.P depth 0 H3 (Enc.sl 1 A) = some (listE.o (some false) (A.set kz (kk, fwr)), H4) ∧ Enc.Ok kk fwr := by
    rcases p2 with ⟨e, p2⟩ | p2
    · subst e
      have st := Enc.store_at (O := listE) (h := [AObj.dead, listE.row 23 A]) (b := 1) (t := 23) (lo := 0) (a := (some true, [])) rfl (Nat.zero_le _) hkz
      have es : Enc.sl 1 A = Enc.sl 1 (A.set kz (some true, [])) := by unfold Enc.sl; rw [List.length_set]
      have fz := Enc.frz_sl (P := E.P) (O := listE) (lo := 0) (h := [AObj.dead, listE.row 23 (A.set kz (some true, []))]) (b := 1) (t := 23) (l := A.set kz (some true, [])) rfl sLst aLst (Nat.zero_le _)
      exact ⟨_, _, some true, _, _, p2, st, by rw [es]; exact fz, Enc.ok_some⟩
    · have st : storeT (some 1) [AObj.dead, listE.row 23 A, strE.row 9 fwr] 0 (Enc.sl 2 fwr) (Enc.at_ 1 A kz) = some [AObj.dead, .cells 23 ((listE.vals A).set kz (Enc.sl 2 fwr)) 1, strE.row 9 fwr] := by
        unfold Enc.at_
        rw [store_ptr, show cellsOf (Enc.sl 2 fwr) = some [Enc.sl 2 fwr] from rfl, Option.bind_some, if_pos (show 1 = [Enc.sl 2 fwr].length from rfl)]
        have hob' : ([AObj.dead, listE.row 23 A, strE.row 9 fwr] : Heap)[1]? = some (.cells 23 (listE.vals A) 1) := rfl
        unfold wrN
        show (match ([AObj.dead, listE.row 23 A, strE.row 9 fwr] : Heap)[1]? with | some (.cells t c g) => _ | _ => none) = _
        rw [hob']
        show (if _ then _ else none) = _
        rw [if_pos ⟨Nat.zero_le _, by unfold stampOk; rw [Enc.vals_len]; simp, by simp, by rw [Enc.vals_len]; simp; omega⟩]
        show some (([AObj.dead, listE.row 23 A, strE.row 9 fwr] : Heap).set 1 (.cells 23 (splice (listE.vals A) kz [Enc.sl 2 fwr]) 1)) = _
        rw [splice_one (by rw [Enc.vals_len]; exact hkz)]; rfl
      obtain ⟨H4, fz⟩ := frz_live (H := [AObj.dead, .cells 23 ((listE.vals A).set kz (Enc.sl 2 fwr)) 1, strE.row 9 fwr]) (b := 1) (c := 2) (k := kz) (A := A) (fw := fwr) rfl rfl (by decide) hkz
      exact ⟨_, _, some false, _, H4, p2, st, fz, Enc.ok_some⟩
  obtain ⟨V2, H2, kk, H3, H4, s1, s2, s3, s4⟩ := two
  have al3 : AlOk (some false) (A.set kz (kk, fwr)) := ⟨Enc.ok_some, fun x hx => by
    rcases List.mem_or_eq_of_mem_set hx with hx | rfl
    · exact hA x hx
    · exact s4, fun x hx => by
    rcases List.mem_or_eq_of_mem_set hx with hx | rfl
    · have := hsm x hx; omega
    · have := hsl.length_le; show fwr.length ≤ _; omega, by rw [List.length_set]; omega⟩
  have le3 : ∀ h, retCall E (Bm.L E) 0 false 11 [listE.o (some false) (A.set kz (kk, fwr))] h = some (.tuple #[strE.o (coreO (A.set kz (kk, fwr))).1 (coreO (A.set kz (kk, fwr))).2, .int .i64 (errV (A.set kz (kk, fwr)))], h) := fun h => least_call al3
  have lc : ∀ H, lenT .sl H (strE.o (coreO (A.set kz (kk, fwr))).1 (coreO (A.set kz (kk, fwr))).2) = some (.int .i64 (coreO (A.set kz (kk, fwr))).2.length) := fun H => Enc.o_len core_ok.1
  obtain ⟨hg1, hg2⟩ := grow_set (x := (kk, fwr)) hkz hsl he
  have hg2' : errV (A.set kz (kk, fwr)) = 0 → ((coreF ltB (als A)).length : Int) ≤ ((coreO (A.set kz (kk, fwr))).2.length : Int) := fun h2 => by
    have := hg2 h2
    rw [show coreO (A.set kz (kk, fwr)) = (some false, coreF ltB (als (A.set kz (kk, fwr)))) from if_pos h2]
    show ((coreF ltB (als A)).length : Int) ≤ ((coreF ltB (als (A.set kz (kk, fwr)))).length : Int)
    omega
  have ix2 : indexAddrT (.sl 23 ⟨some false, some 1⟩) (listE.o (some false) (A.set kz (kk, fwr))) (.int .i64 (kz : Int)) = some (cptr (strE.o kk fwr)) := by
    have := Enc.index_o (O := listE) (x := some false) (l := A.set kz (kk, fwr)) (t := 23) (i := kz) (k := .i64) Enc.ok_some (by rw [List.length_set]; exact hkz)
    rw [List.getElem_set_self] at this
    exact this
  have le4 : ∀ H sz, loadT ⟨some false, sz⟩ H (cptr (strE.o kk fwr)) = some (strE.o kk fwr) := fun H sz => Enc.load_e (O := listE) (kk, fwr)
  have lf : ∀ H, lenT .sl H (strE.o kk fwr) = some (.int .i64 fwr.length) := fun H => Enc.o_len s4
  generalize hns : namesF ltB (als A) = ns at *
  generalize hcf : coreF ltB (als A) = cf at *
  generalize A[kz].2.length = lk at *
  generalize strE.o k2 (A[kz].2.drop (mz + 1)) = VD at *
  generalize strE.o k1 (A[kz].2.take mz) = VT at *
  generalize strE.o A[kz].1 A[kz].2 = VK at *
  generalize cptr (listE.e A[kz]) = VE at *
  generalize listE.o (some false) (A.set kz (kk, fwr)) = VA3 at *
  generalize strE.o (coreO (A.set kz (kk, fwr))).1 (coreO (A.set kz (kk, fwr))).2 = VC3 at *
  generalize (coreO (A.set kz (kk, fwr))).2.length = lc3 at *
  generalize errV (A.set kz (kk, fwr)) = e3 at *
  generalize strE.o (coreO (A ++ [(some false, mo)])).1 (coreO (A ++ [(some false, mo)])).2 = VC2 at *
  generalize (coreO (A ++ [(some false, mo)])).2.length = lc2 at *
  generalize errV (A ++ [(some false, mo)]) = e2 at *
  have lls := litL1 [listE.row 23 A] (some false) mo
  generalize listE.o (some false) A = VA at *
  generalize strE.o (some false) mo = VM at *
  generalize strE.o kn ns = VN at *
  generalize strE.o (some false) cf = VO at *
  show LwG _
  simp -implicitDefEqProofs [r6, p6, sm, fw, lm, q2', le, nm]
  rw [LL_for (γ := Unit) cf () (fun i _ => [(13, .int .i64 (i : Int))]) (fun _ _ => []) (fun _ _ _ => (.exit 0, [(13, undef)], [])) (fun _ _ => True) (by omega) trivial]
  rotate_left
  · simp -implicitDefEqProofs [k6_9]
  · rfl
  · intro nx i c hi _
    subst hi
    simp -implicitDefEqProofs [r6_9, k6_9, lo_, trim_le]
  · intro nx i v rest c hi hv hd hw _ ih
    have ih := ih () trivial
    have hi2 : ((i : Int) < (cf.length : Int)) := by omega
    have x1 := io i hi
    rw [hv] at x1
    have hin := hsub v (by rw [← hv]; exact List.getElem_mem hi)
    have ec : (((i + 1 : Nat) : Int)) = (i : Int) + 1 := by omega
    rw [ec] at ih
    simp -implicitDefEqProofs [k6_9] at ih
    simp -implicitDefEqProofs [r6_9, k6_9, lo_, hi2]
    rw [LL_for (γ := Bool) ns false (fun j x => [(14, .bool x), (15, .int .i64 (j : Int))]) (fun _ _ => []) (fun j rest x => (.exit 2, [(14, .bool (x || rest.any fun q => decide (q = v))), (15, undef)], [])) (fun _ _ => True) (by omega) trivial]
    · rw [hin]
      simp -implicitDefEqProofs [k6_13, trim_le, hw, ih]
    · simp -implicitDefEqProofs [k6_13]
    · rfl
    · intro nx2 j x hj _
      subst hj
      simp -implicitDefEqProofs [r6_13, k6_13, ln, trim_le]
    · intro nx2 j u rest2 x hj hu hd2 hw2 _ ih2
      have ih2 := fun x' => ih2 x' trivial
      have hj2 : ((j : Int) < ns.length) := by omega
      have z1 := in_ j hj
      rw [hu] at z1
      have e3 : (((j + 1 : Nat) : Int)) = (j : Int) + 1 := by omega
      rw [e3] at ih2
      rw [List.any_cons, ← Bool.or_assoc]
      have ih2 := ih2 (x || decide (u = v))
      simp -implicitDefEqProofs [k6_13] at ih2
      generalize (rest2.any fun q => decide (q = v)) = ra at *
      cases x
      · rw [Bool.false_or] at ih2 ⊢
        simp -implicitDefEqProofs [r6_13, k6_13, ln, hj2, x1, z1, trim_le, hw2, ih2]
      · rw [Bool.true_or] at ih2 ⊢
        simp -implicitDefEqProofs [r6_13, k6_13, ln, hj2, trim_le, hw2, ih2]
  generalize ((mz + 1 : Nat) : Int) = m1 at w3 mn2 t3
  have li0 : ∀ H, buildSliceT (some elStr) false H 0 #[] = some (lst true [], H) := fun _ => rfl
  have three : (e3 = 4 ∧ fwr = []) ∨ (e3 ≠ 4 ∧ e3 ≠ 0 ∧ fwr ≠ []) ∨ (e3 ≠ 4 ∧ e3 = 0 ∧ fwr ≠ [] ∧ (cf.length : Int) ≤ (lc3 : Int)) := by
    by_cases h4 : e3 = 4
    · exact .inl ⟨h4, hg1.1 h4⟩
    · by_cases h0 : e3 = 0
      · exact .inr (.inr ⟨h4, h0, fun h => h4 (hg1.2 h), hg2' h0⟩)
      · exact .inr (.inl ⟨h4, h0, fun h => h4 (hg1.2 h)⟩)
  by_cases h2 : e2 = 0
  · have hgr := hgrow h2
    subst h2
    rcases three with ⟨h4, hw⟩ | ⟨h4, h5, hw⟩ | ⟨h4, h5, hw, hle⟩
    · subst h4; subst hw
      simp -implicitDefEqProofs [k6_9, ap1, ap2, lls, litL0, le2, lb, hgr, lA, lo_, mx1, mx2, rem1, rem2, w1, w2, iA, leA, la, hne, li0, ix1, t1, t3, p1, s1, s2, w3, mn1, mn2, s3, prep_frz, le3, ix2, le4, lf, bin_eqlB]
      exact ⟨_, rfl⟩
    · simp -implicitDefEqProofs [k6_9, ap1, ap2, lls, litL0, le2, lb, hgr, lA, lo_, mx1, mx2, rem1, rem2, w1, w2, iA, leA, la, hne, li0, ix1, t1, t3, p1, s1, s2, w3, mn1, mn2, s3, prep_frz, le3, ix2, le4, lf, bin_eqlB, h4, h5, hw]
      exact ⟨_, rfl⟩
    · subst h5
      simp -implicitDefEqProofs [k6_9, ap1, ap2, lls, litL0, le2, lb, hgr, lA, lo_, mx1, mx2, rem1, rem2, w1, w2, iA, leA, la, hne, li0, ix1, t1, t3, p1, s1, s2, w3, mn1, mn2, s3, prep_frz, le3, lc, ix2, le4, lf, bin_eqlB, hw, hle]
      exact ⟨_, rfl⟩
  · rcases three with ⟨h4, hw⟩ | ⟨h4, h5, hw⟩ | ⟨h4, h5, hw, hle⟩
    · subst h4; subst hw
      simp -implicitDefEqProofs [k6_9, ap1, ap2, lls, litL0, le2, h2, lA, mx1, mx2, rem1, rem2, w1, w2, iA, leA, la, hne, li0, ix1, t1, t3, p1, s1, s2, w3, mn1, mn2, s3, prep_frz, le3, ix2, le4, lf, bin_eqlB]
      exact ⟨_, rfl⟩
    · simp -implicitDefEqProofs [k6_9, ap1, ap2, lls, litL0, le2, h2, lA, mx1, mx2, rem1, rem2, w1, w2, iA, leA, la, hne, li0, ix1, t1, t3, p1, s1, s2, w3, mn1, mn2, s3, prep_frz, le3, ix2, le4, lf, bin_eqlB, h4, h5, hw]
      exact ⟨_, rfl⟩
    · subst h5
      simp -implicitDefEqProofs [k6_9, ap1, ap2, lls, litL0, le2, h2, lA, lo_, mx1, mx2, rem1, rem2, w1, w2, iA, leA, la, hne, li0, ix1, t1, t3, p1, s1, s2, w3, mn1, mn2, s3, prep_frz, le3, lc, ix2, le4, lf, bin_eqlB, hw, hle]
      exact ⟨_, rfl⟩
end Go.Proofs.YtgefjhjmkejjbaaDoor.Bm
