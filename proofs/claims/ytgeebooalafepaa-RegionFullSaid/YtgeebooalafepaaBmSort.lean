/-
  slices.Sort at integers, known from the library's contract: what it does to a row. Conditions: the contract holds of the program's function.
-/
import Derived.Test.YtgeebooalafepaaBmLit
import Derived.Test.YtgeebooalafepaaBmDec
import Derived.Sort.Row
import Derived.Sort.Grow
import Derived.Lib.SlicesCompact
namespace Go.Proofs.Ytgeebooalafepaa.Bm
open Go Go.RowKit Go.Sort

def insI (z : Int) : List Int → List Int
  | [] => [z]
  | a :: l => if z ≤ a then z :: a :: l else a :: insI z l
/-- Sorted, so that the kernel can reckon it. -/
def sortI : List Int → List Int
  | [] => []
  | z :: l => insI z (sortI l)

theorem insI_perm (z : Int) : ∀ l : List Int, (insI z l).Perm (z :: l)
  | [] => .refl _
  | a :: l => by
    unfold insI
    split
    · exact .refl _
    · exact ((insI_perm z l).cons a).trans (.swap z a l)
theorem sortI_perm : ∀ l : List Int, (sortI l).Perm l
  | [] => .refl _
  | z :: l => (insI_perm z _).trans ((sortI_perm l).cons z)
theorem insI_sorted (z : Int) : ∀ {l : List Int}, l.Pairwise (· ≤ ·) → (insI z l).Pairwise (· ≤ ·)
  | [], _ => List.pairwise_singleton _ _
  | a :: l, h => by
    have ⟨h1, h2⟩ := List.pairwise_cons.1 h
    unfold insI
    split
    · rename_i hz
      refine List.pairwise_cons.2 ⟨fun b hb => ?_, h⟩
      rcases List.mem_cons.1 hb with rfl | hb
      · exact hz
      · exact Int.le_trans hz (h1 b hb)
    · rename_i hz
      refine List.pairwise_cons.2 ⟨fun b hb => ?_, insI_sorted z h2⟩
      rcases List.mem_cons.1 ((insI_perm z l).mem_iff.1 hb) with rfl | hb
      · omega
      · exact h1 b hb
theorem sortI_sorted : ∀ l : List Int, (sortI l).Pairwise (· ≤ ·)
  | [] => .nil
  | z :: l => insI_sorted z (sortI_sorted l)
theorem sortI_eq (l : List Int) : l.mergeSort (fun x y => decide (x ≤ y)) = sortI l := by
  refine List.Perm.eq_of_pairwise (le := (· ≤ ·)) (fun a b _ _ h1 h2 => Int.le_antisymm h1 h2) ?_ (sortI_sorted l) ((List.mergeSort_perm l _).trans (sortI_perm l).symm)
  refine List.Pairwise.imp (fun h => of_decide_eq_true h) (List.pairwise_mergeSort (fun a b c h1 h2 => ?_) (fun a b => ?_) l)
  · simp only [decide_eq_true_eq] at h1 h2 ⊢; omega
  · simp only [Bool.or_eq_true, decide_eq_true_eq]; omega

/-! ### Compact -/

def compG : Option Int → List Int → List Int
  | _, [] => []
  | p, a :: l => if p = some a then compG p l else a :: compG (some a) l
/-- Without repetitions of the element before. -/
def compI (zs : List Int) : List Int := compG none zs
def compF (zs : List Int) : List Int := compI zs ++ List.replicate (zs.length - (compI zs).length) 0
def compN (zs : List Int) : Nat := (compI zs).length

theorem compG_snoc : ∀ (l : List Int) (p : Option Int) (x : Int), compG p (l ++ [x]) = compG p l ++ (if l.getLast?.or p = some x then [] else [x])
  | [], p, x => rfl
  | a :: l, p, x => by
    simp only [List.cons_append, compG]
    split
    · rename_i e
      rw [compG_snoc l p x, e]
      cases l with
      | nil => rfl
      | cons b l => rw [List.getLast?_cons_cons]
    · rw [compG_snoc l (some a) x]
      cases l with
      | nil => rfl
      | cons b l =>
        obtain ⟨y, hy⟩ : ∃ y, (b :: l).getLast? = some y := ⟨_, List.getLast?_eq_some_getLast (by simp)⟩
        rw [List.getLast?_cons_cons, hy]; rfl
theorem compG_len : ∀ (l : List Int) (p : Option Int), (compG p l).length ≤ l.length
  | [], _ => Nat.le_refl _
  | a :: l, p => by
    unfold compG
    split
    · exact Nat.le_succ_of_le (compG_len l p)
    · exact Nat.succ_le_succ (compG_len l _)
theorem compF_len (zs : List Int) : (compF zs).length = zs.length := by
  have := compG_len zs none
  unfold compF compI
  rw [List.length_append, List.length_replicate]
  omega
theorem compact_eq (zs : List Int) : Lib.compact zs = compI zs := by
  have key : ∀ m, m ≤ zs.length → Lib.compactUpTo zs.toArray m = compI (zs.take m) := by
    intro m
    induction m with
    | zero => intro _; simp [Lib.compactUpTo, compI, compG]
    | succ m ih =>
      intro hm
      have e : (zs.take m).getLast?.or none = if m = 0 then none else some zs[m - 1]! := by
        rw [Option.or_none]
        by_cases h0 : m = 0
        · subst h0; rfl
        · rw [if_neg h0, List.getLast?_eq_getElem?, List.length_take, Nat.min_eq_left (by omega), List.getElem?_take, if_pos (by omega)]
          have : m - 1 < zs.length := by omega
          simp [this]
      rw [Lib.compactUpTo_succ, ih (by omega), List.take_succ_eq_append_getElem hm, compI, compI, compG_snoc, e]
      congr 1
      unfold Lib.keeps
      have g1 : zs.toArray[m]! = zs[m] := by simp [show m < zs.length by omega]
      have g2 : zs.toArray[m - 1]! = zs[m - 1]! := by simp
      rw [g1, g2]
      generalize zs[m - 1]! = q
      generalize zs[m] = r
      by_cases h0 : m = 0
      · simp [h0]
      · by_cases h1 : r = q
        · simp [h0, h1]
        · have h2 : ¬ q = r := fun e => h1 e.symm
          simp [h0, h1, h2]
  have := key zs.length (Nat.le_refl _)
  rw [List.take_length] at this
  exact this

/-- What such a function returns. -/
def retI (N : Option (List Int → Nat)) (a : Option Addr) (c : Nat) (zs : List Int) : Value := match N with
  | none => .tuple #[]
  | some m => .slice a (m zs) c
/-- What the library's contracts say of a function that works on a row in place. -/
structure SortCon (P : Program) (f : FuncId) (F : List Int → List Int) (N : Option (List Int → Nat)) : Prop where
  row : ∀ (blk off cap : Nat) (zs : List Int) (w : World), Holds (Value.int .i64) w blk off zs.toArray → blk < w.heap.size → zs.length < 4611686018427387904 → zs.length ≤ cap →
    Calls P f #[.slice (some ⟨blk, off, none⟩) zs.length cap] w fun e w' => e = .returned (retI N (some ⟨blk, off, none⟩) cap zs) ∧ ∃ n os, w' = grow (putRow (Value.int .i64) (Go.Sort.ahead w n) blk off (F zs).toArray) os
  none : ∀ (p : Option Addr) (cap : Nat) (w : World), Calls P f #[.slice p 0 cap] w fun e w' => e = .returned (retI N p cap []) ∧ w' = w
  dfd : ∃ fn, P.funcs[f]? = some fn ∧ fn.body.isSome = true
  len : ∀ zs, (F zs).length = zs.length
  cut : ∀ m, N = some m → ∀ zs, m zs ≤ zs.length

def intsOf : List Value → Option (List Int)
  | [] => some []
  | .int .i64 z :: l => (intsOf l).map (z :: ·)
  | _ => none
theorem intsOf_eq : ∀ {l : List Value} {zs : List Int}, intsOf l = some zs → l = zs.map (.int .i64)
  | [], zs, h => by cases h; rfl
  | v :: l, zs, h => by
    unfold intsOf at h
    split at h
    · rename_i e; cases e
    · rename_i z l' e
      cases e
      obtain ⟨ys, h1, rfl⟩ := Option.map_eq_some_iff.1 h
      rw [intsOf_eq h1]; rfl
    · cases h
theorem intsOf_map : ∀ zs : List Int, intsOf (zs.map (.int .i64)) = some zs
  | [] => rfl
  | z :: zs => by
    show (intsOf (zs.map (.int .i64))).map (z :: ·) = _
    rw [intsOf_map zs]; rfl

/-- A row's first elements, changed in place. -/
def inR (F : List Int → List Int) (N : Option (List Int → Nat)) (h : Heap) (lo : Nat) (a : Addr) (n c : Nat) : Option AObj → Res
  | some (.cells t row g) => (intsOf (row.take n)).bind fun zs => if lo ≤ a.block ∧ stampOk a.spot g row.length = true ∧ a.off = 0 ∧ n ≤ row.length ∧ n < 4611686018427387904 then
      some (retI N (some a) c zs, h.set a.block (.cells t ((F zs).map (.int .i64) ++ row.drop n) g)) else none
  | _ => none
def inG (F : List Int → List Int) (N : Option (List Int → Nat)) (args : List Value) (h : Heap) (lo : Nat) : Res :=
  match args with
  | [.slice (some a) n c] => if n = 0 then some (retI N (some a) c [], h) else inR F N h lo a n c h[a.block]?
  | [.slice none 0 0] => some (retI N none 0 [], h)
  | _ => none

theorem sortI_len (zs : List Int) : (sortI zs).length = zs.length := (sortI_perm zs).length_eq

theorem set_keep' {h : Heap} {lo o : Nat} {t t' : TypeId} {c d : List Value} {g g' : Nat} (hob : h[o]? = some (.cells t c g)) (hlo : lo ≤ o) : Keep lo h (h.set o (.cells t' d g')) := by
  refine ⟨by simp, fun p hp => ?_, fun p hp ha => ?_⟩
  · rw [List.getElem?_set_ne (by omega)]
  · by_cases he : o = p
    · subst he; exact ⟨_, hob, by simp⟩
    · obtain ⟨x, hx, hd⟩ := ha
      rw [List.getElem?_set_ne he] at hx
      exact ⟨x, hx, hd⟩

theorem inG_keep {F : List Int → List Int} {N : Option (List Int → Nat)} {args : List Value} {h h' : Heap} {lo : Nat} {v : Value} (hr : inG F N args h lo = some (v, h')) : Keep lo h h' := by
  unfold inG at hr
  split at hr
  · split at hr
    · cases hr; exact .refl _ _
    · unfold inR at hr
      split at hr
      · rename_i hob
        simp only [Option.bind_eq_some_iff, Option.ite_none_right_eq_some, Option.some.injEq, Prod.mk.injEq] at hr
        obtain ⟨zs, _, ⟨h1, _⟩, _, rfl⟩ := hr
        exact set_keep' hob h1
      · cases hr
  · cases hr; exact .refl _ _
  · cases hr

section
variable {E : Env} {B lo : Nat} {M : Mem} {h h' : Heap} {w : World}

theorem put_eq {enc : Int → Value} {d : Array Int} {blk off : Nat} {cs : Array Value} {ty : TypeId} {fr : Nat × Nat} (hb : w.heap[blk]? = some (.cells cs ty fr)) : putRow enc w blk off d = w.setRow blk (putCells enc off d cs) := by
  unfold putRow mapBlock World.setRow
  congr 1
  apply Array.ext_getElem?
  intro i
  simp only [Array.getElem?_modify]
  split
  · rename_i e
    subst e
    rw [hb]; rfl
  · rfl

theorem putCells_get {enc : Int → Value} {d : Array Int} {off k : Nat} {c : Array Value} : (putCells enc off d c)[k]? = c[k]?.map fun x => if off ≤ k ∧ k < off + d.size then enc d[k - off]! else x := by
  unfold putCells
  rw [Array.getElem?_mapIdx]

theorem in_sound {f : FuncId} {F : List Int → List Int} {N : Option (List Int → Nat)} (hC : SortCon E.P f F N) {args : List Value} {v : Value} (hr : inG F N args h lo = some (v, h')) (_hlo : lo ≤ h.length) (args' : Array Value) (hs : HSim E B M h w) (hv : VRels M args args'.toList) :
    Calls E.P f args' w fun e w' => ∃ v', e = .returned v' ∧ Out E B lo M h w v h' v' w' := by
  have zero : ∀ m, N = some m → m [] = 0 := fun m hm => by have := hC.cut m hm []; simpa using this
  have nothing : ∀ (p q : Option Addr) (c cap : Nat), VRel M (.slice p 0 c) (.slice q 0 cap) → Calls E.P f #[.slice q 0 cap] w fun e w' => ∃ v', e = .returned v' ∧ Out E B lo M h w (retI N p c []) h v' w' := fun p q c cap hrel =>
    (hC.none q cap w).mono fun e w' he => ⟨retI N q cap [], he.1, by
      rw [he.2]
      refine ⟨M, ?_, hs, .refl hs lo⟩
      cases hN : N with
      | none => exact .top _
      | some m => simp only [retI, zero m hN]; exact hrel⟩
  unfold inG at hr
  split at hr
  · rename_i a n c
    obtain ⟨v1, hv1, hrel⟩ := hv.get (i := 0) (u := .slice (some a) n c) rfl
    have hl1 : args'.toList.length = 1 := hv.1.symm
    have e1 : args' = #[v1] := by
      apply Array.ext'
      obtain ⟨y, hy⟩ := List.length_eq_one_iff.1 hl1
      rw [hy] at hv1 ⊢
      cases hv1; rfl
    subst e1
    split at hr
    · rename_i h0
      cases hr; subst h0
      have hr2 := hrel
      rcases hrel.sliceSome with ⟨a', c', rfl, _, _⟩ | ⟨rfl, _, rfl, _⟩
      · exact nothing (some a) (some a') c c' hr2
      · exact nothing (some a) none 0 0 hr2
    · rename_i h0
      unfold inR at hr
      split at hr
      case h_2 => cases hr
      rename_i t row g hob
      simp only [Option.bind_eq_some_iff, Option.ite_none_right_eq_some, Option.some.injEq, Prod.mk.injEq] at hr
      obtain ⟨zs, hz, ⟨h1, hst, hoff0, hn, hbig⟩, rfl, rfl⟩ := hr
      have hrow := intsOf_eq hz
      have hzl : zs.length = n := by
        have := congrArg List.length hrow
        simp only [List.length_take, List.length_map] at this
        omega
      rcases hrel.sliceSome with ⟨a', c', rfl, hlc, hcap⟩ | ⟨_, h0', _⟩
      case inr => exact absurd h0' h0
      have hcap0 := hcap
      obtain ⟨l, hl, hcap⟩ := hcap
      obtain ⟨hg, hlen, hnr, hre⟩ := hs.obj _ l t row g hl hob
      have hreal : l.real := by
        by_cases hr : l.real
        · exact hr
        · have := hnr hr; rw [this] at hn; simp at hn; omega
      obtain ⟨cs, ty, hb, hsz, hoff, hc⟩ := hre hreal
      have ha : a' = ⟨l.blk, l.off, none⟩ ∧ c ≤ c' := by
        unfold stampOk at hst
        split at hst
        · rename_i e
          rw [e] at hcap
          rcases hcap.2.2 with k | k
          · have := hcap.2.1; omega
          · exact ⟨by rw [k, hoff0]; rfl, by have := hcap.2.1; omega⟩
        · rename_i k g0 e
          rw [e] at hcap
          have := hcap.2.2 ((hlen (by omega)).trans (beq_iff_eq.1 hst).symm)
          rcases this.2 with k | k
          · omega
          · exact ⟨by rw [k.1, hoff0]; rfl, this.1⟩
        · cases hst
      obtain ⟨rfl, hcc⟩ := ha
      have hlt := ((hs.dom _ l hl).2 hreal).2
      have hcell : ∀ j, j < zs.length → cs[l.off + j]? = some (.int .i64 zs[j]!) := by
        intro j hj
        have hj' : row[j]? = some (.int .i64 zs[j]!) := by
          have : (row.take n)[j]? = some (.int .i64 zs[j]!) := by rw [hrow]; simp [hj]
          rw [List.getElem?_take, if_pos (by omega)] at this
          exact this
        obtain ⟨_, v', q1, q2⟩ := hc j _ hj'
        rw [q1]
        cases q2; rfl
      have hH : Holds (Value.int .i64) w l.blk l.off zs.toArray := by
        intro j hj
        have hj : j < zs.length := by simpa using hj
        refine ⟨?_, ?_⟩
        · have := hcell j hj
          simp only [World.cell?, hb, Option.isSome_none, Bool.false_eq_true, if_false]
          rw [this]; simp
        · simp only [World.frozen?, hb]; simp
      have con := hC.row l.blk l.off c' zs w hH hlt (by omega) (by omega)
      rw [hzl] at con
      have hret : VRel M (retI N (some a) c zs) (retI N (some ⟨l.blk, l.off, none⟩) c' zs) := by
        cases hN : N with
        | none => exact .top _
        | some m =>
          have hm := hC.cut m hN zs
          exact .slice _ _ _ _ _ (show m zs ≤ c by omega) hcap0
      refine con.mono fun e w' he => ⟨_, he.1, ?_⟩
      obtain ⟨m, os, rfl⟩ := he.2
      have p1 : Past w (Go.Sort.ahead w m) := ⟨rfl, rfl, rfl, Nat.le_refl _, fun _ _ => rfl⟩
      have s1 : HSim E B M h (Go.Sort.ahead w m) := hs.past p1 (Ψ := M.phi) (fun _ _ _ k => k) (fun b x v k => hs.phi b x v k) (fun _ _ _ => rfl)
      have v1 : Evo lo M h w M h (Go.Sort.ahead w m) := Evo.past hs p1 (Ψ := M.phi) (fun _ _ _ k => k) (fun _ _ _ => rfl) lo
      have hb1 : (Go.Sort.ahead w m).heap[l.blk]? = some (.cells cs ty (0, 0)) := hb
      rw [put_eq hb1]
      have hFl : ((F zs).map (Value.int .i64)).length = n := by rw [List.length_map, hC.len, hzl]
      have hdl : ((F zs).map (Value.int .i64) ++ row.drop n).length = row.length := by rw [List.length_append, hFl, List.length_drop]; omega
      have hput := s1.put (lo := lo) (t := t) (c := row) (d := (F zs).map (.int .i64) ++ row.drop n) (g := g) (cs := putCells (Value.int .i64) l.off (F zs).toArray cs) hl hob hreal h1 (by simp [putCells, hsz]) (by rw [hdl]; exact hoff) (.inl hdl) (fun j v hj => by
        have hFz : (F zs).length = n := by rw [hC.len, hzl]
        by_cases hjn : j < n
        · rw [List.getElem?_append_left (by rw [hFl]; exact hjn), List.getElem?_map, List.getElem?_eq_getElem (by rw [hFz]; exact hjn)] at hj
          cases hj
          refine ⟨rfl, _, ?_, .atom _ rfl⟩
          rw [putCells_get, hcell j (by omega)]
          have : l.off ≤ l.off + j ∧ l.off + j < l.off + (F zs).toArray.size := ⟨by omega, by simp; omega⟩
          simp only [Option.map_some, this, and_self, if_true]
          simp [hFz, hjn]
        · rw [List.getElem?_append_right (by omega), hFl, List.getElem?_drop, show n + (j - n) = j by omega] at hj
          obtain ⟨q1, v', q2, q3⟩ := hc j v hj
          refine ⟨q1, v', ?_, q3⟩
          rw [putCells_get, q2]
          have : ¬ (l.off ≤ l.off + j ∧ l.off + j < l.off + (F zs).toArray.size) := by simp; omega
          simp only [Option.map_some, this, if_false])
      have hsame : M.put a.block { l with len := if g = 0 then l.len else ((F zs).map (Value.int .i64) ++ row.drop n).length } = M := by
        refine put_same ?_
        rw [hl]
        by_cases h0 : g = 0
        · simp [h0]
        · rw [if_neg h0, hdl, ← hlen h0]
      simp only [hsame] at hput
      obtain ⟨s2, v2⟩ := hput
      have p3 : Past ((Go.Sort.ahead w m).setRow l.blk (putCells (Value.int .i64) l.off (F zs).toArray cs)) (grow ((Go.Sort.ahead w m).setRow l.blk (putCells (Value.int .i64) l.off (F zs).toArray cs)) os) :=
        ⟨rfl, rfl, rfl, by simp [grow], fun b hb => by simp only [grow]; rw [Array.getElem?_append_left hb]⟩
      have ph : ∀ b x v, M.phi b x = some v → (grow ((Go.Sort.ahead w m).setRow l.blk (putCells (Value.int .i64) l.off (F zs).toArray cs)) os).cell? ⟨b, x, none⟩ = some v := fun b x v k => by
        have := s2.phi b x v k
        have hlt := cell_lt this
        simp only [World.cell?] at this ⊢
        rw [p3.block b hlt]; exact this
      have s3 := s2.past p3 (Ψ := M.phi) (fun _ _ _ k => k) ph (fun _ _ _ => rfl)
      have v3 := Evo.past s2 p3 (Ψ := M.phi) (fun _ _ _ k => k) (fun _ _ _ => rfl) lo
      exact ⟨M, hret, s3, (v1.trans v2).trans v3⟩
  · cases hr
    obtain ⟨v1, hv1, hrel⟩ := hv.get (i := 0) (u := .slice none 0 0) rfl
    have hl1 : args'.toList.length = 1 := hv.1.symm
    have e1 : args' = #[v1] := by
      apply Array.ext'
      obtain ⟨y, hy⟩ := List.length_eq_one_iff.1 hl1
      rw [hy] at hv1 ⊢
      cases hv1; rfl
    subst e1
    have hr2 := hrel
    cases hrel
    exact nothing none none 0 0 hr2
  · cases hr

theorem L_orc {f : FuncId} {g : List Value → Heap → Nat → Res} (hg : E.orc f = some g) (args : List Value) (h : Heap) : L E f args h lo = g args h lo := by
  rw [L_eq]
  unfold evCall
  rw [hg]
/-- A row of integers, of which the first are looked at. -/
theorem inG_ints {F : List Int → List Int} {N : Option (List Int → Nat)} {b k n c g : Nat} {t : TypeId} {zs ys : List Int} (hob : h[b]? = some (.cells t ((zs ++ ys).map (.int .i64)) (g + 1))) (hlo : lo ≤ b) (hk : k = (zs ++ ys).length) (hn : n = zs.length) (h0 : n ≠ 0) (hbig : n < 4611686018427387904) :
    inG F N [.slice (some ⟨b, 0, some k⟩) n c] h lo = some (retI N (some ⟨b, 0, some k⟩) c zs, h.set b (.cells t ((F zs ++ ys).map (.int .i64)) (g + 1))) := by
  subst hk; subst hn
  show (if zs.length = 0 then _ else inR F N h lo ⟨b, 0, some (zs ++ ys).length⟩ zs.length c h[b]?) = _
  rw [if_neg h0, hob]
  have e1 : ((zs ++ ys).map (Value.int .i64)).take zs.length = zs.map (.int .i64) := by rw [List.map_append, List.take_left' (by simp)]
  have e2 : ((zs ++ ys).map (Value.int .i64)).drop zs.length = ys.map (.int .i64) := by rw [List.map_append, List.drop_left' (by simp)]
  show (intsOf (((zs ++ ys).map (Value.int .i64)).take zs.length)).bind _ = _
  rw [e1, intsOf_map, Option.bind_some, if_pos ⟨hlo, by simp [stampOk], rfl, by simp, hbig⟩, e2, List.map_append]

/-- An environment in which functions are known by such contracts. -/
theorem in_orc (key : ∀ g k, E.orc g = some k → ∃ F N, k = inG F N ∧ SortCon E.P g F N) : OrcSound E := by
  refine ⟨fun g k hg args h lo r _ => ?_, fun g k hg args h lo v h' hr hlo B M w args' hs hv => ?_, fun g k hg args h lo v h' hr _ => ?_⟩
  · obtain ⟨F, N, _, hC⟩ := key g k hg; exact hC.dfd
  · obtain ⟨F, N, rfl, hC⟩ := key g k hg; exact in_sound hC hr hlo args' hs hv
  · obtain ⟨F, N, rfl, _⟩ := key g k hg; exact inG_keep hr
end

end Go.Proofs.Ytgeebooalafepaa.Bm
