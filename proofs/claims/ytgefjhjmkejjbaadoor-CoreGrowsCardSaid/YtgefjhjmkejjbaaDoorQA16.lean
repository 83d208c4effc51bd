/-
  Smallest reasons, plain: the proof that is made is accepted. Conditions: none. No program in sight.
-/
import Derived.Test.YtgefjhjmkejjbaaDoorQA13
import Derived.Test.YtgefjhjmkejjbaaDoorQA15
import Derived.Sort.Row
import Derived.Sort.Grow
import Derived.Lib.SlicesCompact
import Derived.Sort.EncStr
import Derived.Test.YtgefjhjmkejjbaaDoorQA01
namespace Go.Proofs.YtgefjhjmkejjbaaDoor.Bm
open Go Go.RowKit
def depsT (P : Program) (t : TypeId) : List TypeId := match P.underlying t with
  | some (.slice e) => [e]
  | some (.struct fs) => fs.toList.map (·.type)
  | some (.array _ e) => [e]
  | _ => []
def addT (L : List TypeId) : List TypeId → List TypeId
  | [] => L
  | t :: l => addT (if L.contains t then L else L ++ [t]) l
def closeT (P : Program) : Nat → List TypeId → List TypeId
  | 0, L => L
  | n + 1, L => closeT P n (addT L (L.flatMap (depsT P)))
section
variable {P : Program} {n : Nat} {t : TypeId} {c : List Value}
theorem wt_int {k : IntKind} (hu : P.underlying t = some (.int k)) (h : Wt P n t c) : ∃ z, c = [.int k z] ∧ (Lit.int k z).wf = true := by
  cases n with
  | zero => exact h.elim
  | succ n => unfold Wt at h; rw [hu] at h; exact h
theorem wt_str (hu : P.underlying t = some .string) (h : Wt P n t c) : ∃ s : ByteArray, c = [.string s] ∧ s.size ≤ maxLen := by
  cases n with
  | zero => exact h.elim
  | succ n => unfold Wt at h; rw [hu] at h; exact h
theorem wt_slice {e : TypeId} (hu : P.underlying t = some (.slice e)) (h : Wt P n t c) : ∃ ls : List (List Value), c = [lst false (ls.map (elemV P e))] ∧ ls.length ≤ maxLen ∧ ∀ x ∈ ls, ∃ m, Wt P m e x := by
  cases n with
  | zero => exact h.elim
  | succ n =>
    unfold Wt at h; rw [hu] at h
    obtain ⟨ls, h1, h2, h3⟩ := h
    exact ⟨ls, h1, h2, fun x hx => ⟨n, h3 x hx⟩⟩
theorem choose_list {α : Type} {cells : α → List Value} {Q : α → Prop} : ∀ (ls : List (List Value)), (∀ x ∈ ls, ∃ a, x = cells a ∧ Q a) → ∃ aas : List α, ls = aas.map cells ∧ ∀ a ∈ aas, Q a
  | [], _ => ⟨[], rfl, fun a h => by simp at h⟩
  | x :: ls, h => by
    obtain ⟨a, h1, h2⟩ := h x (by simp)
    obtain ⟨aas, k1, k2⟩ := choose_list ls fun y hy => h y (by simp [hy])
    refine ⟨a :: aas, by simp [h1, k1], fun b hb => ?_⟩
    rcases List.mem_cons.1 hb with e | e
    · rw [e]; exact h2
    · exact k2 b e
theorem wt_strs {e : TypeId} (hu : P.underlying t = some (.slice e)) (he : P.underlying e = some .string) (h : Wt P n t c) : ∃ l : List ByteArray, c = [lst false (l.map .string)] ∧ l.length ≤ maxLen ∧ ∀ s ∈ l, s.size ≤ maxLen := by
  obtain ⟨ls, rfl, h2, h3⟩ := wt_slice hu h
  obtain ⟨aas, rfl, k2⟩ := choose_list (cells := fun s => [Value.string s]) (Q := fun s : ByteArray => s.size ≤ maxLen) ls fun x hx => by
    obtain ⟨m, hm⟩ := h3 x hx
    exact wt_str he hm
  refine ⟨aas, ?_, by simpa using h2, k2⟩
  have ha : aggT P e = some false := by unfold aggT; rw [he]; rfl
  rw [List.map_map]
  congr 2
  apply List.map_congr_left
  intro x _
  simp [elemV, ha]
theorem wt_ints {k : IntKind} {e : TypeId} (hu : P.underlying t = some (.slice e)) (he : P.underlying e = some (.int k)) (h : Wt P n t c) : ∃ l : List Int, c = [lst false (l.map (.int k))] ∧ l.length ≤ maxLen ∧ ∀ z ∈ l, (Lit.int k z).wf = true := by
  obtain ⟨ls, rfl, h2, h3⟩ := wt_slice hu h
  obtain ⟨aas, rfl, k2⟩ := choose_list (cells := fun z => [Value.int k z]) (Q := fun z : Int => (Lit.int k z).wf = true) ls fun x hx => by
    obtain ⟨m, hm⟩ := h3 x hx
    exact wt_int he hm
  refine ⟨aas, ?_, by simpa using h2, k2⟩
  have ha : aggT P e = some false := by unfold aggT; rw [he]; rfl
  rw [List.map_map]
  congr 2
  apply List.map_congr_left
  intro x _
  simp [elemV, ha]
end
def okFuncs (P : Program) : Bool := P.funcs.toList.all fun fn => !(fn.name == "runtime.NumGoroutine") && (fn.body.all okCode)
theorem okProg_of {P : Program} (h1 : P.follows .mixedOrders = true) (h2 : okFuncs P = true) : OkProg P := by
  unfold okFuncs at h2
  rw [List.all_eq_true] at h2
  refine ⟨h1, fun f fn hf _ => ?_, fun f fn c hf hb => ?_⟩
  · have := h2 fn (Array.mem_toList_iff.2 (Array.mem_of_getElem? hf))
    simp only [Bool.and_eq_true, Bool.not_eq_true'] at this
    exact this.1
  · have := h2 fn (Array.mem_toList_iff.2 (Array.mem_of_getElem? hf))
    simp only [Bool.and_eq_true, hb] at this
    exact this.2
end Go.Proofs.YtgefjhjmkejjbaaDoor.Bm
namespace Go.Proofs.YtgefjhjmkejjbaaDoor.Bm
open Go Go.RowKit Go.Sort
def retI (N : Option (List Int → Nat)) (a : Option Addr) (c : Nat) (zs : List Int) : Value := match N with
  | none => .tuple #[]
  | some m => .slice a (m zs) c
structure SortCon (P : Program) (f : FuncId) (F : List Int → List Int) (N : Option (List Int → Nat)) : Prop where
  row : ∀ (blk off cap : Nat) (zs : List Int) (w : World), Holds (Value.int .i64) w blk off zs.toArray → blk < w.heap.size → zs.length < 4611686018427387904 → zs.length ≤ cap →
    Calls P f #[.slice (some ⟨blk, off, none⟩) zs.length cap] w fun e w' => e = .returned (retI N (some ⟨blk, off, none⟩) cap zs) ∧ ∃ n os, w' = grow (putRow (Value.int .i64) (Go.Sort.ahead w n) blk off (F zs).toArray) os
  none : ∀ (p : Option Addr) (cap : Nat) (w : World), Calls P f #[.slice p 0 cap] w fun e w' => e = .returned (retI N p cap []) ∧ w' = w
  dfd : ∃ fn, P.funcs[f]? = some fn ∧ fn.body.isSome = true
  len : ∀ zs, (F zs).length = zs.length
  cut : ∀ m, N = some m → ∀ zs, m zs ≤ zs.length
theorem set_keep' {h : Heap} {lo o : Nat} {t t' : TypeId} {c d : List Value} {g g' : Nat} (hob : h[o]? = some (.cells t c g)) (hlo : lo ≤ o) : Keep lo h (h.set o (.cells t' d g')) := by
  refine ⟨by simp, fun p hp => ?_, fun p hp ha => ?_⟩
  · rw [List.getElem?_set_ne (by omega)]
  · by_cases he : o = p
    · subst he; exact ⟨_, hob, by simp⟩
    · obtain ⟨x, hx, hd⟩ := ha
      rw [List.getElem?_set_ne he] at hx
      exact ⟨x, hx, hd⟩
section
variable {E : Env} {B lo : Nat} {M : Mem} {h h' : Heap} {w : World}
theorem L_orc {f : FuncId} {g : List Value → Heap → Nat → Res} (hg : E.orc f = some g) (args : List Value) (h : Heap) : L E f args h lo = g args h lo := by
  rw [L_eq]
  unfold evCall
  rw [hg]
end
end Go.Proofs.YtgefjhjmkejjbaaDoor.Bm
namespace Go.Proofs.YtgefjhjmkejjbaaDoor.Bm
open Go Go.RowKit Go.Sort
def retS (N : Option (List ByteArray → Nat)) (a : Option Addr) (c : Nat) (zs : List ByteArray) : Value := match N with
  | none => .tuple #[]
  | some m => .slice a (m zs) c
structure SortConS (P : Program) (f : FuncId) (F : List ByteArray → List ByteArray) (N : Option (List ByteArray → Nat)) : Prop where
  row : ∀ (blk off cap : Nat) (zs : List ByteArray) (w : World), Holds Value.string w blk off zs.toArray → blk < w.heap.size → zs.length < 4611686018427387904 → zs.length ≤ cap →
    Calls P f #[.slice (some ⟨blk, off, none⟩) zs.length cap] w fun e w' => e = .returned (retS N (some ⟨blk, off, none⟩) cap zs) ∧ ∃ n os, w' = grow (putRow Value.string (Go.Sort.ahead w n) blk off (F zs).toArray) os
  none : ∀ (p : Option Addr) (cap : Nat) (w : World), Calls P f #[.slice p 0 cap] w fun e w' => e = .returned (retS N p cap []) ∧ w' = w
  dfd : ∃ fn, P.funcs[f]? = some fn ∧ fn.body.isSome = true
  len : ∀ zs, (F zs).length = zs.length
  cut : ∀ m, N = some m → ∀ zs, m zs ≤ zs.length
def strsOf : List Value → Option (List ByteArray)
  | [] => some []
  | .string z :: l => (strsOf l).map (z :: ·)
  | _ => none
theorem strsOf_eq : ∀ {l : List Value} {zs : List ByteArray}, strsOf l = some zs → l = zs.map Value.string
  | [], zs, h => by cases h; rfl
  | v :: l, zs, h => by
    unfold strsOf at h
    split at h
    · rename_i e; cases e
    · rename_i z l' e
      cases e
      obtain ⟨ys, h1, rfl⟩ := Option.map_eq_some_iff.1 h
      rw [strsOf_eq h1]; rfl
    · cases h
theorem strsOf_map : ∀ zs : List ByteArray, strsOf (zs.map Value.string) = some zs
  | [] => rfl
  | z :: zs => by
    show (strsOf (zs.map Value.string)).map (z :: ·) = _
    rw [strsOf_map zs]; rfl
def inRS (F : List ByteArray → List ByteArray) (N : Option (List ByteArray → Nat)) (h : Heap) (lo : Nat) (a : Addr) (n c : Nat) : Option AObj → Res
  | some (.cells t row g) => (strsOf (row.take n)).bind fun zs => if lo ≤ a.block ∧ stampOk a.spot g row.length = true ∧ a.off = 0 ∧ n ≤ row.length ∧ n < 4611686018427387904 then
      some (retS N (some a) c zs, h.set a.block (.cells t ((F zs).map Value.string ++ row.drop n) g)) else none
  | _ => none
def inGS (F : List ByteArray → List ByteArray) (N : Option (List ByteArray → Nat)) (args : List Value) (h : Heap) (lo : Nat) : Res :=
  match args with
  | [.slice (some a) n c] => if n = 0 then some (retS N (some a) c [], h) else inRS F N h lo a n c h[a.block]?
  | [.slice none 0 0] => some (retS N none 0 [], h)
  | _ => none
theorem inGS_keep {F : List ByteArray → List ByteArray} {N : Option (List ByteArray → Nat)} {args : List Value} {h h' : Heap} {lo : Nat} {v : Value} (hr : inGS F N args h lo = some (v, h')) : Keep lo h h' := by
  unfold inGS at hr
  split at hr
  · split at hr
    · cases hr; exact .refl _ _
    · unfold inRS at hr
      split at hr
      · rename_i hob
        simp only [Option.bind_eq_some_iff, Option.ite_none_right_eq_some, Option.some.injEq, Prod.mk.injEq] at hr
        obtain ⟨zs, _, ⟨h1, _⟩, _, rfl⟩ := hr
        exact set_keep' hob h1
      · cases hr
  · cases hr; exact .refl _ _
  · cases hr
section
variable {E : Env} {B lo : Nat} {M : Mem} {h h' : Heap} {w : World}
theorem put_eqS {enc : ByteArray → Value} {d : Array ByteArray} {blk off : Nat} {cs : Array Value} {ty : TypeId} {fr : Nat × Nat} (hb : w.heap[blk]? = some (.cells cs ty fr)) : putRow enc w blk off d = w.setRow blk (putCells enc off d cs) := by
  unfold putRow mapBlock World.setRow
  congr 1
  apply Array.ext_getElem?
  intro i
  simp only [Array.getElem?_modify]
  split
  · rename_i e
    subst e
    rw [hb]; rfl
  · rfl
theorem putCells_getS {enc : ByteArray → Value} {d : Array ByteArray} {off k : Nat} {c : Array Value} : (putCells enc off d c)[k]? = c[k]?.map fun x => if off ≤ k ∧ k < off + d.size then enc d[k - off]! else x := by
  unfold putCells
  rw [Array.getElem?_mapIdx]
theorem in_soundS {f : FuncId} {F : List ByteArray → List ByteArray} {N : Option (List ByteArray → Nat)} (hC : SortConS E.P f F N) {args : List Value} {v : Value} (hr : inGS F N args h lo = some (v, h')) (_hlo : lo ≤ h.length) (args' : Array Value) (hs : HSim E B M h w) (hv : VRels M args args'.toList) :
    Calls E.P f args' w fun e w' => ∃ v', e = .returned v' ∧ Out E B lo M h w v h' v' w' := by
  have zero : ∀ m, N = some m → m [] = 0 := fun m hm => by have := hC.cut m hm []; simpa using this
  have nothing : ∀ (p q : Option Addr) (c cap : Nat), VRel M (.slice p 0 c) (.slice q 0 cap) → Calls E.P f #[.slice q 0 cap] w fun e w' => ∃ v', e = .returned v' ∧ Out E B lo M h w (retS N p c []) h v' w' := fun p q c cap hrel =>
    (hC.none q cap w).mono fun e w' he => ⟨retS N q cap [], he.1, by
      rw [he.2]
      refine ⟨M, ?_, hs, .refl hs lo⟩
      cases hN : N with
      | none => exact .top _
      | some m => simp only [retS, zero m hN]; exact hrel⟩
  unfold inGS at hr
  split at hr
  · rename_i a n c
    obtain ⟨v1, hv1, hrel⟩ := hv.get (i := 0) (u := .slice (some a) n c) rfl
    have hl1 : args'.toList.length = 1 := hv.1.symm
    have e1 : args' = #[v1] := by
      apply Array.ext'
      obtain ⟨y, hy⟩ := List.length_eq_one_iff.1 hl1
      rw [hy] at hv1 ⊢
      cases hv1; rfl
    subst e1
    split at hr
    · rename_i h0
      cases hr; subst h0
      have hr2 := hrel
      rcases hrel.sliceSome with ⟨a', c', rfl, _, _⟩ | ⟨rfl, _, rfl, _⟩
      · exact nothing (some a) (some a') c c' hr2
      · exact nothing (some a) none 0 0 hr2
    · rename_i h0
      unfold inRS at hr
      split at hr
      case h_2 => cases hr
      rename_i t row g hob
      simp only [Option.bind_eq_some_iff, Option.ite_none_right_eq_some, Option.some.injEq, Prod.mk.injEq] at hr
      obtain ⟨zs, hz, ⟨h1, hst, hoff0, hn, hbig⟩, rfl, rfl⟩ := hr
      have hrow := strsOf_eq hz
      have hzl : zs.length = n := by
        have := congrArg List.length hrow
        simp only [List.length_take, List.length_map] at this
        omega
      rcases hrel.sliceSome with ⟨a', c', rfl, hlc, hcap⟩ | ⟨_, h0', _⟩
      case inr => exact absurd h0' h0
      have hcap0 := hcap
      obtain ⟨l, hl, hcap⟩ := hcap
      obtain ⟨hg, hlen, hnr, hre⟩ := hs.obj _ l t row g hl hob
      have hreal : l.real := by
        by_cases hr : l.real
        · exact hr
        · have := hnr hr; rw [this] at hn; simp at hn; omega
      obtain ⟨cs, ty, hb, hsz, hoff, hc⟩ := hre hreal
      have ha : a' = ⟨l.blk, l.off, none⟩ ∧ c ≤ c' := by
        unfold stampOk at hst
        split at hst
        · rename_i e
          rw [e] at hcap
          rcases hcap.2.2 with k | k
          · have := hcap.2.1; omega
          · exact ⟨by rw [k, hoff0]; rfl, by have := hcap.2.1; omega⟩
        · rename_i k g0 e
          rw [e] at hcap
          have := hcap.2.2 ((hlen (by omega)).trans (beq_iff_eq.1 hst).symm)
          rcases this.2 with k | k
          · omega
          · exact ⟨by rw [k.1, hoff0]; rfl, this.1⟩
        · cases hst
      obtain ⟨rfl, hcc⟩ := ha
      have hlt := ((hs.dom _ l hl).2 hreal).2
      have hcell : ∀ j, j < zs.length → cs[l.off + j]? = some (.string zs[j]!) := by
        intro j hj
        have hj' : row[j]? = some (.string zs[j]!) := by
          have : (row.take n)[j]? = some (.string zs[j]!) := by rw [hrow]; simp [hj]
          rw [List.getElem?_take, if_pos (by omega)] at this
          exact this
        obtain ⟨_, v', q1, q2⟩ := hc j _ hj'
        rw [q1]
        cases q2; rfl
      have hH : Holds Value.string w l.blk l.off zs.toArray := by
        intro j hj
        have hj : j < zs.length := by simpa using hj
        refine ⟨?_, ?_⟩
        · have := hcell j hj
          simp only [World.cell?, hb, Option.isSome_none, Bool.false_eq_true, if_false]
          rw [this]; simp
        · simp only [World.frozen?, hb]; simp
      have con := hC.row l.blk l.off c' zs w hH hlt (by omega) (by omega)
      rw [hzl] at con
      have hret : VRel M (retS N (some a) c zs) (retS N (some ⟨l.blk, l.off, none⟩) c' zs) := by
        cases hN : N with
        | none => exact .top _
        | some m =>
          have hm := hC.cut m hN zs
          exact .slice _ _ _ _ _ (show m zs ≤ c by omega) hcap0
      refine con.mono fun e w' he => ⟨_, he.1, ?_⟩
      obtain ⟨m, os, rfl⟩ := he.2
      have p1 : Past w (Go.Sort.ahead w m) := ⟨rfl, rfl, rfl, Nat.le_refl _, fun _ _ => rfl⟩
      have s1 : HSim E B M h (Go.Sort.ahead w m) := hs.past p1 (Ψ := M.phi) (fun _ _ _ k => k) (fun b x v k => hs.phi b x v k) (fun _ _ _ => rfl)
      have v1 : Evo lo M h w M h (Go.Sort.ahead w m) := Evo.past hs p1 (Ψ := M.phi) (fun _ _ _ k => k) (fun _ _ _ => rfl) lo
      have hb1 : (Go.Sort.ahead w m).heap[l.blk]? = some (.cells cs ty (0, 0)) := hb
      rw [put_eqS hb1]
      have hFl : ((F zs).map Value.string).length = n := by rw [List.length_map, hC.len, hzl]
      have hdl : ((F zs).map Value.string ++ row.drop n).length = row.length := by rw [List.length_append, hFl, List.length_drop]; omega
      have hput := s1.put (lo := lo) (t := t) (c := row) (d := (F zs).map Value.string ++ row.drop n) (g := g) (cs := putCells Value.string l.off (F zs).toArray cs) hl hob hreal h1 (by simp [putCells, hsz]) (by rw [hdl]; exact hoff) (.inl hdl) (fun j v hj => by
        have hFz : (F zs).length = n := by rw [hC.len, hzl]
        by_cases hjn : j < n
        · rw [List.getElem?_append_left (by rw [hFl]; exact hjn), List.getElem?_map, List.getElem?_eq_getElem (by rw [hFz]; exact hjn)] at hj
          cases hj
          refine ⟨rfl, _, ?_, .atom _ rfl⟩
          rw [putCells_getS, hcell j (by omega)]
          have : l.off ≤ l.off + j ∧ l.off + j < l.off + (F zs).toArray.size := ⟨by omega, by simp; omega⟩
          simp only [Option.map_some, this, and_self, if_true]
          simp [hFz, hjn]
        · rw [List.getElem?_append_right (by omega), hFl, List.getElem?_drop, show n + (j - n) = j by omega] at hj
          obtain ⟨q1, v', q2, q3⟩ := hc j v hj
          refine ⟨q1, v', ?_, q3⟩
          rw [putCells_getS, q2]
          have : ¬ (l.off ≤ l.off + j ∧ l.off + j < l.off + (F zs).toArray.size) := by simp; omega
          simp only [Option.map_some, this, if_false])
      have hsame : M.put a.block { l with len := if g = 0 then l.len else ((F zs).map Value.string ++ row.drop n).length } = M := by
        refine put_same ?_
        rw [hl]
        by_cases h0 : g = 0
        · simp [h0]
        · rw [if_neg h0, hdl, ← hlen h0]
      simp only [hsame] at hput
      obtain ⟨s2, v2⟩ := hput
      have p3 : Past ((Go.Sort.ahead w m).setRow l.blk (putCells Value.string l.off (F zs).toArray cs)) (grow ((Go.Sort.ahead w m).setRow l.blk (putCells Value.string l.off (F zs).toArray cs)) os) :=
        ⟨rfl, rfl, rfl, by simp [grow], fun b hb => by simp only [grow]; rw [Array.getElem?_append_left hb]⟩
      have ph : ∀ b x v, M.phi b x = some v → (grow ((Go.Sort.ahead w m).setRow l.blk (putCells Value.string l.off (F zs).toArray cs)) os).cell? ⟨b, x, none⟩ = some v := fun b x v k => by
        have := s2.phi b x v k
        have hlt := cell_lt this
        simp only [World.cell?] at this ⊢
        rw [p3.block b hlt]; exact this
      have s3 := s2.past p3 (Ψ := M.phi) (fun _ _ _ k => k) ph (fun _ _ _ => rfl)
      have v3 := Evo.past s2 p3 (Ψ := M.phi) (fun _ _ _ k => k) (fun _ _ _ => rfl) lo
      exact ⟨M, hret, s3, (v1.trans v2).trans v3⟩
  · cases hr
    obtain ⟨v1, hv1, hrel⟩ := hv.get (i := 0) (u := .slice none 0 0) rfl
    have hl1 : args'.toList.length = 1 := hv.1.symm
    have e1 : args' = #[v1] := by
      apply Array.ext'
      obtain ⟨y, hy⟩ := List.length_eq_one_iff.1 hl1
      rw [hy] at hv1 ⊢
      cases hv1; rfl
    subst e1
    have hr2 := hrel
    cases hrel
    exact nothing none none 0 0 hr2
  · cases hr
end
theorem inGS_row {E : Env} {h : Heap} {lo : Nat} {F : List ByteArray → List ByteArray} {N : Option (List ByteArray → Nat)} {b k n c g : Nat} {t : TypeId} {zs : List ByteArray} (hob : h[b]? = some (.cells t (zs.map Value.string) (g + 1))) (hlo : lo ≤ b) (hk : k = zs.length) (hn : n = zs.length) (h0 : n ≠ 0) (hbig : n < 4611686018427387904) :
    inGS F N [.slice (some ⟨b, 0, some k⟩) n c] h lo = some (retS N (some ⟨b, 0, some k⟩) c zs, h.set b (.cells t ((F zs).map Value.string) (g + 1))) := by
  subst hk; subst hn
  show (if zs.length = 0 then _ else inRS F N h lo ⟨b, 0, some zs.length⟩ zs.length c h[b]?) = _
  rw [if_neg h0, hob]
  have e1 : (zs.map Value.string).take zs.length = zs.map Value.string := by rw [List.take_of_length_le (by simp)]
  have e2 : (zs.map Value.string).drop zs.length = [] := by rw [List.drop_eq_nil_of_le (by simp)]
  show (strsOf ((zs.map Value.string).take zs.length)).bind _ = _
  rw [e1, strsOf_map, Option.bind_some, if_pos ⟨hlo, by simp [stampOk], rfl, by simp, hbig⟩, e2, List.append_nil]
end Go.Proofs.YtgefjhjmkejjbaaDoor.Bm
namespace Go.Proofs.YtgefjhjmkejjbaaDoor.Co
def rem (o s : Nat) : Nat := o ^^^ (o &&& s)
theorem rem_bit (o s k : Nat) : (rem o s).testBit k = (o.testBit k && !s.testBit k) := by
  unfold rem
  rw [Nat.testBit_xor, Nat.testBit_and]
  cases o.testBit k <;> cases s.testBit k <;> rfl
theorem rem_zero (s : Nat) : rem 0 s = 0 := Nat.eq_of_testBit_eq fun k => by rw [rem_bit, Nat.zero_testBit, Bool.false_and]
def rems (o : Nat) (l : List Nat) : Nat := l.foldl rem o
theorem rems_nil (o : Nat) : rems o [] = o := rfl
theorem rems_cons (o s : Nat) (l : List Nat) : rems o (s :: l) = rems (rem o s) l := rfl
theorem rems_bit : ∀ (l : List Nat) (o k : Nat), (rems o l).testBit k = (o.testBit k && !l.any (·.testBit k))
  | [], o, k => by rw [rems_nil]; simp
  | s :: l, o, k => by
    rw [rems_cons, rems_bit l, rem_bit, List.any_cons]
    cases o.testBit k <;> cases s.testBit k <;> rfl
def Cov (o : Nat) (l : List Nat) : Prop := rems o l = 0
theorem cov_iff {o : Nat} {l : List Nat} : Cov o l ↔ ∀ k, o.testBit k = true → ∃ s ∈ l, s.testBit k = true := by
  unfold Cov
  constructor
  · intro h k hk
    have := rems_bit l o k
    rw [h, Nat.zero_testBit, hk, Bool.true_and] at this
    have h2 : l.any (·.testBit k) = true := by
      cases q : l.any (·.testBit k)
      · rw [q] at this; cases this
      · rfl
    exact List.any_eq_true.1 h2
  · intro h
    refine Nat.eq_of_testBit_eq fun k => ?_
    rw [rems_bit, Nat.zero_testBit]
    cases hk : o.testBit k
    · rfl
    · rw [List.any_eq_true.2 (h k hk)]; rfl
theorem Cov.mono {o : Nat} {l m : List Nat} (h : Cov o l) (hs : ∀ s ∈ l, s ∈ m) : Cov o m := cov_iff.2 fun k hk => by
  obtain ⟨s, h1, h2⟩ := cov_iff.1 h k hk
  exact ⟨s, hs s h1, h2⟩
variable {S : Type}
def needF (inf : Nat) : List (S × Nat) → Nat → Nat
  | [], o => if o = 0 then 0 else inf
  | x :: r, o => if o = 0 then 0 else if rem o x.2 = o then needF inf r o else min (needF inf r o) (1 + needF inf r (rem o x.2))
theorem need_zero (inf : Nat) : ∀ r : List (S × Nat), needF inf r 0 = 0
  | [] => rfl
  | _ :: _ => rfl
theorem need_nil {inf o : Nat} (h : o ≠ 0) : needF inf ([] : List (S × Nat)) o = inf := if_neg h
theorem need_cons {inf o : Nat} {x : S × Nat} {r : List (S × Nat)} (h : o ≠ 0) : needF inf (x :: r) o = if rem o x.2 = o then needF inf r o else min (needF inf r o) (1 + needF inf r (rem o x.2)) := if_neg h
theorem need_inf (inf : Nat) : ∀ (r : List (S × Nat)) (o : Nat), needF inf r o ≤ inf
  | [], o => by unfold needF; split <;> omega
  | x :: r, o => by
    unfold needF
    have h1 := need_inf inf r o
    split
    · omega
    · split <;> omega
def mk (l : List (S × Nat)) : List Nat := l.map (·.2)
theorem need_lower (inf : Nat) : ∀ (r C : List (S × Nat)) (o : Nat), C.Sublist r → Cov o (mk C) → needF inf r o ≤ C.length
  | [], C, o, hs, hc => by
    obtain rfl := List.sublist_nil.1 hs
    rw [show o = 0 from hc, need_zero]; simp
  | x :: r, C, o, hs, hc => by
    by_cases h0 : o = 0
    · rw [h0, need_zero]; omega
    rw [need_cons h0]
    cases hs with
    | cons _ hs =>
      have := need_lower inf r C o hs hc
      split <;> omega
    | cons_cons _ hs =>
      rename_i C
      have h1 := need_lower inf r C (rem o x.2) hs hc
      rw [List.length_cons]
      split
      · rename_i e
        rw [e] at h1; omega
      · omega
def leastF (inf : Nat) : List (S × Nat) → Nat → List (S × Nat)
  | [], _ => []
  | x :: r, o => if rem o x.2 ≠ o ∧ needF inf (x :: r) o = 1 + needF inf r (rem o x.2) then x :: leastF inf r (rem o x.2) else leastF inf r o
theorem least_cons {inf o : Nat} {x : S × Nat} {r : List (S × Nat)} : leastF inf (x :: r) o = if rem o x.2 ≠ o ∧ needF inf (x :: r) o = 1 + needF inf r (rem o x.2) then x :: leastF inf r (rem o x.2) else leastF inf r o := rfl
theorem least_sub (inf : Nat) : ∀ (r : List (S × Nat)) (o : Nat), (leastF inf r o).Sublist r
  | [], _ => List.Sublist.refl _
  | x :: r, o => by
    rw [least_cons]
    split
    · exact (least_sub inf r _).cons_cons _
    · exact (least_sub inf r _).cons _
theorem least_ok (inf : Nat) : ∀ (r : List (S × Nat)) (o : Nat), needF inf r o < inf → Cov o (mk (leastF inf r o)) ∧ (leastF inf r o).length = needF inf r o
  | [], o, h => by
    by_cases h0 : o = 0
    · exact ⟨h0, by rw [h0]; rfl⟩
    · rw [need_nil h0] at h; omega
  | x :: r, o, h => by
    rw [least_cons]
    split
    · rename_i q
      obtain ⟨h1, h2⟩ := least_ok inf r (rem o x.2) (by omega)
      exact ⟨h1, by rw [List.length_cons, h2, q.2]; omega⟩
    · rename_i q
      have e : needF inf (x :: r) o = needF inf r o := by
        by_cases h0 : o = 0
        · rw [h0, need_zero, need_zero]
        rw [need_cons h0] at q ⊢
        by_cases e : rem o x.2 = o
        · rw [if_pos e]
        · rw [if_neg e] at q ⊢
          have : ¬ (min (needF inf r o) (1 + needF inf r (rem o x.2)) = 1 + needF inf r (rem o x.2)) := fun h => q ⟨e, h⟩
          omega
      rw [e] at h ⊢
      exact least_ok inf r o h
def lessL (lt : S → S → Bool) [DecidableEq S] : List S → List S → Bool
  | [], [] => false
  | [], _ :: _ => true
  | _ :: _, [] => false
  | a :: x, b :: y => if a = b then lessL lt x y else lt a b
def Asc (lt : S → S → Bool) (l : List (S × Nat)) : Prop := l.Pairwise fun a b => lt a.1 b.1 = true
theorem least_first (lt : S → S → Bool) [DecidableEq S] (irr : ∀ a, lt a a = false) (asym : ∀ a b, lt a b = true → lt b a = false) (inf : Nat) : ∀ (r C : List (S × Nat)) (o : Nat), Asc lt r → needF inf r o < inf → C.Sublist r → Cov o (mk C) → C.length = needF inf r o → lessL lt (C.map (·.1)) ((leastF inf r o).map (·.1)) = false
  | [], C, o, ha, h, hs, hc, hl => by
    obtain rfl := List.sublist_nil.1 hs; rfl
  | x :: r, C, o, ha, h, hs, hc, hl => by
    obtain ⟨ha1, ha2⟩ := List.pairwise_cons.1 ha
    rw [least_cons]
    by_cases q : rem o x.2 ≠ o ∧ needF inf (x :: r) o = 1 + needF inf r (rem o x.2)
    · rw [if_pos q, List.map_cons]
      cases hs with
      | cons _ hs =>
        cases C with
        | nil => rw [List.length_nil] at hl; omega
        | cons y C =>
          have hy : y ∈ r := hs.subset List.mem_cons_self
          have h1 := ha1 y hy
          have h2 : y.1 ≠ x.1 := fun e => by rw [e, irr] at h1; cases h1
          rw [List.map_cons, lessL.eq_4, if_neg h2]
          exact asym _ _ h1
      | cons_cons _ hs =>
        rename_i C
        rw [List.map_cons, lessL.eq_4, if_pos rfl]
        rw [List.length_cons] at hl
        exact least_first lt irr asym inf r C _ ha2 (by omega) hs hc (by omega)
    · rw [if_neg q]
      have hx : ∀ C' : List (S × Nat), C = x :: C' → C'.Sublist r → False := by
        rintro C' rfl hs'
        have h1 := need_lower inf r C' (rem o x.2) hs' hc
        rw [List.length_cons] at hl
        by_cases h0 : o = 0
        · rw [h0, need_zero] at hl; omega
        · rw [need_cons h0] at hl q
          by_cases e : rem o x.2 = o
          · rw [if_pos e] at hl; rw [e] at h1; omega
          · rw [if_neg e] at hl q
            exact q ⟨e, by omega⟩
      cases hs with
      | cons_cons _ hs => exact (hx _ rfl hs).elim
      | cons _ hs =>
        have e : needF inf (x :: r) o = needF inf r o := by
          have h1 := need_lower inf r C o hs hc
          by_cases h0 : o = 0
          · rw [h0, need_zero, need_zero]
          rw [need_cons h0] at hl ⊢
          by_cases e : rem o x.2 = o
          · rw [if_pos e]
          · rw [if_neg e] at hl ⊢; omega
        exact least_first lt irr asym inf r C o ha2 (by omega) hs hc (by omega)
end Go.Proofs.YtgefjhjmkejjbaaDoor.Co
namespace Go.Proofs.YtgefjhjmkejjbaaDoor.Co
variable {S : Type} [DecidableEq S]
def maskF : List (List S) → S → Nat
  | [], _ => 0
  | a :: l, s => (if s ∈ a then 1 else 0) + 2 * maskF l s
theorem mask_bit : ∀ (l : List (List S)) (s : S) (i : Nat), (maskF l s).testBit i = decide (∃ a, l[i]? = some a ∧ s ∈ a)
  | [], s, i => by
    rw [show maskF ([] : List (List S)) s = 0 from rfl, Nat.zero_testBit]
    simp
  | a :: l, s, 0 => by
    rw [Nat.testBit_zero]
    show decide (((if s ∈ a then 1 else 0) + 2 * maskF l s) % 2 = 1) = _
    by_cases h : s ∈ a
    · rw [if_pos h, decide_eq_true (by omega), decide_eq_true]
      exact ⟨a, rfl, h⟩
    · rw [if_neg h, decide_eq_false (by omega), decide_eq_false]
      rintro ⟨b, hb, hs⟩
      simp at hb
      exact h (hb ▸ hs)
  | a :: l, s, i + 1 => by
    rw [Nat.testBit_add_one]
    have e : maskF (a :: l) s / 2 = maskF l s := by
      show ((if s ∈ a then 1 else 0) + 2 * maskF l s) / 2 = _
      split <;> omega
    rw [e, mask_bit l s i]
    simp
theorem mask_lt (l : List (List S)) (s : S) {i : Nat} (h : (maskF l s).testBit i = true) : i < l.length := by
  rw [mask_bit, decide_eq_true_eq] at h
  obtain ⟨a, ha, _⟩ := h
  exact (List.getElem?_eq_some_iff.1 ha).1
def allF (l : List (List S)) : Nat := 2 ^ l.length - 1
omit [DecidableEq S] in
theorem all_bit (l : List (List S)) (i : Nat) : (allF l).testBit i = decide (i < l.length) := Nat.testBit_two_pow_sub_one _ _
def CovS (l : List (List S)) (o : Nat) (C : List S) : Prop := Cov o (C.map (maskF l))
theorem covS_iff {l : List (List S)} {o : Nat} {C : List S} : CovS l o C ↔ ∀ k, o.testBit k = true → ∃ s ∈ C, (maskF l s).testBit k = true := by
  unfold CovS
  rw [cov_iff]
  constructor
  · intro h k hk
    obtain ⟨m, hm, h2⟩ := h k hk
    obtain ⟨s, hs, rfl⟩ := List.mem_map.1 hm
    exact ⟨s, hs, h2⟩
  · intro h k hk
    obtain ⟨s, hs, h2⟩ := h k hk
    exact ⟨_, List.mem_map.2 ⟨s, hs, rfl⟩, h2⟩
def apartF (l : List (List S)) (i k : Nat) : Bool := !(l.getD i []).any fun s => (maskF l s).testBit k
theorem apart_no {l : List (List S)} {i k : Nat} (h : apartF l i k = true) (s : S) : ¬ ((maskF l s).testBit i = true ∧ (maskF l s).testBit k = true) := by
  rintro ⟨h1, h2⟩
  unfold apartF at h
  rw [Bool.not_eq_true', List.any_eq_false] at h
  rw [mask_bit, decide_eq_true_eq] at h1
  obtain ⟨a, ha, hs⟩ := h1
  have e : l.getD i [] = a := by rw [List.getD_eq_getElem?_getD, ha]; rfl
  rw [e] at h
  exact h s hs h2
def packedF (l : List (List S)) (o : Nat) : List Nat → List Nat → Bool
  | _, [] => true
  | acc, k :: r => o.testBit k && (acc.all (apartF l k) && packedF l o (acc ++ [k]) r)
theorem packed_le {l : List (List S)} {o : Nat} : ∀ (K acc : List Nat) (C : List S), packedF l o acc K = true → CovS l o C → ∃ D : List S, D.length = K.length ∧ List.Nodup D ∧ (∀ s ∈ D, s ∈ C ∧ ∃ k ∈ K, (maskF l s).testBit k = true ∧ ∀ m ∈ acc, (maskF l s).testBit m = false)
  | [], acc, C, _, _ => ⟨[], rfl, List.nodup_nil, fun s hs => by cases hs⟩
  | k :: r, acc, C, h, hc => by
    have h' : (o.testBit k && (acc.all (apartF l k) && packedF l o (acc ++ [k]) r)) = true := h
    simp only [Bool.and_eq_true] at h'
    obtain ⟨h1, h2, h3⟩ := h'
    obtain ⟨D, d1, d2, d3⟩ := packed_le r (acc ++ [k]) C h3 hc
    obtain ⟨s, hs, hk⟩ := covS_iff.1 hc k h1
    refine ⟨s :: D, by rw [List.length_cons, List.length_cons, d1], List.nodup_cons.2 ⟨fun hm => ?_, d2⟩, fun x hx => ?_⟩
    · obtain ⟨_, k', _, _, h5⟩ := d3 s hm
      have := h5 k (List.mem_append_right _ List.mem_cons_self)
      rw [hk] at this; cases this
    · rcases List.mem_cons.1 hx with rfl | hx
      · refine ⟨hs, k, List.mem_cons_self, hk, fun m hm => ?_⟩
        have := apart_no (List.all_eq_true.1 h2 m hm) x
        cases q : (maskF l x).testBit m
        · rfl
        · exact absurd ⟨hk, q⟩ this
      · obtain ⟨a1, k', a2, a3, a4⟩ := d3 x hx
        exact ⟨a1, k', List.mem_cons_of_mem _ a2, a3, fun m hm => a4 m (List.mem_append_left _ hm)⟩
theorem nodup_le : ∀ (D C : List S), List.Nodup D → (∀ s ∈ D, s ∈ C) → D.length ≤ C.length
  | [], _, _, _ => Nat.zero_le _
  | s :: D, C, hd, hs => by
    obtain ⟨h1, h2⟩ := List.nodup_cons.1 hd
    have hm := hs s List.mem_cons_self
    have := nodup_le D (C.erase s) h2 fun x hx => (List.mem_erase_of_ne (fun e => h1 (by rw [← e]; exact hx))).2 (hs x (List.mem_cons_of_mem _ hx))
    rw [List.length_erase_of_mem hm] at this
    have : 0 < C.length := List.length_pos_of_mem hm
    rw [List.length_cons]; omega
theorem packed_cov {l : List (List S)} {o : Nat} {K : List Nat} {C : List S} (h : packedF l o [] K = true) (hc : CovS l o C) : K.length ≤ C.length := by
  obtain ⟨D, d1, d2, d3⟩ := packed_le K [] C h hc
  rw [← d1]
  exact nodup_le D C d2 fun s hs => (d3 s hs).1
def replF (l : List (List S)) (o : Nat) (a : List S) (n : List Nat) : Bool := a.all fun x => n.any fun k => decide (rem (maskF l x &&& o) (maskF l (a.getD k x)) = 0)
theorem rem_sub {p q : Nat} (h : rem p q = 0) {k : Nat} (hk : p.testBit k = true) : q.testBit k = true := by
  have := rem_bit p q k
  rw [h, Nat.zero_testBit, hk, Bool.true_and] at this
  cases hq : q.testBit k
  · rw [hq] at this; cases this
  · rfl
def idxF (n : Nat) : List Int → Bool
  | [] => true
  | [k] => decide (0 ≤ k) && decide (k < n)
  | k :: j :: r => decide (0 ≤ k) && (decide (k < n) && (decide (k < j) && idxF n (j :: r)))
def followF (l : List (List S)) : Nat → List (List Int) → Nat → Option (List (List Int))
  | _, [], _ => none
  | f, x :: rest, o => match x with
    | [] => none
    | c :: t =>
      if c = 0 then if decide (f ≤ t.length) && (idxF l.length t && packedF l o [] (t.map (·.toNat))) then some rest else none
      else if c = 1 then match f, t with
        | f + 1, k :: n =>
          if n = [] ∨ f = 0 ∨ k < 0 ∨ (l.length : Int) ≤ k then none
          else if o.testBit k.toNat && (idxF (l.getD k.toNat []).length n && replF l o (l.getD k.toNat []) (n.map (·.toNat))) then
            n.foldlM (fun r i => followF l f r (rem o ((maskF l <$> (l.getD k.toNat [])[i.toNat]?).getD 0))) rest
          else none
        | _, _ => none
      else none
theorem foldM_ok {α β : Type} (g : β → α → Option β) : ∀ (n : List α) (r r' : β), n.foldlM g r = some r' → ∀ i ∈ n, ∃ a b, g a i = some b
  | [], _, _, _, i, hi => by cases hi
  | j :: n, r, r', h, i, hi => by
    rw [List.foldlM_cons] at h
    cases hg : g r j with
    | none => rw [hg] at h; cases h
    | some b =>
      rw [hg] at h
      rcases List.mem_cons.1 hi with rfl | hi
      · exact ⟨r, b, hg⟩
      · exact foldM_ok g n b r' h i hi
theorem branch_cov {l : List (List S)} {o k : Nat} {n : List Nat} {C : List S} (hk : o.testBit k = true) (hr : replF l o (l.getD k []) n = true) (hc : CovS l o C) : ∃ (i : Nat) (x : S), i ∈ n ∧ x ∈ C ∧ CovS l (rem o (maskF l ((l.getD k []).getD i x))) (C.erase x) := by
  obtain ⟨x, hx, hb⟩ := covS_iff.1 hc k hk
  have hb' := hb
  rw [mask_bit, decide_eq_true_eq] at hb'
  obtain ⟨a, ha, hs⟩ := hb'
  have e : l.getD k [] = a := by rw [List.getD_eq_getElem?_getD, ha]; rfl
  rw [e] at hr ⊢
  obtain ⟨i, hi, hd⟩ := List.any_eq_true.1 (List.all_eq_true.1 hr x hs)
  have hd := of_decide_eq_true hd
  refine ⟨i, x, hi, hx, covS_iff.2 fun j hj => ?_⟩
  rw [rem_bit, Bool.and_eq_true, Bool.not_eq_true'] at hj
  obtain ⟨y, hy, hyb⟩ := covS_iff.1 hc j hj.1
  refine ⟨y, ?_, hyb⟩
  by_cases q : y = x
  · subst q
    have : (maskF l y &&& o).testBit j = true := by rw [Nat.testBit_and, hyb, hj.1]; rfl
    rw [rem_sub hd this] at hj
    cases hj.2
  · exact (List.mem_erase_of_ne q).2 hy
theorem idx_mem : ∀ {n : Nat} {k : List Int}, idxF n k = true → ∀ i ∈ k, 0 ≤ i ∧ i < (n : Int)
  | _, [], _, i, hi => by cases hi
  | n, [k], h, i, hi => by
    have h' : (decide (0 ≤ k) && decide (k < (n : Int))) = true := h
    simp only [Bool.and_eq_true, decide_eq_true_eq] at h'
    rw [List.mem_singleton.1 hi]; exact h'
  | n, k :: j :: r, h, i, hi => by
    have h' : (decide (0 ≤ k) && (decide (k < (n : Int)) && (decide (k < j) && idxF n (j :: r)))) = true := h
    simp only [Bool.and_eq_true, decide_eq_true_eq] at h'
    rcases List.mem_cons.1 hi with rfl | hi
    · exact ⟨h'.1, h'.2.1⟩
    · exact idx_mem h'.2.2.2 i hi
theorem follow_sound (l : List (List S)) : ∀ (f : Nat) (p r : List (List Int)) (o : Nat) (C : List S), followF l f p o = some r → CovS l o C → f ≤ C.length
  | f, [], r, o, C, h, _ => by
    cases f <;> cases h
  | f, x :: rest, r, o, C, h, hc => by
    cases x with
    | nil => cases f <;> cases h
    | cons c t =>
      by_cases h0 : c = 0
      · have h' : (if decide (f ≤ t.length) && (idxF l.length t && packedF l o [] (t.map (·.toNat))) then some rest else none) = some r := by
          cases f <;> (unfold followF at h; simp only [h0, if_true] at h; exact h)
        split at h'
        · rename_i q
          simp only [Bool.and_eq_true, decide_eq_true_eq] at q
          have := packed_cov q.2.2 hc
          rw [List.length_map] at this
          omega
        · cases h'
      · by_cases h1 : c = 1
        · match f, t, h with
          | 0, t, h => exact Nat.zero_le _
          | f + 1, [], h =>
            unfold followF at h
            simp only [h1, if_true] at h
            cases h
          | f + 1, k :: n, h =>
            unfold followF at h
            simp only [h1] at h
            rw [if_neg (by decide)] at h
            simp only [if_true] at h
            split at h
            · cases h
            rename_i q
            split at h
            case isFalse => cases h
            rename_i q2
            simp only [Bool.and_eq_true] at q2
            obtain ⟨hk, hx, hr⟩ := q2
            obtain ⟨i, x, hi, hxC, hcv⟩ := branch_cov hk hr hc
            obtain ⟨i', hi', rfl⟩ := List.mem_map.1 hi
            obtain ⟨a, b, hab⟩ := foldM_ok _ n rest r h i' hi'
            have hin := idx_mem hx i' hi'
            have e : (maskF l <$> (l.getD k.toNat [])[i'.toNat]?).getD 0 = maskF l ((l.getD k.toNat []).getD i'.toNat x) := by
              rw [List.getD_eq_getElem?_getD (l := l.getD k.toNat []), List.getElem?_eq_getElem (by omega)]; rfl
            rw [e] at hab
            have := follow_sound l f a b _ _ hab hcv
            rw [List.length_erase_of_mem hxC] at this
            have : 0 < C.length := List.length_pos_of_mem hxC
            omega
        · cases f <;> (unfold followF at h; simp only [h0, h1, if_false] at h; cases h)
end Go.Proofs.YtgefjhjmkejjbaaDoor.Co
namespace Go.Proofs.YtgefjhjmkejjbaaDoor.Co
variable {S : Type} [DecidableEq S]
def packF (l : List (List S)) (o n : Nat) : List Nat → List Nat → Option (List Nat)
  | [], out => if out.length = n then some out else none
  | i :: r, out => if out.length = n then some out else
      if o.testBit i && out.all (apartF l i) then (packF l o n r (out ++ [i])).orElse fun _ => packF l o n r out else packF l o n r out
theorem packF_nil (l : List (List S)) (o n : Nat) (out : List Nat) : packF l o n [] out = if out.length = n then some out else none := rfl
theorem packF_cons (l : List (List S)) (o n i : Nat) (r out : List Nat) : packF l o n (i :: r) out = if out.length = n then some out else if o.testBit i && out.all (apartF l i) then (packF l o n r (out ++ [i])).orElse fun _ => packF l o n r out else packF l o n r out := rfl
theorem packed_snoc (l : List (List S)) (o : Nat) : ∀ (K acc : List Nat) (i : Nat), packedF l o acc (K ++ [i]) = (packedF l o acc K && (o.testBit i && (acc ++ K).all (apartF l i)))
  | [], acc, i => by
    show (o.testBit i && (acc.all (apartF l i) && true)) = (true && _)
    rw [List.append_nil, Bool.and_true, Bool.true_and]
  | k :: K, acc, i => by
    show (o.testBit k && (acc.all (apartF l k) && packedF l o (acc ++ [k]) (K ++ [i]))) = ((o.testBit k && (acc.all (apartF l k) && packedF l o (acc ++ [k]) K)) && _)
    rw [packed_snoc l o K, Bool.and_assoc, Bool.and_assoc, List.append_assoc]; rfl
structure IsPack (l : List (List S)) (o n : Nat) (K : List Nat) : Prop where
  len : K.length = n
  pk : packedF l o [] K = true
  asc : K.Pairwise (· < ·)
theorem packF_ok (l : List (List S)) (o n : Nat) : ∀ (r out K : List Nat), packedF l o [] out = true → (out ++ r).Pairwise (· < ·) → packF l o n r out = some K → IsPack l o n K
  | [], out, K, h1, h2, h => by
    rw [packF_nil] at h
    split at h
    · rename_i q
      cases h
      exact ⟨q, h1, by rw [List.append_nil] at h2; exact h2⟩
    · cases h
  | i :: r, out, K, h1, h2, h => by
    rw [packF_cons] at h
    split at h
    · rename_i q
      cases h
      exact ⟨q, h1, (List.pairwise_append.1 h2).1⟩
    have h3 : (out ++ r).Pairwise (· < ·) := h2.sublist (List.Sublist.append_left (List.sublist_cons_self i r) out)
    split at h
    · rename_i q
      have hp : packedF l o [] (out ++ [i]) = true := by rw [packed_snoc, h1, Bool.true_and, List.nil_append]; exact q
      have h4 : ((out ++ [i]) ++ r).Pairwise (· < ·) := by rw [List.append_assoc]; exact h2
      cases hq : packF l o n r (out ++ [i]) with
      | some K' =>
        rw [hq] at h
        cases h
        exact packF_ok l o n r _ _ hp h4 hq
      | none =>
        rw [hq] at h
        exact packF_ok l o n r _ _ h1 h3 h
    · exact packF_ok l o n r _ _ h1 h3 h
theorem packF_one (l : List (List S)) (o : Nat) : ∀ (r : List Nat), (∃ i ∈ r, o.testBit i = true) → ∃ K, packF l o 1 r [] = some K
  | [], h => by obtain ⟨i, hi, _⟩ := h; cases hi
  | j :: r, h => by
    rw [packF_cons, if_neg (by decide)]
    cases hj : o.testBit j
    · obtain ⟨i, hi, hb⟩ := h
      rcases List.mem_cons.1 hi with rfl | hi
      · rw [hj] at hb; cases hb
      · rw [Bool.false_and, if_neg (by decide)]
        exact packF_one l o r ⟨i, hi, hb⟩
    · rw [if_pos (by rfl)]
      have e : packF l o 1 r ([] ++ [j]) = some [j] := by cases r <;> rfl
      rw [e]
      exact ⟨_, rfl⟩
def inF (l : List (List S)) (o : Nat) (a : List S) (i : Nat) : Nat := match a[i]? with | some s => maskF l s &&& o | none => 0
def freeF (l : List (List S)) (o : Nat) (a : List S) (i : Nat) : Bool := (List.range a.length).all fun k => decide (k = i) || !(decide (rem (inF l o a i) (inF l o a k) = 0) && (decide (inF l o a k ≠ inF l o a i) || decide (k < i)))
def choicesF (l : List (List S)) (o : Nat) (a : List S) : List Nat := (List.range a.length).filter (freeF l o a)
theorem sub_le {p q : Nat} (h : rem p q = 0) : p ≤ q := by
  have : p &&& q = p := Nat.eq_of_testBit_eq fun k => by
    rw [Nat.testBit_and]
    cases hp : p.testBit k
    · rfl
    · rw [rem_sub h hp]; rfl
  rw [← this]
  exact Nat.and_le_right
theorem sub_trans {p q r : Nat} (h1 : rem p q = 0) (h2 : rem q r = 0) : rem p r = 0 := Nat.eq_of_testBit_eq fun k => by
  rw [rem_bit, Nat.zero_testBit]
  cases hp : p.testBit k
  · rfl
  · rw [rem_sub h2 (rem_sub h1 hp)]; rfl
theorem sub_refl (p : Nat) : rem p p = 0 := Nat.eq_of_testBit_eq fun k => by
  rw [rem_bit, Nat.zero_testBit]
  cases p.testBit k <;> rfl
theorem in_le (l : List (List S)) (o : Nat) (a : List S) (i : Nat) : inF l o a i ≤ o := by
  unfold inF
  split
  · exact Nat.and_le_right
  · exact Nat.zero_le _
theorem choices_above (l : List (List S)) (o : Nat) (a : List S) : ∀ (n j : Nat), (o - inF l o a j) * (a.length + 1) + j ≤ n → j < a.length → ∃ i ∈ choicesF l o a, rem (inF l o a j) (inF l o a i) = 0 := by
  intro n
  induction n with
  | zero =>
    intro j hn hj
    by_cases hf : freeF l o a j = true
    · exact ⟨j, List.mem_filter.2 ⟨List.mem_range.2 hj, hf⟩, sub_refl _⟩
    · exfalso
      have hf := Bool.eq_false_iff.2 hf
      unfold freeF at hf
      obtain ⟨k, hk, hq⟩ := List.all_eq_false.1 hf
      have hk := List.mem_range.1 hk
      simp only [Bool.or_eq_true, decide_eq_true_eq, Bool.not_eq_true', Bool.and_eq_false_iff, not_or] at hq
      obtain ⟨q1, q2, q3⟩ := hq
      have q2 : rem (inF l o a j) (inF l o a k) = 0 := by simpa using q2
      have hle := sub_le q2
      have h1 := in_le l o a k
      have q3 : inF l o a k ≠ inF l o a j ∨ k < j := by
        rcases Classical.em (inF l o a k = inF l o a j) with e | e
        · right
          simp [e] at q3
          exact q3
        · exact .inl e
      rcases q3 with q3 | q3
      · have h2 : (o - inF l o a j) * (a.length + 1) = 0 := by omega
        rcases Nat.mul_eq_zero.1 h2 with h | h <;> omega
      · omega
  | succ n ih =>
    intro j hn hj
    by_cases hf : freeF l o a j = true
    · exact ⟨j, List.mem_filter.2 ⟨List.mem_range.2 hj, hf⟩, sub_refl _⟩
    · have hf := Bool.eq_false_iff.2 hf
      unfold freeF at hf
      obtain ⟨k, hk, hq⟩ := List.all_eq_false.1 hf
      have hk := List.mem_range.1 hk
      simp only [Bool.or_eq_true, decide_eq_true_eq, Bool.not_eq_true', Bool.and_eq_false_iff, not_or] at hq
      obtain ⟨q1, q2, q3⟩ := hq
      have q2 : rem (inF l o a j) (inF l o a k) = 0 := by simpa using q2
      have hle := sub_le q2
      have h1 := in_le l o a k
      have hm : (o - inF l o a k) * (a.length + 1) + k ≤ n := by
        by_cases e : inF l o a k = inF l o a j
        · have hkj : k < j := by
            simp [e] at q3
            exact q3
          rw [e]; omega
        · have h2 : o - inF l o a k + 1 ≤ o - inF l o a j := by omega
          have h3 := Nat.mul_le_mul_right (a.length + 1) h2
          rw [Nat.add_mul, Nat.one_mul] at h3
          omega
      obtain ⟨i, hi, h3⟩ := ih k hm hk
      exact ⟨i, hi, sub_trans q2 h3⟩
theorem choices_lt {l : List (List S)} {o : Nat} {a : List S} {i : Nat} (h : i ∈ choicesF l o a) : i < a.length := List.mem_range.1 (List.mem_filter.1 h).1
theorem choices_asc (l : List (List S)) (o : Nat) (a : List S) : (choicesF l o a).Pairwise (· < ·) := List.Pairwise.filter _ List.pairwise_lt_range
theorem choices_repl (l : List (List S)) (o : Nat) (a : List S) : replF l o a (choicesF l o a) = true := by
  unfold replF
  rw [List.all_eq_true]
  intro x hx
  obtain ⟨j, hj, e⟩ := List.mem_iff_getElem.1 hx
  obtain ⟨i, hi, h⟩ := choices_above l o a _ j (Nat.le_refl _) hj
  rw [List.any_eq_true]
  refine ⟨i, hi, decide_eq_true ?_⟩
  have hil := choices_lt hi
  have e1 : inF l o a j = maskF l x &&& o := by unfold inF; rw [List.getElem?_eq_getElem hj, e]
  have e2 : inF l o a i = maskF l (a.getD i x) &&& o := by
    unfold inF
    rw [List.getElem?_eq_getElem hil, List.getD_eq_getElem?_getD, List.getElem?_eq_getElem hil]; rfl
  rw [e1, e2] at h
  refine Nat.eq_of_testBit_eq fun k => ?_
  rw [rem_bit, Nat.zero_testBit]
  cases hk : (maskF l x &&& o).testBit k
  · rfl
  · have := rem_sub h hk
    rw [Nat.testBit_and, Bool.and_eq_true] at this
    rw [this.1]; rfl
theorem choices_ne {l : List (List S)} {o : Nat} {a : List S} (h : a ≠ []) : choicesF l o a ≠ [] := by
  obtain ⟨i, hi, _⟩ := choices_above l o a _ 0 (Nat.le_refl _) (List.length_pos_iff.2 h)
  intro e
  rw [e] at hi; cases hi
def firstF (o : Nat) : Nat → Nat → Nat
  | 0, i => i
  | f + 1, i => if o.testBit i then i else firstF o f (i + 1)
theorem first_bit (o : Nat) : ∀ (f i : Nat), (∃ k, i ≤ k ∧ k < i + f ∧ o.testBit k = true) → o.testBit (firstF o f i) = true ∧ firstF o f i < i + f
  | 0, i, h => by obtain ⟨k, h1, h2, _⟩ := h; omega
  | f + 1, i, h => by
    unfold firstF
    by_cases q : o.testBit i = true
    · rw [if_pos q]; exact ⟨q, by omega⟩
    · rw [if_neg q]
      obtain ⟨k, h1, h2, h3⟩ := h
      have hne : k ≠ i := fun e => q (e ▸ h3)
      obtain ⟨a, b⟩ := first_bit o f (i + 1) ⟨k, by omega, by omega, h3⟩
      exact ⟨a, by omega⟩
def proveF (l : List (List S)) : Nat → Nat → List (List Int)
  | 0, _ => []
  | f + 1, o => match packF l o (f + 1) (List.range l.length) [] with
    | some K => [0 :: K.map Int.ofNat]
    | none =>
      (1 :: ((firstF o l.length 0 : Nat) : Int) :: (choicesF l o (l.getD (firstF o l.length 0) [])).map Int.ofNat) ::
        (choicesF l o (l.getD (firstF o l.length 0) [])).flatMap fun i => proveF l f (rem o ((maskF l <$> (l.getD (firstF o l.length 0) [])[i]?).getD 0))
theorem idx_of : ∀ {n : Nat} {K : List Nat}, K.Pairwise (· < ·) → (∀ k ∈ K, k < n) → idxF n (K.map Int.ofNat) = true
  | _, [], _, _ => rfl
  | n, [k], _, h => by
    have := h k List.mem_cons_self
    show (decide (0 ≤ (k : Int)) && decide ((k : Int) < (n : Int))) = true
    rw [decide_eq_true (by omega), decide_eq_true (by omega)]; rfl
  | n, k :: j :: r, ha, h => by
    have h1 := h k List.mem_cons_self
    obtain ⟨a1, a2⟩ := List.pairwise_cons.1 ha
    have h2 := a1 j List.mem_cons_self
    have h3 := idx_of a2 fun x hx => h x (List.mem_cons_of_mem _ hx)
    show (decide (0 ≤ (k : Int)) && (decide ((k : Int) < (n : Int)) && (decide ((k : Int) < (j : Int)) && idxF n ((j :: r).map Int.ofNat)))) = true
    rw [decide_eq_true (by omega), decide_eq_true (by omega), decide_eq_true (by omega), h3]; rfl
theorem toNat_map (K : List Nat) : (K.map Int.ofNat).map (·.toNat) = K := by
  rw [List.map_map]
  exact List.map_id _
theorem packed_lt {l : List (List S)} {o : Nat} : ∀ {K acc : List Nat}, packedF l o acc K = true → ∀ k ∈ K, o.testBit k = true
  | [], _, _, k, hk => by cases hk
  | j :: K, acc, h, k, hk => by
    have h' : (o.testBit j && (acc.all (apartF l j) && packedF l o (acc ++ [j]) K)) = true := h
    simp only [Bool.and_eq_true] at h'
    rcases List.mem_cons.1 hk with rfl | hk
    · exact h'.1
    · exact packed_lt h'.2.2 k hk
def Within (l : List (List S)) (o : Nat) : Prop := ∀ k, o.testBit k = true → k < l.length
omit [DecidableEq S] in
theorem Within.rem {l : List (List S)} {o : Nat} (h : Within l o) (s : Nat) : Within l (rem o s) := fun k hk => by
  rw [rem_bit, Bool.and_eq_true] at hk
  exact h k hk.1
theorem foldM_app {α β : Type} (g : List β → α → Option (List β)) (q : α → List β) (r : List β) : ∀ (n : List α), (∀ i ∈ n, ∀ r', g (q i ++ r') i = some r') → n.foldlM g (n.flatMap q ++ r) = some r
  | [], _ => rfl
  | i :: n, h => by
    rw [List.flatMap_cons, List.append_assoc, List.foldlM_cons, h i List.mem_cons_self]
    exact foldM_app g q r n fun j hj => h j (List.mem_cons_of_mem _ hj)
theorem prove_ok (l : List (List S)) (hne : ∀ a ∈ l, a ≠ []) : ∀ (f : Nat) (o : Nat), Within l o → 0 < f → (∀ C : List S, CovS l o C → f ≤ C.length) → ∀ r, followF l f (proveF l f o ++ r) o = some r := by
  intro f
  induction f with
  | zero => intro o _ h; omega
  | succ f ih =>
    intro o hw _ hc r
    have hop : ∃ k, o.testBit k = true := by
      apply Classical.byContradiction
      intro h
      have := hc [] (covS_iff.2 fun k hk => absurd ⟨k, hk⟩ h)
      simp at this
    unfold proveF
    cases hp : packF l o (f + 1) (List.range l.length) [] with
    | some K =>
      have hk := packF_ok l o (f + 1) _ _ K rfl (by rw [List.nil_append]; exact List.pairwise_lt_range) hp
      show followF l (f + 1) ((0 :: K.map Int.ofNat) :: r) o = some r
      unfold followF
      dsimp only
      rw [if_pos rfl, toNat_map, hk.pk, idx_of hk.asc fun k h => hw k (packed_lt hk.pk k h), List.length_map, hk.len, decide_eq_true (Nat.le_refl _)]
      rfl
    | none =>
      obtain ⟨k, hk⟩ := hop
      obtain ⟨b1, b2⟩ := first_bit o l.length 0 ⟨k, Nat.zero_le _, by have := hw k hk; omega, hk⟩
      have hf0 : f ≠ 0 := by
        rintro rfl
        obtain ⟨K, hK⟩ := packF_one l o (List.range l.length) ⟨k, List.mem_range.2 (hw k hk), hk⟩
        rw [hK] at hp; cases hp
      dsimp only
      generalize firstF o l.length 0 = k0 at *
      have hk0 : k0 < l.length := by omega
      have hga : l.getD k0 [] = l[k0] := by rw [List.getD_eq_getElem?_getD, List.getElem?_eq_getElem hk0]; rfl
      have hane : l.getD k0 [] ≠ [] := by rw [hga]; exact hne _ (List.getElem_mem hk0)
      have hcn := choices_ne (l := l) (o := o) hane
      have hcr := choices_repl l o (l.getD k0 [])
      have hci := idx_of (choices_asc l o (l.getD k0 [])) fun i hi => choices_lt hi
      have hcl := fun i (hi : i ∈ choicesF l o (l.getD k0 [])) => choices_lt hi
      generalize choicesF l o (l.getD k0 []) = n at *
      show (if (1 : Int) = 0 then _ else if (1 : Int) = 1 then (if n.map Int.ofNat = [] ∨ f = 0 ∨ ((k0 : Nat) : Int) < 0 ∨ (l.length : Int) ≤ (k0 : Nat) then none
          else if o.testBit ((k0 : Nat) : Int).toNat && (idxF (l.getD ((k0 : Nat) : Int).toNat []).length (n.map Int.ofNat) && replF l o (l.getD ((k0 : Nat) : Int).toNat []) ((n.map Int.ofNat).map (·.toNat))) then
            (n.map Int.ofNat).foldlM (fun r i => followF l f r (rem o ((maskF l <$> (l.getD ((k0 : Nat) : Int).toNat [])[i.toNat]?).getD 0))) _
          else none) else none) = some r
      rw [if_neg (by decide), if_pos rfl, if_neg (by
        rintro (h | h | h | h)
        · exact hcn (List.map_eq_nil_iff.1 h)
        · exact hf0 h
        · omega
        · omega), Int.toNat_natCast, toNat_map, hci, hcr, b1, if_pos (show (true && (true && true)) = true from rfl), List.foldlM_map]
      refine foldM_app _ (fun i => proveF l f (rem o ((maskF l <$> (l.getD k0 [])[i]?).getD 0))) r n fun i hi r' => ?_
      have hil := hcl i hi
      refine ih _ (hw.rem _) (Nat.pos_of_ne_zero hf0) (fun C hC => ?_) r'
      have e : (maskF l <$> (l.getD k0 [])[i]?).getD 0 = maskF l (l.getD k0 [])[i] := by rw [List.getElem?_eq_getElem hil]; rfl
      rw [e] at hC
      have := hc ((l.getD k0 [])[i] :: C) hC
      rw [List.length_cons] at this
      omega
end Go.Proofs.YtgefjhjmkejjbaaDoor.Co
