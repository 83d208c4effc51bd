/-
 Smallest reasons, plain: the order of names, and names that are sorted. Conditions: none. No program in sight.
-/
import Derived.Test.YtgefjhjmkejjbaaDoorQB13
import Derived.Test.YtgefjhjmkejjbaaDoorQB15
import Derived.Sort.Row
import Derived.Sort.Grow
import Derived.Lib.SlicesCompact
import Derived.Sort.EncStr
import Derived.Test.YtgefjhjmkejjbaaDoorQB01
import Derived.Sort.Walk0
namespace Go.Proofs.YtgefjhjmkejjbaaDoor.Bm
open Go Go.RowKit
def depsT (P : Program) (t : TypeId) : List TypeId := match P.underlying t with
 | some (.slice e) => [e]
 | some (.struct fs) => fs.toList.map (·.type)
 | some (.array _ e) => [e]
 | _ => []
def addT (L : List TypeId) : List TypeId → List TypeId
 | [] => L
 | t :: l => addT (if L.contains t then L else L ++ [t]) l
def closeT (P : Program) : Nat → List TypeId → List TypeId
 | 0, L => L
 | n + 1, L => closeT P n (addT L (L.flatMap (depsT P)))
section
variable {P : Program} {n : Nat} {t : TypeId} {c : List Value}
theorem wt_int {k : IntKind} (hu : P.underlying t = some (.int k)) (h : Wt P n t c) : ∃ z, c = [.int k z] ∧ (Lit.int k z).wf = true := by
 cases n with
 | zero => exact h.elim
 | succ n => unfold Wt at h; rw [hu] at h; exact h
theorem wt_str (hu : P.underlying t = some .string) (h : Wt P n t c) : ∃ s : ByteArray, c = [.string s] ∧ s.size ≤ maxLen := by
 cases n with
 | zero => exact h.elim
 | succ n => unfold Wt at h; rw [hu] at h; exact h
theorem wt_slice {e : TypeId} (hu : P.underlying t = some (.slice e)) (h : Wt P n t c) : ∃ ls : List (List Value), c = [lst false (ls.map (elemV P e))] ∧ ls.length ≤ maxLen ∧ ∀ x ∈ ls, ∃ m, Wt P m e x := by
 cases n with
 | zero => exact h.elim
 | succ n =>
  unfold Wt at h; rw [hu] at h
  obtain ⟨ls, h1, h2, h3⟩ := h
  exact ⟨ls, h1, h2, fun x hx => ⟨n, h3 x hx⟩⟩
theorem choose_list {α : Type} {cells : α → List Value} {Q : α → Prop} : ∀ (ls : List (List Value)), (∀ x ∈ ls, ∃ a, x = cells a ∧ Q a) → ∃ aas : List α, ls = aas.map cells ∧ ∀ a ∈ aas, Q a
 | [], _ => ⟨[], rfl, fun a h => by simp at h⟩
 | x :: ls, h => by
  obtain ⟨a, h1, h2⟩ := h x (by simp)
  obtain ⟨aas, k1, k2⟩ := choose_list ls fun y hy => h y (by simp [hy])
  refine ⟨a :: aas, by simp [h1, k1], fun b hb => ?_⟩
  rcases List.mem_cons.1 hb with e | e
  ·rw [e]; exact h2
  ·exact k2 b e
theorem wt_strs {e : TypeId} (hu : P.underlying t = some (.slice e)) (he : P.underlying e = some .string) (h : Wt P n t c) : ∃ l : List ByteArray, c = [lst false (l.map .string)] ∧ l.length ≤ maxLen ∧ ∀ s ∈ l, s.size ≤ maxLen := by
 obtain ⟨ls, rfl, h2, h3⟩ := wt_slice hu h
 obtain ⟨aas, rfl, k2⟩ := choose_list (cells := fun s => [Value.string s]) (Q := fun s : ByteArray => s.size ≤ maxLen) ls fun x hx => by
  obtain ⟨m, hm⟩ := h3 x hx
  exact wt_str he hm
 refine ⟨aas, ?_, by simpa using h2, k2⟩
 have ha : aggT P e = some false := by unfold aggT; rw [he]; rfl
 rw [List.map_map]
 congr 2
 apply List.map_congr_left
 intro x _
 simp [elemV, ha]
theorem wt_ints {k : IntKind} {e : TypeId} (hu : P.underlying t = some (.slice e)) (he : P.underlying e = some (.int k)) (h : Wt P n t c) : ∃ l : List Int, c = [lst false (l.map (.int k))] ∧ l.length ≤ maxLen ∧ ∀ z ∈ l, (Lit.int k z).wf = true := by
 obtain ⟨ls, rfl, h2, h3⟩ := wt_slice hu h
 obtain ⟨aas, rfl, k2⟩ := choose_list (cells := fun z => [Value.int k z]) (Q := fun z : Int => (Lit.int k z).wf = true) ls fun x hx => by
  obtain ⟨m, hm⟩ := h3 x hx
  exact wt_int he hm
 refine ⟨aas, ?_, by simpa using h2, k2⟩
 have ha : aggT P e = some false := by unfold aggT; rw [he]; rfl
 rw [List.map_map]
 congr 2
 apply List.map_congr_left
 intro x _
 simp [elemV, ha]
end
def okFuncs (P : Program) : Bool := P.funcs.toList.all fun fn => !(fn.name == "runtime.NumGoroutine") && (fn.body.all okCode)
theorem okProg_of {P : Program} (h1 : P.follows .mixedOrders = true) (h2 : okFuncs P = true) : OkProg P := by
 unfold okFuncs at h2
 rw [List.all_eq_true] at h2
 refine ⟨h1, fun f fn hf _ => ?_, fun f fn c hf hb => ?_⟩
 ·have := h2 fn (Array.mem_toList_iff.2 (Array.mem_of_getElem? hf))
  simp only [Bool.and_eq_true, Bool.not_eq_true'] at this
  exact this.1
 ·have := h2 fn (Array.mem_toList_iff.2 (Array.mem_of_getElem? hf))
  simp only [Bool.and_eq_true, hb] at this
  exact this.2
end Go.Proofs.YtgefjhjmkejjbaaDoor.Bm
namespace Go.Proofs.YtgefjhjmkejjbaaDoor.Bm
open Go Go.RowKit Go.Sort
def retI (N : Option (List Int → Nat)) (a : Option Addr) (c : Nat) (zs : List Int) : Value := match N with
 | none => .tuple #[]
 | some m => .slice a (m zs) c
structure SortCon (P : Program) (f : FuncId) (F : List Int → List Int) (N : Option (List Int → Nat)) : Prop where
 row : ∀ (blk off cap : Nat) (zs : List Int) (w : World), Holds (Value.int .i64) w blk off zs.toArray → blk < w.heap.size → zs.length < 4611686018427387904 → zs.length ≤ cap →
  Calls P f #[.slice (some ⟨blk, off, none⟩) zs.length cap] w fun e w' => e = .returned (retI N (some ⟨blk, off, none⟩) cap zs) ∧ ∃ n os, w' = grow (putRow (Value.int .i64) (Go.Sort.ahead w n) blk off (F zs).toArray) os
 none : ∀ (p : Option Addr) (cap : Nat) (w : World), Calls P f #[.slice p 0 cap] w fun e w' => e = .returned (retI N p cap []) ∧ w' = w
 dfd : ∃ fn, P.funcs[f]? = some fn ∧ fn.body.isSome = true
 len : ∀ zs, (F zs).length = zs.length
 cut : ∀ m, N = some m → ∀ zs, m zs ≤ zs.length
theorem set_keep' {h : Heap} {lo o : Nat} {t t' : TypeId} {c d : List Value} {g g' : Nat} (hob : h[o]? = some (.cells t c g)) (hlo : lo ≤ o) : Keep lo h (h.set o (.cells t' d g')) := by
 refine ⟨by simp, fun p hp => ?_, fun p hp ha => ?_⟩
 ·rw [List.getElem?_set_ne (by omega)]
 ·by_cases he : o = p
  ·subst he; exact ⟨_, hob, by simp⟩
  ·obtain ⟨x, hx, hd⟩ := ha
   rw [List.getElem?_set_ne he] at hx
   exact ⟨x, hx, hd⟩
section
variable {E : Env} {B lo : Nat} {M : Mem} {h h' : Heap} {w : World}
theorem L_orc {f : FuncId} {g : List Value → Heap → Nat → Res} (hg : E.orc f = some g) (args : List Value) (h : Heap) : L E f args h lo = g args h lo := by
 rw [L_eq]
 unfold evCall
 rw [hg]
end
end Go.Proofs.YtgefjhjmkejjbaaDoor.Bm
namespace Go.Proofs.YtgefjhjmkejjbaaDoor.Bm
open Go Go.RowKit Go.Sort
def retS (N : Option (List ByteArray → Nat)) (a : Option Addr) (c : Nat) (zs : List ByteArray) : Value := match N with
 | none => .tuple #[]
 | some m => .slice a (m zs) c
structure SortConS (P : Program) (f : FuncId) (F : List ByteArray → List ByteArray) (N : Option (List ByteArray → Nat)) : Prop where
 row : ∀ (blk off cap : Nat) (zs : List ByteArray) (w : World), Holds Value.string w blk off zs.toArray → blk < w.heap.size → zs.length < 4611686018427387904 → zs.length ≤ cap →
  Calls P f #[.slice (some ⟨blk, off, none⟩) zs.length cap] w fun e w' => e = .returned (retS N (some ⟨blk, off, none⟩) cap zs) ∧ ∃ n os, w' = grow (putRow Value.string (Go.Sort.ahead w n) blk off (F zs).toArray) os
 none : ∀ (p : Option Addr) (cap : Nat) (w : World), Calls P f #[.slice p 0 cap] w fun e w' => e = .returned (retS N p cap []) ∧ w' = w
 dfd : ∃ fn, P.funcs[f]? = some fn ∧ fn.body.isSome = true
 len : ∀ zs, (F zs).length = zs.length
 cut : ∀ m, N = some m → ∀ zs, m zs ≤ zs.length
def strsOf : List Value → Option (List ByteArray)
 | [] => some []
 | .string z :: l => (strsOf l).map (z :: ·)
 | _ => none
theorem strsOf_eq : ∀ {l : List Value} {zs : List ByteArray}, strsOf l = some zs → l = zs.map Value.string
 | [], zs, h => by cases h; rfl
 | v :: l, zs, h => by
  unfold strsOf at h
  split at h
  ·rename_i e; cases e
  ·rename_i z l' e
   cases e
   obtain ⟨ys, h1, rfl⟩ := Option.map_eq_some_iff.1 h
   rw [strsOf_eq h1]; rfl
  ·cases h
theorem strsOf_map : ∀ zs : List ByteArray, strsOf (zs.map Value.string) = some zs
 | [] => rfl
 | z :: zs => by
  show (strsOf (zs.map Value.string)).map (z :: ·) = _
  rw [strsOf_map zs]; rfl
def inRS (F : List ByteArray → List ByteArray) (N : Option (List ByteArray → Nat)) (h : Heap) (lo : Nat) (a : Addr) (n c : Nat) : Option AObj → Res
 | some (.cells t row g) => (strsOf (row.take n)).bind fun zs => if lo ≤ a.block ∧ stampOk a.spot g row.length = true ∧ a.off = 0 ∧ n ≤ row.length ∧ n < 4611686018427387904 then
   some (retS N (some a) c zs, h.set a.block (.cells t ((F zs).map Value.string ++ row.drop n) g)) else none
 | _ => none
def inGS (F : List ByteArray → List ByteArray) (N : Option (List ByteArray → Nat)) (args : List Value) (h : Heap) (lo : Nat) : Res :=
 match args with
 | [.slice (some a) n c] => if n = 0 then some (retS N (some a) c [], h) else inRS F N h lo a n c h[a.block]?
 | [.slice none 0 0] => some (retS N none 0 [], h)
 | _ => none
theorem inGS_keep {F : List ByteArray → List ByteArray} {N : Option (List ByteArray → Nat)} {args : List Value} {h h' : Heap} {lo : Nat} {v : Value} (hr : inGS F N args h lo = some (v, h')) : Keep lo h h' := by
 unfold inGS at hr
 split at hr
 ·split at hr
  ·cases hr; exact .refl _ _
  ·unfold inRS at hr
   split at hr
   ·rename_i hob
    simp only [Option.bind_eq_some_iff, Option.ite_none_right_eq_some, Option.some.injEq, Prod.mk.injEq] at hr
    obtain ⟨zs, _, ⟨h1, _⟩, _, rfl⟩ := hr
    exact set_keep' hob h1
   ·cases hr
 ·cases hr; exact .refl _ _
 ·cases hr
section
variable {E : Env} {B lo : Nat} {M : Mem} {h h' : Heap} {w : World}
theorem put_eqS {enc : ByteArray → Value} {d : Array ByteArray} {blk off : Nat} {cs : Array Value} {ty : TypeId} {fr : Nat × Nat} (hb : w.heap[blk]? = some (.cells cs ty fr)) : putRow enc w blk off d = w.setRow blk (putCells enc off d cs) := by
 unfold putRow mapBlock World.setRow
 congr 1
 apply Array.ext_getElem?
 intro i
 simp only [Array.getElem?_modify]
 split
 ·rename_i e
  subst e
  rw [hb]; rfl
 ·rfl
theorem putCells_getS {enc : ByteArray → Value} {d : Array ByteArray} {off k : Nat} {c : Array Value} : (putCells enc off d c)[k]? = c[k]?.map fun x => if off ≤ k ∧ k < off + d.size then enc d[k - off]! else x := by
 unfold putCells
 rw [Array.getElem?_mapIdx]
theorem in_soundS {f : FuncId} {F : List ByteArray → List ByteArray} {N : Option (List ByteArray → Nat)} (hC : SortConS E.P f F N) {args : List Value} {v : Value} (hr : inGS F N args h lo = some (v, h')) (_hlo : lo ≤ h.length) (args' : Array Value) (hs : HSim E B M h w) (hv : VRels M args args'.toList) :
  Calls E.P f args' w fun e w' => ∃ v', e = .returned v' ∧ Out E B lo M h w v h' v' w' := by
 have zero : ∀ m, N = some m → m [] = 0 := fun m hm => by have := hC.cut m hm []; simpa using this
 have nothing : ∀ (p q : Option Addr) (c cap : Nat), VRel M (.slice p 0 c) (.slice q 0 cap) → Calls E.P f #[.slice q 0 cap] w fun e w' => ∃ v', e = .returned v' ∧ Out E B lo M h w (retS N p c []) h v' w' := fun p q c cap hrel =>
  (hC.none q cap w).mono fun e w' he => ⟨retS N q cap [], he.1, by
   rw [he.2]
   refine ⟨M, ?_, hs, .refl hs lo⟩
   cases hN : N with
   | none => exact .top _
   | some m => simp only [retS, zero m hN]; exact hrel⟩
 unfold inGS at hr
 split at hr
 ·rename_i a n c
  obtain ⟨v1, hv1, hrel⟩ := hv.get (i := 0) (u := .slice (some a) n c) rfl
  have hl1 : args'.toList.length = 1 := hv.1.symm
  have e1 : args' = #[v1] := by
   apply Array.ext'
   obtain ⟨y, hy⟩ := List.length_eq_one_iff.1 hl1
   rw [hy] at hv1 ⊢
   cases hv1; rfl
  subst e1
  split at hr
  ·rename_i h0
   cases hr; subst h0
   have hr2 := hrel
   rcases hrel.sliceSome with ⟨a', c', rfl, _, _⟩ | ⟨rfl, _, rfl, _⟩
   ·exact nothing (some a) (some a') c c' hr2
   ·exact nothing (some a) none 0 0 hr2
  ·rename_i h0
   unfold inRS at hr
   split at hr
   case h_2 => cases hr
   rename_i t row g hob
   simp only [Option.bind_eq_some_iff, Option.ite_none_right_eq_some, Option.some.injEq, Prod.mk.injEq] at hr
   obtain ⟨zs, hz, ⟨h1, hst, hoff0, hn, hbig⟩, rfl, rfl⟩ := hr
   have hrow := strsOf_eq hz
   have hzl : zs.length = n := by
    have := congrArg List.length hrow
    simp only [List.length_take, List.length_map] at this
    omega
   rcases hrel.sliceSome with ⟨a', c', rfl, hlc, hcap⟩ | ⟨_, h0', _⟩
   case inr => exact absurd h0' h0
   have hcap0 := hcap
   obtain ⟨l, hl, hcap⟩ := hcap
   obtain ⟨hg, hlen, hnr, hre⟩ := hs.obj _ l t row g hl hob
   have hreal : l.real := by
    by_cases hr : l.real
    ·exact hr
    ·have := hnr hr; rw [this] at hn; simp at hn; omega
   obtain ⟨cs, ty, hb, hsz, hoff, hc⟩ := hre hreal
   have ha : a' = ⟨l.blk, l.off, none⟩ ∧ c ≤ c' := by
    unfold stampOk at hst
    split at hst
    ·rename_i e
     rw [e] at hcap
     rcases hcap.2.2 with k | k
     ·have := hcap.2.1; omega
     ·exact ⟨by rw [k, hoff0]; rfl, by have := hcap.2.1; omega⟩
    ·rename_i k g0 e
     rw [e] at hcap
     have := hcap.2.2 ((hlen (by omega)).trans (beq_iff_eq.1 hst).symm)
     rcases this.2 with k | k
     ·omega
     ·exact ⟨by rw [k.1, hoff0]; rfl, this.1⟩
    ·cases hst
   obtain ⟨rfl, hcc⟩ := ha
   have hlt := ((hs.dom _ l hl).2 hreal).2
   have hcell : ∀ j, j < zs.length → cs[l.off + j]? = some (.string zs[j]!) := by
    intro j hj
    have hj' : row[j]? = some (.string zs[j]!) := by
     have : (row.take n)[j]? = some (.string zs[j]!) := by rw [hrow]; simp [hj]
     rw [List.getElem?_take, if_pos (by omega)] at this
     exact this
    obtain ⟨_, v', q1, q2⟩ := hc j _ hj'
    rw [q1]
    cases q2; rfl
   have hH : Holds Value.string w l.blk l.off zs.toArray := by
    intro j hj
    have hj : j < zs.length := by simpa using hj
    refine ⟨?_, ?_⟩
    ·have := hcell j hj
     simp only [World.cell?, hb, Option.isSome_none, Bool.false_eq_true, if_false]
     rw [this]; simp
    ·simp only [World.frozen?, hb]; simp
   have con := hC.row l.blk l.off c' zs w hH hlt (by omega) (by omega)
   rw [hzl] at con
   have hret : VRel M (retS N (some a) c zs) (retS N (some ⟨l.blk, l.off, none⟩) c' zs) := by
    cases hN : N with
    | none => exact .top _
    | some m =>
     have hm := hC.cut m hN zs
     exact .slice _ _ _ _ _ (show m zs ≤ c by omega) hcap0
   refine con.mono fun e w' he => ⟨_, he.1, ?_⟩
   obtain ⟨m, os, rfl⟩ := he.2
   have p1 : Past w (Go.Sort.ahead w m) := ⟨rfl, rfl, rfl, Nat.le_refl _, fun _ _ => rfl⟩
   have s1 : HSim E B M h (Go.Sort.ahead w m) := hs.past p1 (Ψ := M.phi) (fun _ _ _ k => k) (fun b x v k => hs.phi b x v k) (fun _ _ _ => rfl)
   have v1 : Evo lo M h w M h (Go.Sort.ahead w m) := Evo.past hs p1 (Ψ := M.phi) (fun _ _ _ k => k) (fun _ _ _ => rfl) lo
   have hb1 : (Go.Sort.ahead w m).heap[l.blk]? = some (.cells cs ty (0, 0)) := hb
   rw [put_eqS hb1]
   have hFl : ((F zs).map Value.string).length = n := by rw [List.length_map, hC.len, hzl]
   have hdl : ((F zs).map Value.string ++ row.drop n).length = row.length := by rw [List.length_append, hFl, List.length_drop]; omega
   have hput := s1.put (lo := lo) (t := t) (c := row) (d := (F zs).map Value.string ++ row.drop n) (g := g) (cs := putCells Value.string l.off (F zs).toArray cs) hl hob hreal h1 (by simp [putCells, hsz]) (by rw [hdl]; exact hoff) (.inl hdl) (fun j v hj => by
    have hFz : (F zs).length = n := by rw [hC.len, hzl]
    by_cases hjn : j < n
    ·rw [List.getElem?_append_left (by rw [hFl]; exact hjn), List.getElem?_map, List.getElem?_eq_getElem (by rw [hFz]; exact hjn)] at hj
     cases hj
     refine ⟨rfl, _, ?_, .atom _ rfl⟩
     rw [putCells_getS, hcell j (by omega)]
     have : l.off ≤ l.off + j ∧ l.off + j < l.off + (F zs).toArray.size := ⟨by omega, by simp; omega⟩
     simp only [Option.map_some, this, and_self, if_true]
     simp [hFz, hjn]
    ·rw [List.getElem?_append_right (by omega), hFl, List.getElem?_drop, show n + (j - n) = j by omega] at hj
     obtain ⟨q1, v', q2, q3⟩ := hc j v hj
     refine ⟨q1, v', ?_, q3⟩
     rw [putCells_getS, q2]
     have : ¬ (l.off ≤ l.off + j ∧ l.off + j < l.off + (F zs).toArray.size) := by simp; omega
     simp only [Option.map_some, this, if_false])
   have hsame : M.put a.block { l with len := if g = 0 then l.len else ((F zs).map Value.string ++ row.drop n).length } = M := by
    refine put_same ?_
    rw [hl]
    by_cases h0 : g = 0
    ·simp [h0]
    ·rw [if_neg h0, hdl, ← hlen h0]
   simp only [hsame] at hput
   obtain ⟨s2, v2⟩ := hput
   have p3 : Past ((Go.Sort.ahead w m).setRow l.blk (putCells Value.string l.off (F zs).toArray cs)) (grow ((Go.Sort.ahead w m).setRow l.blk (putCells Value.string l.off (F zs).toArray cs)) os) :=
    ⟨rfl, rfl, rfl, by simp [grow], fun b hb => by simp only [grow]; rw [Array.getElem?_append_left hb]⟩
   have ph : ∀ b x v, M.phi b x = some v → (grow ((Go.Sort.ahead w m).setRow l.blk (putCells Value.string l.off (F zs).toArray cs)) os).cell? ⟨b, x, none⟩ = some v := fun b x v k => by
    have := s2.phi b x v k
    have hlt := cell_lt this
    simp only [World.cell?] at this ⊢
    rw [p3.block b hlt]; exact this
   have s3 := s2.past p3 (Ψ := M.phi) (fun _ _ _ k => k) ph (fun _ _ _ => rfl)
   have v3 := Evo.past s2 p3 (Ψ := M.phi) (fun _ _ _ k => k) (fun _ _ _ => rfl) lo
   exact ⟨M, hret, s3, (v1.trans v2).trans v3⟩
 ·cases hr
  obtain ⟨v1, hv1, hrel⟩ := hv.get (i := 0) (u := .slice none 0 0) rfl
  have hl1 : args'.toList.length = 1 := hv.1.symm
  have e1 : args' = #[v1] := by
   apply Array.ext'
   obtain ⟨y, hy⟩ := List.length_eq_one_iff.1 hl1
   rw [hy] at hv1 ⊢
   cases hv1; rfl
  subst e1
  have hr2 := hrel
  cases hrel
  exact nothing none none 0 0 hr2
 ·cases hr
end
theorem inGS_row {E : Env} {h : Heap} {lo : Nat} {F : List ByteArray → List ByteArray} {N : Option (List ByteArray → Nat)} {b k n c g : Nat} {t : TypeId} {zs : List ByteArray} (hob : h[b]? = some (.cells t (zs.map Value.string) (g + 1))) (hlo : lo ≤ b) (hk : k = zs.length) (hn : n = zs.length) (h0 : n ≠ 0) (hbig : n < 4611686018427387904) :
  inGS F N [.slice (some ⟨b, 0, some k⟩) n c] h lo = some (retS N (some ⟨b, 0, some k⟩) c zs, h.set b (.cells t ((F zs).map Value.string) (g + 1))) := by
 subst hk; subst hn
 show (if zs.length = 0 then _ else inRS F N h lo ⟨b, 0, some zs.length⟩ zs.length c h[b]?) = _
 rw [if_neg h0, hob]
 have e1 : (zs.map Value.string).take zs.length = zs.map Value.string := by rw [List.take_of_length_le (by simp)]
 have e2 : (zs.map Value.string).drop zs.length = [] := by rw [List.drop_eq_nil_of_le (by simp)]
 show (strsOf ((zs.map Value.string).take zs.length)).bind _ = _
 rw [e1, strsOf_map, Option.bind_some, if_pos ⟨hlo, by simp [stampOk], rfl, by simp, hbig⟩, e2, List.append_nil]
end Go.Proofs.YtgefjhjmkejjbaaDoor.Bm
namespace Go.Proofs.YtgefjhjmkejjbaaDoor.Co
def rem (o s : Nat) : Nat := o ^^^ (o &&& s)
theorem rem_bit (o s k : Nat) : (rem o s).testBit k = (o.testBit k && !s.testBit k) := by
 unfold rem
 rw [Nat.testBit_xor, Nat.testBit_and]
 cases o.testBit k <;> cases s.testBit k <;> rfl
theorem rem_zero (s : Nat) : rem 0 s = 0 := Nat.eq_of_testBit_eq fun k => by rw [rem_bit, Nat.zero_testBit, Bool.false_and]
theorem rem_le (o s : Nat) : rem o s ≤ o := by
 unfold rem
 have h : (o ^^^ (o &&& s)) = o &&& (o ^^^ (o &&& s)) := Nat.eq_of_testBit_eq fun k => by
  simp only [Nat.testBit_xor, Nat.testBit_and]
  cases o.testBit k <;> cases s.testBit k <;> rfl
 rw [h]
 exact Nat.and_le_left
def rems (o : Nat) (l : List Nat) : Nat := l.foldl rem o
theorem rems_nil (o : Nat) : rems o [] = o := rfl
theorem rems_cons (o s : Nat) (l : List Nat) : rems o (s :: l) = rems (rem o s) l := rfl
theorem rems_append (o : Nat) (l m : List Nat) : rems o (l ++ m) = rems (rems o l) m := List.foldl_append
theorem rems_bit : ∀ (l : List Nat) (o k : Nat), (rems o l).testBit k = (o.testBit k && !l.any (·.testBit k))
 | [], o, k => by rw [rems_nil]; simp
 | s :: l, o, k => by
  rw [rems_cons, rems_bit l, rem_bit, List.any_cons]
  cases o.testBit k <;> cases s.testBit k <;> rfl
def Cov (o : Nat) (l : List Nat) : Prop := rems o l = 0
theorem cov_iff {o : Nat} {l : List Nat} : Cov o l ↔ ∀ k, o.testBit k = true → ∃ s ∈ l, s.testBit k = true := by
 unfold Cov
 constructor
 ·intro h k hk
  have := rems_bit l o k
  rw [h, Nat.zero_testBit, hk, Bool.true_and] at this
  have h2 : l.any (·.testBit k) = true := by
   cases q : l.any (·.testBit k)
   ·rw [q] at this; cases this
   ·rfl
  exact List.any_eq_true.1 h2
 ·intro h
  refine Nat.eq_of_testBit_eq fun k => ?_
  rw [rems_bit, Nat.zero_testBit]
  cases hk : o.testBit k
  ·rfl
  ·rw [List.any_eq_true.2 (h k hk)]; rfl
theorem Cov.mono {o : Nat} {l m : List Nat} (h : Cov o l) (hs : ∀ s ∈ l, s ∈ m) : Cov o m := cov_iff.2 fun k hk => by
 obtain ⟨s, h1, h2⟩ := cov_iff.1 h k hk
 exact ⟨s, hs s h1, h2⟩
variable {S : Type}
def needF (inf : Nat) : List (S × Nat) → Nat → Nat
 | [], o => if o = 0 then 0 else inf
 | x :: r, o => if o = 0 then 0 else if rem o x.2 = o then needF inf r o else min (needF inf r o) (1 + needF inf r (rem o x.2))
theorem need_zero (inf : Nat) : ∀ r : List (S × Nat), needF inf r 0 = 0
 | [] => rfl
 | _ :: _ => rfl
theorem need_nil {inf o : Nat} (h : o ≠ 0) : needF inf ([] : List (S × Nat)) o = inf := if_neg h
theorem need_cons {inf o : Nat} {x : S × Nat} {r : List (S × Nat)} (h : o ≠ 0) : needF inf (x :: r) o = if rem o x.2 = o then needF inf r o else min (needF inf r o) (1 + needF inf r (rem o x.2)) := if_neg h
theorem need_inf (inf : Nat) : ∀ (r : List (S × Nat)) (o : Nat), needF inf r o ≤ inf
 | [], o => by unfold needF; split <;> omega
 | x :: r, o => by
  unfold needF
  have h1 := need_inf inf r o
  split
  ·omega
  ·split <;> omega
def mk (l : List (S × Nat)) : List Nat := l.map (·.2)
theorem need_lower (inf : Nat) : ∀ (r C : List (S × Nat)) (o : Nat), C.Sublist r → Cov o (mk C) → needF inf r o ≤ C.length
 | [], C, o, hs, hc => by
  obtain rfl := List.sublist_nil.1 hs
  rw [show o = 0 from hc, need_zero]; simp
 | x :: r, C, o, hs, hc => by
  by_cases h0 : o = 0
  ·rw [h0, need_zero]; omega
  rw [need_cons h0]
  cases hs with
  | cons _ hs =>
   have := need_lower inf r C o hs hc
   split <;> omega
  | cons_cons _ hs =>
   rename_i C
   have h1 := need_lower inf r C (rem o x.2) hs hc
   rw [List.length_cons]
   split
   ·rename_i e
    rw [e] at h1; omega
   ·omega
def leastF (inf : Nat) : List (S × Nat) → Nat → List (S × Nat)
 | [], _ => []
 | x :: r, o => if rem o x.2 ≠ o ∧ needF inf (x :: r) o = 1 + needF inf r (rem o x.2) then x :: leastF inf r (rem o x.2) else leastF inf r o
theorem least_cons {inf o : Nat} {x : S × Nat} {r : List (S × Nat)} : leastF inf (x :: r) o = if rem o x.2 ≠ o ∧ needF inf (x :: r) o = 1 + needF inf r (rem o x.2) then x :: leastF inf r (rem o x.2) else leastF inf r o := rfl
theorem least_sub (inf : Nat) : ∀ (r : List (S × Nat)) (o : Nat), (leastF inf r o).Sublist r
 | [], _ => List.Sublist.refl _
 | x :: r, o => by
  rw [least_cons]
  split
  ·exact (least_sub inf r _).cons_cons _
  ·exact (least_sub inf r _).cons _
theorem least_ok (inf : Nat) : ∀ (r : List (S × Nat)) (o : Nat), needF inf r o < inf → Cov o (mk (leastF inf r o)) ∧ (leastF inf r o).length = needF inf r o
 | [], o, h => by
  by_cases h0 : o = 0
  ·exact ⟨h0, by rw [h0]; rfl⟩
  ·rw [need_nil h0] at h; omega
 | x :: r, o, h => by
  rw [least_cons]
  split
  ·rename_i q
   obtain ⟨h1, h2⟩ := least_ok inf r (rem o x.2) (by omega)
   exact ⟨h1, by rw [List.length_cons, h2, q.2]; omega⟩
  ·rename_i q
   have e : needF inf (x :: r) o = needF inf r o := by
    by_cases h0 : o = 0
    ·rw [h0, need_zero, need_zero]
    rw [need_cons h0] at q ⊢
    by_cases e : rem o x.2 = o
    ·rw [if_pos e]
    ·rw [if_neg e] at q ⊢
     have : ¬ (min (needF inf r o) (1 + needF inf r (rem o x.2)) = 1 + needF inf r (rem o x.2)) := fun h => q ⟨e, h⟩
     omega
   rw [e] at h ⊢
   exact least_ok inf r o h
def lessL (lt : S → S → Bool) [DecidableEq S] : List S → List S → Bool
 | [], [] => false
 | [], _ :: _ => true
 | _ :: _, [] => false
 | a :: x, b :: y => if a = b then lessL lt x y else lt a b
def Asc (lt : S → S → Bool) (l : List (S × Nat)) : Prop := l.Pairwise fun a b => lt a.1 b.1 = true
theorem least_first (lt : S → S → Bool) [DecidableEq S] (irr : ∀ a, lt a a = false) (asym : ∀ a b, lt a b = true → lt b a = false) (inf : Nat) : ∀ (r C : List (S × Nat)) (o : Nat), Asc lt r → needF inf r o < inf → C.Sublist r → Cov o (mk C) → C.length = needF inf r o → lessL lt (C.map (·.1)) ((leastF inf r o).map (·.1)) = false
 | [], C, o, ha, h, hs, hc, hl => by
  obtain rfl := List.sublist_nil.1 hs; rfl
 | x :: r, C, o, ha, h, hs, hc, hl => by
  obtain ⟨ha1, ha2⟩ := List.pairwise_cons.1 ha
  rw [least_cons]
  by_cases q : rem o x.2 ≠ o ∧ needF inf (x :: r) o = 1 + needF inf r (rem o x.2)
  ·rw [if_pos q, List.map_cons]
   cases hs with
   | cons _ hs =>
    cases C with
    | nil => rw [List.length_nil] at hl; omega
    | cons y C =>
     have hy : y ∈ r := hs.subset List.mem_cons_self
     have h1 := ha1 y hy
     have h2 : y.1 ≠ x.1 := fun e => by rw [e, irr] at h1; cases h1
     rw [List.map_cons, lessL.eq_4, if_neg h2]
     exact asym _ _ h1
   | cons_cons _ hs =>
    rename_i C
    rw [List.map_cons, lessL.eq_4, if_pos rfl]
    rw [List.length_cons] at hl
    exact least_first lt irr asym inf r C _ ha2 (by omega) hs hc (by omega)
  ·rw [if_neg q]
   have hx : ∀ C' : List (S × Nat), C = x :: C' → C'.Sublist r → False := by
    rintro C' rfl hs'
    have h1 := need_lower inf r C' (rem o x.2) hs' hc
    rw [List.length_cons] at hl
    by_cases h0 : o = 0
    ·rw [h0, need_zero] at hl; omega
    ·rw [need_cons h0] at hl q
     by_cases e : rem o x.2 = o
     ·rw [if_pos e] at hl; rw [e] at h1; omega
     ·rw [if_neg e] at hl q
      exact q ⟨e, by omega⟩
   cases hs with
   | cons_cons _ hs => exact (hx _ rfl hs).elim
   | cons _ hs =>
    have e : needF inf (x :: r) o = needF inf r o := by
     have h1 := need_lower inf r C o hs hc
     by_cases h0 : o = 0
     ·rw [h0, need_zero, need_zero]
     rw [need_cons h0] at hl ⊢
     by_cases e : rem o x.2 = o
     ·rw [if_pos e]
     ·rw [if_neg e] at hl ⊢; omega
    exact least_first lt irr asym inf r C o ha2 (by omega) hs hc (by omega)
end Go.Proofs.YtgefjhjmkejjbaaDoor.Co
namespace Go.Proofs.YtgefjhjmkejjbaaDoor.Co
variable {S : Type} [DecidableEq S]
def maskF : List (List S) → S → Nat
 | [], _ => 0
 | a :: l, s => (if s ∈ a then 1 else 0) + 2 * maskF l s
theorem mask_bit : ∀ (l : List (List S)) (s : S) (i : Nat), (maskF l s).testBit i = decide (∃ a, l[i]? = some a ∧ s ∈ a)
 | [], s, i => by
  rw [show maskF ([] : List (List S)) s = 0 from rfl, Nat.zero_testBit]
  simp
 | a :: l, s, 0 => by
  rw [Nat.testBit_zero]
  show decide (((if s ∈ a then 1 else 0) + 2 * maskF l s) % 2 = 1) = _
  by_cases h : s ∈ a
  ·rw [if_pos h, decide_eq_true (by omega), decide_eq_true]
   exact ⟨a, rfl, h⟩
  ·rw [if_neg h, decide_eq_false (by omega), decide_eq_false]
   rintro ⟨b, hb, hs⟩
   simp at hb
   exact h (hb ▸ hs)
 | a :: l, s, i + 1 => by
  rw [Nat.testBit_add_one]
  have e : maskF (a :: l) s / 2 = maskF l s := by
   show ((if s ∈ a then 1 else 0) + 2 * maskF l s) / 2 = _
   split <;> omega
  rw [e, mask_bit l s i]
  simp
theorem mask_lt (l : List (List S)) (s : S) {i : Nat} (h : (maskF l s).testBit i = true) : i < l.length := by
 rw [mask_bit, decide_eq_true_eq] at h
 obtain ⟨a, ha, _⟩ := h
 exact (List.getElem?_eq_some_iff.1 ha).1
def allF (l : List (List S)) : Nat := 2 ^ l.length - 1
omit [DecidableEq S] in
theorem all_bit (l : List (List S)) (i : Nat) : (allF l).testBit i = decide (i < l.length) := Nat.testBit_two_pow_sub_one _ _
def CovS (l : List (List S)) (o : Nat) (C : List S) : Prop := Cov o (C.map (maskF l))
theorem covS_iff {l : List (List S)} {o : Nat} {C : List S} : CovS l o C ↔ ∀ k, o.testBit k = true → ∃ s ∈ C, (maskF l s).testBit k = true := by
 unfold CovS
 rw [cov_iff]
 constructor
 ·intro h k hk
  obtain ⟨m, hm, h2⟩ := h k hk
  obtain ⟨s, hs, rfl⟩ := List.mem_map.1 hm
  exact ⟨s, hs, h2⟩
 ·intro h k hk
  obtain ⟨s, hs, h2⟩ := h k hk
  exact ⟨_, List.mem_map.2 ⟨s, hs, rfl⟩, h2⟩
def apartF (l : List (List S)) (i k : Nat) : Bool := !(l.getD i []).any fun s => (maskF l s).testBit k
def packedF (l : List (List S)) (o : Nat) : List Nat → List Nat → Bool
 | _, [] => true
 | acc, k :: r => o.testBit k && (acc.all (apartF l k) && packedF l o (acc ++ [k]) r)
theorem nodup_le : ∀ (D C : List S), List.Nodup D → (∀ s ∈ D, s ∈ C) → D.length ≤ C.length
 | [], _, _, _ => Nat.zero_le _
 | s :: D, C, hd, hs => by
  obtain ⟨h1, h2⟩ := List.nodup_cons.1 hd
  have hm := hs s List.mem_cons_self
  have := nodup_le D (C.erase s) h2 fun x hx => (List.mem_erase_of_ne (fun e => h1 (by rw [← e]; exact hx))).2 (hs x (List.mem_cons_of_mem _ hx))
  rw [List.length_erase_of_mem hm] at this
  have : 0 < C.length := List.length_pos_of_mem hm
  rw [List.length_cons]; omega
def replF (l : List (List S)) (o : Nat) (a : List S) (n : List Nat) : Bool := a.all fun x => n.any fun k => decide (rem (maskF l x &&& o) (maskF l (a.getD k x)) = 0)
theorem rem_sub {p q : Nat} (h : rem p q = 0) {k : Nat} (hk : p.testBit k = true) : q.testBit k = true := by
 have := rem_bit p q k
 rw [h, Nat.zero_testBit, hk, Bool.true_and] at this
 cases hq : q.testBit k
 ·rw [hq] at this; cases this
 ·rfl
def idxF (n : Nat) : List Int → Bool
 | [] => true
 | [k] => decide (0 ≤ k) && decide (k < n)
 | k :: j :: r => decide (0 ≤ k) && (decide (k < n) && (decide (k < j) && idxF n (j :: r)))
def followF (l : List (List S)) : Nat → List (List Int) → Nat → Option (List (List Int))
 | _, [], _ => none
 | f, x :: rest, o => match x with
  | [] => none
  | c :: t =>
   if c = 0 then if decide (f ≤ t.length) && (idxF l.length t && packedF l o [] (t.map (·.toNat))) then some rest else none
   else if c = 1 then match f, t with
    | f + 1, k :: n =>
     if n = [] ∨ f = 0 ∨ k < 0 ∨ (l.length : Int) ≤ k then none
     else if o.testBit k.toNat && (idxF (l.getD k.toNat []).length n && replF l o (l.getD k.toNat []) (n.map (·.toNat))) then
      n.foldlM (fun r i => followF l f r (rem o ((maskF l <$> (l.getD k.toNat [])[i.toNat]?).getD 0))) rest
     else none
    | _, _ => none
   else none
theorem idx_mem : ∀ {n : Nat} {k : List Int}, idxF n k = true → ∀ i ∈ k, 0 ≤ i ∧ i < (n : Int)
 | _, [], _, i, hi => by cases hi
 | n, [k], h, i, hi => by
  have h' : (decide (0 ≤ k) && decide (k < (n : Int))) = true := h
  simp only [Bool.and_eq_true, decide_eq_true_eq] at h'
  rw [List.mem_singleton.1 hi]; exact h'
 | n, k :: j :: r, h, i, hi => by
  have h' : (decide (0 ≤ k) && (decide (k < (n : Int)) && (decide (k < j) && idxF n (j :: r)))) = true := h
  simp only [Bool.and_eq_true, decide_eq_true_eq] at h'
  rcases List.mem_cons.1 hi with rfl | hi
  ·exact ⟨h'.1, h'.2.1⟩
  ·exact idx_mem h'.2.2.2 i hi
end Go.Proofs.YtgefjhjmkejjbaaDoor.Co
namespace Go.Proofs.YtgefjhjmkejjbaaDoor.Co
variable {S : Type} [DecidableEq S]
def packF (l : List (List S)) (o n : Nat) : List Nat → List Nat → Option (List Nat)
 | [], out => if out.length = n then some out else none
 | i :: r, out => if out.length = n then some out else
   if o.testBit i && out.all (apartF l i) then (packF l o n r (out ++ [i])).orElse fun _ => packF l o n r out else packF l o n r out
theorem packF_nil (l : List (List S)) (o n : Nat) (out : List Nat) : packF l o n [] out = if out.length = n then some out else none := rfl
theorem packF_cons (l : List (List S)) (o n i : Nat) (r out : List Nat) : packF l o n (i :: r) out = if out.length = n then some out else if o.testBit i && out.all (apartF l i) then (packF l o n r (out ++ [i])).orElse fun _ => packF l o n r out else packF l o n r out := rfl
structure IsPack (l : List (List S)) (o n : Nat) (K : List Nat) : Prop where
 len : K.length = n
 pk : packedF l o [] K = true
 asc : K.Pairwise (· < ·)
theorem packF_one (l : List (List S)) (o : Nat) : ∀ (r : List Nat), (∃ i ∈ r, o.testBit i = true) → ∃ K, packF l o 1 r [] = some K
 | [], h => by obtain ⟨i, hi, _⟩ := h; cases hi
 | j :: r, h => by
  rw [packF_cons, if_neg (by decide)]
  cases hj : o.testBit j
  ·obtain ⟨i, hi, hb⟩ := h
   rcases List.mem_cons.1 hi with rfl | hi
   ·rw [hj] at hb; cases hb
   ·rw [Bool.false_and, if_neg (by decide)]
    exact packF_one l o r ⟨i, hi, hb⟩
  ·rw [if_pos (by rfl)]
   have e : packF l o 1 r ([] ++ [j]) = some [j] := by cases r <;> rfl
   rw [e]
   exact ⟨_, rfl⟩
def inF (l : List (List S)) (o : Nat) (a : List S) (i : Nat) : Nat := match a[i]? with | some s => maskF l s &&& o | none => 0
def freeF (l : List (List S)) (o : Nat) (a : List S) (i : Nat) : Bool := (List.range a.length).all fun k => decide (k = i) || !(decide (rem (inF l o a i) (inF l o a k) = 0) && (decide (inF l o a k ≠ inF l o a i) || decide (k < i)))
def choicesF (l : List (List S)) (o : Nat) (a : List S) : List Nat := (List.range a.length).filter (freeF l o a)
theorem sub_le {p q : Nat} (h : rem p q = 0) : p ≤ q := by
 have : p &&& q = p := Nat.eq_of_testBit_eq fun k => by
  rw [Nat.testBit_and]
  cases hp : p.testBit k
  ·rfl
  ·rw [rem_sub h hp]; rfl
 rw [← this]
 exact Nat.and_le_right
theorem sub_trans {p q r : Nat} (h1 : rem p q = 0) (h2 : rem q r = 0) : rem p r = 0 := Nat.eq_of_testBit_eq fun k => by
 rw [rem_bit, Nat.zero_testBit]
 cases hp : p.testBit k
 ·rfl
 ·rw [rem_sub h2 (rem_sub h1 hp)]; rfl
theorem sub_refl (p : Nat) : rem p p = 0 := Nat.eq_of_testBit_eq fun k => by
 rw [rem_bit, Nat.zero_testBit]
 cases p.testBit k <;> rfl
theorem in_le (l : List (List S)) (o : Nat) (a : List S) (i : Nat) : inF l o a i ≤ o := by
 unfold inF
 split
 ·exact Nat.and_le_right
 ·exact Nat.zero_le _
theorem choices_above (l : List (List S)) (o : Nat) (a : List S) : ∀ (n j : Nat), (o - inF l o a j) * (a.length + 1) + j ≤ n → j < a.length → ∃ i ∈ choicesF l o a, rem (inF l o a j) (inF l o a i) = 0 := by
 intro n
 induction n with
 | zero =>
  intro j hn hj
  by_cases hf : freeF l o a j = true
  ·exact ⟨j, List.mem_filter.2 ⟨List.mem_range.2 hj, hf⟩, sub_refl _⟩
  ·exfalso
   have hf := Bool.eq_false_iff.2 hf
   unfold freeF at hf
   obtain ⟨k, hk, hq⟩ := List.all_eq_false.1 hf
   have hk := List.mem_range.1 hk
   simp only [Bool.or_eq_true, decide_eq_true_eq, Bool.not_eq_true', Bool.and_eq_false_iff, not_or] at hq
   obtain ⟨q1, q2, q3⟩ := hq
   have q2 : rem (inF l o a j) (inF l o a k) = 0 := by simpa using q2
   have hle := sub_le q2
   have h1 := in_le l o a k
   have q3 : inF l o a k ≠ inF l o a j ∨ k < j := by
    rcases Classical.em (inF l o a k = inF l o a j) with e | e
    ·right
     simp [e] at q3
     exact q3
    ·exact .inl e
   rcases q3 with q3 | q3
   ·have h2 : (o - inF l o a j) * (a.length + 1) = 0 := by omega
    rcases Nat.mul_eq_zero.1 h2 with h | h <;> omega
   ·omega
 | succ n ih =>
  intro j hn hj
  by_cases hf : freeF l o a j = true
  ·exact ⟨j, List.mem_filter.2 ⟨List.mem_range.2 hj, hf⟩, sub_refl _⟩
  ·have hf := Bool.eq_false_iff.2 hf
   unfold freeF at hf
   obtain ⟨k, hk, hq⟩ := List.all_eq_false.1 hf
   have hk := List.mem_range.1 hk
   simp only [Bool.or_eq_true, decide_eq_true_eq, Bool.not_eq_true', Bool.and_eq_false_iff, not_or] at hq
   obtain ⟨q1, q2, q3⟩ := hq
   have q2 : rem (inF l o a j) (inF l o a k) = 0 := by simpa using q2
   have hle := sub_le q2
   have h1 := in_le l o a k
   have hm : (o - inF l o a k) * (a.length + 1) + k ≤ n := by
    by_cases e : inF l o a k = inF l o a j
    ·have hkj : k < j := by
      simp [e] at q3
      exact q3
     rw [e]; omega
    ·have h2 : o - inF l o a k + 1 ≤ o - inF l o a j := by omega
     have h3 := Nat.mul_le_mul_right (a.length + 1) h2
     rw [Nat.add_mul, Nat.one_mul] at h3
     omega
   obtain ⟨i, hi, h3⟩ := ih k hm hk
   exact ⟨i, hi, sub_trans q2 h3⟩
theorem choices_lt {l : List (List S)} {o : Nat} {a : List S} {i : Nat} (h : i ∈ choicesF l o a) : i < a.length := List.mem_range.1 (List.mem_filter.1 h).1
theorem choices_ne {l : List (List S)} {o : Nat} {a : List S} (h : a ≠ []) : choicesF l o a ≠ [] := by
 obtain ⟨i, hi, _⟩ := choices_above l o a _ 0 (Nat.le_refl _) (List.length_pos_iff.2 h)
 intro e
 rw [e] at hi; cases hi
def firstF (o : Nat) : Nat → Nat → Nat
 | 0, i => i
 | f + 1, i => if o.testBit i then i else firstF o f (i + 1)
theorem first_bit (o : Nat) : ∀ (f i : Nat), (∃ k, i ≤ k ∧ k < i + f ∧ o.testBit k = true) → o.testBit (firstF o f i) = true ∧ firstF o f i < i + f
 | 0, i, h => by obtain ⟨k, h1, h2, _⟩ := h; omega
 | f + 1, i, h => by
  unfold firstF
  by_cases q : o.testBit i = true
  ·rw [if_pos q]; exact ⟨q, by omega⟩
  ·rw [if_neg q]
   obtain ⟨k, h1, h2, h3⟩ := h
   have hne : k ≠ i := fun e => q (e ▸ h3)
   obtain ⟨a, b⟩ := first_bit o f (i + 1) ⟨k, by omega, by omega, h3⟩
   exact ⟨a, by omega⟩
def proveF (l : List (List S)) : Nat → Nat → List (List Int)
 | 0, _ => []
 | f + 1, o => match packF l o (f + 1) (List.range l.length) [] with
  | some K => [0 :: K.map Int.ofNat]
  | none =>
   (1 :: ((firstF o l.length 0 : Nat) : Int) :: (choicesF l o (l.getD (firstF o l.length 0) [])).map Int.ofNat) ::
    (choicesF l o (l.getD (firstF o l.length 0) [])).flatMap fun i => proveF l f (rem o ((maskF l <$> (l.getD (firstF o l.length 0) [])[i]?).getD 0))
def Within (l : List (List S)) (o : Nat) : Prop := ∀ k, o.testBit k = true → k < l.length
omit [DecidableEq S] in
theorem Within.rem {l : List (List S)} {o : Nat} (h : Within l o) (s : Nat) : Within l (rem o s) := fun k hk => by
 rw [rem_bit, Bool.and_eq_true] at hk
 exact h k hk.1
end Go.Proofs.YtgefjhjmkejjbaaDoor.Co
namespace Go.Proofs.YtgefjhjmkejjbaaDoor.Co
variable {S : Type} [DecidableEq S]
def hitsF (l : List (List S)) (C : List S) : Bool := l.all fun a => a.any fun s => decide (s ∈ C)
theorem hits_iff {l : List (List S)} {C : List S} : hitsF l C = true ↔ ∀ a ∈ l, ∃ s ∈ a, s ∈ C := by
 unfold hitsF
 simp only [List.all_eq_true, List.any_eq_true, decide_eq_true_eq]
theorem hits_cov {l : List (List S)} {C : List S} : hitsF l C = true ↔ CovS l (allF l) C := by
 rw [hits_iff, covS_iff]
 constructor
 ·intro h k hk
  rw [all_bit, decide_eq_true_eq] at hk
  obtain ⟨s, hs, hc⟩ := h _ (List.getElem_mem hk)
  exact ⟨s, hc, by rw [mask_bit, decide_eq_true_eq]; exact ⟨_, List.getElem?_eq_getElem hk, hs⟩⟩
 ·intro h a ha
  obtain ⟨k, hk, rfl⟩ := List.mem_iff_getElem.1 ha
  obtain ⟨s, hs, hb⟩ := h k (by rw [all_bit, decide_eq_true hk])
  rw [mask_bit, decide_eq_true_eq] at hb
  obtain ⟨b, hb1, hb2⟩ := hb
  rw [List.getElem?_eq_getElem hk] at hb1
  obtain rfl := Option.some.inj hb1
  exact ⟨s, hb2, hs⟩
structure Ord (lt : S → S → Bool) : Prop where
 irr : ∀ a, lt a a = false
 asym : ∀ a b, lt a b = true → lt b a = false
 trans : ∀ a b c, lt a b = true → lt b c = true → lt a c = true
 tri : ∀ a b, lt a b = true ∨ a = b ∨ lt b a = true
def insF (lt : S → S → Bool) (s : S) : List S → List S
 | [] => [s]
 | a :: l => if lt a s = true then a :: insF lt s l else if a = s then a :: l else s :: a :: l
def namesF (lt : S → S → Bool) (l : List (List S)) : List S := l.foldl (fun out a => a.foldl (fun o s => insF lt s o) out) []
theorem ins_mem {lt : S → S → Bool} {s : S} : ∀ {l : List S} {x : S}, x ∈ insF lt s l ↔ x = s ∨ x ∈ l
 | [], x => by simp [insF]
 | a :: l, x => by
  unfold insF
  split
  ·rw [List.mem_cons, ins_mem, List.mem_cons]
   constructor
   ·rintro (h | h | h)
    ·exact .inr (.inl h)
    ·exact .inl h
    ·exact .inr (.inr h)
   ·rintro (h | h | h)
    ·exact .inr (.inl h)
    ·exact .inl h
    ·exact .inr (.inr h)
  ·split
   ·rename_i h
    rw [List.mem_cons, h]
    constructor
    ·exact fun q => .inr q
    ·rintro (q | q)
     ·exact .inl q
     ·exact q
   ·rw [List.mem_cons]
def AscL (lt : S → S → Bool) (l : List S) : Prop := l.Pairwise fun a b => lt a b = true
theorem ins_asc {lt : S → S → Bool} (ho : Ord lt) {s : S} : ∀ {l : List S}, AscL lt l → AscL lt (insF lt s l)
 | [], _ => List.pairwise_singleton _ _
 | a :: l, h => by
  obtain ⟨h1, h2⟩ := List.pairwise_cons.1 h
  unfold insF
  split
  ·rename_i q
   refine List.pairwise_cons.2 ⟨fun x hx => ?_, ins_asc ho h2⟩
   rcases ins_mem.1 hx with rfl | hx
   ·exact q
   ·exact h1 x hx
  ·rename_i q
   split
   ·exact h
   ·rename_i q2
    have hs : lt s a = true := by
     rcases ho.tri a s with h | h | h
     ·exact absurd h q
     ·exact absurd h q2
     ·exact h
    refine List.pairwise_cons.2 ⟨fun x hx => ?_, h⟩
    rcases List.mem_cons.1 hx with rfl | hx
    ·exact hs
    ·exact ho.trans _ _ _ hs (h1 x hx)
theorem fold_ins {lt : S → S → Bool} (ho : Ord lt) : ∀ (a out : List S), AscL lt out → AscL lt (a.foldl (fun o s => insF lt s o) out) ∧ ∀ x, x ∈ a.foldl (fun o s => insF lt s o) out ↔ x ∈ a ∨ x ∈ out
 | [], out, h => ⟨h, fun x => by simp⟩
 | s :: a, out, h => by
  obtain ⟨h1, h2⟩ := fold_ins ho a (insF lt s out) (ins_asc ho h)
  refine ⟨h1, fun x => ?_⟩
  rw [List.foldl_cons, h2, ins_mem, List.mem_cons]
  constructor
  ·rintro (h | h | h)
   ·exact .inl (.inr h)
   ·exact .inl (.inl h)
   ·exact .inr h
  ·rintro ((h | h) | h)
   ·exact .inr (.inl h)
   ·exact .inl h
   ·exact .inr (.inr h)
theorem fold_names {lt : S → S → Bool} (ho : Ord lt) : ∀ (l : List (List S)) (out : List S), AscL lt out → AscL lt (l.foldl (fun out a => a.foldl (fun o s => insF lt s o) out) out) ∧ ∀ x, x ∈ l.foldl (fun out a => a.foldl (fun o s => insF lt s o) out) out ↔ (∃ a ∈ l, x ∈ a) ∨ x ∈ out
 | [], out, h => ⟨h, fun x => by simp⟩
 | a :: l, out, h => by
  obtain ⟨k1, k2⟩ := fold_ins ho a out h
  obtain ⟨h1, h2⟩ := fold_names ho l _ k1
  refine ⟨h1, fun x => ?_⟩
  rw [List.foldl_cons, h2, k2]
  constructor
  ·rintro (⟨b, hb, hx⟩ | h | h)
   ·exact .inl ⟨b, List.mem_cons_of_mem _ hb, hx⟩
   ·exact .inl ⟨a, List.mem_cons_self, h⟩
   ·exact .inr h
  ·rintro (⟨b, hb, hx⟩ | h)
   ·rcases List.mem_cons.1 hb with rfl | hb
    ·exact .inr (.inl hx)
    ·exact .inl ⟨b, hb, hx⟩
   ·exact .inr (.inr h)
theorem names_asc {lt : S → S → Bool} (ho : Ord lt) (l : List (List S)) : AscL lt (namesF lt l) := (fold_names ho l [] List.Pairwise.nil).1
theorem names_mem {lt : S → S → Bool} (ho : Ord lt) {l : List (List S)} {x : S} : x ∈ namesF lt l ↔ ∃ a ∈ l, x ∈ a := by
 rw [namesF, (fold_names ho l [] List.Pairwise.nil).2 x]
 simp
omit [DecidableEq S] in
theorem asc_nodup {lt : S → S → Bool} (ho : Ord lt) {l : List S} (h : AscL lt l) : l.Nodup := h.imp fun {a b} hab e => by rw [e, ho.irr] at hab; cases hab
omit [DecidableEq S] in
theorem asc_ext {lt : S → S → Bool} (ho : Ord lt) : ∀ {l m : List S}, AscL lt l → AscL lt m → (∀ x, x ∈ l ↔ x ∈ m) → l = m
 | [], [], _, _, _ => rfl
 | [], b :: m, _, _, h => absurd ((h b).2 List.mem_cons_self) (by simp)
 | a :: l, [], _, _, h => absurd ((h a).1 List.mem_cons_self) (by simp)
 | a :: l, b :: m, ha, hb, h => by
  obtain ⟨a1, a2⟩ := List.pairwise_cons.1 ha
  obtain ⟨b1, b2⟩ := List.pairwise_cons.1 hb
  have e : a = b := by
   rcases List.mem_cons.1 ((h a).1 List.mem_cons_self) with e | e
   ·exact e
   rcases List.mem_cons.1 ((h b).2 List.mem_cons_self) with e2 | e2
   ·exact e2.symm
   ·have := ho.asym _ _ (b1 a e)
    rw [a1 b e2] at this; cases this
  subst e
  rw [asc_ext ho a2 b2 fun x => ?_]
  constructor
  ·intro hx
   rcases List.mem_cons.1 ((h x).1 (List.mem_cons_of_mem _ hx)) with e | e
   ·have := a1 x hx
    rw [e, ho.irr] at this; cases this
   ·exact e
  ·intro hx
   rcases List.mem_cons.1 ((h x).2 (List.mem_cons_of_mem _ hx)) with e | e
   ·have := b1 x hx
    rw [e, ho.irr] at this; cases this
   ·exact e
def pairsF (lt : S → S → Bool) (l : List (List S)) : List (S × Nat) := (namesF lt l).map fun s => (s, maskF l s)
def infF (lt : S → S → Bool) (l : List (List S)) : Nat := l.length + (namesF lt l).length + 1
def coreF (lt : S → S → Bool) (l : List (List S)) : List S := (leastF (infF lt l) (pairsF lt l) (allF l)).map (·.1)
theorem mk_pairs (l : List (List S)) : ∀ {C : List (S × Nat)}, (∀ p ∈ C, p.2 = maskF l p.1) → mk C = (C.map (·.1)).map (maskF l)
 | [], _ => rfl
 | p :: C, h => by
  show p.2 :: mk C = maskF l p.1 :: (C.map (·.1)).map (maskF l)
  rw [h p List.mem_cons_self, mk_pairs l fun q hq => h q (List.mem_cons_of_mem _ hq)]
theorem pairs_snd {lt : S → S → Bool} {l : List (List S)} {p : S × Nat} (h : p ∈ pairsF lt l) : p.2 = maskF l p.1 := by
 obtain ⟨s, _, rfl⟩ := List.mem_map.1 h; rfl
theorem sub_pairs {lt : S → S → Bool} {l : List (List S)} {C : List S} (h : C.Sublist (namesF lt l)) : (C.map fun s => (s, maskF l s)).Sublist (pairsF lt l) := h.map _
theorem fst_pairs (l : List (List S)) (C : List S) : (C.map fun s => (s, maskF l s)).map (·.1) = C := by rw [List.map_map]; exact List.map_id _
theorem mk_map (l : List (List S)) (C : List S) : mk (C.map fun s => (s, maskF l s)) = C.map (maskF l) := by unfold mk; rw [List.map_map]; rfl
theorem need_any {lt : S → S → Bool} (ho : Ord lt) (l : List (List S)) {C : List S} (h : CovS l (allF l) C) : needF (infF lt l) (pairsF lt l) (allF l) ≤ C.length := by
 have h1 := need_lower (infF lt l) (pairsF lt l) (((namesF lt l).filter fun s => decide (s ∈ C)).map fun s => (s, maskF l s)) (allF l) (sub_pairs List.filter_sublist) (by
  rw [mk_map]
  refine covS_iff.2 fun k hk => ?_
  obtain ⟨s, hs, hb⟩ := covS_iff.1 h k hk
  refine ⟨s, List.mem_filter.2 ⟨(names_mem ho).2 ?_, decide_eq_true hs⟩, hb⟩
  rw [mask_bit, decide_eq_true_eq] at hb
  obtain ⟨a, ha, hsa⟩ := hb
  exact ⟨a, List.mem_of_getElem? ha, hsa⟩)
 rw [List.length_map] at h1
 have h2 := nodup_le ((namesF lt l).filter fun s => decide (s ∈ C)) C ((asc_nodup ho (names_asc ho l)).sublist List.filter_sublist) fun s hs => of_decide_eq_true (List.mem_filter.1 hs).2
 omega
theorem need_lt {lt : S → S → Bool} (ho : Ord lt) {l : List (List S)} (hne : ∀ a ∈ l, a ≠ []) : needF (infF lt l) (pairsF lt l) (allF l) < infF lt l := by
 have := need_any ho l (C := namesF lt l) (hits_cov.1 (hits_iff.2 fun a ha => by
  obtain ⟨s, r, e⟩ := List.exists_cons_of_ne_nil (hne a ha)
  have hs : s ∈ a := by rw [e]; exact List.mem_cons_self
  exact ⟨s, hs, (names_mem ho).2 ⟨a, ha, hs⟩⟩))
 unfold infF at *
 omega
structure IsCore (lt : S → S → Bool) (l : List (List S)) (c : List S) : Prop where
 sub : c.Sublist (namesF lt l)
 hits : hitsF l c = true
 least : ∀ C : List S, hitsF l C = true → c.length ≤ C.length
 first : ∀ C : List S, C.Sublist (namesF lt l) → hitsF l C = true → C.length = c.length → lessL lt C c = false
theorem core_is {lt : S → S → Bool} (ho : Ord lt) {l : List (List S)} (hne : ∀ a ∈ l, a ≠ []) : IsCore lt l (coreF lt l) := by
 have hlt := need_lt ho hne
 obtain ⟨h1, h2⟩ := least_ok (infF lt l) (pairsF lt l) (allF l) hlt
 have hs := least_sub (infF lt l) (pairsF lt l) (allF l)
 have e : mk (leastF (infF lt l) (pairsF lt l) (allF l)) = (coreF lt l).map (maskF l) := mk_pairs l fun p hp => pairs_snd (hs.subset hp)
 have hl : (coreF lt l).length = needF (infF lt l) (pairsF lt l) (allF l) := by unfold coreF; rw [List.length_map, h2]
 refine ⟨?_, hits_cov.2 ?_, fun C hC => ?_, fun C hC h3 h4 => ?_⟩
 ·have := hs.map (·.1)
  rw [show (pairsF lt l).map (·.1) = namesF lt l from fst_pairs l _] at this
  exact this
 ·unfold CovS
  rw [← e]; exact h1
 ·rw [hl]
  exact need_any ho l (hits_cov.1 hC)
 ·have ha : Asc lt (pairsF lt l) := List.pairwise_map.2 (names_asc ho l)
  have := least_first lt ho.irr ho.asym (infF lt l) (pairsF lt l) (C.map fun s => (s, maskF l s)) (allF l) ha hlt (sub_pairs hC) (by rw [mk_map]; exact hits_cov.1 h3) (by rw [List.length_map, h4, hl])
  rw [fst_pairs] at this
  exact this
end Go.Proofs.YtgefjhjmkejjbaaDoor.Co
namespace Go.Proofs.YtgefjhjmkejjbaaDoor.Co
open Go
def ltB (a b : ByteArray) : Bool := Op.bytesLess a.data.toList b.data.toList
theorem bytes_ext {a b : ByteArray} (h : a.data.toList = b.data.toList) : a = b := by
 cases a; cases b
 congr 1
 exact Array.toList_inj.1 h
theorem less_irr : ∀ l : List UInt8, Op.bytesLess l l = false
 | [] => rfl
 | a :: l => by
  show (decide (a < a) || (a == a && Op.bytesLess l l)) = false
  rw [less_irr l, Bool.and_false, Bool.or_false, decide_eq_false_iff_not]
  exact UInt8.lt_irrefl a
theorem less_cons (a b : UInt8) (x y : List UInt8) : Op.bytesLess (a :: x) (b :: y) = (decide (a < b) || (a == b && Op.bytesLess x y)) := rfl
theorem less_nil (x : List UInt8) : Op.bytesLess x [] = false := by cases x <;> rfl
theorem less_trans : ∀ a b c : List UInt8, Op.bytesLess a b = true → Op.bytesLess b c = true → Op.bytesLess a c = true
 | a, [], _, h, _ => by rw [less_nil] at h; cases h
 | _, _ :: _, [], _, h => by rw [less_nil] at h; cases h
 | [], _ :: _, _ :: _, _, _ => rfl
 | a :: x, b :: y, c :: z, h1, h2 => by
  rw [less_cons] at h1 h2 ⊢
  simp only [Bool.or_eq_true, decide_eq_true_eq, Bool.and_eq_true, beq_iff_eq] at h1 h2 ⊢
  rcases h1 with h1 | ⟨rfl, h1⟩
  ·rcases h2 with h2 | ⟨rfl, h2⟩
   ·exact .inl (UInt8.lt_trans h1 h2)
   ·exact .inl h1
  ·rcases h2 with h2 | ⟨rfl, h2⟩
   ·exact .inl h2
   ·exact .inr ⟨rfl, less_trans x y z h1 h2⟩
theorem less_tri' : ∀ a b : List UInt8, Op.bytesLess a b = true ∨ a = b ∨ Op.bytesLess b a = true
 | [], [] => .inr (.inl rfl)
 | [], _ :: _ => .inl rfl
 | _ :: _, [] => .inr (.inr rfl)
 | a :: x, b :: y => by
  rw [less_cons, less_cons]
  simp only [Bool.or_eq_true, decide_eq_true_eq, Bool.and_eq_true, beq_iff_eq]
  by_cases h1 : a < b
  ·exact .inl (.inl h1)
  by_cases h2 : b < a
  ·exact .inr (.inr (.inl h2))
  have e : a = b := UInt8.le_antisymm (UInt8.not_lt.1 h2) (UInt8.not_lt.1 h1)
  subst e
  rcases less_tri' x y with h | rfl | h
  ·exact .inl (.inr ⟨rfl, h⟩)
  ·exact .inr (.inl rfl)
  ·exact .inr (.inr (.inr ⟨rfl, h⟩))
theorem ordB : Ord ltB where
 irr a := less_irr _
 asym a b h := by
  cases q : ltB b a
  ·rfl
  ·have := less_trans _ _ _ h q
   rw [less_irr] at this; cases this
 trans a b c := less_trans _ _ _
 tri a b := by
  rcases less_tri' a.data.toList b.data.toList with h | h | h
  ·exact .inl h
  ·exact .inr (.inl (bytes_ext h))
  ·exact .inr (.inr h)
def sortB (zs : List ByteArray) : List ByteArray := ((zs.map fun b => b.data.toList).mergeSort fun x y => decide (x ≤ y)).map fun l => ⟨⟨l⟩⟩
theorem sortB_len (zs : List ByteArray) : (sortB zs).length = zs.length := by
 unfold sortB
 rw [List.length_map, List.length_mergeSort, List.length_map]
theorem sortB_mem {zs : List ByteArray} {x : ByteArray} : x ∈ sortB zs ↔ x ∈ zs := by
 unfold sortB
 rw [List.mem_map]
 constructor
 ·rintro ⟨l, hl, rfl⟩
  rw [List.mem_mergeSort] at hl
  obtain ⟨b, hb, rfl⟩ := List.mem_map.1 hl
  exact hb
 ·intro h
  exact ⟨x.data.toList, List.mem_mergeSort.2 (List.mem_map.2 ⟨x, h, rfl⟩), rfl⟩
theorem sortB_asc {zs : List ByteArray} (hd : zs.Nodup) : AscL ltB (sortB zs) := by
 have h1 : ((zs.map fun b => b.data.toList).mergeSort fun x y => decide (x ≤ y)).Pairwise fun a b => decide (a ≤ b) = true := List.pairwise_mergeSort (fun a b c h1 h2 => by
  rw [decide_eq_true_eq] at *
  exact List.le_trans h1 h2) (fun a b => by
  rw [Bool.or_eq_true, decide_eq_true_eq, decide_eq_true_eq]
  exact List.le_total a b) _
 have h2 : ((zs.map fun b => b.data.toList).mergeSort fun x y => decide (x ≤ y)).Nodup := by
  refine (List.mergeSort_perm _ _).nodup_iff.2 ?_
  exact List.pairwise_map.2 (hd.imp fun {a b} h e => h (bytes_ext e))
 unfold sortB AscL
 rw [List.pairwise_map]
 refine (h1.and h2).imp fun {a b} h => ?_
 show Op.bytesLess a b = true
 rw [bytesLess_eq, decide_eq_true_eq]
 have := of_decide_eq_true h.1
 rcases less_tri' a b with q | q | q
 ·rw [bytesLess_eq, decide_eq_true_eq] at q; exact q
 ·exact absurd q h.2
 ·rw [bytesLess_eq, decide_eq_true_eq] at q
  exact absurd q (List.not_lt.2 this)
theorem sortB_names {l : List (List ByteArray)} {zs : List ByteArray} (hd : zs.Nodup) (hm : ∀ x, x ∈ zs ↔ ∃ a ∈ l, x ∈ a) : sortB zs = namesF ltB l :=
 asc_ext ordB (sortB_asc hd) (names_asc ordB l) fun x => by rw [sortB_mem, hm, names_mem ordB]
end Go.Proofs.YtgefjhjmkejjbaaDoor.Co
