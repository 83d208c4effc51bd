/-
  A function of the library that works on a row of cells in place, with a function as a further argument (slices.SortFunc). Conditions: the contract holds of the program's function.
-/
import Derived.Test.YtgeebooalafepaaBmSort
namespace Go.Proofs.Ytgeebooalafepaa.Bm
open Go Go.RowKit Go.Sort

/-- What the library's contracts say of such a function; 'k' cells an element. -/
structure CellCon (P : Program) (f q : FuncId) (k : Nat) (F : List Value → Option (List Value)) : Prop where
  row : ∀ (blk off cap n : Nat) (c d : List Value) (w : World), F c = some d → c.length = n * k → Holds id w blk off c.toArray → blk < w.heap.size → 0 < n → n < 4611686018427387904 → n ≤ cap →
    Calls P f #[.slice (some ⟨blk, off, none⟩) n cap, .func (.func q) #[] #[]] w fun e w' => e = .returned (.tuple #[]) ∧ ∃ m os, w' = grow (putRow id (Go.Sort.ahead w m) blk off d.toArray) os
  none : ∀ (p : Option Addr) (cap : Nat) (w : World), Calls P f #[.slice p 0 cap, .func (.func q) #[] #[]] w fun e w' => e = .returned (.tuple #[]) ∧ w' = w
  dfd : ∃ fn, P.funcs[f]? = some fn ∧ fn.body.isSome = true
  len : ∀ c d, F c = some d → d.length = c.length
  atoms : ∀ c d, F c = some d → c.all atom = true ∧ d.all atom = true
  pos : 0 < k

/-- A row's first elements, changed in place. -/
def inCR (k : Nat) (F : List Value → Option (List Value)) (h : Heap) (lo : Nat) (a : Addr) (n : Nat) : Option AObj → Res
  | some (.cells t row g) => (F (row.take (n * k))).bind fun d => if lo ≤ a.block ∧ stampOk a.spot g row.length = true ∧ a.off = 0 ∧ n * k ≤ row.length ∧ n < 4611686018427387904 then
      some (.tuple #[], h.set a.block (.cells t (d ++ row.drop (n * k)) g)) else none
  | _ => none
def inC (q : FuncId) (k : Nat) (F : List Value → Option (List Value)) (args : List Value) (h : Heap) (lo : Nat) : Res :=
  match args with
  | [.slice (some a) n c, .func (.func p) ⟨[]⟩ ⟨[]⟩] => if p = q ∧ n ≤ c then if n = 0 then some (.tuple #[], h) else inCR k F h lo a n h[a.block]? else none
  | [.slice none 0 0, .func (.func p) ⟨[]⟩ ⟨[]⟩] => if p = q then some (.tuple #[], h) else none
  | _ => none

theorem inC_keep {q : FuncId} {k : Nat} {F : List Value → Option (List Value)} {args : List Value} {h h' : Heap} {lo : Nat} {v : Value} (hr : inC q k F args h lo = some (v, h')) : Keep lo h h' := by
  unfold inC at hr
  split at hr
  · split at hr
    · split at hr
      · cases hr; exact .refl _ _
      · unfold inCR at hr
        split at hr
        · rename_i hob
          simp only [Option.bind_eq_some_iff, Option.ite_none_right_eq_some, Option.some.injEq, Prod.mk.injEq] at hr
          obtain ⟨zs, _, ⟨h1, _⟩, _, rfl⟩ := hr
          exact set_keep' hob h1
        · cases hr
    · cases hr
  · split at hr
    · cases hr; exact .refl _ _
    · cases hr
  · cases hr

section
variable {E : Env} {B lo : Nat} {M : Mem} {h h' : Heap} {w : World}

theorem put_eqV {d : Array Value} {blk off : Nat} {cs : Array Value} {ty : TypeId} {fr : Nat × Nat} (hb : w.heap[blk]? = some (.cells cs ty fr)) : putRow id w blk off d = w.setRow blk (putCells id off d cs) := by
  unfold putRow mapBlock World.setRow
  congr 1
  apply Array.ext_getElem?
  intro i
  simp only [Array.getElem?_modify]
  split
  · rename_i e
    subst e
    rw [hb]; rfl
  · rfl
theorem putCells_getV {d : Array Value} {off k : Nat} {c : Array Value} : (putCells id off d c)[k]? = c[k]?.map fun x => if off ≤ k ∧ k < off + d.size then d[k - off]! else x := by
  unfold putCells
  rw [Array.getElem?_mapIdx]
  rfl
theorem arr_get {l : List Value} {j : Nat} (h : j < l.length) : id (l.toArray[j]!) = l[j] := by simp [h]
theorem atom_same {v v' : Value} (ha : atom v = true) (hv : VRel M v v') : v' = v := by
  cases hv with
  | atom _ _ => rfl
  | top _ => simp [atom] at ha
  | skip _ => simp [atom] at ha
  | ptr _ _ _ => simp [atom] at ha
  | slice _ _ _ _ _ _ _ => simp [atom] at ha
  | empty _ _ _ _ _ _ _ => simp [atom] at ha
  | map _ _ _ _ => simp [atom] at ha
  | func _ _ _ _ _ _ _ _ _ => simp [atom] at ha
  | iface _ _ _ _ => simp [atom] at ha
  | agg _ _ _ _ _ => simp [atom] at ha
  | tuple x _ hx _ => simp [atom] at ha
  | tree n x y _ _ => simp [atom] at ha

theorem inC_sound {f q : FuncId} {k : Nat} {F : List Value → Option (List Value)} (hC : CellCon E.P f q k F) {args : List Value} {v : Value} (hr : inC q k F args h lo = some (v, h')) (_hlo : lo ≤ h.length) (args' : Array Value) (hs : HSim E B M h w) (hv : VRels M args args'.toList) :
    Calls E.P f args' w fun e w' => ∃ v', e = .returned v' ∧ Out E B lo M h w v h' v' w' := by
  have nothing : ∀ (r : Option Addr) (cap : Nat), Calls E.P f #[.slice r 0 cap, .func (.func q) #[] #[]] w fun e w' => ∃ v', e = .returned v' ∧ Out E B lo M h w (.tuple #[]) h v' w' := fun r cap =>
    (hC.none r cap w).mono fun e w' he => ⟨_, he.1, by rw [he.2]; exact ⟨M, .top _, hs, .refl hs lo⟩⟩
  have two : ∀ {u : Value} {p : FuncId}, args = [u, .func (.func p) ⟨[]⟩ ⟨[]⟩] → ∃ u', args' = #[u', .func (.func p) #[] #[]] ∧ VRel M u u' := by
    intro u p e
    subst e
    obtain ⟨u', hu, r1⟩ := hv.get (i := 0) (u := u) rfl
    obtain ⟨w', hw, r2⟩ := hv.get (i := 1) (u := .func (.func p) ⟨[]⟩ ⟨[]⟩) rfl
    have hl2 : args'.toList.length = 2 := hv.1.symm
    have : w' = .func (.func p) #[] #[] := by
      obtain ⟨x', y', rfl, hx, hy, _⟩ := r2.funcSome
      rw [Array.eq_empty_of_size_eq_zero hx.symm, Array.eq_empty_of_size_eq_zero hy.symm]
    subst this
    refine ⟨u', ?_, r1⟩
    apply Array.ext'
    match hm : args'.toList, hl2 with
    | [a, b], _ =>
      rw [hm] at hu hw
      cases hu; cases hw; rfl
  unfold inC at hr
  split at hr
  · rename_i a n c p
    obtain ⟨v1, rfl, hrel⟩ := two rfl
    split at hr
    case isFalse => cases hr
    rename_i hpn
    obtain ⟨rfl, hnc⟩ := hpn
    split at hr
    · rename_i h0
      cases hr; subst h0
      rcases hrel.sliceSome with ⟨a', c', rfl, _, _⟩ | ⟨rfl, _, rfl, _⟩
      · exact nothing (some a') c'
      · exact nothing none 0
    · rename_i h0
      unfold inCR at hr
      split at hr
      case h_2 => cases hr
      rename_i t row g hob
      simp only [Option.bind_eq_some_iff, Option.ite_none_right_eq_some, Option.some.injEq, Prod.mk.injEq] at hr
      obtain ⟨d, hd, ⟨h1, hst, hoff0, hn, hbig⟩, rfl, rfl⟩ := hr
      have hpos := hC.pos
      have hnk : 0 < n * k := Nat.mul_pos (Nat.pos_of_ne_zero h0) hpos
      have hcl : (row.take (n * k)).length = n * k := by rw [List.length_take]; omega
      have hdl0 := hC.len _ _ hd
      rw [hcl] at hdl0
      obtain ⟨hat1, hat2⟩ := hC.atoms _ _ hd
      rcases hrel.sliceSome with ⟨a', c', rfl, hlc, hcap⟩ | ⟨_, h0', _⟩
      case inr => exact absurd h0' h0
      obtain ⟨l, hl, hcap⟩ := hcap
      obtain ⟨hg, hlen, hnr, hre⟩ := hs.obj _ l t row g hl hob
      have hreal : l.real := by
        by_cases hr : l.real
        · exact hr
        · have := hnr hr; rw [this] at hn; simp at hn; omega
      obtain ⟨cs, ty, hb, hsz, hoff, hc⟩ := hre hreal
      have ha : a' = ⟨l.blk, l.off, none⟩ ∧ c ≤ c' := by
        unfold stampOk at hst
        split at hst
        · rename_i e
          rw [e] at hcap
          rcases hcap.2.2 with k | k
          · have := hcap.2.1; omega
          · exact ⟨by rw [k, hoff0]; rfl, by have := hcap.2.1; omega⟩
        · rename_i k g0 e
          rw [e] at hcap
          have := hcap.2.2 ((hlen (by omega)).trans (beq_iff_eq.1 hst).symm)
          rcases this.2 with k | k
          · omega
          · exact ⟨by rw [k.1, hoff0]; rfl, this.1⟩
        · cases hst
      obtain ⟨rfl, hcc⟩ := ha
      have hlt := ((hs.dom _ l hl).2 hreal).2
      have hcell : ∀ j (hj : j < n * k), cs[l.off + j]? = some ((row.take (n * k))[j]'(by omega)) := by
        intro j hj
        have hj' : row[j]? = some ((row.take (n * k))[j]'(by omega)) := by
          rw [List.getElem_take]
          exact List.getElem?_eq_getElem (by omega)
        obtain ⟨_, v', q1, q2⟩ := hc j _ hj'
        rw [q1, atom_same (List.all_eq_true.1 hat1 _ (List.getElem_mem _)) q2]
      have hH : Holds id w l.blk l.off (row.take (n * k)).toArray := by
        intro j hj
        have hj : j < n * k := by simpa [hcl] using hj
        refine ⟨?_, ?_⟩
        · have := hcell j hj
          simp only [World.cell?, hb, Option.isSome_none, Bool.false_eq_true, if_false]
          rw [this]
          have hjj : j < (row.take (n * k)).length := by omega
          exact congrArg some (arr_get hjj).symm
        · simp only [World.frozen?, hb]; simp
      have con := hC.row l.blk l.off c' n _ d w hd hcl hH hlt (by omega) hbig (by omega)
      refine con.mono fun e w' he => ⟨_, he.1, ?_⟩
      obtain ⟨m, os, rfl⟩ := he.2
      have p1 : Past w (Go.Sort.ahead w m) := ⟨rfl, rfl, rfl, Nat.le_refl _, fun _ _ => rfl⟩
      have s1 : HSim E B M h (Go.Sort.ahead w m) := hs.past p1 (Ψ := M.phi) (fun _ _ _ k => k) (fun b x v k => hs.phi b x v k) (fun _ _ _ => rfl)
      have v1 : Evo lo M h w M h (Go.Sort.ahead w m) := Evo.past hs p1 (Ψ := M.phi) (fun _ _ _ k => k) (fun _ _ _ => rfl) lo
      have hb1 : (Go.Sort.ahead w m).heap[l.blk]? = some (.cells cs ty (0, 0)) := hb
      rw [put_eqV hb1]
      have hdl : (d ++ row.drop (n * k)).length = row.length := by rw [List.length_append, hdl0, List.length_drop]; omega
      have hput := s1.put (lo := lo) (t := t) (c := row) (d := d ++ row.drop (n * k)) (g := g) (cs := putCells id l.off d.toArray cs) hl hob hreal h1 (by simp [putCells, hsz]) (by rw [hdl]; exact hoff) (.inl hdl) (fun j v hj => by
        by_cases hjn : j < n * k
        · rw [List.getElem?_append_left (by rw [hdl0]; exact hjn), List.getElem?_eq_getElem (by rw [hdl0]; exact hjn)] at hj
          cases hj
          have hda := List.all_eq_true.1 hat2 _ (List.getElem_mem (l := d) (n := j) (by rw [hdl0]; exact hjn))
          refine ⟨atom_one hda, _, ?_, .atom _ hda⟩
          rw [putCells_getV, hcell j hjn]
          have : l.off ≤ l.off + j ∧ l.off + j < l.off + d.toArray.size := ⟨by omega, by simp; omega⟩
          simp only [Option.map_some, this, and_self, if_true]
          simp [hdl0, hjn]
        · rw [List.getElem?_append_right (by omega), hdl0, List.getElem?_drop, show n * k + (j - n * k) = j by omega] at hj
          obtain ⟨q1, v', q2, q3⟩ := hc j v hj
          refine ⟨q1, v', ?_, q3⟩
          rw [putCells_getV, q2]
          have : ¬ (l.off ≤ l.off + j ∧ l.off + j < l.off + d.toArray.size) := by simp; omega
          simp only [Option.map_some, this, if_false])
      have hsame : M.put a.block { l with len := if g = 0 then l.len else (d ++ row.drop (n * k)).length } = M := by
        refine put_same ?_
        rw [hl]
        by_cases h0 : g = 0
        · simp [h0]
        · rw [if_neg h0, hdl, ← hlen h0]
      simp only [hsame] at hput
      obtain ⟨s2, v2⟩ := hput
      have p3 : Past ((Go.Sort.ahead w m).setRow l.blk (putCells id l.off d.toArray cs)) (grow ((Go.Sort.ahead w m).setRow l.blk (putCells id l.off d.toArray cs)) os) :=
        ⟨rfl, rfl, rfl, by simp [grow], fun b hb => by simp only [grow]; rw [Array.getElem?_append_left hb]⟩
      have ph : ∀ b x v, M.phi b x = some v → (grow ((Go.Sort.ahead w m).setRow l.blk (putCells id l.off d.toArray cs)) os).cell? ⟨b, x, none⟩ = some v := fun b x v k => by
        have := s2.phi b x v k
        have hlt := cell_lt this
        simp only [World.cell?] at this ⊢
        rw [p3.block b hlt]; exact this
      have s3 := s2.past p3 (Ψ := M.phi) (fun _ _ _ k => k) ph (fun _ _ _ => rfl)
      have v3 := Evo.past s2 p3 (Ψ := M.phi) (fun _ _ _ k => k) (fun _ _ _ => rfl) lo
      exact ⟨M, .top _, s3, (v1.trans v2).trans v3⟩
  · rename_i p
    obtain ⟨v1, rfl, hrel⟩ := two rfl
    split at hr
    case isFalse => cases hr
    rename_i hp
    subst hp
    cases hr
    obtain ⟨rfl, _, _⟩ := hrel.sliceNone
    exact nothing none 0
  · cases hr
end

end Go.Proofs.Ytgeebooalafepaa.Bm
