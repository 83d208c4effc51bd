/-
  Chapter 36: the loop of Why over the map of what it needs: the keys are collected, in whichever order. Conditions: the state behind what comes ahead of it.
-/
import Derived.Test.YtbadgapficfbpaaBmMix
import Derived.Test.YtbadgapficfbpaaRc
namespace Go.Proofs.Ytbadgapficfbpaa.Bm
open Go Go.RowKit

def ops13 : Array Oper := #[⟨some 55, .load 51 (.tmp 10), 51, "argue.go:179", #[], none⟩, ⟨some 56, .range 51 (.tmp 55), 0, "argue.go:179", #[⟨0, .data⟩], none⟩]
def ops14 : Array Oper := #[⟨some 57, .next (.tmp 56) false, 0, "argue.go:179", #[], none⟩, ⟨some 58, .extract (.tmp 57) 0, 4, "argue.go:179", #[⟨0, .data⟩], none⟩]
def ops15 : Array Oper := #[⟨some 59, .entry (.tmp 56), 0, "argue.go:179", #[], none⟩, ⟨some 60, .extract (.tmp 59) 0, 3, "argue.go:179", #[⟨0, .data⟩], none⟩, ⟨some 13, .assign (.tmp 60), 3, "argue.go:179", #[⟨1, .data⟩, ⟨0, .phase⟩, ⟨1, .phase⟩], none⟩]
def ops16 : Array Oper := #[⟨some 61, .move (.tmp 12), 23, "argue.go:180", #[], none⟩, ⟨some 62, .move (.tmp 13), 3, "argue.go:180", #[], none⟩, ⟨some 63, .buildSlice 23 1 #[(0, .tmp 62)], 23, "argue.go:180", #[⟨1, .data⟩], none⟩,
  ⟨some 64, .call { callee := .builtin .append, args := #[.tmp 61, .tmp 63], argTypes := #[23, 23] }, 23, "argue.go:180", #[⟨0, .data⟩, ⟨2, .data⟩], none⟩,
  ⟨some 12, .assign (.tmp 64), 23, "argue.go:180", #[⟨3, .data⟩, ⟨3, .chain⟩, ⟨0, .phase⟩, ⟨1, .phase⟩, ⟨2, .phase⟩, ⟨3, .phase⟩], none⟩]
def body14 : Code := .seq (.region 14 ops14 false) (.seq (.cond (.tmp 58) .skip (.exit 0)) (.block 1 (.seq (.region 15 ops15 false) (.region 16 ops16 false))))
def loop13 : Code := .seq (.region 13 ops13 false) (.block 0 (.loop body14))

noncomputable def body21 : Code := ((E.P.funcs[21]?).bind (·.body)).getD .skip
noncomputable def tail21 : Code := tailC 12 body21
theorem shape21 : tailC 11 body21 = .seq loop13 tail21 := by kernel_rfl

def σR (x v : Value) : Slots := blk undef undef undef undef undef undef undef undef undef undef undef undef v x undef undef (blk undef undef undef undef undef undef undef undef undef undef undef undef undef undef undef undef (blk undef undef undef undef undef undef undef undef undef undef undef undef undef undef undef undef (blk undef undef undef undef undef undef undef undef undef undef undef undef undef undef undef undef ([undef, undef, undef, undef]))))
def rowL (o : Nat) (l : List Value) : Value := .slice (some ⟨o, 0, some l.length⟩) l.length l.length

def ra16 : List RI := [⟨some 61, none, false, .mv (.tmp 12)⟩, ⟨some 62, none, false, .mv (.tmp 13)⟩, ⟨some 63, none, false, .buildSlice (some ⟨3, 1, 8, Value.int .i64 0, ⟨some false, some 1⟩⟩) true 1 ⟨[(0, .tmp 62)]⟩⟩, ⟨some 64, none, false, .append (some ⟨3, 1, 8, Value.int .i64 0, ⟨some false, some 1⟩⟩) (.tmp 61) (.tmp 63)⟩, ⟨some 12, none, false, .mv (.tmp 64)⟩]
theorem reg16 : (withStrict E false ops16).map (riOf E.P E.live ops16) = ra16 := by kernel_rfl

theorem eval16 {lo o : Nat} {h : Heap} {l : List Int} {z : Int} (hob : h[o]? = some (.cells 3 (l.map (.int .i64)) 1)) (hlo : lo ≤ o) (hb : (l.length + 1) * 8 ≤ 140737488355328) :
    ∃ σ' h', runR E (L E) lo ra16 (σR (.int .i64 z) (rowL o (l.map (.int .i64)))) h = some (σ', h') ∧ h'[o]? = some (.cells 3 ((l ++ [z]).map (.int .i64)) 1) ∧ ∃ a b c d, σ' = blk undef undef undef undef undef undef undef undef undef undef undef undef (rowL o ((l ++ [z]).map (.int .i64))) (.int .i64 z) undef undef (blk undef undef undef undef undef undef undef undef undef undef undef undef undef undef undef undef (blk undef undef undef undef undef undef undef undef undef undef undef undef undef undef undef undef (blk undef undef undef undef undef undef undef undef undef undef undef undef undef a b c ([d, undef, undef, undef])))) := by
  have ho : o < h.length := (List.getElem?_eq_some_iff.1 hob).1
  unfold ra16 σR rowL
  have e1 : (h ++ [AObj.cells 3 [Value.int .i64 z] 1])[o]? = some (.cells 3 (l.map (.int .i64)) 1) := by rw [List.getElem?_append_left ho]; exact hob
  simp -implicitDefEqProofs [e1, build_one', Value.cells, appS_grown, hb, hlo, ho]
  refine ⟨_, _, ⟨rfl, rfl⟩, ?_, _, _, _, _, rfl⟩
  rw [List.getElem?_append_left (by simpa using ho), List.getElem?_set_self ho]

section
variable {B o it rm ck : Nat} {lm : Loc} {es : List MapEntry} {es' : Array MapEntry} {M₀ : Mem} {h₀ : Heap} {w₀ : World}

/-- What holds in the loop: 'ps' are the entries that were there, 'zs' their keys. -/
structure LInv (B o it rm ck : Nat) (lm : Loc) (es : List MapEntry) (es' : Array MapEntry) (M₀ : Mem) (h₀ : Heap) (w₀ : World) (ps : List MapEntry) (zs : List Int) (M : Mem) (h : Heap) (a : Act) (w : World) : Prop where
  defers : a.defers = []
  srel : SRel M (σR undef (rowL o (zs.map (.int .i64)))) a.tmps
  itr : a.tmps[56]? = some (.pointer (some ⟨it, 0, none⟩))
  sim : HSim E B M h w
  evo : Evo o M₀ h₀ w₀ M h w
  off : Off it M h
  fresh : w₀.heap.size ≤ it
  lt : it < w.heap.size
  iter : w.heap[it]? = some (.mapIter (some lm.blk) ck (ps.map (·.born)).toArray ck)
  mp : w.heap[lm.blk]? = some (.map es' ck)
  low : rm < o
  obj : M.obj rm = some lm
  hm : h[rm]? = some (.map es ck)
  row : h[o]? = some (.cells 3 (zs.map (.int .i64)) 1)
  keys : ps.map (·.key) = zs.map (.int .i64)
  nd : (ps.map (·.born)).Nodup
  sub : ∀ e ∈ ps, e ∈ es'.toList

structure MapOk (es' : Array MapEntry) (ck : Nat) : Prop where
  born : ∀ x ∈ es'.toList, x.born < ck
  nd : (es'.toList.map (·.born)).Nodup
  int : ∀ x ∈ es'.toList, ∃ z, x.key = .int .i64 z
  len : (es'.size + 1) * 8 ≤ 140737488355328

theorem put_get {a : Act} {d : Nat} {v : Value} (h : d < a.tmps.size) : (a.put (some d) v).eval (.tmp d) = v := by
  simp [Act.put, Act.eval, h]
theorem put_ne {a : Act} {d x : Nat} {v : Value} (h : d ≠ x) : (a.put (some d) v).tmps[x]? = a.tmps[x]? := by
  simp [Act.put, Array.getElem?_setIfInBounds_ne h]
theorem put_size {a : Act} {d : Nat} {v : Value} : (a.put (some d) v).tmps.size = a.tmps.size := by simp [Act.put]
theorem eval_tmp {a : Act} {d : Nat} {v : Value} (h : a.tmps[d]? = some v) : a.eval (.tmp d) = v := by
  simp [Act.eval, Array.getD_eq_getD_getElem?, h]
theorem wpOp_go {P : Program} {ops : Array Oper} {Q : Exit → Act → World → Prop} {i : Nat} {rest : List Nat} {a : Act} {w : World} {o : Oper} (ho : ops[i]? = some o) (hg : o.guard = none) (h : o.wp P a w (wpOps P ops Q rest) Q) :
    wpOps P ops Q (i :: rest) a w := by
  rw [wpOps_cons]
  unfold wpOp
  rw [ho]
  simp only
  rw [if_pos (by unfold Region.wanted; rw [hg])]
  exact .inl h

theorem size_of_srel {M : Mem} {x v : Value} {a : Act} (h : SRel M (σR x v) a.tmps) : a.tmps.size = 68 := h.1.symm
theorem SRel.und {M : Mem} {x v : Value} {a : Act} (h : SRel M (σR x v) a.tmps) {d : Nat} (hd : (σR x v).set d undef = σR x v) (u : Value) : SRel M (σR x v) (a.put (some d) u).tmps := by
  have := h.put (some d) (v := undef) (v' := u) (.top _)
  unfold putA at this
  simp only at this
  rw [hd] at this
  exact this

theorem extract_op {a : Act} {w : World} {d x : Nat} {ty : TypeId} {pos : String} {af : Array _} {vs : Array Value} {v : Value} {i : Nat} {next : Act → World → Prop} {Q : Exit → Act → World → Prop}
    (hx : a.eval (.tmp x) = .tuple vs) (hv : vs[i]? = some v) (hn : next (a.put (some d) v) w) : (⟨some d, .extract (.tmp x) i, ty, pos, af, none⟩ : Oper).wp E.P a w next Q := by
  refine plain_upon (s := Instr.extract (a.eval (.tmp x)) i) (v' := v) (w' := w) rfl ?_ hn
  simp [Instr.extract, hx, hv]

theorem LInv.put {ps : List MapEntry} {zs : List Int} {M : Mem} {h : Heap} {a : Act} {w : World} (J : LInv B o it rm ck lm es es' M₀ h₀ w₀ ps zs M h a w) {d : Nat} (u : Value) (hd : ∀ v, (σR undef v).set d undef = σR undef v) (hne : d ≠ 56) :
    LInv B o it rm ck lm es es' M₀ h₀ w₀ ps zs M h (a.put (some d) u) w :=
  { J with defers := by rw [Act.put_defers']; exact J.defers, srel := J.srel.und (hd _) u, itr := by rw [put_ne hne]; exact J.itr }

theorem nodup_of_map {α β : Type} {f : α → β} {l : List α} (h : (l.map f).Nodup) : l.Nodup :=
  List.Pairwise.of_map (S := (· ≠ ·)) f (fun a b hab e => hab (by rw [e])) h
theorem born_eq (k : MapOk es' ck) {e e' : MapEntry} (h : e ∈ es'.toList) (h' : e' ∈ es'.toList) (hb : e.born = e'.born) : e = e' := by
  have key : ∀ l : List MapEntry, (l.map (·.born)).Nodup → e ∈ l → e' ∈ l → e = e' := by
    intro l
    induction l with
    | nil => intro _ h; cases h
    | cons x l ih =>
      intro hn h h'
      rw [List.map_cons, List.nodup_cons] at hn
      rcases List.mem_cons.1 h with h1 | h1 <;> rcases List.mem_cons.1 h' with h2 | h2
      · rw [h1, h2]
      · exact absurd (by rw [← h1, hb]; exact List.mem_map_of_mem h2) hn.1
      · exact absurd (by rw [← h2, ← hb]; exact List.mem_map_of_mem h1) hn.1
      · exact ih hn.2 h1 h2
  exact key _ k.nd h h'
theorem LInv.len {ps : List MapEntry} {zs : List Int} {M : Mem} {h : Heap} {a : Act} {w : World} (J : LInv B o it rm ck lm es es' M₀ h₀ w₀ ps zs M h a w) : zs.length ≤ es'.size := by
  have := List.Nodup.length_le_of_subset (l₂ := es'.toList.map (·.born)) J.nd (fun x hx => by
    obtain ⟨e, he, rfl⟩ := List.mem_map.1 hx
    exact List.mem_map_of_mem (J.sub e he))
  have e := congrArg List.length J.keys
  simp at this e
  omega

theorem round_wp (hP : GoodP E.P) (hC : CSound E (L E)) (k : MapOk es' ck) {ps : List MapEntry} {zs : List Int} {M : Mem} {h : Heap} {a : Act} {w : World} {Q : Exit → Act → World → Prop} (J : LInv B o it rm ck lm es es' M₀ h₀ w₀ ps zs M h a w)
    (hdone : ∀ M h a w, LInv B o it rm ck lm es es' M₀ h₀ w₀ ps zs M h a w → (∀ e ∈ es'.toList, e ∈ ps) → Q (.exit 0) a w)
    (hmore : ∀ M h a w e z, LInv B o it rm ck lm es es' M₀ h₀ w₀ (ps ++ [e]) (zs ++ [z]) M h a w → Q .normal a w) : body14.wp E.P Q a w := by
  have hsz := size_of_srel J.srel
  have hev := eval_tmp J.itr
  refine wp_seq (wp_region ?_)
  show wpOps E.P ops14 _ [0, 1] a w
  refine wpOp_go (o := ⟨some 57, .next (.tmp 56) false, 0, "argue.go:179", #[], none⟩) rfl rfl ?_
  rcases run_next_at (P := E.P) w 0 it lm.blk ck ck _ es' ck J.iter J.mp k.born (Nat.le_refl _) with ⟨h0, hrun⟩ | ⟨e, he, w1, hw1, hrun⟩
  · refine plain_upon (s := Instr.next (a.eval (.tmp 56)) false 0) (v' := .tuple #[.bool false]) (w' := w) rfl (by rw [hev]; exact hrun) ?_
    refine wpOp_go (o := ⟨some 58, .extract (.tmp 57) 0, 4, "argue.go:179", #[⟨0, .data⟩], none⟩) rfl rfl ?_
    refine extract_op (vs := #[.bool false]) (v := .bool false) (put_get (by omega)) rfl ?_
    refine wp_seq (wp_cond_false (put_get (by rw [put_size]; omega)) (wp_exit ?_))
    refine hdone M h _ w ((J.put _ (fun _ => rfl) (by decide)).put _ (fun _ => rfl) (by decide)) fun e he => ?_
    have h1 : leftOf es' (ps.map (·.born)).toArray = #[] := Array.eq_empty_of_size_eq_zero h0
    unfold leftOf at h1
    rw [Array.filter_eq_empty_iff] at h1
    have h2 := h1 e (Array.mem_toList_iff.1 he)
    simp at h2
    obtain ⟨e', he', hb⟩ := h2
    exact born_eq k (J.sub e' he') he hb ▸ he'
  · have heM : e ∈ es'.toList ∧ e.born ∉ ps.map (·.born) := by
      unfold leftOf at he
      simp at he
      exact ⟨by simpa using he.1, by simpa using he.2⟩
    obtain ⟨z, hz⟩ := k.int e heM.1
    have hr1 : w1.heap[it]? = some (.mapIter (some lm.blk) ck (ps.map (·.born)).toArray ck) := by rcases hw1 with rfl | rfl <;> exact J.iter
    have hbut : But it w (Go.ChangeMaps.setBlock w1 it (.mapIter (some lm.blk) ck ((ps.map (·.born)).toArray.push e.born) ck)) := by
      refine But.trans ?_ (.set hr1)
      rcases hw1 with rfl | rfl
      · exact .refl _ _
      · exact .drew _ _
    have hit2 : (Go.ChangeMaps.setBlock w1 it (.mapIter (some lm.blk) ck ((ps.map (·.born)).toArray.push e.born) ck)).heap[it]? = some (.mapIter (some lm.blk) ck ((ps.map (·.born)).toArray.push e.born) ck) := by
      have : it < w1.heap.size := (Array.getElem?_eq_some_iff.1 hr1).1
      simp [Go.ChangeMaps.setBlock, this]
    generalize hw2 : Go.ChangeMaps.setBlock w1 it (.mapIter (some lm.blk) ck ((ps.map (·.born)).toArray.push e.born) ck) = w2 at hrun hbut hit2
    have hne : lm.blk ≠ it := J.off.obj rm lm J.obj ⟨_, J.hm, by simp⟩ (.inl (J.sim.mp _ _ _ _ J.obj J.hm).1)
    have hmp2 : w2.heap[lm.blk]? = some (.map es' ck) := by rw [hbut.block _ hne]; exact J.mp
    refine plain_upon (s := Instr.next (a.eval (.tmp 56)) false 0) (v' := .tuple #[.bool true, e.key, e.val]) (w' := w2) rfl (by rw [hev]; exact hrun) ?_
    refine wpOp_go (o := ⟨some 58, .extract (.tmp 57) 0, 4, "argue.go:179", #[⟨0, .data⟩], none⟩) rfl rfl ?_
    refine extract_op (vs := #[.bool true, e.key, e.val]) (v := .bool true) (put_get (by omega)) rfl ?_
    refine wp_seq (wp_cond_true (put_get (by rw [put_size]; omega)) (wp_skip ?_))
    have s1 := (J.srel.und (d := 57) rfl (.tuple #[.bool true, e.key, e.val])).und (d := 58) rfl (.bool true)
    have t1 : ((a.put (some 57) (.tuple #[.bool true, e.key, e.val])).put (some 58) (.bool true)).tmps[56]? = some (.pointer (some ⟨it, 0, none⟩)) := by rw [put_ne (by decide), put_ne (by decide)]; exact J.itr
    have d1 : ((a.put (some 57) (.tuple #[.bool true, e.key, e.val])).put (some 58) (.bool true)).defers = [] := by rw [Act.put_defers', Act.put_defers']; exact J.defers
    generalize (a.put (some 57) (.tuple #[.bool true, e.key, e.val])).put (some 58) (.bool true) = a1 at s1 t1 d1
    have hsz1 := size_of_srel s1
    show (Code.block 1 _).wp _ _ _ _
    refine wp_block (wp_seq (wp_region ?_))
    show wpOps E.P ops15 _ [0, 1, 2] a1 w2
    refine wpOp_go (o := ⟨some 59, .entry (.tmp 56), 0, "argue.go:179", #[], none⟩) rfl rfl ?_
    refine plain_upon (s := Instr.entry (a1.eval (.tmp 56))) (v' := .tuple #[e.key, e.val]) (w' := w2) rfl (by rw [eval_tmp t1]; exact run_entry_at w2 it lm.blk ck _ es' ck e hit2 hmp2 heM.1 k.nd) ?_
    refine wpOp_go (o := ⟨some 60, .extract (.tmp 59) 0, 3, "argue.go:179", #[⟨0, .data⟩], none⟩) rfl rfl ?_
    refine extract_op (vs := #[e.key, e.val]) (v := e.key) (put_get (by omega)) rfl ?_
    refine wpOp_go (o := ⟨some 13, .assign (.tmp 60), 3, "argue.go:179", #[⟨1, .data⟩, ⟨0, .phase⟩, ⟨1, .phase⟩], none⟩) rfl rfl ?_
    have s2 := (s1.und (d := 59) rfl (.tuple #[e.key, e.val])).und (d := 60) rfl e.key
    have t2 : ((a1.put (some 59) (.tuple #[e.key, e.val])).put (some 60) e.key).tmps[56]? = some (.pointer (some ⟨it, 0, none⟩)) := by rw [put_ne (by decide), put_ne (by decide)]; exact t1
    have d2 : ((a1.put (some 59) (.tuple #[e.key, e.val])).put (some 60) e.key).defers = [] := by rw [Act.put_defers', Act.put_defers']; exact d1
    have g2 : ((a1.put (some 59) (.tuple #[e.key, e.val])).put (some 60) e.key).eval (.tmp 60) = e.key := put_get (by rw [put_size]; omega)
    generalize (a1.put (some 59) (.tuple #[e.key, e.val])).put (some 60) e.key = a2 at s2 t2 d2 g2
    refine plain_upon (s := pure (a2.eval (.tmp 60))) (v' := e.key) (w' := w2) (by simp [execOp]) (by rw [g2]; simp) ?_
    have s3 : SRel M (σR (.int .i64 z) (rowL o (zs.map (.int .i64)))) (a2.put (some 13) e.key).tmps := by
      rw [hz]; exact s2.put (some 13) (v := .int .i64 z) (v' := .int .i64 z) (.atom _ rfl)
    have t3 : (a2.put (some 13) e.key).tmps[56]? = some (.pointer (some ⟨it, 0, none⟩)) := by rw [put_ne (by decide)]; exact t2
    have d3 : (a2.put (some 13) e.key).defers = [] := by rw [Act.put_defers']; exact d2
    generalize a2.put (some 13) e.key = a3 at s3 t3 d3
    have sim2 := J.sim.aside hbut J.off
    have evo2 := J.evo.aside hbut J.fresh
    have hlen := J.len
    have hklen := k.len
    obtain ⟨σ', h', hrun16, hrow, x1, x2, x3, x4, hσ⟩ := eval16 (lo := o) (z := z) J.row (Nat.le_refl _) (by omega)
    have hoh : o ≤ h.length := Nat.le_of_lt (List.getElem?_eq_some_iff.1 J.row).1
    show (Code.region 16 ops16 false).wp _ _ _ _
    refine region_keep hP hC (lo := o) (I := fun a => a.tmps[56]? = some (.pointer (some ⟨it, 0, none⟩))) ?_ (by rw [reg16]; exact hrun16) hoh s3 d3 sim2 t3 fun a' w' haft hi => ?_
    · intro op hop a v ha
      simp only [ops16, List.mem_toArray, List.mem_cons, List.not_mem_nil, or_false] at hop
      rcases hop with rfl | rfl | rfl | rfl | rfl <;> (rw [put_ne (by decide)]; exact ha)
    · obtain ⟨hd', M', r1, r2, r3⟩ := haft
      have hlt2 : it < w2.heap.size := by rw [hbut.size]; exact J.lt
      obtain ⟨off', blk'⟩ := J.off.evo r3 hlt2 sim2
      obtain ⟨m1, m2, m3⟩ := map_block sim2 r3 J.low J.obj J.hm
      show Q .normal a' w'
      refine hmore M' h' a' w' e z ⟨hd', ?_, hi, r2, evo2.trans r3, off', J.fresh, Nat.lt_of_lt_of_le hlt2 r3.size, ?_, by rw [m1]; exact hmp2, J.low, m2, m3, hrow, ?_, ?_, ?_⟩
      · subst hσ
        exact ((((r1.set 13 (v := undef) fun _ _ => .top _).set 61 (v := undef) fun _ _ => .top _).set 62 (v := undef) fun _ _ => .top _).set 63 (v := undef) fun _ _ => .top _).set 64 (v := undef) fun _ _ => .top _
      · rw [blk', hit2]
        simp
      · simp [J.keys, hz]
      · rw [List.map_append, List.nodup_append]
        refine ⟨J.nd, by simp, ?_⟩
        intro x hx y hy
        simp at hy
        subst hy
        exact fun e' => heM.2 (e' ▸ hx)
      · intro x hx
        rcases List.mem_append.1 hx with hx | hx
        · exact J.sub x hx
        · rw [List.mem_singleton.1 hx]; exact heM.1

theorem loop_wp (hP : GoodP E.P) (hC : CSound E (L E)) (k : MapOk es' ck) {M : Mem} {h : Heap} {a : Act} {w : World} {Q : Exit → Act → World → Prop} (J : LInv B o it rm ck lm es es' M₀ h₀ w₀ [] [] M h a w)
    (hdone : ∀ M h a w ps zs, LInv B o it rm ck lm es es' M₀ h₀ w₀ ps zs M h a w → (∀ e ∈ es'.toList, e ∈ ps) → Q .normal a w) : (Code.block 0 (.loop body14)).wp E.P Q a w := by
  refine wp_block (wp_loop_rounds (es'.size + 1) ?_)
  have key : ∀ n ps zs M h a w, LInv B o it rm ck lm es es' M₀ h₀ w₀ ps zs M h a w → es'.size + 1 ≤ ps.length + n → Code.rounds E.P body14 (Exit.inBlock 0 Q) n a w := by
    intro n
    induction n with
    | zero =>
      intro ps zs M h a w J hn
      have := J.len
      have e := congrArg List.length J.keys
      simp at e
      omega
    | succ n ih =>
      intro ps zs M h a w J hn
      rw [rounds_succ]
      refine round_wp hP hC k J (fun M h a w J hc => ?_) fun M h a w e z J => ?_
      · exact hdone M h a w ps zs J hc
      · exact ih _ _ M h a w J (by simp; omega)
  exact key _ _ _ _ _ _ _ J (by simp)

def σP (p v : Value) : Slots := blk undef undef undef undef undef undef undef undef undef undef p undef v undef undef undef (blk undef undef undef undef undef undef undef undef undef undef undef undef undef undef undef undef (blk undef undef undef undef undef undef undef undef undef undef undef undef undef undef undef undef (blk undef undef undef undef undef undef undef undef undef undef undef undef undef undef undef undef ([undef, undef, undef, undef]))))
theorem op13 : ropOf E.P E.live (.load 51 (.tmp 10)) = .load ⟨some false, some 1⟩ (.tmp 10) := by kernel_rfl
theorem u51 : E.P.underlying 51 = some (.map 3 4) := by kernel_rfl

theorem range_wp (hP : GoodP E.P) (hC : CSound E (L E)) {c : Nat} {zs : List (Int × Value)} {M : Mem} {h : Heap} {a : Act} {w : World} {Q : Exit → Act → World → Prop} (hd : a.defers = []) (hσ : SRel M (σP (.pointer (some ⟨c, 0, none⟩)) (rowL o [])) a.tmps) (hs : HSim E B M h w)
    (hc : h[c]? = some (.cells 51 [.map (some rm)] 0)) (hm : h[rm]? = some (mapB (Value.int .i64) zs)) (hr : h[o]? = some (.cells 3 [] 1)) (hlo : rm < o) (hl : (zs.length + 1) * 8 ≤ 140737488355328)
    (hQ : ∀ (M' : Mem) (h' : Heap) (a' : Act) (w' : World) (ys : List Int), a'.defers = [] → SRel M' (σR undef (rowL o (ys.map (.int .i64)))) a'.tmps → HSim E B M' h' w' → Evo o M h w M' h' w' → h'[o]? = some (.cells 3 (ys.map (.int .i64)) 1) → ys.Perm (zs.map (·.1)) → Q .normal a' w') :
    loop13.wp E.P Q a w := by
  have hsz : a.tmps.size = 68 := hσ.1.symm
  have hlen : o < h.length := (List.getElem?_eq_some_iff.1 hr).1
  refine wp_seq (wp_region ?_)
  show wpOps E.P ops13 _ [0, 1] a w
  refine wpOp_go (o := ⟨some 55, .load 51 (.tmp 10), 51, "argue.go:179", #[], none⟩) rfl rfl ?_
  have e1 : aop E (L E) o false (.load 51 (.tmp 10)) (evalA E (σP (.pointer (some ⟨c, 0, none⟩)) (rowL o []))) h = some (.map (some rm), h) := by
    rw [rop_eq, op13]
    simp -implicitDefEqProofs [σP, ropR, hc]
  refine aop_sound hP hC hs (Nat.le_of_lt hlen) e1 (fun x _ => eval_rel hs.glob hσ x) (evalA_func E _) fun v' w1 ho => ?_
  obtain ⟨M1, q1, q2, q3⟩ := ho.weaken (lo' := o) (by unfold loOf; split <;> omega)
  obtain ⟨lm, hlm, hg, rfl⟩ := q1.mapSome
  have s1 : SRel M1 (σR undef (rowL o [])) (a.put (some 55) (.map (some lm.blk))).tmps := ((hσ.mono q3.le).put (some 55) (v := undef) (.top _)).set 10 (v := undef) fun _ _ => .top _
  obtain ⟨_, es', hb, hes, hent⟩ := q2.mp rm lm _ _ hlm hm
  refine wpOp_go (o := ⟨some 56, .range 51 (.tmp 55), 0, "argue.go:179", #[⟨0, .data⟩], none⟩) rfl rfl ?_
  refine plain_upon (s := Instr.range 51 ((a.put (some 55) (.map (some lm.blk))).eval (.tmp 55))) (v' := .pointer (some ⟨w1.heap.size, 0, none⟩)) (w' := w1.alloc (.mapIter (some lm.blk) zs.length #[] zs.length)) rfl
    (by rw [put_get (by omega)]; exact run_range_map w1 51 3 4 lm.blk es' _ u51 hb) ?_
  show (Code.block 0 (.loop body14)).wp _ _ _ _
  have past : Past w1 (w1.alloc (.mapIter (some lm.blk) zs.length #[] zs.length)) := ⟨rfl, rfl, rfl, (by show w1.heap.size ≤ (w1.heap.push _).size; simp), fun b hb => by
    show (w1.heap.push _)[b]? = _
    rw [Array.getElem?_push_lt hb, Array.getElem?_eq_getElem hb]⟩
  have sim2 := q2.past past (Ψ := M1.phi) (fun _ _ _ k => k) (fun b x v hv => by
    rw [← q2.phi b x v hv]
    exact World.cell?_of_block (past.block b (cell_lt (q2.phi b x v hv)))) (fun _ _ _ => rfl)
  have evo2 := Evo.past q2 past (Ψ := M1.phi) (fun _ _ _ k => k) (fun _ _ _ => rfl) o
  have hsize : es'.size = zs.length := by rw [hes, ents_len]
  have hget : ∀ i (hi : i < zs.length), ∃ e', es'[i]? = some e' ∧ e'.key = .int .i64 zs[i].1 ∧ e'.born = i := fun i hi => by
    obtain ⟨e', h1, h2, _, h3⟩ := hent i ⟨.int .i64 zs[i].1, zs[i].2, i⟩ (by
      have : ∀ (l : List (Int × Value)) (j i : Nat) (hi : i < l.length), (ents (Value.int .i64) l j)[i]? = some ⟨.int .i64 l[i].1, l[i].2, j + i⟩ := by
        intro l
        induction l with
        | nil => intro j i hi; simp at hi
        | cons p l ih =>
          intro j i hi
          cases i with
          | zero => rfl
          | succ i =>
            show (ents (Value.int .i64) l (j + 1))[i]? = _
            rw [ih (j + 1) i (by simpa using hi), show j + 1 + i = j + (i + 1) by omega]
            rfl
      rw [this zs 0 i hi, Nat.zero_add])
    exact ⟨e', h1, h2.2, h3⟩
  have hborn : es'.toList.map (·.born) = List.range zs.length := by
    refine List.ext_getElem? fun i => ?_
    by_cases hi : i < zs.length
    · obtain ⟨e', h1, _, h3⟩ := hget i hi
      rw [List.getElem?_map, Array.getElem?_toList, h1]
      simp [h3, hi]
    · rw [List.getElem?_eq_none (by simp; omega), List.getElem?_eq_none (by simp; omega)]
  have hkey : es'.toList.map (·.key) = zs.map fun p => Value.int .i64 p.1 := by
    refine List.ext_getElem? fun i => ?_
    by_cases hi : i < zs.length
    · obtain ⟨e', h1, h2, _⟩ := hget i hi
      rw [List.getElem?_map, Array.getElem?_toList, h1]
      simp [h2, hi]
    · rw [List.getElem?_eq_none (by simp; omega), List.getElem?_eq_none (by simp; omega)]
  have ok : MapOk es' zs.length := by
    refine ⟨fun x hx => ?_, by rw [hborn]; exact List.nodup_range, fun x hx => ?_, by rw [hsize]; exact hl⟩
    · have : x.born ∈ es'.toList.map (·.born) := List.mem_map_of_mem hx
      rw [hborn] at this
      exact List.mem_range.1 this
    · have : x.key ∈ es'.toList.map (·.key) := List.mem_map_of_mem hx
      rw [hkey] at this
      obtain ⟨p, _, hp⟩ := List.mem_map.1 this
      exact ⟨p.1, hp.symm⟩
  have hlmlt : lm.blk < w1.heap.size := ((q2.dom rm lm hlm).2 (.inl hg)).2
  refine loop_wp (B := B) (o := o) (it := w1.heap.size) (rm := rm) (ck := zs.length) (lm := lm) (es := ents (Value.int .i64) zs 0) (M₀ := M) (h₀ := h) (w₀ := w) hP hC ok (M := M1) (h := h) (a := _) (w := _) ⟨?_, ?_, ?_, sim2, q3.trans evo2, ⟨?_, ?_⟩, q3.size, (by show w1.heap.size < (w1.heap.push _).size; simp), heap_alloc_new _ _, ?_, hlo, hlm, hm, hr, rfl, by simp, fun e he => by cases he⟩ fun M' h' a' w' ps ys J hcov => ?_
  · rw [Act.put_defers', Act.put_defers']; exact hd
  · exact s1.und rfl _
  · simp [Act.put, hsz]
  · intro o' l' hl' _ hr' e
    have := ((q2.dom o' l' hl').2 hr').2
    omega
  · intro x
    cases hx : M1.phi w1.heap.size x with
    | none => rfl
    | some v => exact absurd (cell_lt (q2.phi _ _ _ hx)) (by omega)
  · rw [past.block _ hlmlt]; exact hb
  · have hps : ps.Perm es'.toList := (List.perm_ext_iff_of_nodup (nodup_of_map J.nd) (nodup_of_map ok.nd)).2 fun e => ⟨J.sub e, hcov e⟩
    have hk := hps.map (·.key)
    rw [J.keys, hkey] at hk
    have := hk.map (fun v => match v with | .int _ z => z | _ => 0)
    rw [List.map_map, List.map_map] at this
    refine hQ M' h' a' w' ys J.defers J.srel J.sim J.evo J.row ?_
    have e1 : ys.map ((fun v : Value => match v with | .int _ z => z | _ => 0) ∘ Value.int .i64) = ys := by
      rw [show ((fun v : Value => match v with | .int _ z => z | _ => 0) ∘ Value.int .i64) = id from rfl, List.map_id]
    rw [e1] at this
    exact this
end
end Go.Proofs.Ytbadgapficfbpaa.Bm
