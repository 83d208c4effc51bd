/-
 The sort of the library at lists of integers, laid at this program's numbers by the kit's shelf. Conditions: none.
-/
import Derived.Test.YtbadgapficfbpaaQT20
import Derived.Test.YtbadgapficfbpaaQT17
import Derived.Test.YtbadgapficfbpaaQT16
import Derived.Test.YtbadgapficfbpaaChecked
import Derived.Shelf.Sort.Plain
import Derived.Shelf.Slices.In.SortNone
namespace Go.Proofs.Ytbadgapficfbpaa.Bm
open Go Go.RowKit
def headC : Nat → Code → Code
 | 0, _ => .skip
 | n + 1, .seq a b => .seq a (headC n b)
 | _ + 1, _ => .skip
def tailC : Nat → Code → Code
 | 0, c => c
 | n + 1, .seq _ b => tailC n b
 | _, c => c
section
variable {E : Env} {B lo : Nat}
theorem L_keep (hO : OrcKeep E) : KeepC (L E) := fun f args h lo v h' hr => by
 obtain ⟨n, hn⟩ := L_some.1 hr
 exact evF_keep hO n _ _ _ _ _ _ hn
theorem LL_sound {c : Code} {b : Body} (hb : BSound E B lo c b) (k : List Nat × List Nat) : BSound E B lo (.loop c) (LL k b) := fun σ h e σ' h' hr => by
 obtain ⟨n, hn⟩ := LL_some.1 hr
 exact loop_sound hb k n _ _ _ _ _ hn
theorem LL_keep {k : List Nat × List Nat} {b : Body} (hb : KeepB lo b) : KeepB lo (LL k b) := fun σ h e σ' h' hl hr => by
 obtain ⟨n, hn⟩ := LL_some.1 hr
 exact evLoop_keep k b hb n _ _ _ _ _ hl hn
theorem code_sound (hP : OkProg E.P) (hO : OrcSound E) {f : FuncId} {c : Code} (hc : okCode c = true) : BSound E B lo c (evG E f (L E) LL lo c) :=
 evG_sound hP.mixed hP.good (L_sound hP hO) (L_keep hO.keep) (fun _ _ k hb => LL_sound hb k) (fun _ _ hb => LL_keep hb) c hc
theorem head_sound (hP : OkProg E.P) (hO : OrcSound E) {f : FuncId} {Q : Exit → Act → World → Prop} : ∀ (n : Nat) (c : Code), okCode (headC n c) = true → ∀ σ h e σ' h', evG E f (L E) LL lo (headC n c) σ h = some (e, σ', h') → lo ≤ h.length →
  ∀ M w (a : Act), SRel M σ a.tmps → a.defers = [] → HSim E B M h w → (∀ a' w', Aft E B lo M h w σ' h' a' w' → Exit.then ((tailC n c).wp E.P Q) Q e a' w') → c.wp E.P Q a w := by
 intro n
 induction n with
 | zero =>
  intro c _ σ h e σ' h' hr hlo M w a hσ hd hs hQ
  simp only [headC, evG, Option.some.injEq, Prod.mk.injEq] at hr
  obtain ⟨rfl, rfl, rfl⟩ := hr
  exact hQ a w ⟨hd, M, hσ, hs, Evo.refl hs lo⟩
 | succ n ih =>
  intro c
  cases c with
  | seq x y =>
   intro hok σ h e σ' h' hr hlo M w a hσ hd hs hQ
   simp only [headC, okCode, Bool.and_eq_true] at hok
   simp only [headC, evG, Option.bind_eq_some_iff] at hr
   obtain ⟨⟨e1, σ1, h1⟩, hx, hr⟩ := hr
   refine wp_seq (code_sound hP hO hok.1 _ _ _ _ _ hx hlo M w a hσ hd hs _ fun a' w' haft => ?_)
   obtain ⟨hd', M₁, q1, q2, q3⟩ := haft
   cases e1 <;> simp only [Option.some.injEq, Prod.mk.injEq] at hr
   case normal => exact ih y hok.2 _ _ _ _ _ hr (Nat.le_trans hlo q3.len) M₁ w' a' q1 hd' q2 fun a'' w'' haft => hQ a'' w'' (haft.trans q3)
   all_goals
    obtain ⟨rfl, rfl, rfl⟩ := hr
    exact hQ a' w' ⟨hd', M₁, q1, q2, q3⟩
  | _ =>
   intro _ σ h e σ' h' hr hlo M w a hσ hd hs hQ
   simp only [headC, evG, Option.some.injEq, Prod.mk.injEq] at hr
   obtain ⟨rfl, rfl, rfl⟩ := hr
   exact hQ a w ⟨hd, M, hσ, hs, Evo.refl hs lo⟩
theorem calls_tree {M : Mem} {h : Heap} {w : World} {f : FuncId} {args' : Array Value} {r : Value} (hs : HSim E B M h w)
  (hc : Calls E.P f args' w fun e w' => ∃ v', e = .returned v' ∧ ∃ v h'', Out E w.heap.size 0 ⟨fun _ => none, M.phi⟩ [] w v h'' v' w' ∧ reify E.P depth h'' v = some r) :
  Calls E.P f args' w fun e w' => ∃ v', e = .returned v' ∧ Out E B lo M h w r h v' w' := by
 refine hc.mono ?_
 rintro e w' ⟨v', rfl, v, h'', ⟨M2, k1, k2, k3⟩, hr⟩
 have noHad : ∀ b, ¬ Had 0 ⟨fun _ => none, M.phi⟩ [] b := by
  rintro b ⟨o, l, _, hl, _⟩; cases hl
 have past : Past w w' := ⟨k3.os, k3.tape, k3.output, k3.size, fun b hb => k3.block b hb (noHad b)⟩
 have st : Still M2 h'' w' (after M.phi w w') := by
  refine ⟨fun b x u hu => ?_, fun o l hl ha hr x u hu => ?_⟩
  ·unfold after
   split
   ·rename_i hb
    rcases k3.fro b x u hu with h | h | h
    ·exact h
    ·omega
    ·exact absurd h (noHad b)
   ·exact k2.phi b x u hu
  ·unfold after
   rw [if_neg (by have := ((k2.dom o l hl).2 hr).1; omega)]
   exact hu
 have hrr := reify_sound k2 st _ _ _ _ hr k1
 have h3 : ∀ b x, b < w.heap.size → after M.phi w w' b x = M.phi b x := fun b x hb => by simp [after, hb]
 have h1 : ∀ b x v, M.phi b x = some v → after M.phi w w' b x = some v := fun b x v hv => by
  rw [h3 b x (cell_lt (hs.phi b x v hv))]; exact hv
 have hcell : ∀ b x v, after M.phi w w' b x = some v → w'.cell? ⟨b, x, none⟩ = some v := fun b x v hv => by
  by_cases hb : b < w.heap.size
  ·rw [h3 b x hb] at hv
   have h0 := hs.phi b x v hv
   rw [← h0]; exact World.cell?_of_block (past.block b hb)
  ·simpa [after, hb] using hv
 exact ⟨v', rfl, ⟨M.obj, after M.phi w w'⟩, TRel.toV (M := ⟨M.obj, after M.phi w w'⟩) hrr, hs.past past h1 hcell h3, Evo.past hs past h1 h3 lo⟩
theorem HSim.bare {M : Mem} {h : Heap} {w : World} (hs : HSim E B M h w) : HSim E w.heap.size ⟨fun _ => none, M.phi⟩ [] w :=
 ⟨fun g v hg => .tree _ _ _ _ (hs.glob g v hg).treeSome, hs.phi, fun o l hl => (by cases hl), Nat.le_refl _, fun o l hl => (by cases hl), fun o l t c g hl => (by cases hl), fun o l es ck hl => (by cases hl), fun o₁ o₂ l₁ l₂ hl => (by cases hl)⟩
theorem pad_rel {M : Mem} {args : List Value} {args' : Array Value} {n : Nat} (hargs : VRels M args args'.toList) : SRel M (args ++ List.replicate (n - args.length) undef) (args' ++ Array.replicate (n - args'.size) undef) := by
 have hl : args.length = args'.size := by simpa using hargs.1
 refine ⟨by simp [hl], fun i u u' hu hu' => ?_⟩
 by_cases hi : i < args.length
 ·rw [List.getElem?_append_left hi] at hu
  rw [Array.getElem?_append_left (by omega)] at hu'
  exact hargs.2 i u u' hu (by simpa using hu')
 ·rw [List.getElem?_append_right (Nat.le_of_not_lt hi), List.getElem?_replicate] at hu
  split at hu
  ·cases hu; exact .top _
  ·cases hu
end
end Go.Proofs.Ytbadgapficfbpaa.Bm
namespace Go.Proofs.Ytbadgapficfbpaa.Bm
open Go Go.RowKit
def ops13 : Array Oper := #[⟨some 55, .load 51 (.tmp 10), 51, "argue.go:179", #[], none⟩, ⟨some 56, .range 51 (.tmp 55), 0, "argue.go:179", #[⟨0, .data⟩], none⟩]
def ops14 : Array Oper := #[⟨some 57, .next (.tmp 56) false, 0, "argue.go:179", #[], none⟩, ⟨some 58, .extract (.tmp 57) 0, 4, "argue.go:179", #[⟨0, .data⟩], none⟩]
def ops15 : Array Oper := #[⟨some 59, .entry (.tmp 56), 0, "argue.go:179", #[], none⟩, ⟨some 60, .extract (.tmp 59) 0, 3, "argue.go:179", #[⟨0, .data⟩], none⟩, ⟨some 13, .assign (.tmp 60), 3, "argue.go:179", #[⟨1, .data⟩, ⟨0, .phase⟩, ⟨1, .phase⟩], none⟩]
def ops16 : Array Oper := #[⟨some 61, .move (.tmp 12), 23, "argue.go:180", #[], none⟩, ⟨some 62, .move (.tmp 13), 3, "argue.go:180", #[], none⟩, ⟨some 63, .buildSlice 23 1 #[(0, .tmp 62)], 23, "argue.go:180", #[⟨1, .data⟩], none⟩,
 ⟨some 64, .call { callee := .builtin .append, args := #[.tmp 61, .tmp 63], argTypes := #[23, 23] }, 23, "argue.go:180", #[⟨0, .data⟩, ⟨2, .data⟩], none⟩,
 ⟨some 12, .assign (.tmp 64), 23, "argue.go:180", #[⟨3, .data⟩, ⟨3, .chain⟩, ⟨0, .phase⟩, ⟨1, .phase⟩, ⟨2, .phase⟩, ⟨3, .phase⟩], none⟩]
def body14 : Code := .seq (.region 14 ops14 false) (.seq (.cond (.tmp 58) .skip (.exit 0)) (.block 1 (.seq (.region 15 ops15 false) (.region 16 ops16 false))))
def loop13 : Code := .seq (.region 13 ops13 false) (.block 0 (.loop body14))
noncomputable def body21 : Code := ((E.P.funcs[21]?).bind (·.body)).getD .skip
noncomputable def tail21 : Code := tailC 12 body21
theorem shape21 : tailC 11 body21 = .seq loop13 tail21 := by kernel_rfl
def σR (x v : Value) : Slots := blk undef undef undef undef undef undef undef undef undef undef undef undef v x undef undef (blk undef undef undef undef undef undef undef undef undef undef undef undef undef undef undef undef (blk undef undef undef undef undef undef undef undef undef undef undef undef undef undef undef undef (blk undef undef undef undef undef undef undef undef undef undef undef undef undef undef undef undef ([undef, undef, undef, undef]))))
def rowL (o : Nat) (l : List Value) : Value := .slice (some ⟨o, 0, some l.length⟩) l.length l.length
def ra16 : List RI := [⟨some 61, none, false, .mv (.tmp 12)⟩, ⟨some 62, none, false, .mv (.tmp 13)⟩, ⟨some 63, none, false, .buildSlice (some ⟨3, 1, 8, Value.int .i64 0, ⟨some false, some 1⟩⟩) true 1 ⟨[(0, .tmp 62)]⟩⟩, ⟨some 64, none, false, .append (some ⟨3, 1, 8, Value.int .i64 0, ⟨some false, some 1⟩⟩) (.tmp 61) (.tmp 63)⟩, ⟨some 12, none, false, .mv (.tmp 64)⟩]
theorem reg16 : (withStrict E false false ops16).map (riOf E.P E.live ops16) = ra16 := by kernel_rfl
theorem eval16 {lo o : Nat} {h : Heap} {l : List Int} {z : Int} (hob : h[o]? = some (.cells 3 (l.map (.int .i64)) 1)) (hlo : lo ≤ o) (hb : (l.length + 1) * 8 ≤ 140737488355328) :
  ∃ σ' h', runR E (L E) lo ra16 (σR (.int .i64 z) (rowL o (l.map (.int .i64)))) h = some (σ', h') ∧ h'[o]? = some (.cells 3 ((l ++ [z]).map (.int .i64)) 1) ∧ ∃ a b c d, σ' = blk undef undef undef undef undef undef undef undef undef undef undef undef (rowL o ((l ++ [z]).map (.int .i64))) (.int .i64 z) undef undef (blk undef undef undef undef undef undef undef undef undef undef undef undef undef undef undef undef (blk undef undef undef undef undef undef undef undef undef undef undef undef undef undef undef undef (blk undef undef undef undef undef undef undef undef undef undef undef undef undef a b c ([d, undef, undef, undef])))) := by
 have ho : o < h.length := (List.getElem?_eq_some_iff.1 hob).1
 unfold ra16 σR rowL
 have e1 : (h ++ [AObj.cells 3 [Value.int .i64 z] 1])[o]? = some (.cells 3 (l.map (.int .i64)) 1) := by rw [List.getElem?_append_left ho]; exact hob
 simp -implicitDefEqProofs [e1, build_one', Value.cells, appS_grown, hb, hlo, ho]
 refine ⟨_, _, ⟨rfl, rfl⟩, ?_, _, _, _, _, rfl⟩
 rw [List.getElem?_append_left (by simpa using ho), List.getElem?_set_self ho]
section
variable {B o it rm ck : Nat} {lm : Loc} {es : List MapEntry} {es' : Array MapEntry} {M₀ : Mem} {h₀ : Heap} {w₀ : World}
structure LInv (B o it rm ck : Nat) (lm : Loc) (es : List MapEntry) (es' : Array MapEntry) (M₀ : Mem) (h₀ : Heap) (w₀ : World) (ps : List MapEntry) (zs : List Int) (M : Mem) (h : Heap) (a : Act) (w : World) : Prop where
 defers : a.defers = []
 srel : SRel M (σR undef (rowL o (zs.map (.int .i64)))) a.tmps
 itr : a.tmps[56]? = some (.pointer (some ⟨it, 0, none⟩))
 sim : HSim E B M h w
 evo : Evo o M₀ h₀ w₀ M h w
 off : Off it M h
 fresh : w₀.heap.size ≤ it
 lt : it < w.heap.size
 iter : w.heap[it]? = some (.mapIter (some lm.blk) ck (ps.map (·.born)).toArray ck)
 mp : w.heap[lm.blk]? = some (.map es' ck)
 low : rm < o
 obj : M.obj rm = some lm
 hm : h[rm]? = some (.map es ck)
 row : h[o]? = some (.cells 3 (zs.map (.int .i64)) 1)
 keys : ps.map (·.key) = zs.map (.int .i64)
 nd : (ps.map (·.born)).Nodup
 sub : ∀ e ∈ ps, e ∈ es'.toList
structure MapOk (es' : Array MapEntry) (ck : Nat) : Prop where
 born : ∀ x ∈ es'.toList, x.born < ck
 nd : (es'.toList.map (·.born)).Nodup
 int : ∀ x ∈ es'.toList, ∃ z, x.key = .int .i64 z
 len : (es'.size + 1) * 8 ≤ 140737488355328
theorem put_get {a : Act} {d : Nat} {v : Value} (h : d < a.tmps.size) : (a.put (some d) v).eval (.tmp d) = v := by
 simp [Act.put, Act.eval, h]
theorem put_ne {a : Act} {d x : Nat} {v : Value} (h : d ≠ x) : (a.put (some d) v).tmps[x]? = a.tmps[x]? := by
 simp [Act.put, Array.getElem?_setIfInBounds_ne h]
theorem put_size {a : Act} {d : Nat} {v : Value} : (a.put (some d) v).tmps.size = a.tmps.size := by simp [Act.put]
theorem eval_tmp {a : Act} {d : Nat} {v : Value} (h : a.tmps[d]? = some v) : a.eval (.tmp d) = v := by
 simp [Act.eval, Array.getD_eq_getD_getElem?, h]
theorem wpOp_go {P : Program} {ops : Array Oper} {Q : Exit → Act → World → Prop} {i : Nat} {rest : List Nat} {a : Act} {w : World} {o : Oper} (ho : ops[i]? = some o) (hg : o.guard = none) (h : o.wp P a w (wpOps P ops Q rest) Q) :
  wpOps P ops Q (i :: rest) a w := by
 rw [wpOps_cons]
 unfold wpOp
 rw [ho]
 simp only
 rw [if_pos (by unfold Region.wanted; rw [hg])]
 exact .inl h
theorem size_of_srel {M : Mem} {x v : Value} {a : Act} (h : SRel M (σR x v) a.tmps) : a.tmps.size = 68 := h.1.symm
theorem SRel.und {M : Mem} {x v : Value} {a : Act} (h : SRel M (σR x v) a.tmps) {d : Nat} (hd : (σR x v).set d undef = σR x v) (u : Value) : SRel M (σR x v) (a.put (some d) u).tmps := by
 have := h.put (some d) (v := undef) (v' := u) (.top _)
 unfold putA at this
 simp only at this
 rw [hd] at this
 exact this
theorem extract_op {a : Act} {w : World} {d x : Nat} {ty : TypeId} {pos : String} {af : Array _} {vs : Array Value} {v : Value} {i : Nat} {next : Act → World → Prop} {Q : Exit → Act → World → Prop}
  (hx : a.eval (.tmp x) = .tuple vs) (hv : vs[i]? = some v) (hn : next (a.put (some d) v) w) : (⟨some d, .extract (.tmp x) i, ty, pos, af, none⟩ : Oper).wp E.P a w next Q := by
 refine plain_upon (s := Instr.extract (a.eval (.tmp x)) i) (v' := v) (w' := w) rfl ?_ hn
 simp [Instr.extract, hx, hv]
theorem LInv.put {ps : List MapEntry} {zs : List Int} {M : Mem} {h : Heap} {a : Act} {w : World} (J : LInv B o it rm ck lm es es' M₀ h₀ w₀ ps zs M h a w) {d : Nat} (u : Value) (hd : ∀ v, (σR undef v).set d undef = σR undef v) (hne : d ≠ 56) :
  LInv B o it rm ck lm es es' M₀ h₀ w₀ ps zs M h (a.put (some d) u) w :=
 { J with defers := by rw [Act.put_defers']; exact J.defers, srel := J.srel.und (hd _) u, itr := by rw [put_ne hne]; exact J.itr }
theorem nodup_of_map {α β : Type} {f : α → β} {l : List α} (h : (l.map f).Nodup) : l.Nodup :=
 List.Pairwise.of_map (S := (· ≠ ·)) f (fun a b hab e => hab (by rw [e])) h
theorem born_eq (k : MapOk es' ck) {e e' : MapEntry} (h : e ∈ es'.toList) (h' : e' ∈ es'.toList) (hb : e.born = e'.born) : e = e' := by
 have key : ∀ l : List MapEntry, (l.map (·.born)).Nodup → e ∈ l → e' ∈ l → e = e' := by
  intro l
  induction l with
  | nil => intro _ h; cases h
  | cons x l ih =>
   intro hn h h'
   rw [List.map_cons, List.nodup_cons] at hn
   rcases List.mem_cons.1 h with h1 | h1 <;> rcases List.mem_cons.1 h' with h2 | h2
   ·rw [h1, h2]
   ·exact absurd (by rw [← h1, hb]; exact List.mem_map_of_mem h2) hn.1
   ·exact absurd (by rw [← h2, ← hb]; exact List.mem_map_of_mem h1) hn.1
   ·exact ih hn.2 h1 h2
 exact key _ k.nd h h'
theorem LInv.len {ps : List MapEntry} {zs : List Int} {M : Mem} {h : Heap} {a : Act} {w : World} (J : LInv B o it rm ck lm es es' M₀ h₀ w₀ ps zs M h a w) : zs.length ≤ es'.size := by
 have := List.Nodup.length_le_of_subset (l₂ := es'.toList.map (·.born)) J.nd (fun x hx => by
  obtain ⟨e, he, rfl⟩ := List.mem_map.1 hx
  exact List.mem_map_of_mem (J.sub e he))
 have e := congrArg List.length J.keys
 simp at this e
 omega
theorem round_wp (hP : GoodP E.P) (hC : CSound E (L E)) (k : MapOk es' ck) {ps : List MapEntry} {zs : List Int} {M : Mem} {h : Heap} {a : Act} {w : World} {Q : Exit → Act → World → Prop} (J : LInv B o it rm ck lm es es' M₀ h₀ w₀ ps zs M h a w)
  (hdone : ∀ M h a w, LInv B o it rm ck lm es es' M₀ h₀ w₀ ps zs M h a w → (∀ e ∈ es'.toList, e ∈ ps) → Q (.exit 0) a w)
  (hmore : ∀ M h a w e z, LInv B o it rm ck lm es es' M₀ h₀ w₀ (ps ++ [e]) (zs ++ [z]) M h a w → Q .normal a w) : body14.wp E.P Q a w := by
 have hsz := size_of_srel J.srel
 have hev := eval_tmp J.itr
 refine wp_seq (wp_region ?_)
 show wpOps E.P ops14 _ [0, 1] a w
 refine wpOp_go (o := ⟨some 57, .next (.tmp 56) false, 0, "argue.go:179", #[], none⟩) rfl rfl ?_
 rcases run_next_at (P := E.P) w 0 it lm.blk ck ck _ es' ck J.iter J.mp k.born (Nat.le_refl _) with ⟨h0, hrun⟩ | ⟨e, he, w1, hw1, hrun⟩
 ·refine plain_upon (s := Instr.next (a.eval (.tmp 56)) false 0) (v' := .tuple #[.bool false]) (w' := w) rfl (by rw [hev]; exact hrun) ?_
  refine wpOp_go (o := ⟨some 58, .extract (.tmp 57) 0, 4, "argue.go:179", #[⟨0, .data⟩], none⟩) rfl rfl ?_
  refine extract_op (vs := #[.bool false]) (v := .bool false) (put_get (by omega)) rfl ?_
  refine wp_seq (wp_cond_false (put_get (by rw [put_size]; omega)) (wp_exit ?_))
  refine hdone M h _ w ((J.put _ (fun _ => rfl) (by decide)).put _ (fun _ => rfl) (by decide)) fun e he => ?_
  have h1 : leftOf es' (ps.map (·.born)).toArray = #[] := Array.eq_empty_of_size_eq_zero h0
  unfold leftOf at h1
  rw [Array.filter_eq_empty_iff] at h1
  have h2 := h1 e (Array.mem_toList_iff.1 he)
  simp at h2
  obtain ⟨e', he', hb⟩ := h2
  exact born_eq k (J.sub e' he') he hb ▸ he'
 ·have heM : e ∈ es'.toList ∧ e.born ∉ ps.map (·.born) := by
   unfold leftOf at he
   simp at he
   exact ⟨by simpa using he.1, by simpa using he.2⟩
  obtain ⟨z, hz⟩ := k.int e heM.1
  have hr1 : w1.heap[it]? = some (.mapIter (some lm.blk) ck (ps.map (·.born)).toArray ck) := by rcases hw1 with rfl | rfl <;> exact J.iter
  have hbut : But it w (Go.ChangeMaps.setBlock w1 it (.mapIter (some lm.blk) ck ((ps.map (·.born)).toArray.push e.born) ck)) := by
   refine But.trans ?_ (.set hr1)
   rcases hw1 with rfl | rfl
   ·exact .refl _ _
   ·exact .drew _ _
  have hit2 : (Go.ChangeMaps.setBlock w1 it (.mapIter (some lm.blk) ck ((ps.map (·.born)).toArray.push e.born) ck)).heap[it]? = some (.mapIter (some lm.blk) ck ((ps.map (·.born)).toArray.push e.born) ck) := by
   have : it < w1.heap.size := (Array.getElem?_eq_some_iff.1 hr1).1
   simp [Go.ChangeMaps.setBlock, this]
  generalize hw2 : Go.ChangeMaps.setBlock w1 it (.mapIter (some lm.blk) ck ((ps.map (·.born)).toArray.push e.born) ck) = w2 at hrun hbut hit2
  have hne : lm.blk ≠ it := J.off.obj rm lm J.obj ⟨_, J.hm, by simp⟩ (.inl (J.sim.mp _ _ _ _ J.obj J.hm).1)
  have hmp2 : w2.heap[lm.blk]? = some (.map es' ck) := by rw [hbut.block _ hne]; exact J.mp
  refine plain_upon (s := Instr.next (a.eval (.tmp 56)) false 0) (v' := .tuple #[.bool true, e.key, e.val]) (w' := w2) rfl (by rw [hev]; exact hrun) ?_
  refine wpOp_go (o := ⟨some 58, .extract (.tmp 57) 0, 4, "argue.go:179", #[⟨0, .data⟩], none⟩) rfl rfl ?_
  refine extract_op (vs := #[.bool true, e.key, e.val]) (v := .bool true) (put_get (by omega)) rfl ?_
  refine wp_seq (wp_cond_true (put_get (by rw [put_size]; omega)) (wp_skip ?_))
  have s1 := (J.srel.und (d := 57) rfl (.tuple #[.bool true, e.key, e.val])).und (d := 58) rfl (.bool true)
  have t1 : ((a.put (some 57) (.tuple #[.bool true, e.key, e.val])).put (some 58) (.bool true)).tmps[56]? = some (.pointer (some ⟨it, 0, none⟩)) := by rw [put_ne (by decide), put_ne (by decide)]; exact J.itr
  have d1 : ((a.put (some 57) (.tuple #[.bool true, e.key, e.val])).put (some 58) (.bool true)).defers = [] := by rw [Act.put_defers', Act.put_defers']; exact J.defers
  generalize (a.put (some 57) (.tuple #[.bool true, e.key, e.val])).put (some 58) (.bool true) = a1 at s1 t1 d1
  have hsz1 := size_of_srel s1
  show (Code.block 1 _).wp _ _ _ _
  refine wp_block (wp_seq (wp_region ?_))
  show wpOps E.P ops15 _ [0, 1, 2] a1 w2
  refine wpOp_go (o := ⟨some 59, .entry (.tmp 56), 0, "argue.go:179", #[], none⟩) rfl rfl ?_
  refine plain_upon (s := Instr.entry (a1.eval (.tmp 56))) (v' := .tuple #[e.key, e.val]) (w' := w2) rfl (by rw [eval_tmp t1]; exact run_entry_at w2 it lm.blk ck _ es' ck e hit2 hmp2 heM.1 k.nd) ?_
  refine wpOp_go (o := ⟨some 60, .extract (.tmp 59) 0, 3, "argue.go:179", #[⟨0, .data⟩], none⟩) rfl rfl ?_
  refine extract_op (vs := #[e.key, e.val]) (v := e.key) (put_get (by omega)) rfl ?_
  refine wpOp_go (o := ⟨some 13, .assign (.tmp 60), 3, "argue.go:179", #[⟨1, .data⟩, ⟨0, .phase⟩, ⟨1, .phase⟩], none⟩) rfl rfl ?_
  have s2 := (s1.und (d := 59) rfl (.tuple #[e.key, e.val])).und (d := 60) rfl e.key
  have t2 : ((a1.put (some 59) (.tuple #[e.key, e.val])).put (some 60) e.key).tmps[56]? = some (.pointer (some ⟨it, 0, none⟩)) := by rw [put_ne (by decide), put_ne (by decide)]; exact t1
  have d2 : ((a1.put (some 59) (.tuple #[e.key, e.val])).put (some 60) e.key).defers = [] := by rw [Act.put_defers', Act.put_defers']; exact d1
  have g2 : ((a1.put (some 59) (.tuple #[e.key, e.val])).put (some 60) e.key).eval (.tmp 60) = e.key := put_get (by rw [put_size]; omega)
  generalize (a1.put (some 59) (.tuple #[e.key, e.val])).put (some 60) e.key = a2 at s2 t2 d2 g2
  refine plain_upon (s := pure (a2.eval (.tmp 60))) (v' := e.key) (w' := w2) (by simp [execOp]) (by rw [g2]; simp) ?_
  have s3 : SRel M (σR (.int .i64 z) (rowL o (zs.map (.int .i64)))) (a2.put (some 13) e.key).tmps := by
   rw [hz]; exact s2.put (some 13) (v := .int .i64 z) (v' := .int .i64 z) (.atom _ rfl)
  have t3 : (a2.put (some 13) e.key).tmps[56]? = some (.pointer (some ⟨it, 0, none⟩)) := by rw [put_ne (by decide)]; exact t2
  have d3 : (a2.put (some 13) e.key).defers = [] := by rw [Act.put_defers']; exact d2
  generalize a2.put (some 13) e.key = a3 at s3 t3 d3
  have sim2 := J.sim.aside hbut J.off
  have evo2 := J.evo.aside hbut J.fresh
  have hlen := J.len
  have hklen := k.len
  obtain ⟨σ', h', hrun16, hrow, x1, x2, x3, x4, hσ⟩ := eval16 (lo := o) (z := z) J.row (Nat.le_refl _) (by omega)
  have hoh : o ≤ h.length := Nat.le_of_lt (List.getElem?_eq_some_iff.1 J.row).1
  show (Code.region 16 ops16 false).wp _ _ _ _
  refine region_keep hP hC (lo := o) (I := fun a => a.tmps[56]? = some (.pointer (some ⟨it, 0, none⟩))) ?_ (by rw [reg16]; exact hrun16) hoh s3 d3 sim2 t3 fun a' w' haft hi => ?_
  ·intro op hop a v ha
   simp only [ops16, List.mem_toArray, List.mem_cons, List.not_mem_nil, or_false] at hop
   rcases hop with rfl | rfl | rfl | rfl | rfl <;> (rw [put_ne (by decide)]; exact ha)
  ·obtain ⟨hd', M', r1, r2, r3⟩ := haft
   have hlt2 : it < w2.heap.size := by rw [hbut.size]; exact J.lt
   obtain ⟨off', blk'⟩ := J.off.evo r3 hlt2 sim2
   obtain ⟨m1, m2, m3⟩ := map_block sim2 r3 J.low J.obj J.hm
   show Q .normal a' w'
   refine hmore M' h' a' w' e z ⟨hd', ?_, hi, r2, evo2.trans r3, off', J.fresh, Nat.lt_of_lt_of_le hlt2 r3.size, ?_, by rw [m1]; exact hmp2, J.low, m2, m3, hrow, ?_, ?_, ?_⟩
   ·subst hσ
    exact ((((r1.set 13 (v := undef) fun _ _ => .top _).set 61 (v := undef) fun _ _ => .top _).set 62 (v := undef) fun _ _ => .top _).set 63 (v := undef) fun _ _ => .top _).set 64 (v := undef) fun _ _ => .top _
   ·rw [blk', hit2]
    simp
   ·simp [J.keys, hz]
   ·rw [List.map_append, List.nodup_append]
    refine ⟨J.nd, by simp, ?_⟩
    intro x hx y hy
    simp at hy
    subst hy
    exact fun e' => heM.2 (e' ▸ hx)
   ·intro x hx
    rcases List.mem_append.1 hx with hx | hx
    ·exact J.sub x hx
    ·rw [List.mem_singleton.1 hx]; exact heM.1
theorem loop_wp (hP : GoodP E.P) (hC : CSound E (L E)) (k : MapOk es' ck) {M : Mem} {h : Heap} {a : Act} {w : World} {Q : Exit → Act → World → Prop} (J : LInv B o it rm ck lm es es' M₀ h₀ w₀ [] [] M h a w)
  (hdone : ∀ M h a w ps zs, LInv B o it rm ck lm es es' M₀ h₀ w₀ ps zs M h a w → (∀ e ∈ es'.toList, e ∈ ps) → Q .normal a w) : (Code.block 0 (.loop body14)).wp E.P Q a w := by
 refine wp_block (wp_loop_rounds (es'.size + 1) ?_)
 have key : ∀ n ps zs M h a w, LInv B o it rm ck lm es es' M₀ h₀ w₀ ps zs M h a w → es'.size + 1 ≤ ps.length + n → Code.rounds E.P body14 (Exit.inBlock 0 Q) n a w := by
  intro n
  induction n with
  | zero =>
   intro ps zs M h a w J hn
   have := J.len
   have e := congrArg List.length J.keys
   simp at e
   omega
  | succ n ih =>
   intro ps zs M h a w J hn
   rw [rounds_succ]
   refine round_wp hP hC k J (fun M h a w J hc => ?_) fun M h a w e z J => ?_
   ·exact hdone M h a w ps zs J hc
   ·exact ih _ _ M h a w J (by simp; omega)
 exact key _ _ _ _ _ _ _ J (by simp)
def σP (p v : Value) : Slots := blk undef undef undef undef undef undef undef undef undef undef p undef v undef undef undef (blk undef undef undef undef undef undef undef undef undef undef undef undef undef undef undef undef (blk undef undef undef undef undef undef undef undef undef undef undef undef undef undef undef undef (blk undef undef undef undef undef undef undef undef undef undef undef undef undef undef undef undef ([undef, undef, undef, undef]))))
theorem op13 : ropOf E.P E.live (.load 51 (.tmp 10)) = .load ⟨some false, some 1⟩ (.tmp 10) := by kernel_rfl
theorem u51 : E.P.underlying 51 = some (.map 3 4) := by kernel_rfl
theorem range_wp (hP : GoodP E.P) (hC : CSound E (L E)) {c : Nat} {zs : List (Int × Value)} {M : Mem} {h : Heap} {a : Act} {w : World} {Q : Exit → Act → World → Prop} (hd : a.defers = []) (hσ : SRel M (σP (.pointer (some ⟨c, 0, none⟩)) (rowL o [])) a.tmps) (hs : HSim E B M h w)
  (hc : h[c]? = some (.cells 51 [.map (some rm)] 0)) (hm : h[rm]? = some (mapB (Value.int .i64) zs)) (hr : h[o]? = some (.cells 3 [] 1)) (hlo : rm < o) (hl : (zs.length + 1) * 8 ≤ 140737488355328)
  (hQ : ∀ (M' : Mem) (h' : Heap) (a' : Act) (w' : World) (ys : List Int), a'.defers = [] → SRel M' (σR undef (rowL o (ys.map (.int .i64)))) a'.tmps → HSim E B M' h' w' → Evo o M h w M' h' w' → h'[o]? = some (.cells 3 (ys.map (.int .i64)) 1) → ys.Perm (zs.map (·.1)) → Q .normal a' w') :
  loop13.wp E.P Q a w := by
 have hsz : a.tmps.size = 68 := hσ.1.symm
 have hlen : o < h.length := (List.getElem?_eq_some_iff.1 hr).1
 refine wp_seq (wp_region ?_)
 show wpOps E.P ops13 _ [0, 1] a w
 refine wpOp_go (o := ⟨some 55, .load 51 (.tmp 10), 51, "argue.go:179", #[], none⟩) rfl rfl ?_
 have e1 : aop E (L E) o false (.load 51 (.tmp 10)) (evalA E (σP (.pointer (some ⟨c, 0, none⟩)) (rowL o []))) h = some (.map (some rm), h) := by
  rw [rop_eq, op13]
  simp -implicitDefEqProofs [σP, ropR, hc]
 refine aop_sound hP hC hs (Nat.le_of_lt hlen) e1 (fun x _ => eval_rel hs.glob hσ x) (evalA_func E _) fun v' w1 ho => ?_
 obtain ⟨M1, q1, q2, q3⟩ := ho.weaken (lo' := o) (by unfold loOf; split <;> omega)
 obtain ⟨lm, hlm, hg, rfl⟩ := q1.mapSome
 have s1 : SRel M1 (σR undef (rowL o [])) (a.put (some 55) (.map (some lm.blk))).tmps := ((hσ.mono q3.le).put (some 55) (v := undef) (.top _)).set 10 (v := undef) fun _ _ => .top _
 obtain ⟨_, es', hb, hes, hent⟩ := q2.mp rm lm _ _ hlm hm
 refine wpOp_go (o := ⟨some 56, .range 51 (.tmp 55), 0, "argue.go:179", #[⟨0, .data⟩], none⟩) rfl rfl ?_
 refine plain_upon (s := Instr.range 51 ((a.put (some 55) (.map (some lm.blk))).eval (.tmp 55))) (v' := .pointer (some ⟨w1.heap.size, 0, none⟩)) (w' := w1.alloc (.mapIter (some lm.blk) zs.length #[] zs.length)) rfl
  (by rw [put_get (by omega)]; exact run_range_map w1 51 3 4 lm.blk es' _ u51 hb) ?_
 show (Code.block 0 (.loop body14)).wp _ _ _ _
 have past : Past w1 (w1.alloc (.mapIter (some lm.blk) zs.length #[] zs.length)) := ⟨rfl, rfl, rfl, (by show w1.heap.size ≤ (w1.heap.push _).size; simp), fun b hb => by
  show (w1.heap.push _)[b]? = _
  rw [Array.getElem?_push_lt hb, Array.getElem?_eq_getElem hb]⟩
 have sim2 := q2.past past (Ψ := M1.phi) (fun _ _ _ k => k) (fun b x v hv => by
  rw [← q2.phi b x v hv]
  exact World.cell?_of_block (past.block b (cell_lt (q2.phi b x v hv)))) (fun _ _ _ => rfl)
 have evo2 := Evo.past q2 past (Ψ := M1.phi) (fun _ _ _ k => k) (fun _ _ _ => rfl) o
 have hsize : es'.size = zs.length := by rw [hes, ents_len]
 have hget : ∀ i (hi : i < zs.length), ∃ e', es'[i]? = some e' ∧ e'.key = .int .i64 zs[i].1 ∧ e'.born = i := fun i hi => by
  obtain ⟨e', h1, h2, _, h3⟩ := hent i ⟨.int .i64 zs[i].1, zs[i].2, i⟩ (by
   have : ∀ (l : List (Int × Value)) (j i : Nat) (hi : i < l.length), (ents (Value.int .i64) l j)[i]? = some ⟨.int .i64 l[i].1, l[i].2, j + i⟩ := by
    intro l
    induction l with
    | nil => intro j i hi; simp at hi
    | cons p l ih =>
     intro j i hi
     cases i with
     | zero => rfl
     | succ i =>
      show (ents (Value.int .i64) l (j + 1))[i]? = _
      rw [ih (j + 1) i (by simpa using hi), show j + 1 + i = j + (i + 1) by omega]
      rfl
   rw [this zs 0 i hi, Nat.zero_add])
  exact ⟨e', h1, h2.2, h3⟩
 have hborn : es'.toList.map (·.born) = List.range zs.length := by
  refine List.ext_getElem? fun i => ?_
  by_cases hi : i < zs.length
  ·obtain ⟨e', h1, _, h3⟩ := hget i hi
   rw [List.getElem?_map, Array.getElem?_toList, h1]
   simp [h3, hi]
  ·rw [List.getElem?_eq_none (by simp; omega), List.getElem?_eq_none (by simp; omega)]
 have hkey : es'.toList.map (·.key) = zs.map fun p => Value.int .i64 p.1 := by
  refine List.ext_getElem? fun i => ?_
  by_cases hi : i < zs.length
  ·obtain ⟨e', h1, h2, _⟩ := hget i hi
   rw [List.getElem?_map, Array.getElem?_toList, h1]
   simp [h2, hi]
  ·rw [List.getElem?_eq_none (by simp; omega), List.getElem?_eq_none (by simp; omega)]
 have ok : MapOk es' zs.length := by
  refine ⟨fun x hx => ?_, by rw [hborn]; exact List.nodup_range, fun x hx => ?_, by rw [hsize]; exact hl⟩
  ·have : x.born ∈ es'.toList.map (·.born) := List.mem_map_of_mem hx
   rw [hborn] at this
   exact List.mem_range.1 this
  ·have : x.key ∈ es'.toList.map (·.key) := List.mem_map_of_mem hx
   rw [hkey] at this
   obtain ⟨p, _, hp⟩ := List.mem_map.1 this
   exact ⟨p.1, hp.symm⟩
 have hlmlt : lm.blk < w1.heap.size := ((q2.dom rm lm hlm).2 (.inl hg)).2
 refine loop_wp (B := B) (o := o) (it := w1.heap.size) (rm := rm) (ck := zs.length) (lm := lm) (es := ents (Value.int .i64) zs 0) (M₀ := M) (h₀ := h) (w₀ := w) hP hC ok (M := M1) (h := h) (a := _) (w := _) ⟨?_, ?_, ?_, sim2, q3.trans evo2, ⟨?_, ?_⟩, q3.size, (by show w1.heap.size < (w1.heap.push _).size; simp), heap_alloc_new _ _, ?_, hlo, hlm, hm, hr, rfl, by simp, fun e he => by cases he⟩ fun M' h' a' w' ps ys J hcov => ?_
 ·rw [Act.put_defers', Act.put_defers']; exact hd
 ·exact s1.und rfl _
 ·simp [Act.put, hsz]
 ·intro o' l' hl' _ hr' e
  have := ((q2.dom o' l' hl').2 hr').2
  omega
 ·intro x
  cases hx : M1.phi w1.heap.size x with
  | none => rfl
  | some v => exact absurd (cell_lt (q2.phi _ _ _ hx)) (by omega)
 ·rw [past.block _ hlmlt]; exact hb
 ·have hps : ps.Perm es'.toList := (List.perm_ext_iff_of_nodup (nodup_of_map J.nd) (nodup_of_map ok.nd)).2 fun e => ⟨J.sub e, hcov e⟩
  have hk := hps.map (·.key)
  rw [J.keys, hkey] at hk
  have := hk.map (fun v => match v with | .int _ z => z | _ => 0)
  rw [List.map_map, List.map_map] at this
  refine hQ M' h' a' w' ys J.defers J.srel J.sim J.evo J.row ?_
  have e1 : ys.map ((fun v : Value => match v with | .int _ z => z | _ => 0) ∘ Value.int .i64) = ys := by
   rw [show ((fun v : Value => match v with | .int _ z => z | _ => 0) ∘ Value.int .i64) = id from rfl, List.map_id]
  rw [e1] at this
  exact this
end
end Go.Proofs.Ytbadgapficfbpaa.Bm
namespace Go.Proofs.Ytbadgapficfbpaa.Bm
open Go Go.RowKit
section
variable {l : List Int} {G : List (List Int)} {z : Int} {e : TypeId}
theorem rowT_idx (h0 : 0 ≤ z) (h1 : z.toNat < l.length) : indexAddrT (.sl e ⟨some false, some 1⟩) (rowT l) (.int .i64 z) = some (cptr (.int .i64 (getI l z))) := il_idx (k := some false) (fun h => by cases h) h0 h1
theorem rowT_idxN {i : Nat} (h1 : i < l.length) : indexAddrT (.sl e ⟨some false, some 1⟩) (rowT l) (.int .i64 (i : Int)) = some (cptr (.int .i64 l[i])) := il_idxN (k := some false) (fun h => by cases h) h1
theorem graphT_idx (h0 : 0 ≤ z) (h1 : z.toNat < G.length) : indexAddrT (.sl e ⟨some false, some 1⟩) (lst false (G.map rowT)) (.int .i64 z) = some (cptr (rowT (getL G z))) := by
 simp [h0, h1, getL]
 exact ⟨rfl, rfl⟩
end
set_option maxRecDepth 20000 in
theorem first_spec {G : List (List Int)} {Lb R : List Int} {n : Nat} {k : Int} (hG : ∀ i ∈ getL G k, 0 ≤ i ∧ i.toNat < n) (hL : Lb.length = n) (hR : R.length = n) (h0 : 0 ≤ k) (hk : k.toNat < G.length) (hlen : (getL G k).length ≤ maxLen) :
  pureCall E.P (L E) 36 [.int .i64 k, cptr (lst false (G.map rowT)), cptr (rowT Lb), cptr (rowT R)] = some (.int .i64 (firstF Lb R (getL G k))) := by
 unfold maxLen at hlen
 rw [pureCall_fn F36 rfl]
 have g1 := graphT_idx (e := 23) h0 hk
 have hlenT : ∀ h, lenT .sl h (rowT (getL G k)) = some (.int .i64 ((getL G k).length : Int)) := fun h => by unfold rowT; simp
 have fitT : ∀ l, fitsTT ⟨some false, some 1⟩ (rowT l) = true := fun l => rfl
 simp -implicitDefEqProofs [r36, p36, g1, fitT, hlenT]
 rw [LL_for (γ := Int) (getL G k) (-1) (fun i b => [(6, .int .i64 b), (14, .int .i64 i)]) (fun _ _ => []) (fun _ rest b => (.exit 0, [(6, .int .i64 (rest.foldl (firstS Lb R) b)), (14, undef)], [])) (fun _ b => b < 0 ∨ 0 ≤ b ∧ b.toNat < n) hlen (.inl (by decide))]
 ·simp -implicitDefEqProofs [k36_3, firstF]
 ·simp [k36_3]
 ·rfl
 ·intro nx i b hi _
  simp -implicitDefEqProofs [r36_3, k36_3, hi, trim_le]
 ·intro nx i v rest b hi hv hd hw hb ih
  have hvm := hG v (hv ▸ List.getElem_mem hi)
  have f1 : ∀ z, 0 ≤ z → z.toNat < n → indexAddrT (.sl 3 ⟨some false, some 1⟩) (rowT Lb) (.int .i64 z) = some (cptr (.int .i64 (getI Lb z))) := fun z q0 q1 => rowT_idx q0 (hL ▸ q1)
  have f2 : ∀ z, 0 ≤ z → z.toNat < n → indexAddrT (.sl 3 ⟨some false, some 1⟩) (rowT R) (.int .i64 z) = some (cptr (.int .i64 (getI R z))) := fun z q0 q1 => rowT_idx q0 (hR ▸ q1)
  have ih1 := ih v (.inr hvm)
  have ih2 := ih b hb
  rw [List.foldl_cons]
  simp -implicitDefEqProofs [k36_3] at ih1 ih2
  by_cases q1 : getI Lb v = 1
  ·by_cases q2 : b < 0
   ·have hs : firstS Lb R b v = v := by unfold firstS; rw [if_pos ⟨q1, .inl q2⟩]
    rw [hs]
    simp -implicitDefEqProofs [r36_3, k36_3, hi, rowT_idxN hi, hv, hw, f1 v hvm.1 hvm.2, fitT, q1, q2, trim_le]
    exact ih1
   ·have hb' : 0 ≤ b ∧ b.toNat < n := hb.resolve_left q2
    by_cases q3 : getI R v < getI R b
    ·have hs : firstS Lb R b v = v := by unfold firstS; rw [if_pos ⟨q1, .inr q3⟩]
     rw [hs]
     simp -implicitDefEqProofs [r36_3, k36_3, hi, rowT_idxN hi, hv, hw, f1 v hvm.1 hvm.2, f2 v hvm.1 hvm.2, f2 b hb'.1 hb'.2, fitT, q1, q2, q3, trim_le]
     exact ih1
    ·have hs : firstS Lb R b v = b := by unfold firstS; rw [if_neg (by rintro ⟨_, h | h⟩ <;> contradiction)]
     rw [hs]
     simp -implicitDefEqProofs [r36_3, k36_3, hi, rowT_idxN hi, hv, hw, f1 v hvm.1 hvm.2, f2 v hvm.1 hvm.2, f2 b hb'.1 hb'.2, fitT, q1, q2, q3, trim_le]
     exact ih2
  ·have hs : firstS Lb R b v = b := by unfold firstS; rw [if_neg fun h => q1 h.1]
   rw [hs]
   simp -implicitDefEqProofs [r36_3, k36_3, hi, rowT_idxN hi, hv, hw, f1 v hvm.1 hvm.2, fitT, q1, trim_le]
   exact ih2
theorem s23 : szOf E.P 23 = some 1 := by kernel_rfl
theorem a23 : aggT E.P 23 = some false := by kernel_rfl
theorem s43 : szOf E.P 43 = some 1 := by kernel_rfl
theorem a43 : aggT E.P 43 = some false := by kernel_rfl
theorem ui3 : E.P.underlying 3 = some (.int .i64) := by kernel_rfl
theorem keyE : KeyEnc E.P 3 (Value.int .i64) := ⟨fun _ => rfl, fun _ => by simp [keyOk, ui3], fun a b => by simp [aKeyEq, ui3, Instr.sameNow]; rfl, fun _ => by simp [Instr.sameBits]⟩
def pA (b : Nat) : Value := .pointer (some ⟨b, 0, none⟩)
def setM (S : List Int) : List (Int × Value) := S.map fun z => (z, .bool true)
def nH (G : List (List Int)) (Lb R : List Int) (S : List Int) : Heap := [.cells 23 [rowT Lb] 0, .cells 23 [rowT R] 0, .cells 43 [lst false (G.map rowT)] 0, .cells 50 [.func (.func 36) ⟨[]⟩ ⟨[pA 2, pA 0, pA 1]⟩] 0, mapB (Value.int .i64) (setM S), .cells 51 [.map (some 4)] 0, .cells 52 [.func (.func 37) ⟨[]⟩ ⟨[pA 5, pA 2, pA 6, pA 3]⟩] 0]
theorem setM_get {S : List Int} {i : Int} : aget (setM S) i = if S.contains i then some (.bool true) else none := by
 induction S with
 | nil => rfl
 | cons a S ih =>
  show (if a = i then some (Value.bool true) else aget (setM S) i) = _
  rw [ih, List.contains_cons]
  by_cases h : a = i
  ·simp [h]
  ·have h' : ¬ i = a := fun e => h e.symm
   simp [h, h']
theorem setM_add {S : List Int} {i : Int} (h : S.contains i = false) : aset (setM S) i (.bool true) = setM (S ++ [i]) := by
 induction S with
 | nil => rfl
 | cons a S ih =>
  rw [List.contains_cons, Bool.or_eq_false_iff] at h
  have h' : ¬ a = i := fun e => by simp [e] at h
  show (if a = i then _ else (a, Value.bool true) :: aset (setM S) i (.bool true)) = _
  rw [if_neg h', ih h.2]
  rfl
theorem needF_inv {G : List (List Int)} {Lb R : List Int} (good : Int → Prop) (hgood : ∀ i, good i → ∀ k ∈ getL G i, good (firstF Lb R (getL G k))) : ∀ (d : Nat) (S : List Int) (i : Int), S.Nodup → (∀ z ∈ S, good z) → good i →
  (needF G Lb R d S i).Nodup ∧ (∀ z ∈ needF G Lb R d S i, good z) ∧ S.length ≤ (needF G Lb R d S i).length
 | 0, S, i, h1, h2, _ => ⟨h1, h2, Nat.le_refl _⟩
 | d + 1, S, i, h1, h2, hi => by
  unfold needF
  split
  ·exact ⟨h1, h2, Nat.le_refl _⟩
  ·rename_i hm
   have hm : ¬ i ∈ S := fun h => hm (List.contains_iff_mem.2 h)
   have hS1 : (S ++ [i]).Nodup := by
    rw [List.nodup_append]
    refine ⟨h1, by simp, fun a ha b hb e => hm ?_⟩
    rw [List.mem_singleton.1 hb] at e
    exact e ▸ ha
   have hS2 : ∀ z ∈ S ++ [i], good z := fun z hz => by
    rcases List.mem_append.1 hz with hz | hz
    ·exact h2 z hz
    ·rw [List.mem_singleton.1 hz]; exact hi
   have key : ∀ (l : List Int) (T : List Int), (∀ k ∈ l, good (firstF Lb R (getL G k))) → T.Nodup → (∀ z ∈ T, good z) → (l.foldl (fun S k => needF G Lb R d S (firstF Lb R (getL G k))) T).Nodup ∧ (∀ z ∈ l.foldl (fun S k => needF G Lb R d S (firstF Lb R (getL G k))) T, good z) ∧ T.length ≤ (l.foldl (fun S k => needF G Lb R d S (firstF Lb R (getL G k))) T).length := by
    intro l
    induction l with
    | nil => intro T _ q1 q2; exact ⟨q1, q2, Nat.le_refl _⟩
    | cons k l ih =>
     intro T hl q1 q2
     obtain ⟨r1, r2, r3⟩ := needF_inv good hgood d T _ q1 q2 (hl k (by simp))
     obtain ⟨t1, t2, t3⟩ := ih _ (fun x hx => hl x (by simp [hx])) r1 r2
     exact ⟨t1, t2, Nat.le_trans r3 t3⟩
   obtain ⟨t1, t2, t3⟩ := key (getL G i) (S ++ [i]) (fun k hk => hgood i hi k hk) hS1 hS2
   exact ⟨t1, t2, Nat.le_trans (by simp) t3⟩
set_option maxRecDepth 20000 in
theorem need_spec {G : List (List Int)} {Lb R : List Int} {n : Nat} (good : Int → Prop) (hgood : ∀ i, good i → 0 ≤ i ∧ i.toNat < n ∧ ∀ k ∈ getL G i, 0 ≤ k ∧ k.toNat < n ∧ good (firstF Lb R (getL G k))) (hG : ∀ k i, i ∈ getL G k → 0 ≤ i ∧ i.toNat < n)
  (hn : G.length = n) (hL : Lb.length = n) (hR : R.length = n) (hlen : ∀ k, (getL G k).length ≤ maxLen) : ∀ (d : Nat) (S : List Int) (i : Int), S.Nodup → (∀ z ∈ S, good z) → n + 1 ≤ S.length + d → good i →
  L E 37 [.int .i64 i, pA 5, pA 2, pA 6, pA 3] (nH G Lb R S) 0 = some (.tuple #[], nH G Lb R (needF G Lb R d S i)) := by
 intro d
 induction d with
 | zero =>
  intro S i hS hSg hd hi
  have := List.Nodup.length_le_of_subset (l₂ := (List.range n).map Int.ofNat) hS fun z hz => by
   obtain ⟨q0, q1, _⟩ := hgood z (hSg z hz)
   exact List.mem_map.2 ⟨z.toNat, List.mem_range.2 q1, Int.toNat_of_nonneg q0⟩
  simp at this
  omega
 | succ d ih =>
  intro S i hS hSg hd hi
  rw [L_fn F37 rfl]
  obtain ⟨i0, i1, hik⟩ := hgood i hi
  by_cases hc : S.contains i = true
  ·have hg : aget (setM S) i = some (.bool true) := by rw [setM_get, if_pos hc]
   have hm : i ∈ S := List.contains_iff_mem.1 hc
   have lk : lookupT E.P (some ⟨3, some (Value.bool false)⟩) (nH G Lb R S) (.map (some 4)) (.int .i64 i) false = some (.bool true) := lookup_some keyE rfl rfl hg
   unfold nH pA at lk
   simp -implicitDefEqProofs [r37, p37, nH, pA, needF, hm, lk]
  ·have hc : S.contains i = false := by simpa using hc
   have hg : aget (setM S) i = none := by rw [setM_get, if_neg (by rw [hc]; decide)]
   have hm : ¬ i ∈ S := fun h => by rw [List.contains_iff_mem.2 h] at hc; cases hc
   have lk : lookupT E.P (some ⟨3, some (Value.bool false)⟩) (nH G Lb R S) (.map (some 4)) (.int .i64 i) false = some (.bool false) := lookup_none keyE rfl rfl hg
   have pk : mapPutT E.P (some ⟨3, some (Value.bool false)⟩) (nH G Lb R S) 0 (.map (some 4)) (.int .i64 i) (.bool true) = some (nH G Lb R (S ++ [i])) := by
    rw [put_map keyE (l := setM S) rfl (Nat.zero_le _), setM_add hc]; rfl
   have gi := graphT_idx (e := 23) (G := G) i0 (by omega)
   have hlenT : ∀ h, lenT .sl h (rowT (getL G i)) = some (.int .i64 ((getL G i).length : Int)) := fun h => by unfold rowT; simp
   have fitT : ∀ l, fitsTT ⟨some false, some 1⟩ (rowT l) = true := fun l => rfl
   unfold nH pA at lk pk
   have hS1 : (S ++ [i]).Nodup := by
    rw [List.nodup_append]
    refine ⟨hS, by simp, fun a ha b hb e => hm ?_⟩
    rw [List.mem_singleton.1 hb] at e
    exact e ▸ ha
   have hS2 : ∀ z ∈ S ++ [i], good z := fun z hz => by
    rcases List.mem_append.1 hz with hz | hz
    ·exact hSg z hz
    ·rw [List.mem_singleton.1 hz]; exact hi
   simp -implicitDefEqProofs [r37, p37, nH, pA, needF, hm, lk, pk, gi, fitT, hlenT]
   rw [LL_for (γ := List Int) (getL G i) (S ++ [i]) (fun j _ => [(18, .int .i64 j)]) (fun _ S => nH G Lb R S) (fun _ rest S => (.exit 0, [(18, undef)], nH G Lb R (rest.foldl (fun S k => needF G Lb R d S (firstF Lb R (getL G k))) S)))
    (fun _ S => S.Nodup ∧ (∀ z ∈ S, good z) ∧ n + 1 ≤ S.length + d) (hlen i) ⟨hS1, hS2, by simp; omega⟩]
   ·simp -implicitDefEqProofs [k37_3, nH, pA]
   ·simp [k37_3]
   ·rfl
   ·intro nx j S hj _
    simp -implicitDefEqProofs [r37_3, k37_3, nH, hj, trim_le]
   ·intro nx j v rest S hj hv hd hw hS ih'
    have hvk := hik v (hv ▸ List.getElem_mem hj)
    have fs := first_spec (Lb := Lb) (R := R) (n := n) (k := v) (fun z hz => hG v z hz) hL hR hvk.1 (by omega) (hlen v)
    have nd := ih S _ hS.1 hS.2.1 hS.2.2 hvk.2.2
    obtain ⟨r1, r2, r3⟩ := needF_inv good (fun i hi k hk => ((hgood i hi).2.2 k hk).2.2) d S _ hS.1 hS.2.1 hvk.2.2
    have ih2 := ih' _ ⟨r1, r2, by omega⟩
    rw [List.foldl_cons]
    unfold nH pA at nd
    have rc : ∀ h l, reifyC E.P 7 h [rowT l] = some [rowT l] := fun h l => reifyC_set rfl
    simp -implicitDefEqProofs [k37_3, nH, pA] at ih2
    simp -implicitDefEqProofs [r37_3, k37_3, nH, pA, hj, rowT_idxN hj, hv, hw, ret0 m36, ret2 m37, fs, nd, trim_le, s23, a23, s43, a43, rc, wrapP]
    exact ih2
end Go.Proofs.Ytbadgapficfbpaa.Bm
namespace Go.Proofs.Ytbadgapficfbpaa.Bm
open Go Go.RowKit
theorem firstF_or {L R : List Int} : ∀ (l : List Int) (b : Int), (∀ i ∈ l, 0 ≤ i) → (b = -1 ∨ (0 ≤ b ∧ getI L b = 1)) →
  (l.foldl (firstS L R) b = -1 ∧ b = -1 ∧ ∀ i ∈ l, getI L i ≠ 1) ∨ (0 ≤ l.foldl (firstS L R) b ∧ getI L (l.foldl (firstS L R) b) = 1 ∧ (l.foldl (firstS L R) b = b ∨ l.foldl (firstS L R) b ∈ l))
 | [], b, _, hb => by
  rcases hb with h | h
  ·exact .inl ⟨h, h, fun i hi => by cases hi⟩
  ·exact .inr ⟨h.1, h.2, .inl rfl⟩
 | i :: l, b, hl, hb => by
  have h0 := hl i (by simp)
  have hl' : ∀ i ∈ l, 0 ≤ i := fun j hj => hl j (by simp [hj])
  rw [List.foldl_cons]
  by_cases q : getI L i = 1 ∧ (b < 0 ∨ getI R i < getI R b)
  ·have e : firstS L R b i = i := by unfold firstS; rw [if_pos q]
   rw [e]
   rcases firstF_or l i hl' (.inr ⟨h0, q.1⟩) with ⟨_, h, _⟩ | ⟨h1, h2, h3⟩
   ·omega
   ·exact .inr ⟨h1, h2, .inr (by rcases h3 with h | h <;> simp [h])⟩
  ·have e : firstS L R b i = b := by unfold firstS; rw [if_neg q]
   rw [e]
   rcases firstF_or l b hl' hb with ⟨h1, h2, h3⟩ | ⟨h1, h2, h3⟩
   ·refine .inl ⟨h1, h2, fun j hj => ?_⟩
    rcases List.mem_cons.1 hj with rfl | hj
    ·exact fun hi => q ⟨hi, .inl (by omega)⟩
    ·exact h3 j hj
   ·exact .inr ⟨h1, h2, by rcases h3 with h | h <;> simp [h]⟩
theorem firstF_in {L R l : List Int} (hl : ∀ i ∈ l, 0 ≤ i) {i : Int} (hi : i ∈ l) (h1 : getI L i = 1) : firstF L R l ∈ l ∧ getI L (firstF L R l) = 1 := by
 rcases firstF_or (L := L) (R := R) l (-1) hl (.inl rfl) with ⟨_, _, h⟩ | ⟨q1, q2, q3⟩
 ·exact absurd h1 (h i hi)
 ·unfold firstF
  refine ⟨?_, q2⟩
  rcases q3 with h | h
  ·rw [h] at q1; omega
  ·exact h
def goodI (A : List (List Int)) (i : Int) : Prop := dom A.length i ∧ getI (groundF A).1 i = 1
theorem good_first {A : List (List Int)} (hr : rightB A = true) {k : Int} (hk : dom A.length k) (h2 : getI (groundF A).1 k = 2) : goodI A (firstF (groundF A).1 (groundF A).2 (getL (graphF A) k)) ∧ firstF (groundF A).1 (groundF A).2 (getL (graphF A) k) ∈ getL (graphF A) k := by
 obtain ⟨i, hi, ha, h1, _⟩ := (ground_cert hr).out_ k hk h2
 have hm : i ∈ getL (graphF A) k := (memG hr hk).2 ⟨hi, ha⟩
 obtain ⟨q1, q2⟩ := firstF_in (L := (groundF A).1) (R := (groundF A).2) (l := getL (graphF A) k) (fun j hj => ((memG hr hk).1 hj).1.1) hm h1
 exact ⟨⟨((memG hr hk).1 q1).1, q2⟩, q1⟩
theorem good_ok {A : List (List Int)} (hr : rightB A = true) (i : Int) (hi : goodI A i) : 0 ≤ i ∧ i.toNat < A.length ∧ ∀ k ∈ getL (graphF A) i, 0 ≤ k ∧ k.toNat < A.length ∧ goodI A (firstF (groundF A).1 (groundF A).2 (getL (graphF A) k)) := by
 refine ⟨hi.1.1, hi.1.2, fun k hk => ?_⟩
 obtain ⟨hkd, ha⟩ := (memG hr hi.1).1 hk
 exact ⟨hkd.1, hkd.2, (good_first hr hkd (((ground_cert hr).in_ i hi.1 hi.2).2 k hkd ha).1).1⟩
def whyC (A : List (List Int)) (c : Int) : Int := if getI (groundF A).1 c = 2 then firstF (groundF A).1 (groundF A).2 (getL (graphF A) c) else c
def whyS (A : List (List Int)) (c : Int) : List Int := needF (graphF A) (groundF A).1 (groundF A).2 (A.length + 1) [] (whyC A c)
theorem whyC_good {A : List (List Int)} (hr : rightB A = true) {c : Int} (hc : dom A.length c) (h0 : getI (groundF A).1 c ≠ 0) : goodI A (whyC A c) := by
 unfold whyC
 split
 ·exact (good_first hr hc ‹_›).1
 ·rename_i h2
  rcases (ground_cert hr).l01 c hc with h | h | h
  ·exact absurd h h0
  ·exact ⟨hc, h⟩
  ·exact absurd h h2
theorem whyS_inv {A : List (List Int)} (hr : rightB A = true) {c : Int} (hc : dom A.length c) (h0 : getI (groundF A).1 c ≠ 0) : (whyS A c).Nodup ∧ (∀ z ∈ whyS A c, goodI A z) := by
 obtain ⟨h1, h2, _⟩ := needF_inv (goodI A) (fun i hi k hk => ((good_ok hr i hi).2.2 k hk).2.2) (A.length + 1) [] _ (by simp) (fun z hz => by cases hz) (whyC_good hr hc h0)
 exact ⟨h1, h2⟩
theorem nodup_dom_len {n : Nat} {S : List Int} (h : S.Nodup) (hd : ∀ z ∈ S, dom n z) : S.length ≤ n := by
 have := List.Nodup.length_le_of_subset (l₂ := (List.range n).map Int.ofNat) h fun z hz => by
  obtain ⟨q0, q1⟩ := hd z hz
  exact List.mem_map.2 ⟨z.toNat, List.mem_range.2 q1, by show ((z.toNat : Nat) : Int) = z; omega⟩
 simpa using this
theorem whyS_ne {A : List (List Int)} (c : Int) : whyS A c ≠ [] := by
 unfold whyS
 have key : ∀ (d : Nat) (S : List Int) (i : Int), S ≠ [] → needF (graphF A) (groundF A).1 (groundF A).2 d S i ≠ [] := by
  intro d
  induction d with
  | zero => intro S i h; exact h
  | succ d ih =>
   intro S i h
   unfold needF
   split
   ·exact h
   ·have : ∀ (l : List Int) (T : List Int), T ≠ [] → l.foldl (fun S k => needF (graphF A) (groundF A).1 (groundF A).2 d S (firstF (groundF A).1 (groundF A).2 (getL (graphF A) k))) T ≠ [] := by
     intro l
     induction l with
     | nil => intro T h; exact h
     | cons k l ihl => intro T h; exact ihl _ (ih _ _ h)
    exact this _ _ (by simp)
 unfold needF
 rw [if_neg (by simp)]
 have : ∀ (l : List Int) (T : List Int), T ≠ [] → l.foldl (fun S k => needF (graphF A) (groundF A).1 (groundF A).2 A.length S (firstF (groundF A).1 (groundF A).2 (getL (graphF A) k))) T ≠ [] := by
  intro l
  induction l with
  | nil => intro T h; exact h
  | cons k l ihl => intro T h; exact ihl _ (key _ _ _ h)
 exact this _ _ (by simp)
def headR : Nat → RCode → RCode
 | 0, _ => .skip
 | n + 1, .seq a b => .seq a (headR n b)
 | _ + 1, _ => .skip
theorem head21 : rcOf E 21 (headC 11 body21) = headR 11 r21.body := by kernel_rfl
theorem ok21 : okCode (headC 11 body21) = true := by kernel_rfl
def fl21 : List Nat := (List.range 68).filter fun i => i != 10 && i != 12
set_option maxRecDepth 20000 in
theorem head_go (x : Bool) (l : List Claim) (c : Int) (hc : CaseOk l) (hl : l.length ≤ maxLen) (hr : rightB (atts l) = true) (hd : dom (atts l).length c) (h0 : getI (groundF (atts l)).1 c ≠ 0) :
  ∃ σ', evG E 21 (L E) LL 0 (headC 11 body21) (padS [lst x (l.map Claim.val), .int .i64 c] 68) [] = some (.normal, σ', nH (graphF (atts l)) (groundF (atts l)).1 (groundF (atts l)).2 (whyS (atts l) c)) ∧
   forget fl21 σ' = σP (pA 5) (.slice none 0 0) := by
 rw [code_eq, head21]
 have gs := grounded_spec x l hc hl
 rw [hr] at gs
 simp only [if_true] at gs
 have gr := graph_spec x l hc hr
 obtain ⟨hn, hat⟩ := right_at hr
 obtain ⟨hL, hR⟩ := ground_len (A := atts l)
 have hG := graphF_len (atts l)
 have hgi := graphF_in (atts l)
 have hgb := graphF_bound hr
 have hgood := good_ok hr
 have hwc := whyC_good hr hd h0
 have l01 := (ground_cert hr).l01 c hd
 have hG1 : ∀ k i, i ∈ getL (graphF (atts l)) k → 0 ≤ i ∧ i.toNat < (atts l).length := fun k i hi => by
  unfold getL at hi
  rw [List.getD_eq_getElem?_getD] at hi
  cases hq : (graphF (atts l))[k.toNat]? with
  | none => rw [hq] at hi; cases hi
  | some g => rw [hq] at hi; exact hgi g (List.mem_of_getElem? hq) i hi
 have hG2 : ∀ k, (getL (graphF (atts l)) k).length ≤ maxLen := fun k => by
  unfold getL maxLen
  rw [List.getD_eq_getElem?_getD]
  cases hq : (graphF (atts l))[k.toNat]? with
  | none => simp
  | some g => have := hgb g (List.mem_of_getElem? hq); simp; omega
 have nd := need_spec (G := graphF (atts l)) (Lb := (groundF (atts l)).1) (R := (groundF (atts l)).2) (n := (atts l).length) (goodI (atts l)) hgood hG1 hG hL hR hG2 ((atts l).length + 1) [] (whyC (atts l) c) (by simp) (fun z hz => by cases hz) (by simp) hwc
 have fs := first_spec (G := graphF (atts l)) (Lb := (groundF (atts l)).1) (R := (groundF (atts l)).2) (n := (atts l).length) (k := c) (hG1 c) hL hR hd.1 (by rw [hG]; exact hd.2) (hG2 c)
 have hlt : (c : Int) < (l.length : Int) := by have := hd.2; rw [atts_len] at this; have := hd.1; omega
 have h0' : ¬ c < 0 := by have := hd.1; omega
 have h1' : ¬ (l.length : Int) ≤ c := by omega
 have f1 : indexAddrT (.sl 3 ⟨some false, some 1⟩) (rowT (groundF (atts l)).1) (.int .i64 c) = some (cptr (.int .i64 (getI (groundF (atts l)).1 c))) := rowT_idx hd.1 (by rw [hL]; exact hd.2)
 have fitT : ∀ l, fitsTT ⟨some false, some 1⟩ (rowT l) = true := fun l => rfl
 have c1 : ∀ l, cellsOf (rowT l) = some [rowT l] := fun l => rfl
 have rc : ∀ h l, reifyC E.P 7 h [rowT l] = some [rowT l] := fun h l => reifyC_set rfl
 have n1 : flat Value.nilFunc = true := rfl
 have n2 : cellsOf Value.nilFunc = some [Value.nilFunc] := rfl
 have n3 : flat (Value.map none) = true := rfl
 have n4 : cellsOf (Value.map none) = some [Value.map none] := rfl
 have n5 : ∀ r, cellsOf (Value.map (some r)) = some [Value.map (some r)] := fun _ => rfl
 unfold whyS
 unfold whyC at nd hwc ⊢
 generalize hLb : (groundF (atts l)).1 = Lb at *
 generalize hRr : (groundF (atts l)).2 = Rr at *
 generalize hGr : graphF (atts l) = G at *
 generalize needF G Lb Rr ((atts l).length + 1) [] _ = S at *
 unfold nH pA at nd ⊢
 rw [show mapB (Value.int .i64) (setM []) = .map [] 0 from rfl] at nd
 by_cases h2 : getI Lb c = 2
 ·rw [if_pos h2] at nd
  simp -implicitDefEqProofs [headR, r21, p21, ret4 m10, frzAll_lst, gs, h0', h1', n1, n2, n3, n4, n5, f1, h2, c1, ret1s m27, gr, ret0 m36, fs, rc, s23, a23, s43, a43, wrapP, ret2 m37, nd]
  show forget fl21 _ = σP _ _
  kernel_rfl
 ·rw [if_neg h2] at nd
  simp -implicitDefEqProofs [headR, r21, p21, ret4 m10, frzAll_lst, gs, h0', h1', n1, n2, n3, n4, n5, f1, h0, h2, c1, ret1s m27, gr, ret2 m37, nd]
  show forget fl21 _ = σP _ _
  kernel_rfl
set_option maxRecDepth 20000 in
theorem head_no (x : Bool) (l : List Claim) (c : Int) (hc : CaseOk l) (hl : l.length ≤ maxLen) (hno : ¬ (rightB (atts l) = true ∧ dom (atts l).length c ∧ getI (groundF (atts l)).1 c ≠ 0)) :
  ∃ σ' h', evG E 21 (L E) LL 0 (headC 11 body21) (padS [lst x (l.map Claim.val), .int .i64 c] 68) [] = some (.ret, σ', h') ∧ slot σ' 4 = .slice none 0 0 := by
 rw [code_eq, head21]
 have gs := grounded_spec x l hc hl
 have c1 : ∀ l, cellsOf (rowT l) = some [rowT l] := fun l => rfl
 have fitT : ∀ l, fitsTT ⟨some false, some 1⟩ (rowT l) = true := fun l => rfl
 cases hr : rightB (atts l)
 ·rw [hr] at gs
  simp -implicitDefEqProofs [headR, r21, p21, ret4 m10, frzAll_lst, gs]
 ·rw [hr] at gs
  simp only [if_true] at gs
  by_cases h0 : c < 0
  ·simp -implicitDefEqProofs [headR, r21, p21, ret4 m10, frzAll_lst, gs, h0, c1]
  ·by_cases h1 : (l.length : Int) ≤ c
   ·simp -implicitDefEqProofs [headR, r21, p21, ret4 m10, frzAll_lst, gs, h0, h1, c1]
   ·have hd : dom (atts l).length c := ⟨by omega, by rw [atts_len]; omega⟩
    have h2 : getI (groundF (atts l)).1 c = 0 := Decidable.byContradiction fun e => hno ⟨hr, hd, e⟩
    obtain ⟨hL, hR⟩ := ground_len (A := atts l)
    have f1 : indexAddrT (.sl 3 ⟨some false, some 1⟩) (rowT (groundF (atts l)).1) (.int .i64 c) = some (cptr (.int .i64 (getI (groundF (atts l)).1 c))) := rowT_idx hd.1 (by rw [hL]; exact hd.2)
    simp -implicitDefEqProofs [headR, r21, p21, ret4 m10, frzAll_lst, gs, h0, h1, c1, f1, h2]
end Go.Proofs.Ytbadgapficfbpaa.Bm
namespace Go.Proofs.Ytbadgapficfbpaa
open Go Go.RowKit Go.Shelf Go.Sort
def lays189_ren : Go.Shelf.Ren := ⟨fun | 189 => 38 | 125 => 45 | 257 => 44 | 128 => 57 | 129 => 58 | 294 => 48 | 295 => 49 | 296 => 50 | 297 => 51 | 298 => 52 | 299 => 53 | 216 => 54 | 300 => 55 | 301 => 56 | 328 => 59 | 329 => 60 | 330 => 61 | 331 => 62 | 332 => 63 | 215 => 64 | 343 => 65 | n => n, fun | 28 => 23 | 3 => 3 | 46 => 59 | 0 => 0 | 51 => 72 | 53 => 74 | 4 => 4 | 183 => 64 | 182 => 63 | 131 => 69 | 5 => 5 | 9 => 9 | 218 => 75 | 222 => 79 | 228 => 81 | 229 => 82 | n => n, fun | n => n⟩
theorem lays189 : Go.Proofs.Lays.n189 Try.prog lays189_ren := {
 mixed := by kernel_rfl
 f125 := Try.func45.trans (congrArg some (by kernel_rfl))
 f128 := Try.func57.trans (congrArg some (by kernel_rfl))
 f129 := Try.func58.trans (congrArg some (by kernel_rfl))
 f189 := Try.func38.trans (congrArg some (by kernel_rfl))
 f215 := Try.func64.trans (congrArg some (by kernel_rfl))
 f216 := Try.func54.trans (congrArg some (by kernel_rfl))
 f257 := Try.func44.trans (congrArg some (by kernel_rfl))
 f294 := Try.func48.trans (congrArg some (by kernel_rfl))
 f295 := Try.func49.trans (congrArg some (by kernel_rfl))
 f296 := Try.func50.trans (congrArg some (by kernel_rfl))
 f297 := Try.func51.trans (congrArg some (by kernel_rfl))
 f298 := Try.func52.trans (congrArg some (by kernel_rfl))
 f299 := Try.func53.trans (congrArg some (by kernel_rfl))
 f300 := Try.func55.trans (congrArg some (by kernel_rfl))
 f301 := Try.func56.trans (congrArg some (by kernel_rfl))
 f328 := Try.func59.trans (congrArg some (by kernel_rfl))
 f329 := Try.func60.trans (congrArg some (by kernel_rfl))
 f330 := Try.func61.trans (congrArg some (by kernel_rfl))
 f331 := Try.func62.trans (congrArg some (by kernel_rfl))
 f332 := Try.func63.trans (congrArg some (by kernel_rfl))
 f343 := Try.func65.trans (congrArg some (by kernel_rfl))
 t0 := Try.underlying0
 a0 := Try.isAgg0
 z0 := Try.sizeOf0
 v0 := Try.zeroValue0
 t3 := Try.underlying3
 a3 := Try.isAgg3
 z3 := Try.sizeOf3
 v3 := Try.zeroValue3
 t4 := Try.underlying4
 a4 := Try.isAgg4
 z4 := Try.sizeOf4
 v4 := Try.zeroValue4
 t5 := Try.underlying5
 a5 := Try.isAgg5
 z5 := Try.sizeOf5
 v5 := Try.zeroValue5
 t9 := Try.underlying9
 a9 := Try.isAgg9
 z9 := Try.sizeOf9
 v9 := Try.zeroValue9
 t28 := Try.underlying23
 a28 := Try.isAgg23
 z28 := Try.sizeOf23
 v28 := Try.zeroValue23
 t46 := Try.underlying59
 a46 := Try.isAgg59
 z46 := Try.sizeOf59
 v46 := Try.zeroValue59
 t51 := Try.underlying72
 a51 := Try.isAgg72
 z51 := Try.sizeOf72
 v51 := Try.zeroValue72
 t53 := Try.underlying74
 a53 := Try.isAgg74
 z53 := Try.sizeOf74
 v53 := Try.zeroValue74
 t131 := Try.underlying69
 a131 := Try.isAgg69
 z131 := Try.sizeOf69
 v131 := Try.zeroValue69
 t182 := Try.underlying63
 a182 := Try.isAgg63
 z182 := Try.sizeOf63
 v182 := Try.zeroValue63
 t183 := Try.underlying64
 a183 := Try.isAgg64
 z183 := Try.sizeOf64
 v183 := Try.zeroValue64
 t218 := Try.underlying75
 a218 := Try.isAgg75
 z218 := Try.sizeOf75
 v218 := Try.zeroValue75
 t222 := Try.underlying79
 a222 := Try.isAgg79
 z222 := Try.sizeOf79
 v222 := Try.zeroValue79
 t228 := Try.underlying81
 a228 := Try.isAgg81
 z228 := Try.sizeOf81
 v228 := Try.zeroValue81
 t229 := Try.underlying82
 a229 := Try.isAgg82
 z229 := Try.sizeOf82
 v229 := Try.zeroValue82 }
theorem conSort : Bm.SortCon Try.prog 38 Bm.sortI none where
 row blk off cap zs w hH hblk hsz _ := by
  rw [← Bm.sortI_eq]
  exact Any.slices_Sort_int lays189 blk off cap zs w hH hblk hsz
 none p cap w := Any.slices_Sort_int_none lays189 p cap w
 dfd := ⟨_, Try.func38, rfl⟩
 len := Bm.sortI_len
 cut := fun _ h => by cases h
end Go.Proofs.Ytbadgapficfbpaa
