/-
  Chapter 08: columns compared; how long a window's column is. Conditions: lists that are not too long.
-/
import Derived.Test.YthnkmmbkdbdefaaQ22
namespace Go.Proofs.Ythnkmmbkdbdefaa.Bm
open Go Go.RowKit
open Rg (Rect Slab)

def addS (d : Int) (r : Rect) : List (Int × Int) := if r.y0 + d < r.y1 - d then [(r.y0 + d, r.y1 - d)] else []
/-- A new slab is opened by the rectangle: yes or no. -/
def isNew (l : List (Slab × Rect)) (r : Rect) : Prop := ∀ p, l.getLast? = some p → p.1.x0 ≠ r.x0
def sstep (d : Int) (l : List (Slab × Rect)) (r : Rect) : List (Slab × Rect) :=
  match l.getLast? with
  | some p => if p.1.x0 = r.x0 then l.dropLast ++ [({ p.1 with col := p.1.col ++ addS d r }, if p.1.col = [] then r else p.2)] else l ++ [(⟨r.x0, r.x1, addS d r⟩, r)]
  | none => l ++ [(⟨r.x0, r.x1, addS d r⟩, r)]
theorem sstep_new {d : Int} {l : List (Slab × Rect)} {r : Rect} (h : isNew l r) : sstep d l r = l ++ [(⟨r.x0, r.x1, addS d r⟩, r)] := by
  unfold sstep
  cases hl : l.getLast? with
  | none => rfl
  | some p => exact if_neg (h p hl)
theorem sstep_old {d : Int} {l : List (Slab × Rect)} {r : Rect} {p : Slab × Rect} (h : p.1.x0 = r.x0) : sstep d (l ++ [p]) r = l ++ [({ p.1 with col := p.1.col ++ addS d r }, if p.1.col = [] then r else p.2)] := by
  unfold sstep
  simp [h]
theorem lit_oslab (h : Heap) (a b : Int) : buildSliceT (some ⟨52, 3, 40, .agg ⟨[.int .i64 0, .int .i64 0, .slice none 0 0]⟩, ⟨some true, some 3⟩⟩) false h 1 #[(0, .agg ⟨[.int .i64 a, .int .i64 b, .slice none 0 0]⟩)] = some (lst true [.agg ⟨[.int .i64 a, .int .i64 b, .slice none 0 0]⟩], h) :=
  (build_lit' (n := 1) (l := [(0, .agg ⟨[.int .i64 a, .int .i64 b, .slice none 0 0]⟩)]) rfl rfl (by decide) (by decide) (by decide)).trans rfl
theorem app_oslab {h : Heap} {b lo : Nat} {c : List (Int × Int × Value)} (u v : Int) (hob : h[b]? = some (lay3.row 52 c)) (hlo : lo ≤ b) (hc : c.length ≤ 100000) :
    appendT (some ⟨52, 3, 40, .agg ⟨[.int .i64 0, .int .i64 0, .slice none 0 0]⟩, ⟨some true, some 3⟩⟩) h lo false (lay3.sl b c) (lst true [.agg ⟨[.int .i64 u, .int .i64 v, .slice none 0 0]⟩]) = some (lay3.sl b (c ++ [(u, v, .slice none 0 0)]), h.set b (lay3.row 52 (c ++ [(u, v, .slice none 0 0)]))) :=
  Lay.app (R := lay3) (m := [(u, v, .slice none 0 0)]) rfl hob (cells_lst (s := 3) rfl) hlo (by show (c.length + 1) * 40 ≤ 2 ^ 47; omega)
theorem nil_ospan {h : Heap} {lo : Nat} {st : Bool} (u v : Int) : appendT (some ⟨58, 2, 16, .agg ⟨[.int .i64 0, .int .i64 0]⟩, ⟨some true, some 2⟩⟩) h lo st (.slice none 0 0) (lst true [.agg ⟨[.int .i64 u, .int .i64 v]⟩]) = some (spanR.sl h.length [(u, v)], h ++ [spanR.row 58 [(u, v)]]) := by
  rw [append_nil, cells_lst (s := 2) rfl]
  rfl
theorem build_sp (u v : Int) : buildT (.fs ⟨[.int .i64 0, .int .i64 0]⟩ ⟨[(0, 1), (1, 1)]⟩) #[(0, .int .i64 u), (1, .int .i64 v)] = some (.agg ⟨[.int .i64 u, .int .i64 v]⟩) := rfl
theorem build_sl (u v : Int) : buildT (.fs ⟨[.int .i64 0, .int .i64 0, .slice none 0 0]⟩ ⟨[(0, 1), (1, 1), (2, 1)]⟩) #[(0, .int .i64 u), (1, .int .i64 v)] = some (.agg ⟨[.int .i64 u, .int .i64 v, .slice none 0 0]⟩) := rfl
def nilT (v : Value) (h : Heap) : Option (Value × Heap) := match v with
  | .pointer (some a) => some (.pointer (some a), h)
  | .func (.yield 2) a b => some (.func (.yield 2) a b, h)
  | .func (.func f) fst cap => some (.func (.func f) fst cap, h)
  | _ => none
theorem rop_nilT {E : Env} {C : Callee} {lo : Nat} {st : Bool} {ρ : Operand → Value} {h : Heap} {x : Operand} : ropR E C lo st (.nilCheck x) ρ h = nilT (ρ x) h := rfl
theorem nil_at {h : Heap} {b i j : Nat} {l : List (Int × Int × Value)} : nilT (lay3.at_ b l i j) h = some (lay3.at_ b l i j, h) := rfl
theorem row_len {h : Heap} {A : List (Int × Int × Value)} {e : Int × Int × Value} : lenT .sl h (lay3.sl 0 (A ++ [e])) = some (.int .i64 ((A.length : Int) + 1)) := by rw [Lay.sl_len]; simp
theorem row_lt {A : List (Int × Int × Value)} {e : Int × Int × Value} : A.length < (A ++ [e]).length := by simp
theorem row_idx {A : List (Int × Int × Value)} {e : Int × Int × Value} : indexAddrT (.sl 52 ⟨some true, some 3⟩) (lay3.sl 0 (A ++ [e])) (.int .i64 A.length) = some (lay3.at_ 0 (A ++ [e]) A.length 0) := Lay.index_row (R := lay3) rfl row_lt
theorem row_fld {A : List (Int × Int × Value)} {f n : Nat} : fieldAddrT ⟨some true, some 3⟩ (some (f, ⟨some false, some 1⟩)) (lay3.at_ 0 A n 0) = some (lay3.at_ 0 A n f) := Lay.field_row (R := lay3) (n := 0)
theorem row_l0 {H : Heap} {A : List (Int × Int × Value)} {x y : Int} {v : Value} : loadT ⟨some false, some 1⟩ (lay3.row 52 (A ++ [(x, y, v)]) :: H) (lay3.at_ 0 (A ++ [(x, y, v)]) A.length 0) = some (.int .i64 x) := by
  rw [Lay.load_cell (R := lay3) rfl row_lt (by decide)]
  simp [lay3]
theorem row_l2 {H : Heap} {A : List (Int × Int × Value)} {x y : Int} {v : Value} : loadT ⟨some false, some 1⟩ (lay3.row 52 (A ++ [(x, y, v)]) :: H) (lay3.at_ 0 (A ++ [(x, y, v)]) A.length 2) = some v := by
  rw [Lay.load_cell (R := lay3) rfl row_lt (by decide)]
  simp [lay3]
theorem row_st {H : Heap} {A : List (Int × Int × Value)} {x y : Int} {v v' : Value} (h : cellsOf v' = some [v']) : storeT (some 1) (lay3.row 52 (A ++ [(x, y, v)]) :: H) 0 v' (lay3.at_ 0 (A ++ [(x, y, v)]) A.length 2) = some (lay3.row 52 (A ++ [(x, y, v')]) :: H) := by
  rw [Lay.store_cell (R := lay3) (a := (x, y, v')) h rfl (Nat.le_refl _) row_lt (by decide) (by simp [lay3])]
  simp
theorem row_sl {A : List (Int × Int × Value)} {e : Int × Int × Value} (e' : Int × Int × Value) : lay3.sl 0 (A ++ [e]) = lay3.sl 0 (A ++ [e']) := by unfold Lay.sl; simp
theorem sp_cells {b : Nat} {c : List (Int × Int)} : cellsOf (spanR.sl b c) = some [spanR.sl b c] := rfl
def sInv (i : Nat) (l : List (Slab × Rect)) : Prop := l.length ≤ i ∧ ∀ p ∈ l, p.1.col.length ≤ i
theorem sH_bel {n : Nat} : ∀ {l : List (Slab × Rect)}, (sH l).all (belowO n) = true
  | [] => rfl
  | p :: l => by
    show (sT p ++ sH l).all (belowO n) = true
    rw [List.all_append, sH_bel, Bool.and_true]
    unfold sT
    split
    · rfl
    · simp only [List.all_cons, List.all_nil, Rec.row_bel, boxO, belO_cells, bel_int, Bool.and_self]
theorem enc_bel {n : Nat} : ∀ {l : List (Slab × Rect)} {b : Nat}, b + (sH l).length ≤ n → (lay3.flat (encA b l)).all (below 8 n) = true
  | [], _, _ => rfl
  | p :: l, b, h => by
    have e1 : sH (p :: l) = sT p ++ sH l := rfl
    rw [e1, List.length_append] at h
    show ([.int .i64 p.1.x0, .int .i64 p.1.x1, scolV b p.1.col] ++ lay3.flat (encA (b + (sT p).length) l)).all (below 8 n) = true
    rw [List.all_append, enc_bel (by omega), Bool.and_true]
    simp only [List.all_cons, List.all_nil, bel_int, Bool.true_and, Bool.and_true]
    unfold scolV
    unfold sT at h
    split
    · rfl
    · rename_i hc
      rw [if_neg hc] at h
      simp only [List.length_cons, List.length_nil] at h
      exact Rec.sl_bel (by omega)
theorem HL_bel {n : Nat} {l : List (Slab × Rect)} (h : 1 + (sH l).length ≤ n) : belowO n (lay3.row 52 (encA 1 l)) = true := enc_bel h
theorem trim_hold {n : Nat} {vs : List Value} {h : Heap} (h2 : (h.take n).all (belowO n) = false) : trim n vs h = h := by
  unfold trim
  split
  · rfl
  · rw [h2, Bool.and_false]; rfl
theorem flat_bad {n : Nat} {A : List (Int × Int × Value)} {x y : Int} {v : Value} (h : below 8 n v = false) : belowO n (lay3.row 52 (A ++ [(x, y, v)])) = false := by
  show (lay3.flat (A ++ [(x, y, v)])).all (below 8 n) = false
  rw [Lay.flat_app, List.all_append, Lay.flat_one]
  show (_ && ([Value.int .i64 x, .int .i64 y, v]).all (below 8 n)) = false
  simp only [List.all_cons, h, Bool.false_and, Bool.and_false]
set_option maxHeartbeats 1000000 in
theorem slabs_walk (k : Option Bool) (a : List Rect) (d : Int) (hk : Rec.Ok k a) (ha : a.length ≤ 1000) (hw : ∀ r ∈ a, IntKind.i64.wrap (r.y0 + d) = r.y0 + d ∧ IntKind.i64.wrap (r.y1 - d) = r.y1 - d) :
    pureCall E.P (L E) 32 [rectR.o k a, .int .i64 d] = some (lst false (oslabR.vals ((a.foldl (sstep d) []).map (·.1)))) := by
  rw [pureCall_fn F32 rfl]
  simp -implicitDefEqProofs [r32, p32, prep_new, newK_nil so52, Rec.o_len hk]
  rw [LL_for (γ := List (Slab × Rect)) a [] (fun i l => [(5, lay3.sl 0 (encA 1 l)), (12, .int .i64 i)]) (fun _ l => HL l)
    (fun _ rest l => (.exit 0, [(5, lay3.sl 0 (encA 1 (rest.foldl (sstep d) l))), (12, undef)], HL (rest.foldl (sstep d) l))) sInv (by omega) ⟨Nat.zero_le _, fun p hp => absurd hp List.not_mem_nil⟩]
  · have rr := reify_HL so58 ao58 so52 ao52 (a.foldl (sstep d) [])
    simp -implicitDefEqProofs [k32_3, rr]
  · simp -implicitDefEqProofs [k32_3, encA, Lay.sl_nil]
  · rfl
  · intro nx i l hi _
    simp -implicitDefEqProofs [r32_3, k32_3, hi, trim_le]
  · intro nx i r rest l hi hv hd hw1 hI ih
    have ixi := Rec.o_index (R := rectR) (t := 39) (kk := .i64) (s := 4) rfl hk hi
    rw [hv, rect_val] at ixi
    obtain ⟨w1, w2⟩ := hw r (by rw [← hv]; exact List.getElem_mem hi)
    rw [List.foldl_cons]
    have ih := ih (sstep d l r)
    simp -implicitDefEqProofs [k32_3] at ih
    by_cases hn : isNew l r
    · rw [sstep_new hn] at ih ⊢
      have ih := ih ⟨by simp only [List.length_append, List.length_singleton]; have := hI.1; omega, fun p hp => by
        rcases List.mem_append.1 hp with hp | hp
        · exact Nat.le_succ_of_le (hI.2 p hp)
        · rw [List.mem_singleton.1 hp]
          show (addS d r).length ≤ i + 1
          unfold addS
          split
          · simp
          · exact Nat.zero_le _⟩
      have eA : ∀ c q, encA 1 (l ++ [(⟨r.x0, r.x1, c⟩, q)]) = encA 1 l ++ [(r.x0, r.x1, scolV (1 + (sH l).length) c)] := fun c q => by rw [encA_app]; rfl
      have eS : ∀ c q, sH (l ++ [(⟨r.x0, r.x1, c⟩, q)]) = sH l ++ sT (⟨r.x0, r.x1, c⟩, q) := fun c q => by rw [sH_app, sH_one]
      have sb := fun n => sH_bel (n := n) (l := l)
      have obn : ∀ c q n, 1 + (sH l).length + (sT (⟨r.x0, r.x1, c⟩, q)).length ≤ n → belowO n (lay3.row 52 (encA 1 l ++ [(r.x0, r.x1, scolV (1 + (sH l).length) c)])) = true := fun c q n h => by
        have := HL_bel (n := n) (l := l ++ [(⟨r.x0, r.x1, c⟩, q)]) (by rw [eS, List.length_append]; omega)
        rw [eA] at this
        exact this
      have I1 := hI.1
      have key : encA 1 l = [] ∨ ∃ A x y v, encA 1 l = A ++ [(x, y, v)] ∧ x ≠ r.x0 := by
        cases hl : l.getLast? with
        | none => rw [List.getLast?_eq_none_iff] at hl; subst hl; exact .inl rfl
        | some p =>
          obtain ⟨m, rfl⟩ := List.getLast?_eq_some_iff.1 hl
          refine .inr ⟨encA 1 m, p.1.x0, p.1.x1, scolV (1 + (sH m).length) p.1.col, by rw [encA_app]; rfl, hn p hl⟩
      unfold HL at ih ⊢
      simp only [eA, eS] at ih ⊢
      have hAl : (encA 1 l).length = l.length := encA_len
      have hBl : (encA 1 l).length ≤ 1000 := by omega
      generalize encA 1 l = B at *
      have ln : ∀ h, lenT .sl h (lay3.sl 0 B) = some (.int .i64 B.length) := fun h => Lay.sl_len
      have hwB : IntKind.i64.wrap (B.length : Int) = B.length := by apply wrap_small <;> omega
      have ap : ∀ S, appendT (some ⟨52, 3, 40, .agg ⟨[.int .i64 0, .int .i64 0, .slice none 0 0]⟩, ⟨some true, some 3⟩⟩) (lay3.row 52 B :: S) 0 false (lay3.sl 0 B) (lst true [.agg ⟨[.int .i64 r.x0, .int .i64 r.x1, .slice none 0 0]⟩]) = some (lay3.sl 0 (B ++ [(r.x0, r.x1, .slice none 0 0)]), lay3.row 52 (B ++ [(r.x0, r.x1, .slice none 0 0)]) :: S) := fun S => (app_oslab r.x0 r.x1 rfl (Nat.le_refl _) (by omega)).trans rfl
      by_cases hd2 : r.y0 + d < r.y1 - d
      · have ea : addS d r = [(r.y0 + d, r.y1 - d)] := if_pos hd2
        rw [ea] at ih ⊢
        have e1 : scolV (1 + (sH l).length) [(r.y0 + d, r.y1 - d)] = spanR.sl ((sH l).length + 1 + 1) [(r.y0 + d, r.y1 - d)] := by
          unfold scolV
          rw [if_neg (by simp), Nat.add_comm 1]
        have e2 : sT (⟨r.x0, r.x1, [(r.y0 + d, r.y1 - d)]⟩, r) = [boxO r, spanR.row 58 [(r.y0 + d, r.y1 - d)]] := rfl
        have tk : ∀ vs S', trim ((sH l).length + 1) vs (lay3.row 52 (B ++ [(r.x0, r.x1, spanR.sl ((sH l).length + 1 + 1) [(r.y0 + d, r.y1 - d)])]) :: S') = lay3.row 52 (B ++ [(r.x0, r.x1, spanR.sl ((sH l).length + 1 + 1) [(r.y0 + d, r.y1 - d)])]) :: S' := fun vs S' => trim_hold (by
          rw [List.take_succ_cons, List.all_cons, flat_bad, Bool.false_and]
          exact decide_eq_false (by show ¬ ((sH l).length + 1 + 1 < (sH l).length + 1); omega))
        rw [e1, e2, row_sl (r.x0, r.x1, .slice none 0 0)] at ih
        unfold boxO at ih
        have eap : ∀ a b, sH l ++ [a, b] = sH l ++ [a] ++ [b] := fun a b => by simp
        rw [eap] at ih
        rcases key with hB | ⟨A, x, y, v, hB, hx⟩
        · have hB := eq_true hB
          simp -implicitDefEqProofs [r32_3, k32_3, hi, ixi, ln, hB, w1, w2, hd2, hw1, lit_oslab, ap, row_len, row_idx, row_fld, row_l2, row_st, sp_cells, hwB, tk, lit_ospan, nil_ospan, build_sp, build_sl, rop_nilT, nil_at, -append_nil, -List.all_eq_true, -List.append_assoc]
          exact ih
        · have hne : ¬ B = [] := by rw [hB]; simp
          have hlA : (A.length : Int) = B.length - 1 := by rw [hB]; simp
          have hws : IntKind.i64.wrap ((B.length : Int) - 1) = B.length - 1 := by rw [← hlA]; apply wrap_small <;> omega
          have idx : indexAddrT (.sl 52 ⟨some true, some 3⟩) (lay3.sl 0 B) (.int .i64 ((B.length : Int) - 1)) = some (lay3.at_ 0 B A.length 0) := by rw [← hlA, hB]; exact row_idx
          have l0 : ∀ H, loadT ⟨some false, some 1⟩ (lay3.row 52 B :: H) (lay3.at_ 0 B A.length 0) = some (.int .i64 x) := fun H => by rw [hB]; exact row_l0
          simp -implicitDefEqProofs [r32_3, k32_3, hi, ixi, ln, hne, hws, idx, row_fld, l0, hx, w1, w2, hd2, hw1, lit_oslab, ap, row_len, row_idx, row_fld, row_l2, row_st, sp_cells, hwB, tk, lit_ospan, nil_ospan, build_sp, build_sl, rop_nilT, nil_at, -append_nil, -List.all_eq_true, -List.append_assoc]
          exact ih
      · have ea : addS d r = [] := if_neg hd2
        rw [ea] at ih ⊢
        have e1 : scolV (1 + (sH l).length) [] = .slice none 0 0 := rfl
        have e2 : sT (⟨r.x0, r.x1, []⟩, r) = [] := rfl
        have ob := obn [] r ((sH l).length + 1) (by rw [e2]; simp; omega)
        rw [e1] at ob
        rw [e1, e2, List.append_nil] at ih
        rcases key with hB | ⟨A, x, y, v, hB, hx⟩
        · have hB := eq_true hB
          simp -implicitDefEqProofs [r32_3, k32_3, hi, ixi, ln, hB, w1, w2, hd2, hw1, lit_oslab, ap, trim_cut, ob, sb, build_sl, -append_nil, Rec.o_bel, Lay.sl_bel, -List.all_eq_true, -List.append_assoc]
          exact ih
        · have hne : ¬ B = [] := by rw [hB]; simp
          have hlA : (A.length : Int) = B.length - 1 := by rw [hB]; simp
          have hws : IntKind.i64.wrap ((B.length : Int) - 1) = B.length - 1 := by rw [← hlA]; apply wrap_small <;> omega
          have idx : indexAddrT (.sl 52 ⟨some true, some 3⟩) (lay3.sl 0 B) (.int .i64 ((B.length : Int) - 1)) = some (lay3.at_ 0 B A.length 0) := by rw [← hlA, hB]; exact row_idx
          have l0 : ∀ H, loadT ⟨some false, some 1⟩ (lay3.row 52 B :: H) (lay3.at_ 0 B A.length 0) = some (.int .i64 x) := fun H => by rw [hB]; exact row_l0
          simp -implicitDefEqProofs [r32_3, k32_3, hi, ixi, ln, hne, hws, idx, row_fld, l0, hx, w1, w2, hd2, hw1, lit_oslab, ap, row_fld, trim_cut, ob, sb, build_sl, -append_nil, Rec.o_bel, Lay.sl_bel, -List.all_eq_true, -List.append_assoc]
          exact ih
    · obtain ⟨p, hp, hpx⟩ : ∃ p, l.getLast? = some p ∧ p.1.x0 = r.x0 := by
        apply Classical.byContradiction
        intro hno
        exact hn fun p hp hx => hno ⟨p, hp, hx⟩
      obtain ⟨m, rfl⟩ : ∃ m, l = m ++ [p] := ⟨l.dropLast, by rw [List.getLast?_eq_some_iff] at hp; obtain ⟨ys, rfl⟩ := hp; simp⟩
      rw [sstep_old hpx] at ih ⊢
      obtain ⟨⟨x0, x1, col⟩, q⟩ := p
      simp only at hpx
      subst hpx
      have eA : ∀ c q, encA 1 (m ++ [(⟨r.x0, x1, c⟩, q)]) = encA 1 m ++ [(r.x0, x1, scolV (1 + (sH m).length) c)] := fun c q => by rw [encA_app]; rfl
      have eS : ∀ c q, sH (m ++ [(⟨r.x0, x1, c⟩, q)]) = sH m ++ sT (⟨r.x0, x1, c⟩, q) := fun c q => by rw [sH_app, sH_one]
      have ob := HL_bel (n := (sH (m ++ [(⟨r.x0, x1, col⟩, q)])).length + 1) (l := m ++ [(⟨r.x0, x1, col⟩, q)]) (by omega)
      have sb := fun n => sH_bel (n := n) (l := m ++ [(⟨r.x0, x1, col⟩, q)])
      unfold HL at ih ⊢
      simp only [eA, eS] at ih ob sb ⊢
      have I1 := hI.1
      rw [List.length_append, List.length_singleton] at I1
      generalize hS : sH m ++ sT (⟨r.x0, x1, col⟩, q) = S at ob sb ⊢
      generalize hV : scolV (1 + (sH m).length) col = V at ob ⊢
      have hAl : (encA 1 m).length = m.length := encA_len
      generalize encA 1 m = A at *
      have ln : ∀ h v, lenT .sl h (lay3.sl 0 (A ++ [(r.x0, x1, v)])) = some (.int .i64 ((A.length : Int) + 1)) := fun h v => by rw [Lay.sl_len]; simp
      have hne : ¬ ((A.length : Int) + 1 = 0) := by omega
      have hws : IntKind.i64.wrap (A.length : Int) = A.length := by apply wrap_small <;> omega
      have hg : ∀ v, (A ++ [(r.x0, x1, v)])[A.length]? = some (r.x0, x1, v) := fun v => by simp
      have hlt : ∀ v : Value, A.length < (A ++ [(r.x0, x1, v)]).length := fun v => by simp
      have idx : ∀ v, indexAddrT (.sl 52 ⟨some true, some 3⟩) (lay3.sl 0 (A ++ [(r.x0, x1, v)])) (.int .i64 A.length) = some (lay3.at_ 0 (A ++ [(r.x0, x1, v)]) A.length 0) := fun v => Lay.index_row (R := lay3) rfl (hlt v)
      have l0 : ∀ H v, loadT ⟨some false, some 1⟩ (lay3.row 52 (A ++ [(r.x0, x1, v)]) :: H) (lay3.at_ 0 (A ++ [(r.x0, x1, v)]) A.length 0) = some (.int .i64 r.x0) := fun H v => by
        rw [Lay.load_cell (R := lay3) rfl (hlt v) (by decide)]
        simp [lay3]
      have l2 : ∀ H v, loadT ⟨some false, some 1⟩ (lay3.row 52 (A ++ [(r.x0, x1, v)]) :: H) (lay3.at_ 0 (A ++ [(r.x0, x1, v)]) A.length 2) = some v := fun H v => by
        rw [Lay.load_cell (R := lay3) rfl (hlt v) (by decide)]
        simp [lay3]
      have fr : ∀ f v, fieldAddrT ⟨some true, some 3⟩ (some (f, ⟨some false, some 1⟩)) (lay3.at_ 0 (A ++ [(r.x0, x1, v)]) A.length 0) = some (lay3.at_ 0 (A ++ [(r.x0, x1, v)]) A.length f) := fun f v => Lay.field_row (R := lay3) (n := 0)
      by_cases hd2 : r.y0 + d < r.y1 - d
      · have ea : addS d r = [(r.y0 + d, r.y1 - d)] := if_pos hd2
        rw [ea] at ih ⊢
        have ih := ih ⟨by simp; omega, fun p hp => by
          rcases List.mem_append.1 hp with hp | hp
          · exact Nat.le_succ_of_le (hI.2 p (by simp [hp]))
          · rw [List.mem_singleton.1 hp]
            have := hI.2 (⟨r.x0, x1, col⟩, q) (by simp)
            simp only [List.length_append, List.length_singleton] at this ⊢
            omega⟩
        have hcl : col.length ≤ i := hI.2 (⟨r.x0, x1, col⟩, q) (by simp)
        have st : ∀ H v v', cellsOf v' = some [v'] → storeT (some 1) (lay3.row 52 (A ++ [(r.x0, x1, v)]) :: H) 0 v' (lay3.at_ 0 (A ++ [(r.x0, x1, v)]) A.length 2) = some (lay3.row 52 (A ++ [(r.x0, x1, v')]) :: H) := fun H v v' h => by
          rw [Lay.store_cell (R := lay3) (a := (r.x0, x1, v')) h rfl (Nat.le_refl _) (hlt v) (by decide) (by simp [lay3])]
          simp
        have sc : ∀ b c, cellsOf (spanR.sl b c) = some [spanR.sl b c] := fun _ _ => rfl
        have sf : ∀ {sz : Option Nat} b c, fitsTT ⟨some false, sz⟩ (spanR.sl b c) = true := fun _ _ => rfl
        have sle : ∀ v, lay3.sl 0 (A ++ [(r.x0, x1, v)]) = lay3.sl 0 (A ++ [(r.x0, x1, V)]) := fun v => by unfold Lay.sl; simp
        by_cases hc : col = []
        · subst hc
          have hV0 : V = .slice none 0 0 := by rw [← hV]; rfl
          have hS0 : S = sH m := by rw [← hS]; exact List.append_nil _
          subst hV0 hS0
          have e1 : scolV (1 + (sH m).length) ([] ++ [(r.y0 + d, r.y1 - d)]) = spanR.sl ((sH m).length + 1 + 1) [(r.y0 + d, r.y1 - d)] := by
            unfold scolV
            rw [if_neg (by simp), Nat.add_comm 1]; rfl
          have e2 : sT (⟨r.x0, x1, [] ++ [(r.y0 + d, r.y1 - d)]⟩, r) = [boxO r, spanR.row 58 [(r.y0 + d, r.y1 - d)]] := rfl
          have tk : ∀ vs S', trim ((sH m).length + 1) vs (lay3.row 52 (A ++ [(r.x0, x1, spanR.sl ((sH m).length + 1 + 1) [(r.y0 + d, r.y1 - d)])]) :: S') = lay3.row 52 (A ++ [(r.x0, x1, spanR.sl ((sH m).length + 1 + 1) [(r.y0 + d, r.y1 - d)])]) :: S' := fun vs S' => trim_hold (by
            rw [List.take_succ_cons, List.all_cons, flat_bad, Bool.false_and]
            exact decide_eq_false (by show ¬ ((sH m).length + 1 + 1 < (sH m).length + 1); omega))
          rw [if_pos rfl, e1, e2, sle] at ih
          unfold boxO at ih
          simp -implicitDefEqProofs [r32_3, k32_3, hi, ixi, ln, hne, hws, idx, fr, l0, l2, w1, w2, hd2, hw1, lit_ospan, nil_ospan, st, sc, build_sp, rop_nilT, nil_at, tk, -append_nil, -List.all_eq_true]
          exact ih
        · have hV0 : V = spanR.sl ((sH m).length + 1 + 1) col := by
            rw [← hV]
            unfold scolV
            rw [if_neg hc, Nat.add_comm 1]
          have hS0 : S = sH m ++ [boxO q, spanR.row 58 col] := by
            rw [← hS]
            unfold sT
            rw [if_neg hc]
          have e1 : scolV (1 + (sH m).length) (col ++ [(r.y0 + d, r.y1 - d)]) = spanR.sl ((sH m).length + 1 + 1) (col ++ [(r.y0 + d, r.y1 - d)]) := by
            unfold scolV
            rw [if_neg (by simp), Nat.add_comm 1]
          have e2 : sT (⟨r.x0, x1, col ++ [(r.y0 + d, r.y1 - d)]⟩, q) = [boxO q, spanR.row 58 (col ++ [(r.y0 + d, r.y1 - d)])] := by
            unfold sT
            rw [if_neg (by simp)]
          have hSl : S.length = (sH m).length + 2 := by rw [hS0]; simp
          have ap : ∀ x z, appendT (some ⟨58, 2, 16, .agg ⟨[.int .i64 0, .int .i64 0]⟩, ⟨some true, some 2⟩⟩) (x :: (S ++ [z])) 0 false V (lst true [.agg ⟨[.int .i64 (r.y0 + d), .int .i64 (r.y1 - d)]⟩]) = some (spanR.sl ((sH m).length + 1 + 1) (col ++ [(r.y0 + d, r.y1 - d)]), x :: (sH m ++ [boxO q, spanR.row 58 (col ++ [(r.y0 + d, r.y1 - d)]), z])) := fun x z => by
            rw [hV0, app_ospan (b := (sH m).length + 1 + 1) (c := col) _ _ (by rw [hS0]; simp) (Nat.zero_le _) (by omega), hS0]
            simp
          have tc : ∀ vs x z, vs.all (below 8 (S.length + 1)) = true → belowO (S.length + 1) x = true → trim (S.length + 1) vs (x :: (sH m ++ [boxO q, spanR.row 58 (col ++ [(r.y0 + d, r.y1 - d)]), z])) = x :: (sH m ++ [boxO q, spanR.row 58 (col ++ [(r.y0 + d, r.y1 - d)])]) := fun vs x z h1 h2 => by
            have et : (x :: (sH m ++ [boxO q, spanR.row 58 (col ++ [(r.y0 + d, r.y1 - d)]), z])).take (S.length + 1) = x :: (sH m ++ [boxO q, spanR.row 58 (col ++ [(r.y0 + d, r.y1 - d)])]) := by
              rw [hSl]
              simp [List.take_append, List.take_of_length_le]
            rw [trim_cut (by simp; omega) h1 (by rw [et, List.all_cons, h2, List.all_append, sH_bel]; simp [Rec.row_bel, boxO, belO_cells, bel_int, -List.all_eq_true]), et]
          have ob' : belowO (S.length + 1) (lay3.row 52 (A ++ [(r.x0, x1, spanR.sl ((sH m).length + 1 + 1) (col ++ [(r.y0 + d, r.y1 - d)]))])) = true := by
            have := HL_bel (n := S.length + 1) (l := m ++ [(⟨r.x0, x1, col ++ [(r.y0 + d, r.y1 - d)]⟩, q)]) (by rw [eS, e2, hSl]; simp; omega)
            rw [eA, e1] at this
            exact this
          rw [if_neg hc, e1, e2, sle] at ih
          rw [if_neg hc]
          simp -implicitDefEqProofs [r32_3, k32_3, hi, ixi, ln, hne, hws, idx, fr, l0, l2, w1, w2, hd2, hw1, lit_ospan, ap, st, sc, build_sp, rop_nilT, nil_at, tc, ob', -append_nil, Rec.o_bel, Lay.sl_bel, -List.all_eq_true]
          exact ih
      · have ea : addS d r = [] := if_neg hd2
        have hS' : sT (⟨r.x0, x1, col⟩, if col = [] then r else q) = sT (⟨r.x0, x1, col⟩, q) := by
          unfold sT
          by_cases hc : col = []
          · rw [if_pos hc, if_pos hc]
          · rw [if_neg hc, if_neg hc, if_neg hc]
        rw [ea, List.append_nil, hS', hS, hV] at ih
        have ih := ih ⟨by simp; omega, fun p hp => Nat.le_succ_of_le (by
          rcases List.mem_append.1 hp with hp | hp
          · exact hI.2 p (by simp [hp])
          · rw [List.mem_singleton.1 hp]
            exact hI.2 (⟨r.x0, x1, col⟩, q) (by simp))⟩
        simp -implicitDefEqProofs [r32_3, k32_3, hi, ixi, ln, hne, hws, idx, fr, l0, w1, w2, hd2, hw1, ea, trim_cut, ob, sb, Rec.o_bel, Lay.sl_bel, -List.all_eq_true]
        exact ih
end Go.Proofs.Ythnkmmbkdbdefaa.Bm

namespace Go.Proofs.Ythnkmmbkdbdefaa.Bm
open Go Go.RowKit
open Rg (Rect Slab emit outT canT shr slabsC)

theorem shr_cons {d : Int} {f t : Int} {c : List (Int × Int)} {x0 x1 : Int} : shr d ((f, t) :: c) = addS d ⟨x0, f, x1, t⟩ ++ shr d c := by
  unfold shr addS
  rw [List.filterMap_cons]
  split
  · rename_i h; split at h <;> simp_all
  · rename_i h; split at h <;> simp_all
theorem fold_old {d : Int} {x0 x1 y1 : Int} : ∀ (c : List (Int × Int)) (l : List (Slab × Rect)) (k : List (Int × Int)) (q : Rect),
    ((c.map fun u => (⟨x0, u.1, x1, u.2⟩ : Rect)).foldl (sstep d) (l ++ [(⟨x0, y1, k⟩, q)])).map (·.1) = l.map (·.1) ++ [⟨x0, y1, k ++ shr d c⟩] ∧ ∃ q', (c.map fun u => (⟨x0, u.1, x1, u.2⟩ : Rect)).foldl (sstep d) (l ++ [(⟨x0, y1, k⟩, q)]) = l ++ [(⟨x0, y1, k ++ shr d c⟩, q')]
  | [], l, k, q => by simp [shr]
  | (f, t) :: c, l, k, q => by
    rw [List.map_cons, List.foldl_cons, sstep_old rfl]
    have := fold_old (d := d) (x0 := x0) (x1 := x1) (y1 := y1) c l (k ++ addS d ⟨x0, f, x1, t⟩) (if k = [] then ⟨x0, f, x1, t⟩ else q)
    rw [List.append_assoc, ← shr_cons] at this
    exact this
theorem fold_slabs {d : Int} : ∀ (T : List Slab) (b : Int) (c : List (Int × Int)) (l : List (Slab × Rect)), canT b c T → (∀ p, l.getLast? = some p → p.1.x0 < b) → ((outT T).foldl (sstep d) l).map (·.1) = l.map (·.1) ++ slabsC d T
  | [], _, _, l, _, _ => by simp [outT, slabsC]
  | s :: T, b, c, l, h, hl => by
    obtain ⟨x0, x1, col⟩ := s
    obtain ⟨h1, h2, h3, h4, h5, h6⟩ := h
    simp only at h1 h2 h3 h6
    have eo : outT (⟨x0, x1, col⟩ :: T) = emit ⟨x0, x1, col⟩ ++ outT T := rfl
    have es : slabsC d (⟨x0, x1, col⟩ :: T) = ⟨x0, x1, shr d col⟩ :: slabsC d T := rfl
    rw [eo, es, List.foldl_append]
    cases col with
    | nil => exact absurd rfl h3
    | cons u col =>
      obtain ⟨f, t⟩ := u
      have ee : emit ⟨x0, x1, (f, t) :: col⟩ = ⟨x0, f, x1, t⟩ :: col.map fun u => (⟨x0, u.1, x1, u.2⟩ : Rect) := rfl
      have hn : isNew l ⟨x0, f, x1, t⟩ := fun p hp => by
        have := hl p hp
        show p.1.x0 ≠ x0
        omega
      rw [ee, List.foldl_cons, sstep_new hn]
      obtain ⟨q', hq⟩ := (fold_old (d := d) (x0 := x0) (x1 := x1) (y1 := x1) col l (addS d ⟨x0, f, x1, t⟩) ⟨x0, f, x1, t⟩).2
      rw [← shr_cons] at hq
      show List.map _ (List.foldl _ (List.foldl _ (l ++ [(⟨x0, x1, addS d ⟨x0, f, x1, t⟩⟩, ⟨x0, f, x1, t⟩)]) _) _) = _
      rw [hq, fold_slabs T x1 _ _ h6 fun p hp => ?_]
      · simp
      · simp only [List.getLast?_concat, Option.some.injEq] at hp
        rw [← hp]
        exact h2
theorem slabs_spec (k : Option Bool) (T : List Slab) (d b : Int) (c : List (Int × Int)) (hk : Rec.Ok k (outT T)) (hc : canT b c T) (ha : (outT T).length ≤ 1000) (hw : ∀ r ∈ outT T, IntKind.i64.wrap (r.y0 + d) = r.y0 + d ∧ IntKind.i64.wrap (r.y1 - d) = r.y1 - d) :
    pureCall E.P (L E) 32 [rectR.o k (outT T), .int .i64 d] = some (lst false (oslabR.vals (slabsC d T))) := by
  rw [slabs_walk k (outT T) d hk ha hw, fold_slabs T b c [] hc (fun p hp => by cases hp)]
  rfl
end Go.Proofs.Ythnkmmbkdbdefaa.Bm

namespace Go.Proofs.Ythnkmmbkdbdefaa.Bm
open Go Go.RowKit
open Rg (Rect Slab comC comI)

theorem neq2o (a b c d : Int) : aBin E.P .neq 58 (.agg ⟨[.int .i64 a, .int .i64 b]⟩) (.agg ⟨[.int .i64 c, .int .i64 d]⟩) = (allOf [some (a == c), some (b == d)]).map fun b => .bool (!b) := by kernel_rfl
theorem neq_ospan (s t : Int × Int) : aBin E.P .neq 58 (spanR.val s) (spanR.val t) = some (.bool (decide (s ≠ t))) := by
  obtain ⟨a, b⟩ := s
  obtain ⟨c, d⟩ := t
  rw [span_val, span_val, neq2o]
  by_cases h1 : a = c <;> by_cases h2 : b = d <;> simp [allOf_two, h1, h2]
theorem equal_ospans (x y : Bool) (l r : List (Int × Int)) (hl : l.length ≤ 1000000) : pureCall E.P (L E) 36 [lst x (spanR.vals l), lst y (spanR.vals r)] = some (.bool (decide (l = r))) := by
  have ixl : ∀ (i : Nat) (hi : i < l.length), indexAddrT (.sl 58 ⟨some true, some 2⟩) (lst x (spanR.vals l)) (.int .i64 (i : Int)) = some (cptr (spanR.val l[i])) := fun i hi => Rec.index_tree rfl hi
  have ixr : ∀ (i : Nat) (hi : i < r.length), indexAddrT (.sl 58 ⟨some true, some 2⟩) (lst y (spanR.vals r)) (.int .i64 (i : Int)) = some (cptr (spanR.val r[i])) := fun i hi => Rec.index_tree rfl hi
  have fit : ∀ s, fitsTT ⟨some true, some 2⟩ (spanR.val s) = true := fun s => rfl
  have rv : ∀ s h, reify E.P 8 h (spanR.val s) = some (spanR.val s) := fun s h => rfl
  rw [pureCall_fn F36 rfl]
  simp -implicitDefEqProofs [r36, padS, Rec.vals_len]
  by_cases hlen : l.length = r.length
  · simp -implicitDefEqProofs [hlen, Rec.vals_len]
    rw [LL_for (γ := Unit) l () (fun i _ => [(13, .int .i64 i)]) (fun _ _ => []) (fun i rest _ => if eqL rest (r.drop i) then (.exit 0, [(13, undef)], []) else (.ret, [(4, .bool false), (13, undef)], [])) (fun _ _ => True) (by omega) trivial]
    · cases h : eqL l r
      · have : ¬ l = r := of_decide_eq_false h
        simp [this, k36_4, h]
      · have : l = r := of_decide_eq_true h
        simp [this, k36_4, eqL]
    · simp [k36_4]
    · rfl
    · intro nx i c hi _
      have hd0 : eqL [] (r.drop i) = true := by rw [List.drop_eq_nil_of_le (by omega)]; rfl
      rw [hd0]
      simp -implicitDefEqProofs [r36_4, k36_4, hi, hlen, trim_le]
    · intro nx i v rest c hi hv hd hw _ ih
      have ih := ih () trivial
      have hi' : i < r.length := by omega
      have hrd : r.drop i = r[i] :: r.drop (i + 1) := List.drop_eq_getElem_cons hi'
      rw [hrd, eqL_cons]
      simp -implicitDefEqProofs [k36_4] at ih
      by_cases he : v = r[i]
      · simp -implicitDefEqProofs [r36_4, k36_4, hi', ixl i hi, ixr i hi', fit, neq_ospan, hv, hw, he, trim_le]
        exact ih
      · simp -implicitDefEqProofs [r36_4, k36_4, hi', ixl i hi, ixr i hi', fit, neq_ospan, hv, he, trim_le]
  · have : ¬ l = r := fun e => hlen (by rw [e])
    have hlen' : ¬ ((l.length : Int) = r.length) := by omega
    simp -implicitDefEqProofs [hlen', this]

theorem equal_o (m : Option Bool) (x : Bool) (l r : List (Int × Int)) (h0 : l ≠ []) (hm : Rec.Ok m r) (hl : l.length ≤ 1000000) : pureCall E.P (L E) 36 [lst x (spanR.vals l), spanR.o m r] = some (.bool (decide (l = r))) := by
  cases m with
  | some y => exact equal_ospans x y l r hl
  | none =>
    have hr : r = [] := hm rfl
    subst hr
    have hlen : ¬ ((l.length : Int) = 0) := by have := List.length_pos_iff.2 h0; omega
    rw [pureCall_fn F36 rfl]
    simp -implicitDefEqProofs [r36, padS, Rec.vals_len, Rec.o, h0]
theorem wF_fold_len (x d : Int) : ∀ (T : List Slab) (c : Rg.Win × Option Bool), Rg.Can c.1.out → (∀ s ∈ T, Rg.Can s.col) → (T.foldl (wF x d) c).1.out.length ≤ c.1.out.length + Rg.sumL (fun s => s.col.length) T
  | [], c, _, _ => Nat.le_refl _
  | s :: T, c, hc, hT => by
    obtain ⟨h1, h2⟩ := wF_len x d c s hc (hT s (by simp))
    have := wF_fold_len x d T (wF x d c s) h1 fun u hu => hT u (by simp [hu])
    rw [List.foldl_cons]
    show _ ≤ _ + (s.col.length + Rg.sumL (fun s => s.col.length) T)
    omega
theorem winC_len (T : List Slab) (x d : Int) (hT : ∀ s ∈ T, Rg.Can s.col) : (Rg.winC T x d).length ≤ Rg.sumL (fun s => s.col.length) T := by
  have h := wF_fold_len x d T (⟨x - d, false, true, []⟩, none) trivial hT
  rw [wF_fst] at h
  unfold Rg.winC
  simp only
  split
  · exact Nat.zero_le _
  · simpa using h
end Go.Proofs.Ythnkmmbkdbdefaa.Bm
