/-
  Chapter 25: the search, walked. Conditions: valid problems, areas that are not too great.
-/
import Derived.Test.YtcnafncmfiogcaaQH18
namespace Go.Proofs.Ytcnafncmfiogcaa.Bm
open Go Go.RowKit
open Cp (Q Br Acc bump)
def brR : Rec Br where
  enc b := [.int .i64 b.kids, .int .i64 b.bound]
  m := 1
  len _ := rfl
  set _ := rfl
  bel _ _ := rfl
def visF : Value := .func (.func 42) ⟨[]⟩ ⟨[cAt 5 0, cAt 4 0, cAt 3 0, cAt 1 0, cAt 2 0, cAt 0 0, cAt 6 0]⟩
structure Cs (p : Pb) (ka : Option Bool) (A : List Int) (h : Heap) (a : Acc) (c : List Int) (ob : Option Nat) : Prop where
  len : 8 ≤ h.length
  pr : h[0]? = some (.cells 26 p.cells 0)
  ar : h[1]? = some (.cells 29 [intE.o ka A] 0)
  tr : h[2]? = some (.cells 33 [brR.sl 7 a.tree] 0)
  be : ∃ k, Enc.Ok k a.best ∧ h[3]? = some (.cells 29 [intE.o k a.best] 0)
  ch : ∃ cv, h[4]? = some (.cells 29 [cv] 0) ∧ ((ob = none ∧ c = [] ∧ cv = .slice none 0 0) ∨ ∃ b R, ob = some b ∧ 8 ≤ b ∧ cv = Enc.part b c.length R ∧ h[b]? = some (intE.row 3 R) ∧ R.take c.length = c ∧ c.length ≤ R.length ∧ R ≠ [] ∧ R.length ≤ A.length)
  va : h[5]? = some (.cells 3 [.int .i64 a.val] 0)
  vi : h[6]? = some (.cells 67 [visF] 0)
  row : h[7]? = some (brR.row 41 a.tree)
structure Ext (h : Heap) (ob : Option Nat) (h' : Heap) (ob' : Option Nat) : Prop where
  len : h.length ≤ h'.length
  keep : ∀ b o, 8 ≤ b → ob ≠ some b → h[b]? = some o → h'[b]? = some o
  new : ob' = ob ∨ (ob = none ∧ ∃ b, ob' = some b ∧ h.length ≤ b)
theorem gl {h : Heap} {b : Nat} {o : AObj} (hb : h[b]? = some o) : b < h.length := (List.getElem?_eq_some_iff.1 hb).1
theorem ga {h : Heap} {b : Nat} {o : AObj} (e : Heap) (hb : h[b]? = some o) : (h ++ e)[b]? = some o := by rw [List.getElem?_append_left (gl hb), hb]
theorem gs {h : Heap} {b c : Nat} {o q : AObj} (hb : h[b]? = some o) (hne : c ≠ b) : (h.set c q)[b]? = some o := by rw [List.getElem?_set_ne hne]; exact hb
theorem gq {h : Heap} {b : Nat} {q : AObj} (hb : b < h.length) : (h.set b q)[b]? = some q := by rw [List.getElem?_set_self hb]
theorem Ext.refl {h : Heap} {ob : Option Nat} : Ext h ob h ob := ⟨Nat.le_refl _, fun _ _ _ _ h => h, .inl rfl⟩
theorem Ext.trans {h h1 h2 : Heap} {o o1 o2 : Option Nat} (x : Ext h o h1 o1) (y : Ext h1 o1 h2 o2) : Ext h o h2 o2 := by
  refine ⟨Nat.le_trans x.len y.len, fun b ob hb hn hg => y.keep b ob hb ?_ (x.keep b ob hb hn hg), ?_⟩
  · rcases x.new with e | ⟨_, b', e, hl⟩
    · rw [e]; exact hn
    · rw [e]; intro k
      have := gl hg
      have := Option.some.inj k
      omega
  · rcases y.new with e | ⟨e, b', e', hl⟩
    · rw [e]; exact x.new
    · rcases x.new with k | ⟨k, b2, k2, _⟩
      · exact .inr ⟨by rw [← k]; exact e, b', e', Nat.le_trans x.len hl⟩
      · rw [e] at k2; cases k2
theorem Ext.app {h : Heap} {ob : Option Nat} (e : Heap) : Ext h ob (h ++ e) ob := ⟨by simp, fun _ _ _ _ h => ga e h, .inl rfl⟩
theorem Ext.set {h : Heap} {ob : Option Nat} {i : Nat} {q : AObj} (hi : i < 8 ∨ ob = some i) : Ext h ob (h.set i q) ob := by
  refine ⟨by simp, fun b o hb hn hg => gs hg ?_, .inl rfl⟩
  rcases hi with hi | hi
  · omega
  · intro e; rw [hi, e] at hn; exact hn rfl
theorem Ext.trim {h h' : Heap} {o o' : Option Nat} (x : Ext h o h' o') (n : Nat) (vs : List Value) (hn : h.length ≤ n) (_hn' : n ≤ h'.length) : Ext h o (trim n vs h') o' := by
  unfold Bm.trim
  split
  · exact x
  split
  · refine ⟨by rw [List.length_take]; omega, fun b ob hb hne hg => ?_, x.new⟩
    rw [List.getElem?_take_of_lt (by have := gl hg; omega)]
    exact x.keep b ob hb hne hg
  · exact x
section
variable {p : Pb} {ka : Option Bool} {A : List Int} {h : Heap} {a : Acc} {c : List Int} {ob : Option Nat}
theorem Cs.app (s : Cs p ka A h a c ob) (e : Heap) : Cs p ka A (h ++ e) a c ob := by
  obtain ⟨h0, h1, h2, h3, ⟨k, h4, h4'⟩, ⟨cv, h5, h6⟩, h7, h8, h9⟩ := s
  refine ⟨by simp; omega, ga e h1, ga e h2, ga e h3, ⟨k, h4, ga e h4'⟩, ⟨cv, ga e h5, ?_⟩, ga e h7, ga e h8, ga e h9⟩
  rcases h6 with h6 | ⟨b, R, q1, q2, q3, q4, q5⟩
  · exact .inl h6
  · exact .inr ⟨b, R, q1, q2, q3, ga e q4, q5⟩
theorem Cs.trim (s : Cs p ka A h a c ob) (n : Nat) (vs : List Value) (hn : 8 ≤ n) : Cs p ka A (trim n vs h) a c ob := by
  unfold Bm.trim
  split
  · exact s
  split
  · rename_i hl hc
    rw [Bool.and_eq_true] at hc
    have ht : ∀ {b : Nat} {o : AObj}, b < n → h[b]? = some o → (h.take n)[b]? = some o := fun hb ho => by rw [List.getElem?_take_of_lt hb]; exact ho
    obtain ⟨h0, h1, h2, h3, ⟨k, h4, h4'⟩, ⟨cv, h5, h6⟩, h7, h8, h9⟩ := s
    refine ⟨by rw [List.length_take]; omega, ht (by omega) h1, ht (by omega) h2, ht (by omega) h3, ⟨k, h4, ht (by omega) h4'⟩, ⟨cv, ht (by omega) h5, ?_⟩, ht (by omega) h7, ht (by omega) h8, ht (by omega) h9⟩
    rcases h6 with h6 | ⟨b, R, q1, q2, q3, q4, q5⟩
    · exact .inl h6
    · have hm := List.all_eq_true.1 hc.2 _ (List.mem_of_getElem? (ht (by omega) h5))
      have hbn : b < n := by
        rw [q3] at hm
        unfold belowO at hm
        simp only [List.all_cons, List.all_nil, Bool.and_true] at hm
        exact of_decide_eq_true hm
      exact .inr ⟨b, R, q1, q2, q3, ht hbn q4, q5⟩
  · exact s
end
end Go.Proofs.Ytcnafncmfiogcaa.Bm
namespace Go.Proofs.Ytcnafncmfiogcaa.Bm
open Go Go.RowKit
open Cp (Q Br Acc bump)
abbrev elInt : El := ⟨3, 1, 8, .int .i64 0, ⟨some false, some 1⟩⟩
section
variable {p : Pb} {ka : Option Bool} {A : List Int} {h : Heap} {a : Acc} {c : List Int} {ob : Option Nat}
theorem Cs.more (s : Cs p ka A h a c ob) (u : Int) (hA : A.length ≤ 1000) (hc : c.length < A.length) : ∃ cv, loadT ⟨some false, some 1⟩ h (cAt 4 0) = some cv ∧ ∃ cv' h1, appendT (some elInt) h 0 false cv (lst true (intE.vals [u])) = some (cv', h1) ∧ ∃ h2, storeT (some 1) h1 0 cv' (cAt 4 0) = some h2 ∧
    ∃ ob', Cs p ka A h2 a (c ++ [u]) ob' ∧ Ext h ob h2 ob' := by
  obtain ⟨k0, k1, k2, k3, ⟨kk, k4, k4'⟩, ⟨cv, k5, k6⟩, k7, k8, k9⟩ := s
  refine ⟨cv, obj_load k5 rfl, ?_⟩
  have hl := gl k5
  rcases k6 with ⟨rfl, rfl, rfl⟩ | ⟨b, R, rfl, q2, rfl, q4, q5, q6, q7, q8⟩
  · have ap := Enc.app_nil (O := intE) (m := [u]) (el := elInt) (h := h) (lo := 0) (st := false) (u := lst true (intE.vals [u])) rfl Enc.cells_tree (by simp) (by show 1 * 8 ≤ 2 ^ 47; decide)
    refine ⟨_, _, ap, _, obj_store (ga _ k5) (by simp) (Nat.zero_le _) rfl, some h.length, ?_, ?_⟩
    · refine ⟨by simp; omega, gs (ga _ k1) (by decide), gs (ga _ k2) (by decide), gs (ga _ k3) (by decide), ⟨kk, k4, gs (ga _ k4') (by decide)⟩, ⟨_, gq (by simp; omega), .inr ⟨h.length, [u], rfl, k0, rfl, gs (by rw [List.getElem?_append_right (Nat.le_refl _), Nat.sub_self]; rfl) (by omega), rfl, Nat.le_refl _, by simp, by simp only [List.length_cons, List.length_nil] at *; omega⟩⟩, gs (ga _ k7) (by decide), gs (ga _ k8) (by decide), gs (ga _ k9) (by decide)⟩
    · refine ⟨by simp, fun b o hb _ hg => gs (ga _ hg) (by omega), .inr ⟨rfl, _, rfl, Nat.le_refl _⟩⟩
  · by_cases hr : c.length < R.length
    · have ap := Enc.app_room (O := intE) (m := [u]) (el := elInt) (h := h) (lo := 0) (b := b) (i := c.length) (t := 3) (l := R) (u := lst true (intE.vals [u])) rfl q4 Enc.cells_tree (by simp) (Nat.zero_le _) (by show c.length + 1 ≤ R.length; omega)
      have hlen : (R.take c.length ++ [u] ++ R.drop (c.length + [u].length)).length = R.length := by simp; omega
      have h5' := gs (q := intE.row 3 (R.take c.length ++ [u] ++ R.drop (c.length + [u].length))) k5 (show b ≠ 4 by omega)
      refine ⟨_, _, ap, _, obj_store h5' (by simp) (Nat.zero_le _) rfl, some b, ?_, (Ext.set (.inr rfl)).trans (Ext.set (.inl (by decide)))⟩
      refine ⟨by simpa using k0, gs (gs k1 (by omega)) (by decide), gs (gs k2 (by omega)) (by decide), gs (gs k3 (by omega)) (by decide), ⟨kk, k4, gs (gs k4' (by omega)) (by decide)⟩, ⟨_, gq (by simp; omega), .inr ⟨b, _, rfl, q2, by rw [List.length_append], gs (gq (gl q4)) (by omega), ?_, ?_, ?_, by rw [hlen]; exact q8⟩⟩, gs (gs k7 (by omega)) (by decide), gs (gs k8 (by omega)) (by decide), gs (gs k9 (by omega)) (by decide)⟩
      · rw [q5, List.take_append_of_le_length (by simp), List.take_of_length_le (by simp)]
      · rw [hlen, List.length_append]; show c.length + 1 ≤ R.length; omega
      · simp
    · have he : R = c := by rw [← q5, List.take_of_length_le (by omega)]
      subst he
      have ap := Enc.app (O := intE) (m := [u]) (el := elInt) (h := h) (lo := 0) (b := b) (t := 3) (l := R) (u := lst true (intE.vals [u])) rfl q4 Enc.cells_tree (Nat.zero_le _) (by show (R.length + 1) * 8 ≤ 2 ^ 47; omega)
      have h5' := gs (q := intE.row 3 (R ++ [u])) k5 (show b ≠ 4 by omega)
      refine ⟨_, _, ap, _, obj_store h5' (by simp) (Nat.zero_le _) rfl, some b, ?_, (Ext.set (.inr rfl)).trans (Ext.set (.inl (by decide)))⟩
      refine ⟨by simpa using k0, gs (gs k1 (by omega)) (by decide), gs (gs k2 (by omega)) (by decide), gs (gs k3 (by omega)) (by decide), ⟨kk, k4, gs (gs k4' (by omega)) (by decide)⟩, ⟨_, gq (by simp; omega), .inr ⟨b, _, rfl, q2, rfl, gs (gq (gl q4)) (by omega), List.take_of_length_le (Nat.le_refl _), Nat.le_refl _, by simp, by rw [List.length_append]; exact hc⟩⟩, gs (gs k7 (by omega)) (by decide), gs (gs k8 (by omega)) (by decide), gs (gs k9 (by omega)) (by decide)⟩
end
end Go.Proofs.Ytcnafncmfiogcaa.Bm
namespace Go.Proofs.Ytcnafncmfiogcaa.Bm
open Go Go.RowKit
open Cp (Q Br Acc Nd bump prQ mayQ validQ reach enter vis loopF next take us Small)
structure Sr (A W : List Int) (s : Nd) : Prop where
  w : W.length = 6
  left : ∀ (u : Nat) (hu : u < W.length), s.left (u : Int) = W[u]
  wb : ∀ x ∈ W, -1 ≤ x ∧ x ≤ 9223372036854775807
  rem : s.rem = A.drop s.c.length
  le : s.c.length ≤ A.length
  v : 0 ≤ s.v ∧ s.v ≤ (s.c.length : Int) * 1099511627776
theorem Sr.lok {A W : List Int} {s : Nd} (h : Sr A W s) : LOk W := ⟨h.w, fun x hx => by have := h.wb x hx; omega⟩
theorem Sr.vb {A W : List Int} {s : Nd} (h : Sr A W s) (hA : AOk A) : 0 ≤ s.v ∧ s.v ≤ 14293651161088 := by
  have h1 := h.v
  have h2 := h.le
  have h3 := hA.len
  omega
theorem Sr.remE {A W : List Int} {s : Nd} (h : Sr A W s) (hc : s.c.length < A.length) : s.rem = A[s.c.length] :: A.drop (s.c.length + 1) := by
  rw [h.rem]; exact List.drop_eq_getElem_cons hc
theorem Sr.next {A W : List Int} {s : Nd} (h : Sr A W s) (hA : AOk A) (hc : s.c.length < A.length) (u : Nat) (hu : u < W.length) (h0 : 0 ≤ W[u] - A[s.c.length]) : Sr A (W.set u (W[u] - A[s.c.length])) (take s (u : Int) A[s.c.length] (A.drop (s.c.length + 1))) := by
  have ha := hA.a _ (List.getElem_mem hc)
  have hw := h.wb _ (List.getElem_mem hu)
  have e : (s.c ++ [(u : Int)]).length = s.c.length + 1 := by simp
  refine ⟨by rw [List.length_set]; exact h.w, fun w hw => ?_, fun x hx => ?_, ?_, ?_, ?_⟩
  · show (if ((w : Nat) : Int) = (u : Int) then s.left (u : Int) - A[s.c.length] else s.left (w : Int)) = _
    have hw' : w < W.length := by rw [List.length_set] at hw; exact hw
    rw [List.getElem_set]
    by_cases q : u = w
    · subst q; rw [if_pos rfl, if_pos rfl, h.left u hu]
    · rw [if_neg (by omega), if_neg q, h.left w hw']
  · rcases List.mem_or_eq_of_mem_set hx with k | k
    · exact h.wb x k
    · omega
  · show A.drop (s.c.length + 1) = A.drop (s.c ++ [(u : Int)]).length
    rw [e]
  · show (s.c ++ [(u : Int)]).length ≤ A.length
    rw [e]; exact hc
  · show 0 ≤ s.v + A[s.c.length] ∧ s.v + A[s.c.length] ≤ (((s.c ++ [(u : Int)]).length : Nat) : Int) * 1099511627776
    rw [e]
    have := h.v
    omega
end Go.Proofs.Ytcnafncmfiogcaa.Bm
namespace Go.Proofs.Ytcnafncmfiogcaa.Bm
open Go Go.RowKit
open Cp (Q Br Acc Nd bump prQ mayQ validQ reach enter vis loopF next take us Small)
theorem ret3t {f : FuncId} (hm : E.mode f = 3) {C : Callee} {lo : Nat} {h : Heap} {args : List Value} : retCall E C lo false f args h = (C f args h lo).map fun r => (r.1, trim h.length [r.1] r.2) := by
  unfold retCall; rw [hm]; rfl
end Go.Proofs.Ytcnafncmfiogcaa.Bm
namespace Go.Proofs.Ytcnafncmfiogcaa.Bm
open Go Go.RowKit
open Cp (Q Br Acc Nd bump prQ mayQ validQ reach enter vis loopF next take us Small)
theorem sumB (A : List Int) (hA : ∀ a ∈ A, 0 ≤ a ∧ a ≤ 1099511627776) : 0 ≤ A.sum ∧ A.sum ≤ (A.length : Int) * 1099511627776 := by
  induction A with
  | nil => simp
  | cons a A ih =>
    have h1 := hA a List.mem_cons_self
    have h2 := ih fun b hb => hA b (List.mem_cons_of_mem a hb)
    rw [List.sum_cons, List.length_cons]
    omega
end Go.Proofs.Ytcnafncmfiogcaa.Bm
