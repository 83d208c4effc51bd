/-
  The relation between trees and the abstract heap on one side, and memory on the other: every object that is alive has a block of its own that reads as it says; trees stand in memory that does not change any more. Conditions: none.
-/
import Derived.Test.YtgeebooalafepaaBmCore
import Derived.Laws.AppendOwn
import Derived.WalkKit
namespace Go.Proofs.Ytgeebooalafepaa.Bm
open Go Go.RowKit

structure Loc where
  blk : Nat
  off : Nat
  size : Nat
  grown : Nat
  len : Nat

/-- It has a block: a row that may grow has none while it is empty. -/
def Loc.real (l : Loc) : Prop := l.grown = 0 ∨ l.size ≠ 0

/-- Where the objects stand, and what will not change any more. -/
structure Mem where
  obj : Nat → Option Loc
  phi : Nat → Nat → Option Value

def Grew (l l' : Loc) : Prop := l' = l ∨ (l.grown ≠ 0 ∧ l'.grown = l.grown ∧ l.len < l'.len)

structure Mem.Le (M M' : Mem) : Prop where
  obj : ∀ o l, M.obj o = some l → ∃ l', M'.obj o = some l' ∧ Grew l l'
  phi : ∀ b o v, M.phi b o = some v → M'.phi b o = some v

theorem Grew.refl (l : Loc) : Grew l l := .inl rfl
theorem Grew.trans {a b c : Loc} (h : Grew a b) (k : Grew b c) : Grew a c := by
  rcases h with rfl | ⟨h1, h2, h3⟩
  · exact k
  · rcases k with rfl | ⟨k1, k2, k3⟩
    · exact .inr ⟨h1, h2, h3⟩
    · exact .inr ⟨h1, k2.trans h2, Nat.lt_trans h3 k3⟩

theorem Mem.Le.refl (M : Mem) : M.Le M := ⟨fun _ l h => ⟨l, h, .refl l⟩, fun _ _ _ h => h⟩
theorem Mem.Le.trans {A B C : Mem} (h : A.Le B) (k : B.Le C) : A.Le C :=
  ⟨fun o l hl => by
    obtain ⟨l1, h1, h2⟩ := h.obj o l hl
    obtain ⟨l2, h3, h4⟩ := k.obj o l1 h1
    exact ⟨l2, h3, h2.trans h4⟩, fun b o v hv => k.phi b o v (h.phi b o v hv)⟩

/-- The address 'a' of the abstract heap stands for the address a'. -/
def Place (M : Mem) (a a' : Addr) : Prop := ∃ l, M.obj a.block = some l ∧
  match a.spot with
  | none => l.grown = 0 ∧ a' = ⟨l.blk, l.off + a.off, none⟩
  | some k => l.grown ≠ 0 ∧ k ≤ l.len ∧ (l.len = k → a' = ⟨l.blk, l.off + a.off, none⟩)

def CapRel (M : Mem) (a a' : Addr) (cap cap' : Nat) : Prop := ∃ l, M.obj a.block = some l ∧
  match a.spot with
  | none => l.grown = 0 ∧ cap' = cap ∧ (cap' = 0 ∨ a' = ⟨l.blk, l.off + a.off, none⟩)
  | some k => l.grown ≠ 0 ∧ k ≤ l.len ∧ (l.len = k → cap ≤ cap' ∧ (cap' = 0 ∨ (a' = ⟨l.blk, l.off + a.off, none⟩ ∧ l.off + a.off + cap' * l.grown ≤ l.size)))

abbrev Phi := Nat → Nat → Option Value

/-- A tree stands for a value in memory that does not change. -/
inductive TRel (Φ : Phi) : Value → Value → Prop
  | atom (v : Value) (h : atom v = true) : TRel Φ v v
  | func (f : FuncId) (x x' y y' : Array Value) (hx : x.size = x'.size) (hy : y.size = y'.size)
      (h : ∀ (i : Nat) u u', x[i]? = some u → x'[i]? = some u' → TRel Φ u u') (k : ∀ (i : Nat) u u', y[i]? = some u → y'[i]? = some u' → TRel Φ u u') :
      TRel Φ (.func (.func f) x y) (.func (.func f) x' y')
  | iface (t : TypeId) (v v' : Value) (h : TRel Φ v v') : TRel Φ (.iface t v) (.iface t v')
  | agg (x x' : Array Value) (hx : x.size = x'.size) (h1 : ∀ (i : Nat) u, x[i]? = some u → one u = true)
      (h : ∀ (i : Nat) u u', x[i]? = some u → x'[i]? = some u' → TRel Φ u u') : TRel Φ (.agg x) (.agg x')
  | lnil (n : Nat) (hn : n < 2) : TRel Φ (.func (.yield n) ⟨[]⟩ ⟨[]⟩) (.slice none 0 0)
  | lst (n : Nat) (hn : n < 2) (l : List Value) (a' : Addr) (cap' s : Nat) (f : Nat → Nat → Value) (hc : l.length ≤ cap') (hx : n = 1 → cap' = l.length) (hsp : l = [] ∨ a'.spot = none)
      (h : ∀ (i : Nat) v, l[i]? = some v → (cellsL v).length = s ∧ ∀ (j : Nat) u, (cellsL v)[j]? = some u → one u = true ∧ Φ a'.block (a'.off + (i * s + j)) = some (f i j))
      (k : ∀ (i : Nat) v, l[i]? = some v → ∀ (j : Nat) u, (cellsL v)[j]? = some u → TRel Φ u (f i j)) : TRel Φ (.func (.yield n) ⟨[]⟩ ⟨l⟩) (.slice (some a') l.length cap')
  | cptr (v : Value) (a' : Addr) (f : Nat → Value) (hsp : a'.spot = none) (h : ∀ (j : Nat) u, (cellsL v)[j]? = some u → one u = true ∧ Φ a'.block (a'.off + j) = some (f j))
      (k : ∀ (j : Nat) u, (cellsL v)[j]? = some u → TRel Φ u (f j)) : TRel Φ (.func (.yield 2) ⟨[v]⟩ ⟨[]⟩) (.pointer (some a'))

inductive VRel (M : Mem) : Value → Value → Prop
  | top (v : Value) : VRel M (.tuple #[]) v
  | skip (n : Nat) : VRel M (.chan (some n)) (.tuple #[])
  | atom (v : Value) (h : atom v = true) : VRel M v v
  | ptr (a a' : Addr) (h : Place M a a') : VRel M (.pointer (some a)) (.pointer (some a'))
  | slice (a a' : Addr) (len cap cap' : Nat) (hl : len ≤ cap) (h : CapRel M a a' cap cap') : VRel M (.slice (some a) len cap) (.slice (some a') len cap')
  | empty (a : Addr) (k : Nat) (l : Loc) (hs : a.spot = some k) (h : M.obj a.block = some l) (hg : l.grown ≠ 0) (hk : k ≤ l.len) : VRel M (.slice (some a) 0 0) (.slice none 0 0)
  | map (r : Nat) (l : Loc) (h : M.obj r = some l) (hg : l.grown = 0) : VRel M (.map (some r)) (.map (some l.blk))
  | func (f : FuncId) (x x' y y' : Array Value) (hx : x.size = x'.size) (hy : y.size = y'.size)
      (h : ∀ (i : Nat) u u', x[i]? = some u → x'[i]? = some u' → VRel M u u') (k : ∀ (i : Nat) u u', y[i]? = some u → y'[i]? = some u' → VRel M u u') :
      VRel M (.func (.func f) x y) (.func (.func f) x' y')
  | iface (t : TypeId) (v v' : Value) (h : VRel M v v') : VRel M (.iface t v) (.iface t v')
  | agg (x x' : Array Value) (hx : x.size = x'.size) (h1 : ∀ (i : Nat) u, x[i]? = some u → one u = true)
      (h : ∀ (i : Nat) u u', x[i]? = some u → x'[i]? = some u' → VRel M u u') : VRel M (.agg x) (.agg x')
  | tuple (x x' : Array Value) (hx : x.size = x'.size)
      (h : ∀ (i : Nat) u u', x[i]? = some u → x'[i]? = some u' → VRel M u u') : VRel M (.tuple x) (.tuple x')
  | tree (n : Nat) (x y : Array Value) (v' : Value) (h : TRel M.phi (.func (.yield n) x y) v') : VRel M (.func (.yield n) x y) v'

theorem TRel.mono {Φ Ψ : Phi} (hm : ∀ b o v, Φ b o = some v → Ψ b o = some v) {v v' : Value} (h : TRel Φ v v') : TRel Ψ v v' := by
  induction h with
  | atom v h => exact .atom v h
  | func fn x x' y y' hx hy _ _ ih ik => exact .func fn x x' y y' hx hy ih ik
  | iface t v v' _ ih => exact .iface t v v' ih
  | agg x x' hx h1 _ ih => exact .agg x x' hx h1 ih
  | lnil n hn => exact .lnil n hn
  | lst n hn l a' cap' s f hc hx hsp h _ ih => exact .lst n hn l a' cap' s f hc hx hsp (fun i v hv => ⟨(h i v hv).1, fun j u hu => ⟨((h i v hv).2 j u hu).1, hm _ _ _ ((h i v hv).2 j u hu).2⟩⟩) ih
  | cptr v a' f hsp h _ ih => exact .cptr v a' f hsp (fun j u hu => ⟨(h j u hu).1, hm _ _ _ (h j u hu).2⟩) ih

theorem TRel.toV {M : Mem} {v v' : Value} (h : TRel M.phi v v') : VRel M v v' := by
  induction h with
  | atom v h => exact .atom v h
  | func fn x x' y y' hx hy _ _ ih ik => exact .func fn x x' y y' hx hy ih ik
  | iface t v v' _ ih => exact .iface t v v' ih
  | agg x x' hx h1 _ ih => exact .agg x x' hx h1 ih
  | lnil n hn => exact .tree _ _ _ _ (.lnil n hn)
  | lst n hn l a' cap' s f hc hx hsp h k _ => exact .tree _ _ _ _ (.lst n hn l a' cap' s f hc hx hsp h k)
  | cptr v a' f hsp h k _ => exact .tree _ _ _ _ (.cptr v a' f hsp h k)

section
variable {M M' : Mem}

theorem Place.mono {a a' : Addr} (hm : M.Le M') (h : Place M a a') : Place M' a a' := by
  unfold Place at *
  obtain ⟨l, h1, h2⟩ := h
  obtain ⟨l', h3, h4⟩ := hm.obj _ l h1
  refine ⟨l', h3, ?_⟩
  rcases h4 with rfl | ⟨k1, k2, k3⟩
  · exact h2
  · split at h2
    · exact absurd h2.1 k1
    · exact ⟨by omega, by omega, fun e => by omega⟩

theorem CapRel.mono {a a' : Addr} {c c' : Nat} (hm : M.Le M') (h : CapRel M a a' c c') : CapRel M' a a' c c' := by
  unfold CapRel at *
  obtain ⟨l, h1, h2⟩ := h
  obtain ⟨l', h3, h4⟩ := hm.obj _ l h1
  refine ⟨l', h3, ?_⟩
  rcases h4 with rfl | ⟨k1, k2, k3⟩
  · exact h2
  · split at h2
    · exact absurd h2.1 k1
    · exact ⟨by omega, by omega, fun e => by omega⟩

theorem VRel.mono {v v' : Value} (hm : M.Le M') (h : VRel M v v') : VRel M' v v' := by
  induction h with
  | top v => exact .top v
  | skip n => exact .skip n
  | atom v h => exact .atom v h
  | ptr a a' h => exact .ptr a a' (h.mono hm)
  | slice a a' len cap cap' hl h => exact .slice a a' len cap cap' hl (h.mono hm)
  | empty a k l hs h hg hk =>
    obtain ⟨l', h3, h4⟩ := hm.obj _ l h
    rcases h4 with rfl | ⟨k1, k2, k3⟩
    · exact .empty a k _ hs h3 hg hk
    · exact .empty a k _ hs h3 (by omega) (by omega)
  | map r l h hg =>
    obtain ⟨l', h3, h4⟩ := hm.obj _ l h
    rcases h4 with rfl | ⟨k1, k2, k3⟩
    · exact .map r _ h3 hg
    · exact absurd hg k1
  | func fn x x' y y' hx hy _ _ ih ik => exact .func fn x x' y y' hx hy ih ik
  | iface t v v' _ ih => exact .iface t v v' ih
  | agg x x' hx h1 _ ih => exact .agg x x' hx h1 ih
  | tuple x x' hx _ ih => exact .tuple x x' hx ih
  | tree n x y v' h => exact .tree n x y v' (h.mono hm.phi)

theorem VRel.int {k : IntKind} {n : Int} {v' : Value} (h : VRel M (.int k n) v') : v' = .int k n := by cases h; rfl
theorem VRel.bool {b : Bool} {v' : Value} (h : VRel M (.bool b) v') : v' = .bool b := by cases h; rfl
theorem VRel.string {b : ByteArray} {v' : Value} (h : VRel M (.string b) v') : v' = .string b := by cases h; rfl
theorem VRel.ptrNone {v' : Value} (h : VRel M (.pointer none) v') : v' = .pointer none := by cases h; rfl
theorem VRel.mapNone {v' : Value} (h : VRel M (.map none) v') : v' = .map none := by cases h; rfl
theorem VRel.nilFunc {v' : Value} (h : VRel M .nilFunc v') : v' = .nilFunc := by cases h; rfl
theorem VRel.sliceNone {l c : Nat} {v' : Value} (h : VRel M (.slice none l c) v') : v' = .slice none l c ∧ l = 0 ∧ c = 0 := by
  cases h with
  | atom _ h => cases l <;> cases c <;> simp_all [Bm.atom]
theorem VRel.ptrSome {a : Addr} {v' : Value} (h : VRel M (.pointer (some a)) v') : ∃ a', v' = .pointer (some a') ∧ Place M a a' := by
  cases h with
  | atom _ h => simp [Bm.atom] at h
  | ptr _ a' h => exact ⟨a', rfl, h⟩
theorem VRel.sliceSome {a : Addr} {l c : Nat} {v' : Value} (h : VRel M (.slice (some a) l c) v') :
    (∃ a' c', v' = .slice (some a') l c' ∧ l ≤ c ∧ CapRel M a a' c c') ∨ (v' = .slice none 0 0 ∧ l = 0 ∧ c = 0 ∧ ∃ k lc, a.spot = some k ∧ M.obj a.block = some lc ∧ lc.grown ≠ 0 ∧ k ≤ lc.len) := by
  cases h with
  | atom _ h => simp [Bm.atom] at h
  | slice _ a' _ _ c' hl h => exact .inl ⟨a', c', rfl, hl, h⟩
  | empty _ k l hs h hg hk => exact .inr ⟨rfl, rfl, rfl, k, l, hs, h, hg, hk⟩
theorem VRel.mapSome {r : Nat} {v' : Value} (h : VRel M (.map (some r)) v') : ∃ l, M.obj r = some l ∧ l.grown = 0 ∧ v' = .map (some l.blk) := by
  cases h with
  | atom _ h => simp [Bm.atom] at h
  | map _ l h hg => exact ⟨l, h, hg, rfl⟩
theorem VRel.aggSome {x : Array Value} {v' : Value} (h : VRel M (.agg x) v') : ∃ x', v' = .agg x' ∧ x.size = x'.size ∧ (∀ (i : Nat) u, x[i]? = some u → one u = true) ∧
    ∀ (i : Nat) u u', x[i]? = some u → x'[i]? = some u' → VRel M u u' := by
  cases h with
  | atom _ h => simp [Bm.atom] at h
  | agg _ x' hx h1 h => exact ⟨x', rfl, hx, h1, h⟩
theorem VRel.funcSome {f : FuncId} {x y : Array Value} {v' : Value} (h : VRel M (.func (.func f) x y) v') : ∃ x' y', v' = .func (.func f) x' y' ∧ x.size = x'.size ∧ y.size = y'.size ∧
    (∀ (i : Nat) u u', x[i]? = some u → x'[i]? = some u' → VRel M u u') ∧ ∀ (i : Nat) u u', y[i]? = some u → y'[i]? = some u' → VRel M u u' := by
  cases h with
  | atom _ h => simp [Bm.atom] at h
  | func _ _ x' _ y' hx hy h k => exact ⟨x', y', rfl, hx, hy, h, k⟩
theorem VRel.tupleSome {x : Array Value} {v' : Value} (hs : x.size ≠ 0) (h : VRel M (.tuple x) v') : ∃ x', v' = .tuple x' ∧ x.size = x'.size ∧
    ∀ (i : Nat) u u', x[i]? = some u → x'[i]? = some u' → VRel M u u' := by
  cases h with
  | top _ => simp at hs
  | atom _ h => simp [Bm.atom] at h
  | tuple _ x' hx h => exact ⟨x', rfl, hx, h⟩
theorem TRel.lstSome {Φ : Phi} {n : Nat} {x : Array Value} {l : List Value} {v' : Value} (hn : n < 2) (h : TRel Φ (.func (.yield n) x ⟨l⟩) v') : (v' = .slice none 0 0 ∧ l = []) ∨
    ∃ (a' : Addr) (cap' s : Nat) (f : Nat → Nat → Value), v' = .slice (some a') l.length cap' ∧ l.length ≤ cap' ∧ (n = 1 → cap' = l.length) ∧ (l = [] ∨ a'.spot = none) ∧
      (∀ (i : Nat) v, l[i]? = some v → (cellsL v).length = s ∧ ∀ (j : Nat) u, (cellsL v)[j]? = some u → one u = true ∧ Φ a'.block (a'.off + (i * s + j)) = some (f i j)) ∧
      ∀ (i : Nat) v, l[i]? = some v → ∀ (j : Nat) u, (cellsL v)[j]? = some u → TRel Φ u (f i j) := by
  cases h with
  | atom _ h => simp [Bm.atom] at h
  | lnil _ hn => exact .inl ⟨rfl, rfl⟩
  | lst _ hn l a' cap' s f hc hx hsp h k => exact .inr ⟨a', cap', s, f, rfl, hc, hx, hsp, h, k⟩
  | cptr => omega
theorem TRel.cptrSome {Φ : Phi} {v : Value} {y : Array Value} {v' : Value} (h : TRel Φ (.func (.yield 2) ⟨[v]⟩ y) v') : ∃ (a' : Addr) (f : Nat → Value), v' = .pointer (some a') ∧ a'.spot = none ∧
      (∀ (j : Nat) u, (cellsL v)[j]? = some u → one u = true ∧ Φ a'.block (a'.off + j) = some (f j)) ∧ ∀ (j : Nat) u, (cellsL v)[j]? = some u → TRel Φ u (f j) := by
  cases h with
  | atom _ h => simp [Bm.atom] at h
  | cptr _ a' f hsp h k => exact ⟨a', f, rfl, hsp, h, k⟩
theorem VRel.treeSome {n : Nat} {x y : Array Value} {v' : Value} (h : VRel M (.func (.yield n) x y) v') : TRel M.phi (.func (.yield n) x y) v' := by
  cases h with
  | atom _ h => simp [Bm.atom] at h
  | tree _ _ _ _ h => exact h

theorem atom_one {v : Value} (h : atom v = true) : one v = true := by
  unfold atom at h; split at h <;> first | rfl | cases h

theorem VRel.of_flat {v : Value} (h : flat v = true) : VRel M v v := by
  unfold flat at h
  split at h
  · rename_i cs
    have hc : ∀ (i : Nat) u, cs[i]? = some u → Bm.atom u = true := fun i u hu => by
      have := (Array.all_eq_true_iff_forall_mem.1 h) u (Array.mem_of_getElem? hu); exact this
    exact .agg cs cs rfl (fun i u hu => atom_one (hc i u hu)) fun i u u' hu hu' => by
      rw [hu] at hu'; cases hu'; exact .atom u (hc i u hu)
  · exact .atom _ h

/-- Nothing live: it is a tree. -/
theorem VRel.settle {v v' : Value} (hv : VRel M v v') : ∀ {n : Nat}, settled n v = true → TRel M.phi v v' := by
  induction hv with
  | top v => intro n; cases n <;> simp [settled]
  | skip n => intro n; cases n <;> simp [settled]
  | atom v h => intro n _; exact .atom v h
  | ptr a a' h => intro n; cases n <;> simp [settled]
  | slice a a' len cap cap' hl h => intro n; cases n <;> simp [settled]
  | empty a k l hs h hg hk => intro n; cases n <;> simp [settled]
  | map r l h hg => intro n; cases n <;> simp [settled]
  | func fn x x' y y' hx hy h k ih ik =>
    intro n hs
    cases n with
    | zero => simp [settled] at hs
    | succ n =>
      obtain ⟨x⟩ := x
      obtain ⟨y⟩ := y
      simp only [settled, Bool.and_eq_true, List.all_eq_true] at hs
      exact .func fn _ x' _ y' hx hy (fun i u u' hu hu' => ih i u u' hu hu' (hs.1 u (List.mem_of_getElem? (by simpa using hu)))) fun i u u' hu hu' => ik i u u' hu hu' (hs.2 u (List.mem_of_getElem? (by simpa using hu)))
  | iface t v v' _ ih =>
    intro n hs
    cases n with
    | zero => simp [settled] at hs
    | succ n => exact .iface t v v' (ih (by simpa [settled] using hs))
  | agg x x' hx h1 h ih =>
    intro n hs
    cases n with
    | zero => simp [settled] at hs
    | succ n =>
      obtain ⟨x⟩ := x
      simp only [settled, List.all_eq_true] at hs
      exact .agg _ x' hx h1 fun i u u' hu hu' => ih i u u' hu hu' (hs u (List.mem_of_getElem? (by simpa using hu)))
  | tuple x x' hx _ ih => intro n; cases n <;> simp [settled]
  | tree n x y v' h => intro m _; exact h

theorem VRel.scalar_eq {v v' : Value} (h : scalar v = true) (hv : VRel M v v') (hu : v ≠ .tuple #[]) : VRel ⟨fun _ => none, fun _ _ => none⟩ v v' := by
  have atom_eq : ∀ {u u' : Value}, Bm.atom u = true → VRel M u u' → u' = u := by
    intro u u' ha hr
    cases hr <;> first | rfl | (simp [Bm.atom] at ha)
  have flat_eq : ∀ {u u' : Value}, flat u = true → VRel M u u' → VRel ⟨fun _ => none, fun _ _ => none⟩ u u' := by
    intro u u' hf hr
    cases hr with
    | top _ => simp [flat, Bm.atom] at hf
    | atom _ h => exact .atom _ h
    | agg x x' hx h1 hc =>
      refine .agg x x' hx h1 fun i a a' ha ha' => ?_
      have h2 : Bm.atom a = true := by
        simp only [flat] at hf
        exact (Array.all_eq_true_iff_forall_mem.1 hf) a (Array.mem_of_getElem? ha)
      rw [atom_eq h2 (hc i a a' ha ha')]
      exact .atom _ h2
    | _ => simp [flat, Bm.atom] at hf
  unfold scalar at h
  split at h
  · rename_i vs
    have hs : vs.size ≠ 0 := fun e => hu (by rw [Array.size_eq_zero_iff.1 e])
    obtain ⟨x', rfl, hx, hc⟩ := hv.tupleSome hs
    refine .tuple vs x' hx fun i a a' ha ha' => flat_eq ?_ (hc i a a' ha ha')
    exact (Array.all_eq_true_iff_forall_mem.1 h) a (Array.mem_of_getElem? ha)
  · exact flat_eq h hv

theorem VRel.one {v v' : Value} (h : VRel M v v') (h1 : one v = true) : v'.oneCell' = true := by
  cases h with
  | top _ => cases h1
  | skip _ => cases h1
  | atom _ h => unfold Bm.atom at h; split at h <;> first | rfl | cases h
  | agg => cases h1
  | tuple => cases h1
  | tree n x y v' h => cases h <;> first | rfl | (rename_i h; simp [Bm.atom] at h)
  | _ => rfl

/-- Lists of values, one by one. -/
def VRels (M : Mem) (l l' : List Value) : Prop := l.length = l'.length ∧ ∀ (i : Nat) u u', l[i]? = some u → l'[i]? = some u' → VRel M u u'

theorem VRels.get {l l' : List Value} (h : VRels M l l') {i : Nat} {u : Value} (hu : l[i]? = some u) : ∃ u', l'[i]? = some u' ∧ VRel M u u' := by
  have hi : i < l'.length := h.1 ▸ (List.getElem?_eq_some_iff.1 hu).1
  exact ⟨l'[i], List.getElem?_eq_getElem hi, h.2 i _ _ hu (List.getElem?_eq_getElem hi)⟩

theorem VRels.mono {l l' : List Value} (hm : M.Le M') (h : VRels M l l') : VRels M' l l' :=
  ⟨h.1, fun i u u' hu hu' => (h.2 i u u' hu hu').mono hm⟩

theorem VRels.nil : VRels M [] [] := ⟨rfl, fun _ _ _ h => by simp at h⟩
theorem VRels.cons {v v' : Value} {l l' : List Value} (h : VRel M v v') (hs : VRels M l l') : VRels M (v :: l) (v' :: l') := by
  refine ⟨by simp [hs.1], fun i u u' hu hu' => ?_⟩
  cases i with
  | zero => simp at hu hu'; subst hu; subst hu'; exact h
  | succ i => exact hs.2 i u u' (by simpa using hu) (by simpa using hu')
theorem VRels.append {l l' r r' : List Value} (h : VRels M l l') (k : VRels M r r') : VRels M (l ++ r) (l' ++ r') := by
  refine ⟨by simp [h.1, k.1], fun i u u' hu hu' => ?_⟩
  by_cases hi : i < l.length
  · rw [List.getElem?_append_left hi] at hu
    rw [List.getElem?_append_left (h.1 ▸ hi)] at hu'
    exact h.2 i u u' hu hu'
  · rw [List.getElem?_append_right (Nat.le_of_not_lt hi)] at hu
    rw [List.getElem?_append_right (h.1 ▸ Nat.le_of_not_lt hi), ← h.1] at hu'
    exact k.2 _ u u' hu hu'
theorem VRels.take {l l' : List Value} (h : VRels M l l') (n : Nat) : VRels M (l.take n) (l'.take n) := by
  refine ⟨by simp [h.1], fun i u u' hu hu' => ?_⟩
  simp only [List.getElem?_take] at hu hu'
  split at hu
  · rename_i hi; rw [if_pos hi] at hu'; exact h.2 i u u' hu hu'
  · cases hu
theorem VRels.drop {l l' : List Value} (h : VRels M l l') (n : Nat) : VRels M (l.drop n) (l'.drop n) := by
  refine ⟨by simp [h.1], fun i u u' hu hu' => ?_⟩
  simp only [List.getElem?_drop] at hu hu'
  exact h.2 _ u u' hu hu'
theorem VRels.of_flat {l : List Value} (h : ∀ v ∈ l, flat v = true) : VRels M l l :=
  ⟨rfl, fun i u u' hu hu' => by rw [hu] at hu'; cases hu'; exact VRel.of_flat (h u (List.mem_of_getElem? hu))⟩

end

def alive (h : Heap) (o : Nat) : Prop := ∃ x, h[o]? = some x ∧ x ≠ .dead

/-- The abstract heap stands for the memory of a world: 'B' blocks were there before, and are only read. -/
structure HSim (E : Env) (B : Nat) (M : Mem) (h : Heap) (w : World) : Prop where
  glob : ∀ g v, E.glob g = some v → VRel M (cptr v) (.pointer (some ⟨g, 0, none⟩))
  phi : ∀ b o v, M.phi b o = some v → w.cell? ⟨b, o, none⟩ = some v
  sep : ∀ o l, M.obj o = some l → alive h o → l.real → ∀ x, M.phi l.blk x = none
  base : B ≤ w.heap.size
  dom : ∀ o l, M.obj o = some l → o < h.length ∧ (l.real → B ≤ l.blk ∧ l.blk < w.heap.size)
  obj : ∀ o l t c g, M.obj o = some l → h[o]? = some (.cells t c g) → l.grown = g ∧ (g ≠ 0 → l.len = c.length) ∧ (¬ l.real → c = []) ∧
    (l.real → ∃ cs ty, w.heap[l.blk]? = some (.cells cs ty (0, 0)) ∧ cs.size = l.size ∧ l.off + c.length ≤ l.size ∧ ∀ j v, c[j]? = some v → one v = true ∧ ∃ v', cs[l.off + j]? = some v' ∧ VRel M v v')
  mp : ∀ o l es clock, M.obj o = some l → h[o]? = some (.map es clock) → l.grown = 0 ∧ ∃ es' : Array MapEntry, w.heap[l.blk]? = some (.map es' clock) ∧ es'.size = es.length ∧
    ∀ (i : Nat) e, es[i]? = some e → ∃ e', es'[i]? = some e' ∧ (flat e.key = true ∧ e'.key = e.key) ∧ VRel M e.val e'.val ∧ e'.born = e.born
  inj : ∀ o₁ o₂ l₁ l₂, M.obj o₁ = some l₁ → M.obj o₂ = some l₂ → alive h o₁ → alive h o₂ → l₁.real → l₂.real → l₁.blk = l₂.blk → o₁ = o₂

/-- A block that was an object's, and could be written. -/
def Had (lo : Nat) (M : Mem) (h : Heap) (b : Nat) : Prop := ∃ o l, lo ≤ o ∧ M.obj o = some l ∧ alive h o ∧ l.real ∧ l.blk = b

/-- What a step may have done: objects below 'lo' are as they were, in memory too; the rest of memory has changed at objects that were alive, or is new. -/
structure Evo (lo : Nat) (M : Mem) (h : Heap) (w : World) (M' : Mem) (h' : Heap) (w' : World) : Prop where
  os : w'.os = w.os
  tape : w'.tape = w.tape
  output : w'.output = w.output
  size : w.heap.size ≤ w'.heap.size
  block : ∀ b, b < w.heap.size → ¬ Had lo M h b → w'.heap[b]? = w.heap[b]?
  len : h.length ≤ h'.length
  keep : ∀ o, o < lo → h'[o]? = h[o]?
  dead : ∀ o, o < h.length → alive h' o → alive h o
  ext : ∀ o, o < lo → M'.obj o = M.obj o
  le : M.Le M'
  non : ∀ o, o < h.length → M.obj o = none → M'.obj o = none
  own : ∀ o l, lo ≤ o → M'.obj o = some l → alive h' o → l.real → w.heap.size ≤ l.blk ∨ Had lo M h l.blk
  fro : ∀ b x v, M'.phi b x = some v → M.phi b x = some v ∨ w.heap.size ≤ b ∨ Had lo M h b

/-- The outcome of one step. -/
def Out (E : Env) (B lo : Nat) (M : Mem) (h : Heap) (w : World) (v : Value) (h' : Heap) (v' : Value) (w' : World) : Prop :=
  ∃ M', VRel M' v v' ∧ HSim E B M' h' w' ∧ Evo lo M h w M' h' w'

section
variable {E : Env} {B lo : Nat} {M M' : Mem} {h h' : Heap} {w w' : World}

theorem HSim.lt (hs : HSim E B M h w) : ∀ o l, M.obj o = some l → o < h.length := fun o l hl => (hs.dom o l hl).1

theorem Had.weaken {lo' b : Nat} (k : Had lo M h b) (hl : lo' ≤ lo) : Had lo' M h b :=
  let ⟨o, l, h1, h2⟩ := k
  ⟨o, l, Nat.le_trans hl h1, h2⟩

theorem Evo.refl (_hs : HSim E B M h w) (lo : Nat) : Evo lo M h w M h w :=
  ⟨rfl, rfl, rfl, Nat.le_refl _, fun _ _ _ => rfl, Nat.le_refl _, fun _ _ => rfl, fun _ _ ha => ha, fun _ _ => rfl, .refl M, fun _ _ h => h, fun o l ho hl ha hr => .inr ⟨o, l, ho, hl, ha, hr, rfl⟩, fun _ _ _ h => .inl h⟩

theorem Evo.weaken {lo' : Nat} (e : Evo lo M h w M' h' w') (hl : lo' ≤ lo) : Evo lo' M h w M' h' w' := by
  refine ⟨e.os, e.tape, e.output, e.size, fun b hb hn => e.block b hb fun k => hn (k.weaken hl), e.len, fun o ho => e.keep o (Nat.lt_of_lt_of_le ho hl), e.dead, fun o ho => e.ext o (Nat.lt_of_lt_of_le ho hl), e.le, e.non,
    fun o l ho hl' ha hr => ?_, fun b x v hv => (e.fro b x v hv).imp id (Or.imp id fun k => k.weaken hl)⟩
  by_cases h1 : lo ≤ o
  · exact (e.own o l h1 hl' ha hr).imp id fun k => k.weaken hl
  · have h2 : o < lo := by omega
    rw [e.ext o h2] at hl'
    refine .inr ⟨o, l, ho, hl', ?_, hr, rfl⟩
    obtain ⟨x, hx, hx'⟩ := ha
    exact ⟨x, by rw [← e.keep o h2]; exact hx, hx'⟩

theorem Evo.had {M₁ : Mem} {h₁ : Heap} {w₁ : World} (e : Evo lo M h w M₁ h₁ w₁) {b : Nat} (k : Had lo M₁ h₁ b) : w.heap.size ≤ b ∨ Had lo M h b := by
  obtain ⟨o, l, h1, h2, h3, h4, rfl⟩ := k
  exact e.own o l h1 h2 h3 h4

theorem Evo.trans {M₁ M₂ : Mem} {h₁ h₂ : Heap} {w₁ w₂ : World} (e : Evo lo M h w M₁ h₁ w₁) (k : Evo lo M₁ h₁ w₁ M₂ h₂ w₂) : Evo lo M h w M₂ h₂ w₂ := by
  refine ⟨k.os.trans e.os, k.tape.trans e.tape, k.output.trans e.output, Nat.le_trans e.size k.size, fun b hb hn => ?_, Nat.le_trans e.len k.len,
    fun o ho => (k.keep o ho).trans (e.keep o ho), fun o ho ha => e.dead o ho (k.dead o (Nat.lt_of_lt_of_le ho e.len) ha), fun o ho => (k.ext o ho).trans (e.ext o ho), e.le.trans k.le,
    fun o ho hn => k.non o (Nat.lt_of_lt_of_le ho e.len) (e.non o ho hn), fun o l ho hl ha hr => ?_, fun b x v hv => ?_⟩
  · rw [k.block b (Nat.lt_of_lt_of_le hb e.size) fun hh => ?_]
    · exact e.block b hb hn
    · rcases e.had hh with h1 | h1
      · omega
      · exact hn h1
  · rcases k.own o l ho hl ha hr with h1 | h1
    · exact .inl (Nat.le_trans e.size h1)
    · exact e.had h1
  · rcases k.fro b x v hv with h1 | h1 | h1
    · exact e.fro b x v h1
    · exact .inr (.inl (Nat.le_trans e.size h1))
    · exact .inr (e.had h1)

theorem Out.same {v v' : Value} (hs : HSim E B M h w) (hv : VRel M v v') : Out E B lo M h w v h v' w :=
  ⟨M, hv, hs, Evo.refl hs lo⟩

theorem Out.weaken {lo' : Nat} {v v' : Value} (o : Out E B lo M h w v h' v' w') (hl : lo' ≤ lo) : Out E B lo' M h w v h' v' w' :=
  let ⟨M', h1, h2, h3⟩ := o
  ⟨M', h1, h2, h3.weaken hl⟩

/-- A world with the same memory serves as well. -/
theorem HSim.of_heap (hs : HSim E B M h w) (hh : w'.heap = w.heap) : HSim E B M h w' :=
  ⟨hs.glob, fun b o v hv => by simpa [World.cell?, hh] using hs.phi b o v hv, hs.sep, by rw [hh]; exact hs.base, by rw [hh]; exact hs.dom, by rw [hh]; exact hs.obj, by rw [hh]; exact hs.mp, hs.inj⟩

end
end Go.Proofs.Ytgeebooalafepaa.Bm
