/-
 The reference of polygons: their regions, walked. Conditions: lists that are not too long.
-/
import Derived.Test.YtjkemccfcabhgaaGreatQB22
import Derived.Test.YtjkemccfcabhgaaGreatQB18
import Derived.Test.YtjkemccfcabhgaaGreatQB19
namespace Go.Proofs.YtjkemccfcabhgaaGreat.Bm
open Go Go.RowKit
open Cw (top top_ge stp IsMax stp_max max_unique nam nam_in)
theorem runS_max : ∀ (ls : List (List Int)) {b b' : Bool} {S T : List Int} {m : Int}, IsMax S m → runS b S ls = (b', T, true) → IsMax T (m + (ls.map top).sum)
 | [], b, b', S, T, m, h, e => by
  rw [runS_nil] at e
  simp only [Prod.mk.injEq, and_true] at e
  rw [← e.2]
  simpa using h
 | l :: ls, b, b', S, T, m, h, e => by
  rw [runS_cons] at e
  split at e
  ·simp at e
  ·have := runS_max ls (stp_max (l := l) h) e
   rw [List.map_cons, List.sum_cons, ← Int.add_assoc]
   exact this
theorem worst_is {ls : List (List Int)} {n : Int} {b : Bool} {S : List Int} (e : runS true [n] ls = (b, S, true)) : maxF (S.headD 0) S.tail = n + (ls.map top).sum := by
 have h1 : IsMax [n] n := ⟨by simp, fun x hx => by simp at hx; omega⟩
 have h2 := runS_max ls h1 e
 cases S with
 | nil => exact absurd h2.1 (by simp)
 | cons a S => exact max_unique (maxF_is S a) h2
structure PhTiny (p : Ph) : Prop where
 vs : p.vs.length ≤ 20
 gs : p.gs.length ≤ 20
theorem phaseL_tiny (ts : List Tb) (c : Cc) {p : Ph} (h : PhTiny p) : -21990232555520 ≤ phaseL ts c p ∧ phaseL ts c p ≤ 43980465111040 := by
 have h1 := nam_in c.nm p.gs
 have h2 := sumV_in ts c p.vs
 have h3 := h.vs
 have h4 := h.gs
 unfold phaseL
 omega
theorem top_le : ∀ (l : List Int), (∀ x ∈ l, x ≤ 43980465111040) → top l ≤ (l.length : Int) * 43980465111040
 | [], _ => by simp [Cw.top_nil]
 | a :: l, h => by
  have h1 := top_le l fun x hx => h x (List.mem_cons_of_mem _ hx)
  have h2 := h a List.mem_cons_self
  rw [Cw.top_cons, List.length_cons]
  omega
structure RtTiny (r : Rt) : Prop where
 few : RtFew r
 len : r.ph.length ≤ 20
 ph : ∀ p ∈ r.ph, PhTiny p
theorem leftR_mem {r : Rt} {p : Ph} (h : p ∈ leftR r) : p ∈ r.ph := by
 unfold leftR at h
 split at h
 ·exact List.mem_of_mem_drop h
 ·cases h
theorem leftR_len (r : Rt) : (leftR r).length ≤ r.ph.length := by
 unfold leftR
 split
 ·rw [List.length_drop]; omega
 ·simp
theorem topR_in (ts : List Tb) (c : Cc) {r : Rt} (h : RtTiny r) : 0 ≤ topR ts c r ∧ topR ts c r ≤ 900000000000000 := by
 refine ⟨top_ge _, ?_⟩
 have h1 := top_le (loadsR ts c r) fun x hx => by
  obtain ⟨p, hp, rfl⟩ := List.mem_map.1 hx
  exact (phaseL_tiny ts c (h.ph p (leftR_mem hp))).2
 have h2 : (loadsR ts c r).length ≤ 20 := by
  have := leftR_len r
  have := h.len
  unfold loadsR
  rw [List.length_map]; omega
 unfold topR
 omega
theorem subW_eq : ∀ (l : List Int) (n : Int), (∀ x ∈ l, 0 ≤ x) → n ≤ 9000000000000000000 → -9000000000000000000 ≤ n - l.sum → subW n l = n - l.sum
 | [], n, _, _, _ => by show n = n - 0; omega
 | a :: l, n, h, h1, h2 => by
  rw [List.sum_cons] at h2 ⊢
  have h3 := h a List.mem_cons_self
  have h4 : 0 ≤ l.sum := by
   have : ∀ l : List Int, (∀ x ∈ l, 0 ≤ x) → 0 ≤ l.sum := by
    intro l
    induction l with
    | nil => intro _; simp
    | cons a l ih => intro h; rw [List.sum_cons]; have := ih (fun x hx => h x (List.mem_cons_of_mem _ hx)); have := h a List.mem_cons_self; omega
   exact this l fun x hx => h x (List.mem_cons_of_mem _ hx)
  rw [subW_cons, wrap64 (by omega) (by omega), subW_eq l (n - a) (fun x hx => h x (List.mem_cons_of_mem _ hx)) (by omega) (by omega)]
  omega
theorem sum_le : ∀ (l : List Int) (b : Int), (∀ x ∈ l, 0 ≤ x ∧ x ≤ b) → 0 ≤ l.sum ∧ l.sum ≤ (l.length : Int) * b
 | [], _, _ => by simp
 | a :: l, b, h => by
  have h1 := sum_le l b fun x hx => h x (List.mem_cons_of_mem _ hx)
  have h2 := h a List.mem_cons_self
  rw [List.sum_cons, List.length_cons, Int.natCast_add, Int.add_mul]
  simp only [Int.natCast_one, Int.one_mul]
  omega
structure Tiny (t : Tw) (k : Option Bool) (l : List Rt) : Prop where
 tw : TwFew t
 bs : t.bs.length ≤ 400
 es : t.es.length ≤ 400
 kk : Rec.Ok k l
 len : l.length ≤ 10
 rt : ∀ r ∈ l, RtTiny r
theorem Tiny.rs {t : Tw} {k : Option Bool} {l : List Rt} (h : Tiny t k l) : RsFew k l := ⟨h.kk, fun r hr => (h.rt r hr).few, by have := h.len; omega⟩
theorem Tiny.ti {t : Tw} {k : Option Bool} {l : List Rt} (h : Tiny t k l) : RsTiny k l := ⟨h.rs, h.len, fun r hr => (h.rt r hr).len⟩
theorem Tiny.tops {t : Tw} {k : Option Bool} {l : List Rt} (h : Tiny t k l) (c : Cc) : ∀ x ∈ topsR t c l, 0 ≤ x ∧ x ≤ 900000000000000 := by
 intro x hx
 obtain ⟨r, hr, rfl⟩ := List.mem_map.1 hx
 exact topR_in _ _ (h.rt r hr)
theorem Tiny.sum {t : Tw} {k : Option Bool} {l : List Rt} (h : Tiny t k l) (c : Cc) : 0 ≤ (topsR t c l).sum ∧ (topsR t c l).sum ≤ 9000000000000000 := by
 have h1 := sum_le (topsR t c l) 900000000000000 (h.tops c)
 have h2 : (topsR t c l).length ≤ 10 := by unfold topsR; rw [List.length_map]; exact h.len
 omega
theorem Tiny.load {t : Tw} {k : Option Bool} {l : List Rt} (h : Tiny t k l) (c : Cc) : -500000000000000 ≤ loadT32 t c ∧ loadT32 t c ≤ 1000000000000000 := by
 have k1 := nam_in c.nm t.es
 have k2 := sumV_in t.p.ts c (t.bs.map (·.v))
 rw [List.length_map] at k2
 have := h.bs; have := h.es
 unfold loadT32
 omega
theorem Tiny.slack {t : Tw} {k : Option Bool} {l : List Rt} (h : Tiny t k l) (c : Cc) (h1 : -1099511627776 ≤ c.lim) (h2 : c.lim ≤ 1099511627776) : slackW c.lim (loadT32 t c) (topsR t c l) = c.lim - loadT32 t c - (topsR t c l).sum := by
 have k1 := h.sum c
 have k2 := h.load c
 unfold slackW
 rw [wrap64 (by omega) (by omega)]
 exact subW_eq _ _ (fun x hx => (h.tops c x hx).1) (by omega) (by omega)
theorem few_get {t : Tw} {k : Option Bool} {l : List Rt} (h : Args t k l) (hf : fewB t l = true) : Tiny t k l ∧ l.length ≤ 6 ∧ t.bs.length ≤ 20 ∧ t.es.length ≤ 20 ∧ ∀ r ∈ l, r.ph.length ≤ 9 := by
 unfold fewB at hf
 simp only [Bool.and_eq_true, decide_eq_true_eq] at hf
 obtain ⟨h1, h2, h3, h4, h5, h6⟩ := hf
 rw [List.take_of_length_le (by omega)] at h2
 have hph : ∀ r ∈ l, r.ph.length ≤ 9 ∧ ∀ p ∈ r.ph, p.vs.length ≤ 6 ∧ p.gs.length ≤ 6 := by
  intro r hr
  have q := List.all_eq_true.1 h2 r hr
  unfold fewR at q
  simp only [Bool.and_eq_true, decide_eq_true_eq] at q
  obtain ⟨q1, q2⟩ := q
  rw [List.take_of_length_le (by omega)] at q1
  refine ⟨q2, fun p hp => ?_⟩
  have q := List.all_eq_true.1 q1 p hp
  unfold fewP at q
  simp only [Bool.and_eq_true, decide_eq_true_eq] at q
  exact q
 refine ⟨⟨⟨⟨h.tw.kt, by omega, fun b hb => ⟨h.tw.kr b hb, ?_⟩⟩, h.tw.kb, h.tw.ke, by omega, by omega⟩, by omega, by omega, h.kk, by omega, fun r hr => ?_⟩, h6, h5, h4, fun r hr => (hph r hr).1⟩
 ·have q := List.all_eq_true.1 h1 b hb
  unfold fewT at q
  have := of_decide_eq_true q
  omega
 ·have a1 := h.rr r hr
  have a2 := hph r hr
  refine ⟨⟨a1.kp, ⟨fun p hp => a1.ph p hp, fun p hp => ?_, by omega⟩⟩, by omega, fun p hp => ?_⟩
  ·have := a2.2 p hp
   exact ⟨by omega, by omega⟩
  ·have := a2.2 p hp
   exact ⟨by omega, by omega⟩
end Go.Proofs.YtjkemccfcabhgaaGreat.Bm
namespace Go.Proofs.YtjkemccfcabhgaaGreat.Bm
open Go Go.RowKit
open Rg (Rect Pt)
open Cw (limited limited_in top)
theorem tS_few : TwFew tS := ⟨⟨fun _ => rfl, by decide, fun t ht => absurd ht (by simp [tS, pS])⟩, Rec.ok_some, Rec.ok_some, by decide, by decide⟩
theorem rS_tiny : RtTiny rS := by
 have hm : ∀ p ∈ rS.ph, p = f1 ∨ p = f2 ∨ p = f3 := fun p hp => by simpa [rS] using hp
 refine ⟨⟨Rec.ok_some, fun p hp => ?_, fun p hp => ?_, by decide⟩, by decide, fun p hp => ?_⟩
 ·rcases hm p hp with rfl | rfl | rfl
  ·exact ⟨Rec.ok_some, fun _ => rfl⟩
  ·exact ⟨fun _ => rfl, Rec.ok_some⟩
  ·exact ⟨Rec.ok_some, fun _ => rfl⟩
 ·rcases hm p hp with rfl | rfl | rfl <;> exact ⟨by decide, by decide⟩
 ·rcases hm p hp with rfl | rfl | rfl <;> exact ⟨by decide, by decide⟩
theorem tS_tiny1 : Tiny tS (some true) [rS] := ⟨tS_few, by decide, by decide, Rec.ok_some, by decide, fun r hr => by
 obtain rfl : r = rS := by simpa using hr
 exact rS_tiny⟩
theorem tS_tiny0 : Tiny tS none [] := ⟨tS_few, by decide, by decide, fun _ => rfl, by decide, fun r hr => absurd hr (by simp)⟩
theorem v_tops1 : topsR tS cS [rS] = [5] := by
 show [topR tS.p.ts cS rS] = _
 rw [v_top]
theorem v_loads : loadsR tS.p.ts cS rS = [4, -5, 6] := by
 show [phaseL tS.p.ts cS f1, phaseL tS.p.ts cS f2, phaseL tS.p.ts cS f3] = _
 rw [v_f1, v_f2, v_f3]
def CSv : Value := lst true [.agg ⟨[.int .i64 0, .int .i64 0]⟩, .agg ⟨[.int .i64 9, .int .i64 0]⟩, .agg ⟨[.int .i64 9, .int .i64 9]⟩, .agg ⟨[.int .i64 0, .int .i64 9]⟩]
def BASEv : Value := lst true [.agg ⟨[.string ⟨⟨[99]⟩⟩, .int .i64 2]⟩, .agg ⟨[.string ⟨⟨[100]⟩⟩, .int .i64 90]⟩]
def BUILTv : Value := lst true [.agg ⟨[.int .i64 1, .int .i64 1, .int .i64 1, .int .i64 2, .int .i64 2, .int .i64 0, .int .i64 3, .int .i64 0, .int .i64 3, .bool false]⟩]
def GIVv : Value := lst true [.agg ⟨[.string ⟨⟨[99]⟩⟩, .int .i64 5]⟩]
def V34v : Value := lst true [.agg ⟨[.int .i64 3, .int .i64 3, .int .i64 4, .int .i64 4, .int .i64 0, .int .i64 3, .int .i64 0, .int .i64 4, .bool false]⟩]
def V56v : Value := lst true [.agg ⟨[.int .i64 5, .int .i64 5, .int .i64 6, .int .i64 6, .int .i64 0, .int .i64 3, .int .i64 0, .int .i64 6, .bool false]⟩]
def PHv : Value := lst true [.agg ⟨[V34v, .slice none 0 0]⟩, .agg ⟨[.slice none 0 0, GIVv]⟩, .agg ⟨[V56v, .slice none 0 0]⟩]
def RTSv : Value := lst true [.agg ⟨[.int .i64 1, .int .i64 0, .int .i64 0, PHv, .int .i64 0, .int .i64 0, .bool false]⟩]
theorem lit_cs (h : Heap) : buildSliceT (some ⟨67, 2, 16, .agg ⟨[.int .i64 0, .int .i64 0]⟩, ⟨some true, some 2⟩⟩) false h 4 #[(0, .agg ⟨[.int .i64 0, .int .i64 0]⟩), (1, .agg ⟨[.int .i64 9, .int .i64 0]⟩), (2, .agg ⟨[.int .i64 9, .int .i64 9]⟩), (3, .agg ⟨[.int .i64 0, .int .i64 9]⟩)] = some (CSv, h) :=
 (build_lit' (n := 4) rfl rfl (by decide) (by decide) (by decide)).trans rfl
theorem lit_base (h : Heap) : buildSliceT (some ⟨69, 2, 24, .agg ⟨[.string ⟨⟨[]⟩⟩, .int .i64 0]⟩, ⟨some true, some 2⟩⟩) false h 2 #[(0, .agg ⟨[.string ⟨⟨[99]⟩⟩, .int .i64 2]⟩), (1, .agg ⟨[.string ⟨⟨[100]⟩⟩, .int .i64 90]⟩)] = some (BASEv, h) :=
 (build_lit' (n := 2) rfl rfl (by decide) (by decide) (by decide)).trans rfl
theorem lit_built (h : Heap) : buildSliceT (some ⟨78, 10, 80, .agg ⟨[.int .i64 0, .int .i64 0, .int .i64 0, .int .i64 0, .int .i64 0, .int .i64 0, .int .i64 0, .int .i64 0, .int .i64 0, .bool false]⟩, ⟨some true, some 10⟩⟩) false h 1 #[(0, .agg ⟨[.int .i64 1, .int .i64 1, .int .i64 1, .int .i64 2, .int .i64 2, .int .i64 0, .int .i64 3, .int .i64 0, .int .i64 3, .bool false]⟩)] = some (BUILTv, h) :=
 (build_lit' (n := 1) rfl rfl (by decide) (by decide) (by decide)).trans rfl
theorem lit_v34 (h : Heap) : buildSliceT (some ⟨75, 9, 72, .agg ⟨[.int .i64 0, .int .i64 0, .int .i64 0, .int .i64 0, .int .i64 0, .int .i64 0, .int .i64 0, .int .i64 0, .bool false]⟩, ⟨some true, some 9⟩⟩) false h 1 #[(0, .agg ⟨[.int .i64 3, .int .i64 3, .int .i64 4, .int .i64 4, .int .i64 0, .int .i64 3, .int .i64 0, .int .i64 4, .bool false]⟩)] = some (V34v, h) :=
 (build_lit' (n := 1) rfl rfl (by decide) (by decide) (by decide)).trans rfl
theorem lit_v56 (h : Heap) : buildSliceT (some ⟨75, 9, 72, .agg ⟨[.int .i64 0, .int .i64 0, .int .i64 0, .int .i64 0, .int .i64 0, .int .i64 0, .int .i64 0, .int .i64 0, .bool false]⟩, ⟨some true, some 9⟩⟩) false h 1 #[(0, .agg ⟨[.int .i64 5, .int .i64 5, .int .i64 6, .int .i64 6, .int .i64 0, .int .i64 3, .int .i64 0, .int .i64 6, .bool false]⟩)] = some (V56v, h) :=
 (build_lit' (n := 1) rfl rfl (by decide) (by decide) (by decide)).trans rfl
theorem lit_giv (h : Heap) : buildSliceT (some ⟨69, 2, 24, .agg ⟨[.string ⟨⟨[]⟩⟩, .int .i64 0]⟩, ⟨some true, some 2⟩⟩) false h 1 #[(0, .agg ⟨[.string ⟨⟨[99]⟩⟩, .int .i64 5]⟩)] = some (GIVv, h) :=
 (build_lit' (n := 1) rfl rfl (by decide) (by decide) (by decide)).trans rfl
theorem lit_ph (h : Heap) : buildSliceT (some ⟨64, 2, 48, .agg ⟨[.slice none 0 0, .slice none 0 0]⟩, ⟨some true, some 2⟩⟩) false h 3 #[(0, .agg ⟨[V34v, .slice none 0 0]⟩), (1, .agg ⟨[.slice none 0 0, GIVv]⟩), (2, .agg ⟨[V56v, .slice none 0 0]⟩)] = some (PHv, h) :=
 (build_lit' (n := 3) rfl rfl (by decide) (by decide) (by decide)).trans rfl
theorem lit_rt (h : Heap) : buildSliceT (some ⟨60, 7, 72, .agg ⟨[.int .i64 0, .int .i64 0, .int .i64 0, .slice none 0 0, .int .i64 0, .int .i64 0, .bool false]⟩, ⟨some true, some 7⟩⟩) false h 1 #[(0, .agg ⟨[.int .i64 1, .int .i64 0, .int .i64 0, PHv, .int .i64 0, .int .i64 0, .bool false]⟩)] = some (RTSv, h) :=
 (build_lit' (n := 1) rfl rfl (by decide) (by decide) (by decide)).trans rfl
theorem b_pt0 : buildT (.fs ⟨[.int .i64 0, .int .i64 0]⟩ ⟨[(0, 1), (1, 1)]⟩) #[(0, .int .i64 0), (1, .int .i64 0)] = some (.agg ⟨[.int .i64 0, .int .i64 0]⟩) := rfl
theorem b_pt1 : buildT (.fs ⟨[.int .i64 0, .int .i64 0]⟩ ⟨[(0, 1), (1, 1)]⟩) #[(0, .int .i64 9), (1, .int .i64 0)] = some (.agg ⟨[.int .i64 9, .int .i64 0]⟩) := rfl
theorem b_pt2 : buildT (.fs ⟨[.int .i64 0, .int .i64 0]⟩ ⟨[(0, 1), (1, 1)]⟩) #[(0, .int .i64 9), (1, .int .i64 9)] = some (.agg ⟨[.int .i64 9, .int .i64 9]⟩) := rfl
theorem b_pt3 : buildT (.fs ⟨[.int .i64 0, .int .i64 0]⟩ ⟨[(0, 1), (1, 1)]⟩) #[(0, .int .i64 0), (1, .int .i64 9)] = some (.agg ⟨[.int .i64 0, .int .i64 9]⟩) := rfl
theorem b_en (s : ByteArray) (z : Int) : buildT (.fs ⟨[.string ⟨⟨[]⟩⟩, .int .i64 0]⟩ ⟨[(0, 1), (1, 1)]⟩) #[(0, .string s), (1, .int .i64 z)] = some (.agg ⟨[.string s, .int .i64 z]⟩) := rfl
theorem b_cap : buildT (.fs ⟨[.string ⟨⟨[]⟩⟩, .int .i64 0, .int .i64 0, .slice none 0 0]⟩ ⟨[(0, 1), (1, 1), (2, 1), (3, 1)]⟩) #[(0, .string ⟨⟨[99]⟩⟩), (1, .int .i64 0), (2, .int .i64 10), (3, CSv)] = some (.agg ⟨[.string ⟨⟨[99]⟩⟩, .int .i64 0, .int .i64 10, CSv]⟩) := rfl
theorem b_pd : buildT (.fs ⟨[.int .i64 0, .int .i64 0, .int .i64 0, .int .i64 0, .int .i64 0, .int .i64 0, .int .i64 0, .int .i64 0, .int .i64 0, .bool false]⟩ ⟨[(0, 1), (1, 9)]⟩) #[(0, .int .i64 1), (1, .agg ⟨[.int .i64 1, .int .i64 1, .int .i64 2, .int .i64 2, .int .i64 0, .int .i64 3, .int .i64 0, .int .i64 3, .bool false]⟩)] = some (.agg ⟨[.int .i64 1, .int .i64 1, .int .i64 1, .int .i64 2, .int .i64 2, .int .i64 0, .int .i64 3, .int .i64 0, .int .i64 3, .bool false]⟩) := rfl
theorem b_tw : buildT (.fs ⟨[.slice none 0 0, .slice none 0 0, .slice none 0 0, .slice none 0 0, .slice none 0 0, .slice none 0 0, .slice none 0 0, .int .i64 0, .slice none 0 0, .slice none 0 0, .slice none 0 0, .slice none 0 0, .slice none 0 0]⟩ ⟨[(0, 8), (8, 1), (9, 1), (10, 1), (11, 1), (12, 1)]⟩) #[(5, BASEv), (4, BUILTv)] = some (.agg ⟨[.slice none 0 0, .slice none 0 0, .slice none 0 0, .slice none 0 0, .slice none 0 0, .slice none 0 0, .slice none 0 0, .int .i64 0, .slice none 0 0, .slice none 0 0, .slice none 0 0, BUILTv, BASEv]⟩) := rfl
theorem b_p1 : buildT (.fs ⟨[.slice none 0 0, .slice none 0 0]⟩ ⟨[(0, 1), (1, 1)]⟩) #[(0, V34v)] = some (.agg ⟨[V34v, .slice none 0 0]⟩) := rfl
theorem b_p2 : buildT (.fs ⟨[.slice none 0 0, .slice none 0 0]⟩ ⟨[(0, 1), (1, 1)]⟩) #[(1, GIVv)] = some (.agg ⟨[.slice none 0 0, GIVv]⟩) := rfl
theorem b_p3 : buildT (.fs ⟨[.slice none 0 0, .slice none 0 0]⟩ ⟨[(0, 1), (1, 1)]⟩) #[(0, V56v)] = some (.agg ⟨[V56v, .slice none 0 0]⟩) := rfl
theorem b_dr : buildT (.fs ⟨[.int .i64 0, .slice none 0 0]⟩ ⟨[(0, 1), (1, 1)]⟩) #[(1, PHv)] = some (.agg ⟨[.int .i64 0, PHv]⟩) := rfl
theorem b_rt : buildT (.fs ⟨[.int .i64 0, .int .i64 0, .int .i64 0, .slice none 0 0, .int .i64 0, .int .i64 0, .bool false]⟩ ⟨[(0, 1), (1, 1), (2, 2), (4, 1), (5, 1), (6, 1)]⟩) #[(0, .int .i64 1), (2, .agg ⟨[.int .i64 0, PHv]⟩)] = some (.agg ⟨[.int .i64 1, .int .i64 0, .int .i64 0, PHv, .int .i64 0, .int .i64 0, .bool false]⟩) := rfl
theorem sTW : settled depth (.agg ⟨[.slice none 0 0, .slice none 0 0, .slice none 0 0, .slice none 0 0, .slice none 0 0, .slice none 0 0, .slice none 0 0, .int .i64 0, .slice none 0 0, .slice none 0 0, .slice none 0 0, BUILTv, BASEv]⟩) = true := rfl
theorem sCAP : settled depth (.agg ⟨[.string ⟨⟨[99]⟩⟩, .int .i64 0, .int .i64 10, CSv]⟩) = true := rfl
theorem sRTS : settled depth RTSv = true := rfl
theorem rTW (h : Heap) : reifyC E.P 7 h [.slice none 0 0, .slice none 0 0, .slice none 0 0, .slice none 0 0, .slice none 0 0, .slice none 0 0, .slice none 0 0, .int .i64 0, .slice none 0 0, .slice none 0 0, .slice none 0 0, BUILTv, BASEv] = some [.slice none 0 0, .slice none 0 0, .slice none 0 0, .slice none 0 0, .slice none 0 0, .slice none 0 0, .slice none 0 0, .int .i64 0, .slice none 0 0, .slice none 0 0, .slice none 0 0, BUILTv, BASEv] := rfl
theorem rCAP (h : Heap) : reifyC E.P 7 h [.string ⟨⟨[99]⟩⟩, .int .i64 0, .int .i64 10, CSv] = some [.string ⟨⟨[99]⟩⟩, .int .i64 0, .int .i64 10, CSv] := rfl
theorem rRTS (h : Heap) : reify E.P 8 h RTSv = some RTSv := rfl
theorem ixPH0 : indexAddrT (.sl 64 ⟨some true, some 2⟩) PHv (.int .i64 0) = some (cptr (.agg ⟨[V34v, .slice none 0 0]⟩)) := rfl
theorem rP0 (h : Heap) : reifyC E.P 7 h [V34v, .slice none 0 0] = some [V34v, .slice none 0 0] := rfl
theorem ixPH1 : indexAddrT (.sl 64 ⟨some true, some 2⟩) PHv (.int .i64 1) = some (cptr (.agg ⟨[.slice none 0 0, GIVv]⟩)) := rfl
theorem rP1 (h : Heap) : reifyC E.P 7 h [.slice none 0 0, GIVv] = some [.slice none 0 0, GIVv] := rfl
theorem ixPH2 : indexAddrT (.sl 64 ⟨some true, some 2⟩) PHv (.int .i64 2) = some (cptr (.agg ⟨[V56v, .slice none 0 0]⟩)) := rfl
theorem rP2 (h : Heap) : reifyC E.P 7 h [V56v, .slice none 0 0] = some [V56v, .slice none 0 0] := rfl
theorem c_load : pureCall E.P (L E) 10 [.agg ⟨[.slice none 0 0, .slice none 0 0, .slice none 0 0, .slice none 0 0, .slice none 0 0, .slice none 0 0, .slice none 0 0, .int .i64 0, .slice none 0 0, .slice none 0 0, .slice none 0 0, BUILTv, BASEv]⟩, .agg ⟨[.string ⟨⟨[99]⟩⟩, .int .i64 0, .int .i64 10, CSv]⟩] = some (.int .i64 5) := (loadT_spec tS tS_few cS (by decide : cS.cs.length ≤ 1000000)).trans (by rw [v_load])
theorem c_ph0 : pureCall E.P (L E) 19 [.agg ⟨[.slice none 0 0, .slice none 0 0, .slice none 0 0, .slice none 0 0, .slice none 0 0, .slice none 0 0, .slice none 0 0, .int .i64 0]⟩, .agg ⟨[.string ⟨⟨[99]⟩⟩, .int .i64 0, .int .i64 10, CSv]⟩, .agg ⟨[V34v, .slice none 0 0]⟩] = some (.int .i64 4) := (phase_spec tS.p tS_few.p cS (by decide : cS.cs.length ≤ 1000000) f1 (rS_tiny.few.ph.ok _ (by simp [rS])) (rS_tiny.few.ph.few _ (by simp [rS]))).trans (by rw [v_f1])
theorem c_ph1 : pureCall E.P (L E) 19 [.agg ⟨[.slice none 0 0, .slice none 0 0, .slice none 0 0, .slice none 0 0, .slice none 0 0, .slice none 0 0, .slice none 0 0, .int .i64 0]⟩, .agg ⟨[.string ⟨⟨[99]⟩⟩, .int .i64 0, .int .i64 10, CSv]⟩, .agg ⟨[.slice none 0 0, GIVv]⟩] = some (.int .i64 (-5)) := (phase_spec tS.p tS_few.p cS (by decide : cS.cs.length ≤ 1000000) f2 (rS_tiny.few.ph.ok _ (by simp [rS])) (rS_tiny.few.ph.few _ (by simp [rS]))).trans (by rw [v_f2])
theorem c_ph2 : pureCall E.P (L E) 19 [.agg ⟨[.slice none 0 0, .slice none 0 0, .slice none 0 0, .slice none 0 0, .slice none 0 0, .slice none 0 0, .slice none 0 0, .int .i64 0]⟩, .agg ⟨[.string ⟨⟨[99]⟩⟩, .int .i64 0, .int .i64 10, CSv]⟩, .agg ⟨[V56v, .slice none 0 0]⟩] = some (.int .i64 6) := (phase_spec tS.p tS_few.p cS (by decide : cS.cs.length ≤ 1000000) f3 (rS_tiny.few.ph.ok _ (by simp [rS])) (rS_tiny.few.ph.few _ (by simp [rS]))).trans (by rw [v_f3])
theorem c_peak : pureCall E.P (L E) 8 [.agg ⟨[.slice none 0 0, .slice none 0 0, .slice none 0 0, .slice none 0 0, .slice none 0 0, .slice none 0 0, .slice none 0 0, .int .i64 0, .slice none 0 0, .slice none 0 0, .slice none 0 0, BUILTv, BASEv]⟩, RTSv, .agg ⟨[.string ⟨⟨[99]⟩⟩, .int .i64 0, .int .i64 10, CSv]⟩] = some (.agg ⟨[.string ⟨⟨[99]⟩⟩, .int .i64 5, lst false [.int .i64 5]]⟩) := (peak_spec tS tS_few cS (by decide : cS.cs.length ≤ 1000000) (some true) [rS] tS_tiny1.rs).trans (by rw [v_load]; show some (pkV ⟨_, _, _, topsR tS cS [rS]⟩) = _; rw [v_tops1]; rfl)
theorem c_slack1 : pureCall E.P (L E) 13 [.agg ⟨[.slice none 0 0, .slice none 0 0, .slice none 0 0, .slice none 0 0, .slice none 0 0, .slice none 0 0, .slice none 0 0, .int .i64 0, .slice none 0 0, .slice none 0 0, .slice none 0 0, BUILTv, BASEv]⟩, RTSv, .agg ⟨[.string ⟨⟨[99]⟩⟩, .int .i64 0, .int .i64 10, CSv]⟩] = some (.int .i64 0) := (slack_spec tS tS_few cS (by decide : cS.cs.length ≤ 1000000) (some true) [rS] tS_tiny1.rs).trans (by rw [tS_tiny1.slack cS (by decide) (by decide), v_load, v_tops1]; rfl)
theorem c_slack0 : pureCall E.P (L E) 13 [.agg ⟨[.slice none 0 0, .slice none 0 0, .slice none 0 0, .slice none 0 0, .slice none 0 0, .slice none 0 0, .slice none 0 0, .int .i64 0, .slice none 0 0, .slice none 0 0, .slice none 0 0, BUILTv, BASEv]⟩, .slice none 0 0, .agg ⟨[.string ⟨⟨[99]⟩⟩, .int .i64 0, .int .i64 10, CSv]⟩] = some (.int .i64 5) := (slack_spec tS tS_few cS (by decide : cS.cs.length ≤ 1000000) none [] tS_tiny0.rs).trans (by rw [tS_tiny0.slack cS (by decide) (by decide), v_load]; rfl)
theorem c_worst : pureCall E.P (L E) 6 [.agg ⟨[.slice none 0 0, .slice none 0 0, .slice none 0 0, .slice none 0 0, .slice none 0 0, .slice none 0 0, .slice none 0 0, .int .i64 0, .slice none 0 0, .slice none 0 0, .slice none 0 0, BUILTv, BASEv]⟩, RTSv, .agg ⟨[.string ⟨⟨[99]⟩⟩, .int .i64 0, .int .i64 10, CSv]⟩] = some (.tuple ⟨[.int .i64 10, .int .i64 0]⟩) := (worst_spec tS tS_few cS (by decide : cS.cs.length ≤ 1000000) (some true) [rS] tS_tiny1.ti).trans (by rw [v_load]; show some (match (runS true [5] [loadsR tS.p.ts cS rS]).2 with | (S, true) => Value.tuple ⟨[.int .i64 (maxF (S.headD 0) S.tail), .int .i64 0]⟩ | (_, false) => .tuple ⟨[.int .i64 0, .int .i64 6]⟩) = _; rw [v_loads]; kernel_rfl)
theorem c_chk1 : pureCall E.P (L E) 15 [.agg ⟨[.slice none 0 0, .slice none 0 0, .slice none 0 0, .slice none 0 0, .slice none 0 0, .slice none 0 0, .slice none 0 0, .int .i64 0, .slice none 0 0, .slice none 0 0, .slice none 0 0, BUILTv, BASEv]⟩, RTSv, .agg ⟨[.string ⟨⟨[99]⟩⟩, .int .i64 0, .int .i64 10, CSv]⟩, .agg ⟨[.string ⟨⟨[99]⟩⟩, .int .i64 5, lst false [.int .i64 5]]⟩] = some (.int .i64 0) := (check_spec32 tS tS_few cS (by decide : cS.cs.length ≤ 1000000) (some true) [rS] tS_tiny1.rs ⟨nC, 5, some false, [5]⟩ Enc.ok_some (by decide)).trans (by unfold chkV; rw [if_pos ⟨rfl, v_load.symm, v_tops1.symm⟩])
theorem c_chk0 : pureCall E.P (L E) 15 [.agg ⟨[.slice none 0 0, .slice none 0 0, .slice none 0 0, .slice none 0 0, .slice none 0 0, .slice none 0 0, .slice none 0 0, .int .i64 0, .slice none 0 0, .slice none 0 0, .slice none 0 0, BUILTv, BASEv]⟩, .slice none 0 0, .agg ⟨[.string ⟨⟨[99]⟩⟩, .int .i64 0, .int .i64 10, CSv]⟩, .agg ⟨[.string ⟨⟨[99]⟩⟩, .int .i64 5, lst false [.int .i64 5]]⟩] = some (.int .i64 19) := (check_spec32 tS tS_few cS (by decide : cS.cs.length ≤ 1000000) none [] tS_tiny0.rs ⟨nC, 5, some false, [5]⟩ Enc.ok_some (by decide)).trans (by unfold chkV; rw [if_neg (fun h => absurd h.2.2 (by simp [topsR]))])
set_option maxHeartbeats 4000000 in
theorem small32_spec : pureCall E.P (L E) 4 [] = some (.bool true) := by
 have h1 := home1
 have h3 := home3
 have h5 := home5
 have l1 : pureCall E.P (L E) 17 [.int .i64 1125899906842624] = some (.int .i64 1099511627776) := limited_spec32 _
 have l2 : pureCall E.P (L E) 17 [.int .i64 (-7)] = some (.int .i64 (-7)) := limited_spec32 _
 have sIn : ∀ z, settled depth (.int .i64 z) = true := fun _ => rfl
 rw [vol_val] at h1 h3 h5
 unfold homeV at h1 h3 h5
 simp only at h1 h3 h5
 rw [pureCall_fn F4 rfl]
 simp -implicitDefEqProofs [r4, p4, ret1 m21, h1, h3, h5, ret1 m8, ret0 m6, ret0 m10, ret0 m19, ret0 m13, ret0 m15, ret0 m17, l1, l2, sIn, lit_cs, lit_base, lit_built, lit_v34, lit_v56, lit_giv, lit_ph, lit_rt, b_pt0, b_pt1, b_pt2, b_pt3, b_en, b_cap, b_pd, b_tw, b_p1, b_p2, b_p3, b_dr, b_rt, sTW, sCAP, sRTS, rTW, rCAP, rRTS, ixPH0, rP0, ixPH1, rP1, ixPH2, rP2, c_load, c_ph0, c_ph1, c_ph2, c_peak, c_slack1, c_slack0, c_worst, c_chk1, c_chk0]
 done
end Go.Proofs.YtjkemccfcabhgaaGreat.Bm
namespace Go.Proofs.YtjkemccfcabhgaaGreat.Rg
open Bm (sortI sortI_perm sortI_sorted sortI_len)
def lowN : List Int → Int → Nat
 | [], _ => 0
 | a :: l, z => if a < z then lowN l z + 1 else 0
theorem lowN_le : ∀ (l : List Int) (z : Int), lowN l z ≤ l.length
 | [], _ => Nat.le_refl _
 | a :: l, z => by
  have ih := lowN_le l z
  unfold lowN
  split
  ·rw [List.length_cons]; omega
  ·exact Nat.zero_le _
def ins7 (o : List Int) (z : Int) : List Int := if lowN o z < o.length ∧ o.getD (lowN o z) 0 = z then o else putAt o (lowN o z) z
theorem ins7_eq (z : Int) : ∀ o : List Int, ins7 o z = insU z o
 | [] => rfl
 | a :: o => by
  have ih := ins7_eq z o
  unfold ins7 at ih ⊢
  unfold insU lowN
  by_cases h : a < z
  ·rw [if_pos h, if_neg (show ¬ z < a by omega), if_neg (show ¬ z = a by omega), ← ih]
   have e : (a :: o).getD (lowN o z + 1) 0 = o.getD (lowN o z) 0 := by simp
   rw [e, List.length_cons]
   by_cases q : lowN o z < o.length ∧ o.getD (lowN o z) 0 = z
   ·rw [if_pos q, if_pos ⟨by omega, q.2⟩]
   ·rw [if_neg q, if_neg fun k => q ⟨by omega, k.2⟩]; rfl
  ·rw [if_neg h]
   have e : (a :: o).getD 0 0 = a := rfl
   rw [e]
   by_cases q : z = a
   ·subst q
    rw [if_pos ⟨Nat.zero_lt_succ _, rfl⟩, if_neg (show ¬ z < z by omega), if_pos rfl]
   ·rw [if_neg fun k => q k.2.symm, if_pos (show z < a by omega)]; rfl
theorem ins7_sortU (l : List Int) : l.foldl ins7 [] = sortU l := by
 have key : ∀ (l o : List Int), o.Pairwise (· < ·) → (l.foldl ins7 o).Pairwise (· < ·) ∧ ∀ w, w ∈ l.foldl ins7 o ↔ w ∈ l ∨ w ∈ o := by
  intro l
  induction l with
  | nil => exact fun o h => ⟨h, fun w => by simp⟩
  | cons z l ih =>
   intro o h
   obtain ⟨h2, h3⟩ := ih (ins7 o z) (by rw [ins7_eq]; exact insU_asc h)
   refine ⟨h2, fun w => ?_⟩
   rw [List.foldl_cons, h3, ins7_eq, insU_mem, List.mem_cons]
   exact ⟨fun h => h.elim (fun h => .inl (.inr h)) fun h => h.elim (fun h => .inl (.inl h)) .inr, fun h => h.elim (fun h => h.elim (fun h => .inr (.inl h)) .inl) fun h => .inr (.inr h)⟩
 obtain ⟨h1, h2⟩ := key l [] .nil
 refine asc_ext h1 (sortU_asc l) fun w => ?_
 rw [h2, sortU_mem]; simp
def corn7 (p : List Pt) (i : Nat) : Bool := onB (sd p i).1 && (decide ((sd p i).1.1 = (sd p i).2.1) != decide ((sd p i).1.2 = (sd p i).2.2)) && (upS (sd p i) != upS (sd p ((i + 1) % p.length)))
theorem sd_pts {p : List Pt} {i : Nat} (h : i < p.length) : sd p i = (p.getD i (0, 0), p.getD ((i + 1) % p.length) (0, 0)) := by
 have hm : (i + 1) % p.length < p.length := Nat.mod_lt _ (by omega)
 rw [sd_get (by rw [sides_len]; exact h), sides_get h, List.getD_eq_getElem?_getD, List.getD_eq_getElem?_getD, List.getElem?_eq_getElem h, List.getElem?_eq_getElem hm]; rfl
theorem corn7_pts {p : List Pt} {i : Nat} (h : i < p.length) {a b c : Pt} (ha : p.getD i (0, 0) = a) (hb : p.getD ((i + 1) % p.length) (0, 0) = b) (hc : p.getD ((i + 2) % p.length) (0, 0) = c) :
  corn7 p i = (onB a && (decide (a.1 = b.1) != decide (a.2 = b.2)) && (decide (a.1 = b.1) != decide (b.1 = c.1))) := by
 have hm : (i + 1) % p.length < p.length := Nat.mod_lt _ (by omega)
 unfold corn7 upS
 rw [sd_pts h, sd_pts hm, ha, hb]
 have e : ((i + 1) % p.length + 1) % p.length = (i + 2) % p.length := by rw [Nat.mod_add_mod]
 rw [e, hc]
def meet7 (p : List Pt) (i k : Nat) : Bool := !(decide ((k + 1) % p.length ≠ i) && crossB (sd p i) (sd p k))
def row7 (p : List Pt) (i : Nat) : Bool := (decide (i = 0) || ltP (p.getD 0 (0, 0)) (p.getD i (0, 0))) && allFr (meet7 p i) (i + 2) (p.length - (i + 2))
def right7 (p : List Pt) : Bool := decide (4 ≤ p.length) && decide (p.length ≤ 60) && allFr (corn7 p) 0 p.length && decide ((sd p 0).1.2 = (sd p 0).2.2) && allFr (row7 p) 0 p.length
theorem right7_eq (p : List Pt) : right7 p = rightP p := by
 unfold right7 rightP
 by_cases hl : 4 ≤ p.length
 ·have e1 : allFr (row7 p) 0 p.length = (allFr (fun i => decide (i = 0) || ltP (p.getD 0 (0, 0)) (p.getD i (0, 0))) 0 p.length && allFr (crI p) 0 p.length) := by
   rw [← allFr_and]
   refine allFr_congr fun i _ hi => ?_
   unfold row7 crI
   congr 1
   refine allFr_congr fun k h1 h2 => ?_
   unfold meet7 crJ
   congr 2
   rw [decide_eq_decide]
   have hk : k < p.length := by omega
   by_cases hk1 : k + 1 < p.length
   ·rw [Nat.mod_eq_of_lt hk1]; omega
   ·have : k + 1 = p.length := by omega
    rw [this, Nat.mod_self]; omega
  have e2 : allFr (okI p) 0 p.length = (allFr (corn7 p) 0 p.length && allFr (fun i => decide (i = 0) || ltP (p.getD 0 (0, 0)) (p.getD i (0, 0))) 0 p.length) := by
   rw [← allFr_and]
   refine allFr_congr fun i _ hi => ?_
   unfold okI okJ corn7
   simp only [Bool.and_assoc]
  rw [e1, e2]
  cases hc : allFr (corn7 p) 0 p.length
  ·simp only [Bool.and_false, Bool.false_and]
  ·have h0 : corn7 p 0 = true := allFr_true.1 hc 0 (Nat.le_refl _) (by omega)
   unfold corn7 at h0
   rw [Bool.and_eq_true, Bool.and_eq_true] at h0
   have h1 := h0.1.2
   have e3 : (!upS (sd p 0)) = decide ((sd p 0).1.2 = (sd p 0).2.2) := by
    unfold upS
    cases hx : decide ((sd p 0).1.1 = (sd p 0).2.1) <;> cases hy : decide ((sd p 0).1.2 = (sd p 0).2.2) <;> rw [hx, hy] at h1 <;> first | rfl | exact absurd h1 (by decide)
   rw [e3]
   cases decide (4 ≤ p.length) <;> cases decide (p.length ≤ 60) <;> cases decide ((sd p 0).1.2 = (sd p 0).2.2) <;> cases allFr (fun i => decide (i = 0) || ltP (p.getD 0 (0, 0)) (p.getD i (0, 0))) 0 p.length <;> cases allFr (crI p) 0 p.length <;> rfl
 ·rw [decide_eq_false hl]; rfl
def in7 (x : Int) (s : Pt × Pt) : Bool := decide (s.1.2 = s.2.2) && hB x s
def rows7 (p : List Pt) (x : Int) : List Int := ((sidesP p).filter (in7 x)).map fun s => s.1.2
theorem rows7_eq {p : List Pt} (h : Poly p) (x : Int) : rows7 p x = ysP p x := by
 unfold rows7 ysP
 congr 1
 refine List.filter_congr fun s hs => ?_
 unfold in7
 by_cases hu : s.1.1 = s.2.1
 ·have : hB x s = false := by
   rw [Bool.eq_false_iff]
   intro q
   rw [hB_iff] at q
   omega
  rw [this, Bool.and_false]
 ·rw [decide_eq_true (h.flat hs hu), Bool.true_and]
theorem sortU_strict {l : List Int} (h : l.Pairwise (· ≠ ·)) : sortU l = sortI l := by
 refine asc_ext (sortU_asc l) (strict (sortI_sorted l) ((sortI_perm l).symm.pairwise h fun h => Ne.symm h)) fun w => ?_
 rw [sortU_mem, (sortI_perm l).mem_iff]
theorem rows7_sort {p : List Pt} (h : Poly p) (x : Int) : sortU (rows7 p x) = sortI (ysP p x) := by
 rw [rows7_eq h, sortU_strict (h.ys_nodup x)]
end Go.Proofs.YtjkemccfcabhgaaGreat.Rg
namespace Go.Proofs.YtjkemccfcabhgaaGreat.Bm
open Go Go.RowKit
open Rg (Rect Pt sidesP upS crossB onB sd ltP rightP allFr allFr_step allFr_end corn7 meet7 row7 right7)
theorem less_spec (a b : Pt) : pureCall E.P (L E) 85 [.agg ⟨[.int .i64 a.1, .int .i64 a.2]⟩, .agg ⟨[.int .i64 b.1, .int .i64 b.2]⟩] = some (.bool (ltP a b)) := by
 unfold ltP
 rw [pureCall_fn F85 rfl]
 by_cases h1 : a.1 < b.1
 ·simp -implicitDefEqProofs [r85, padS, h1]
 by_cases h2 : a.1 = b.1
 ·by_cases h3 : a.2 < b.2 <;> simp -implicitDefEqProofs [r85, padS, h1, h2, h3]
 ·simp -implicitDefEqProofs [r85, padS, h1, h2]
theorem meet_spec (a b c d : Pt) : pureCall E.P (L E) 86 [.agg ⟨[.int .i64 a.1, .int .i64 a.2]⟩, .agg ⟨[.int .i64 b.1, .int .i64 b.2]⟩, .agg ⟨[.int .i64 c.1, .int .i64 c.2]⟩, .agg ⟨[.int .i64 d.1, .int .i64 d.2]⟩] = some (.bool (crossB (a, b) (c, d))) := by
 unfold crossB
 simp only
 rw [pureCall_fn F86 rfl]
 by_cases h : max (min a.1 b.1) (min c.1 d.1) ≤ min (max a.1 b.1) (max c.1 d.1)
 ·simp -implicitDefEqProofs [r86, p86, min_int, max_int, h]
 ·simp -implicitDefEqProofs [r86, p86, min_int, max_int, h]
set_option maxHeartbeats 4000000 in
theorem corners_spec (x : Bool) (p : List Pt) (hp : p.length ≤ 1000) : pureCall E.P (L E) 84 [lst x (spanR.vals p)] = some (.bool (allFr (corn7 p) 0 p.length)) := by
 have ln : ∀ h, lenT .sl h (lst x (spanR.vals p)) = some (.int .i64 p.length) := fun h => Rec.tree_len
 have bP : ∀ d n, below (d + 1) n (lst x (spanR.vals p)) = true := fun d n => rfl
 have pix := pt_index x p
 rw [pureCall_fn F84 rfl]
 generalize hPV : lst x (spanR.vals p) = PV at *
 simp -implicitDefEqProofs [r84, p84, ln]
 rw [LL_rec (α := Nat) 0 (fun i => [(4, .int .i64 (i : Int))]) (fun _ => []) (fun i => if allFr (corn7 p) i (p.length - i) then (.exit 0, [(4, undef)], []) else (.ret, [(2, .bool false), (4, undef)], [])) (fun i => i ≤ p.length) (fun i => p.length - i)]
 ·rw [Nat.sub_zero]
  cases allFr (corn7 p) 0 p.length <;> simp -implicitDefEqProofs [k84_3]
 ·exact Nat.zero_le _
 ·simp -implicitDefEqProofs [k84_3]
 ·rfl
 ·intro nx i hi ih
  by_cases h : i < p.length
  ·have h' : (i : Int) < (p.length : Int) := by omega
   have ih := ih (i + 1) (by omega) (by omega)
   have hm1 : (i + 1) % p.length < p.length := Nat.mod_lt _ (by omega)
   have hm2 : (i + 2) % p.length < p.length := Nat.mod_lt _ (by omega)
   have w1 : IntKind.i64.wrap ((i : Int) + 1) = ((i + 1 : Nat) : Int) := (wrap64 (by omega) (by omega)).trans (by omega)
   have w2 : IntKind.i64.wrap ((i : Int) + 2) = ((i + 2 : Nat) : Int) := (wrap64 (by omega) (by omega)).trans (by omega)
   have rm1 := rem_nat (P := E.P) (t := 3) (m := i + 1) (n := p.length) (by omega)
   have rm2 := rem_nat (P := E.P) (t := 3) (m := i + 2) (n := p.length) (by omega)
   have pa := pix i h
   have pb := pix _ hm1
   have pc := pix _ hm2
   have ec := Rg.corn7_pts h rfl rfl rfl
   rw [span_val] at pa pb pc
   rw [allFr_step h, ec]
   clear ec hm1 hm2
   generalize allFr (corn7 p) (i + 1) (p.length - (i + 1)) = q at ih ⊢
   generalize p.getD i (0, 0) = a at *
   generalize (i + 1) % p.length = j1 at *
   generalize (i + 2) % p.length = j2 at *
   generalize p.getD j1 (0, 0) = b at *
   generalize p.getD j2 (0, 0) = c at *
   obtain ⟨ax, ay⟩ := a
   obtain ⟨bx, byy⟩ := b
   obtain ⟨cx, cy⟩ := c
   unfold onB
   simp only at pa pb pc ⊢
   simp -implicitDefEqProofs [k84_3, -Int.natCast_add] at ih
   by_cases h1 : 0 ≤ ax
   case neg =>
    have h1' : ax < 0 := by omega
    rw [decide_eq_false h1]
    simp -implicitDefEqProofs [r84_3, k84_3, h, h', pa, pb, pc, w1, w2, rm1, rm2, h1, h1', trim_cut, bP, -Int.natCast_add]
   by_cases h2 : ax ≤ 1048576
   case neg =>
    have h1' : ¬ ax < 0 := by omega
    have h2' : 1048576 < ax := by omega
    rw [decide_eq_false h2, Bool.and_false]
    simp -implicitDefEqProofs [r84_3, k84_3, h, h', pa, pb, pc, w1, w2, rm1, rm2, h1', h2', trim_cut, bP, -Int.natCast_add]
   have h1' : ¬ ax < 0 := by omega
   have h2' : ¬ 1048576 < ax := by omega
   by_cases h3 : 0 ≤ ay
   case neg =>
    have h3' : ay < 0 := by omega
    rw [decide_eq_false h3, Bool.and_false]
    simp -implicitDefEqProofs [r84_3, k84_3, h, h', pa, pb, pc, w1, w2, rm1, rm2, h1', h2', h3', trim_cut, bP, -Int.natCast_add]
   have h3' : ¬ ay < 0 := by omega
   by_cases h4 : ay ≤ 1048576
   case neg =>
    have h4' : 1048576 < ay := by omega
    rw [decide_eq_false h4, Bool.and_false]
    simp -implicitDefEqProofs [r84_3, k84_3, h, h', pa, pb, pc, w1, w2, rm1, rm2, h1', h2', h3', h4', trim_cut, bP, -Int.natCast_add]
   have h4' : ¬ 1048576 < ay := by omega
   rw [decide_eq_true h1, decide_eq_true h2, decide_eq_true h3, decide_eq_true h4]
   by_cases e1 : ax = bx
   ·subst e1
    by_cases e2 : ay = byy
    ·subst e2
     by_cases e3 : ax = cx
     ·subst e3
      simp -implicitDefEqProofs [r84_3, k84_3, h, h', pa, pb, pc, w1, w2, rm1, rm2, h1', h2', h3', h4', beq, trim_cut, bP, -Int.natCast_add]
     ·have _u := e3
      simp -implicitDefEqProofs [r84_3, k84_3, h, h', pa, pb, pc, w1, w2, rm1, rm2, h1', h2', h3', h4', e3, beq, trim_cut, bP, -Int.natCast_add]
    ·have _u := e2
     by_cases e3 : ax = cx
     ·subst e3
      simp -implicitDefEqProofs [r84_3, k84_3, h, h', pa, pb, pc, w1, w2, rm1, rm2, h1', h2', h3', h4', e2, beq, trim_cut, bP, -Int.natCast_add]
     ·have _u := e3
      simp -implicitDefEqProofs [r84_3, k84_3, h, h', pa, pb, pc, w1, w2, rm1, rm2, h1', h2', h3', h4', e2, e3, beq, trim_cut, bP, -Int.natCast_add]
      exact ih
   ·have _u := e1
    by_cases e2 : ay = byy
    ·subst e2
     by_cases e3 : bx = cx
     ·subst e3
      simp -implicitDefEqProofs [r84_3, k84_3, h, h', pa, pb, pc, w1, w2, rm1, rm2, h1', h2', h3', h4', e1, beq, trim_cut, bP, -Int.natCast_add]
      exact ih
     ·have _u := e3
      simp -implicitDefEqProofs [r84_3, k84_3, h, h', pa, pb, pc, w1, w2, rm1, rm2, h1', h2', h3', h4', e1, e3, beq, trim_cut, bP, -Int.natCast_add]
    ·have _u := e2
     by_cases e3 : bx = cx
     ·subst e3
      simp -implicitDefEqProofs [r84_3, k84_3, h, h', pa, pb, pc, w1, w2, rm1, rm2, h1', h2', h3', h4', e1, e2, beq, trim_cut, bP, -Int.natCast_add]
     ·have _u := e3
      simp -implicitDefEqProofs [r84_3, k84_3, h, h', pa, pb, pc, w1, w2, rm1, rm2, h1', h2', h3', h4', e1, e2, e3, beq, trim_cut, bP, -Int.natCast_add]
  ·have h' : ¬ ((i : Int) < (p.length : Int)) := by omega
   rw [allFr_end (by omega)]
   simp -implicitDefEqProofs [r84_3, k84_3, h, h', trim_le]
set_option maxHeartbeats 4000000 in
theorem right7_spec (x : Bool) (p : List Pt) (hp : p.length ≤ 1000000) : pureCall E.P (L E) 64 [lst x (spanR.vals p)] = some (.bool (rightP p)) := by
 have ln : ∀ h, lenT .sl h (lst x (spanR.vals p)) = some (.int .i64 p.length) := fun h => Rec.tree_len
 have bP : ∀ d n, below (d + 1) n (lst x (spanR.vals p)) = true := fun d n => rfl
 have rf : ∀ h, reify E.P 8 h (lst x (spanR.vals p)) = some (lst x (spanR.vals p)) := fun _ => rfl
 have pix := pt_index x p
 have hC : p.length ≤ 1000 → _ := corners_spec x p
 rw [← Rg.right7_eq, pureCall_fn F64 rfl]
 generalize hPV : lst x (spanR.vals p) = PV at *
 unfold right7
 by_cases h4 : 4 ≤ p.length
 case neg =>
  have h4' : (p.length : Int) < 4 := by omega
  have h4'' : p.length < 4 := by omega
  rw [decide_eq_false h4]
  simp -implicitDefEqProofs [-List.getD_eq_getElem?_getD, r64, p64, ln, h4', h4'']
 have h4' : ¬ ((p.length : Int) < 4) := by omega
 have h4'' : ¬ (p.length < 4) := by omega
 rw [decide_eq_true h4]
 by_cases h60 : p.length ≤ 60
 case neg =>
  have h60' : 60 < (p.length : Int) := by omega
  have h60'' : 60 < p.length := by omega
  rw [decide_eq_false h60]
  simp -implicitDefEqProofs [-List.getD_eq_getElem?_getD, r64, p64, ln, h4', h4'', h60', h60'']
 have h60' : ¬ (60 < (p.length : Int)) := by omega
 have h60'' : ¬ (60 < p.length) := by omega
 rw [decide_eq_true h60]
 have hC := hC (by omega)
 have s0 := Rg.sd_pts (p := p) (i := 0) (by omega)
 rw [Nat.zero_add, Nat.mod_eq_of_lt (show 1 < p.length by omega)] at s0
 have p0 := pix 0 (by omega)
 have p1 := pix 1 (by omega)
 rw [span_val] at p0 p1
 have p0' : indexAddrT (.sl 67 ⟨some true, some 2⟩) PV (.int .i64 0) = _ := p0
 have p1' : indexAddrT (.sl 67 ⟨some true, some 2⟩) PV (.int .i64 1) = _ := p1
 rw [s0]
 cases hc : allFr (corn7 p) 0 p.length
 ·rw [hc] at hC
  simp -implicitDefEqProofs [-List.getD_eq_getElem?_getD, r64, p64, ln, h4', h4'', h60', h60'', ret0 m84, rf, hC]
 rw [hc] at hC
 by_cases hy : (p.getD 0 (0, 0)).2 = (p.getD 1 (0, 0)).2
 case neg =>
  rw [decide_eq_false (show ¬ (((p.getD 0 (0, 0), p.getD 1 (0, 0)) : Pt × Pt).1.2 = ((p.getD 0 (0, 0), p.getD 1 (0, 0)) : Pt × Pt).2.2) from hy)]
  simp -implicitDefEqProofs [-List.getD_eq_getElem?_getD, r64, p64, ln, h4', h4'', h60', h60'', ret0 m84, rf, hC, p0', p1', hy]
 rw [decide_eq_true (show ((p.getD 0 (0, 0), p.getD 1 (0, 0)) : Pt × Pt).1.2 = ((p.getD 0 (0, 0), p.getD 1 (0, 0)) : Pt × Pt).2.2 from hy), Bool.true_and, Bool.true_and, Bool.true_and]
 simp -implicitDefEqProofs [-List.getD_eq_getElem?_getD, r64, p64, ln, h4', h4'', h60', h60'', ret0 m84, rf, hC, p0', p1', hy]
 rw [LL_rec (α := Nat) 0 (fun i => [(4, .int .i64 (i : Int))]) (fun _ => []) (fun i => if allFr (row7 p) i (p.length - i) then (.exit 0, [(4, undef)], []) else (.ret, [(2, .bool false), (4, undef)], [])) (fun i => i ≤ p.length) (fun i => p.length - i)]
 ·rw [Nat.sub_zero]
  cases allFr (row7 p) 0 p.length <;> simp -implicitDefEqProofs [-List.getD_eq_getElem?_getD, k64_7]
 ·exact Nat.zero_le _
 ·simp -implicitDefEqProofs [-List.getD_eq_getElem?_getD, k64_7]
 ·rfl
 ·intro nx i hi ih
  by_cases h : i < p.length
  ·have h' : (i : Int) < (p.length : Int) := by omega
   have ih := ih (i + 1) (by omega) (by omega)
   have wi : IntKind.i64.wrap ((i : Int) + 1) = ((i + 1 : Nat) : Int) := (wrap64 (by omega) (by omega)).trans (by omega)
   have wi2 : IntKind.i64.wrap ((i : Int) + 2) = ((i + 2 : Nat) : Int) := (wrap64 (by omega) (by omega)).trans (by omega)
   have pI := pix i h
   rw [span_val] at pI
   have ls := less_spec (p.getD 0 (0, 0)) (p.getD i (0, 0))
   rw [allFr_step h]
   generalize hq : allFr (row7 p) (i + 1) (p.length - (i + 1)) = q at ih ⊢
   have er : row7 p i = ((decide (i = 0) || ltP (p.getD 0 (0, 0)) (p.getD i (0, 0))) && allFr (meet7 p i) (i + 2) (p.length - (i + 2))) := rfl
   rw [er]
   simp -implicitDefEqProofs [-List.getD_eq_getElem?_getD, k64_7, -Int.natCast_add] at ih
   by_cases h0 : i = 0 ∨ ltP (p.getD 0 (0, 0)) (p.getD i (0, 0)) = true
   case neg =>
    have h0a : ¬ i = 0 := fun e => h0 (.inl e)
    have h0b : ltP (p.getD 0 (0, 0)) (p.getD i (0, 0)) = false := by
     cases hl : ltP (p.getD 0 (0, 0)) (p.getD i (0, 0))
     ·rfl
     ·exact absurd (.inr hl) h0
    have h0p : 0 < (i : Int) := by omega
    have h0q : 0 < i := by omega
    rw [h0b] at ls ⊢
    rw [decide_eq_false h0a]
    simp -implicitDefEqProofs [-List.getD_eq_getElem?_getD, r64_7, k64_7, h, h', p0', pI, h0p, h0q, ret0 m85, ls, trim_le, -Int.natCast_add]
   have hd : (decide (i = 0) || ltP (p.getD 0 (0, 0)) (p.getD i (0, 0))) = true := by
    rcases h0 with h0 | h0
    ·rw [decide_eq_true h0]; rfl
    ·rw [h0, Bool.or_true]
   rw [hd, Bool.true_and]
   have n0 : p.length ≠ 0 := by omega
   by_cases hi0 : 0 < i
   case' pos =>
    have hlt : ltP (p.getD 0 (0, 0)) (p.getD i (0, 0)) = true := h0.resolve_left (by omega)
    have h0p : 0 < (i : Int) := by omega
    rw [hlt] at ls
    simp -implicitDefEqProofs [-List.getD_eq_getElem?_getD, r64_7, k64_7, h, h', p0', pI, hi0, h0p, ret0 m85, ls, wi2, -Int.natCast_add]
   case' neg =>
    have h0p : ¬ 0 < (i : Int) := by omega
    simp -implicitDefEqProofs [-List.getD_eq_getElem?_getD, r64_7, k64_7, h, h', hi0, h0p, wi2, -Int.natCast_add]
   all_goals
    rw [LL_rec (α := Nat) (i + 2) (fun k => [(5, .int .i64 (k : Int))]) (fun _ => []) (fun k => if allFr (meet7 p i) k (p.length - k) then (.exit 2, [(5, undef)], []) else (.ret, [(2, .bool false), (5, undef)], [])) (fun k => i + 2 ≤ k) (fun k => p.length - k)]
    ·cases allFr (meet7 p i) (i + 2) (p.length - (i + 2))
     ·simp -implicitDefEqProofs [-List.getD_eq_getElem?_getD, k64_12, trim_le]
     ·simp -implicitDefEqProofs [-List.getD_eq_getElem?_getD, k64_12, wi, trim_le, -Int.natCast_add]
      exact ih
    ·exact Nat.le_refl _
    ·simp -implicitDefEqProofs [-List.getD_eq_getElem?_getD, k64_12]
    ·rfl
    ·intro nx k hk ih
     by_cases hkn : k < p.length
     ·have hkn' : (k : Int) < (p.length : Int) := by omega
      have hi1 : i + 1 < p.length := by omega
      have ih := ih (k + 1) (by omega) (by omega)
      have wk : IntKind.i64.wrap ((k : Int) + 1) = ((k + 1 : Nat) : Int) := (wrap64 (by omega) (by omega)).trans (by omega)
      have rmk := rem_nat (P := E.P) (t := 3) (m := k + 1) (n := p.length) (by omega)
      have hmk : (k + 1) % p.length < p.length := Nat.mod_lt _ (by omega)
      have pI1 := pix (i + 1) hi1
      have pK := pix k hkn
      have pM := pix _ hmk
      rw [span_val] at pI1 pK pM
      have ms := meet_spec (p.getD i (0, 0)) (p.getD (i + 1) (0, 0)) (p.getD k (0, 0)) (p.getD ((k + 1) % p.length) (0, 0))
      have emm : meet7 p i k = !(decide ((k + 1) % p.length ≠ i) && crossB (p.getD i (0, 0), p.getD (i + 1) (0, 0)) (p.getD k (0, 0), p.getD ((k + 1) % p.length) (0, 0))) := by
       unfold meet7
       rw [Rg.sd_pts h, Rg.sd_pts hkn, Nat.mod_eq_of_lt hi1]
      rw [allFr_step hkn, emm]
      clear emm
      generalize crossB (p.getD i (0, 0), p.getD (i + 1) (0, 0)) (p.getD k (0, 0), p.getD ((k + 1) % p.length) (0, 0)) = cb at *
      generalize (k + 1) % p.length = m at *
      generalize allFr (meet7 p i) (k + 1) (p.length - (k + 1)) = qk at ih ⊢
      simp -implicitDefEqProofs [-List.getD_eq_getElem?_getD, k64_12, -Int.natCast_add] at ih
      by_cases h1 : m = i
      ·subst h1
       simp -implicitDefEqProofs [-List.getD_eq_getElem?_getD, r64_12, k64_12, hkn, hkn', wk, rmk, trim_le, -Int.natCast_add]
       exact ih
      ·have h1' : ¬ ((m : Int) = (i : Int)) := by omega
       cases cb
       ·simp -implicitDefEqProofs [-List.getD_eq_getElem?_getD, r64_12, k64_12, hkn, hkn', wi, wk, rmk, h1, h1', pI, pI1, pK, pM, ret0 m86, ms, trim_le, -Int.natCast_add]
        exact ih
       ·simp -implicitDefEqProofs [-List.getD_eq_getElem?_getD, r64_12, k64_12, hkn, hkn', wi, wk, rmk, h1, h1', pI, pI1, pK, pM, ret0 m86, ms, trim_le, -Int.natCast_add]
     ·have hkn' : ¬ ((k : Int) < (p.length : Int)) := by omega
      rw [allFr_end (by omega)]
      simp -implicitDefEqProofs [-List.getD_eq_getElem?_getD, r64_12, k64_12, hkn, hkn', trim_le]
  ·have h' : ¬ ((i : Int) < (p.length : Int)) := by omega
   rw [allFr_end (by omega)]
   simp -implicitDefEqProofs [-List.getD_eq_getElem?_getD, r64_7, k64_7, h, h', trim_le]
end Go.Proofs.YtjkemccfcabhgaaGreat.Bm
namespace Go.Proofs.YtjkemccfcabhgaaGreat.Bm
open Go Go.RowKit
open Rg (Rect Slab Pt sidesP upS hB ysP colY polyL rightP sortU stripL outT emit pairs ends lowN lowN_le ins7 putAt in7 rows7)
def iO (o : List Int) : Value := match o with
 | [] => .slice none 0 0
 | o => iT o
theorem iO_len {h : Heap} {o : List Int} : lenT .sl h (iO o) = some (.int .i64 o.length) := by
 cases o
 ·rfl
 ·exact iT_len
theorem iO_index {o : List Int} {i : Nat} (hi : i < o.length) : indexAddrT (.sl 3 ⟨some false, some 1⟩) (iO o) (.int .i64 (i : Int)) = some (cptr (.int .i64 o[i])) := by
 cases o
 ·exact absurd hi (Nat.not_lt_zero _)
 ·exact iT_index hi
theorem iO_reifyR {P : Program} (h : Heap) (o : List Int) : reifyR P h (iO o) = some (iO o) := by cases o <;> rfl
theorem iO_bel {d n : Nat} {o : List Int} : below (d + 1) n (iO o) = true := by cases o <;> rfl
theorem int_all (o : List Int) : (o.map (Value.int .i64)).all (fun v => (cellsL v).length == 1) = true := by simp [List.all_eq_true]
theorem int_cells {h : Heap} (x : Bool) (o : List Int) : sliceCells h 1 (lst x (o.map (.int .i64))) = some (intR.flat o, o.length) := by
 rw [cells_lst (int_all o), int_flat]
 congr 2
 ·induction o with
  | nil => rfl
  | cons z o ih => rw [List.map_cons, List.flatMap_cons, ih]; rfl
 ·simp
theorem iO_take {h : Heap} {o : List Int} {k : Nat} (hk : k ≤ o.length) : ∃ v, sliceT (.sl 3 ⟨some false, some 1⟩) h (iO o) none (some (.int .i64 (k : Int))) none = some v ∧ ∀ h', sliceCells h' 1 v = some (intR.flat (o.take k), (o.take k).length) := by
 cases o with
 | nil =>
  have : k = 0 := by simpa using hk
  subst this
  exact ⟨.slice none 0 0, rfl, fun _ => rfl⟩
 | cons z o =>
  refine ⟨_, slice_take (int_all _) (by simpa using hk), fun h' => ?_⟩
  rw [← List.map_take]
  exact int_cells _ _
theorem iO_drop {h : Heap} {o : List Int} {k : Nat} (hk : k ≤ o.length) : ∃ v, sliceT (.sl 3 ⟨some false, some 1⟩) h (iO o) (some (.int .i64 (k : Int))) none none = some v ∧ ∀ h', sliceCells h' 1 v = some (intR.flat (o.drop k), (o.drop k).length) := by
 cases o with
 | nil =>
  have : k = 0 := by simpa using hk
  subst this
  exact ⟨.slice none 0 0, rfl, fun _ => rfl⟩
 | cons z o =>
  refine ⟨_, slice_drop (int_all _) rfl (by simpa using hk), fun h' => ?_⟩
  rw [← List.map_drop]
  exact int_cells _ _
theorem app_ints {h : Heap} {b lo : Nat} {c m : List Int} {v : Value} (hob : h[b]? = some (intR.row 3 c)) (hv : sliceCells h 1 v = some (intR.flat m, m.length)) (hlo : lo ≤ b) (hc : c.length + m.length ≤ 1000000) :
  appendT (some ⟨3, 1, 8, .int .i64 0, ⟨some false, some 1⟩⟩) h lo false (intR.sl b c) v = some (intR.sl b (c ++ m), h.set b (intR.row 3 (c ++ m))) :=
 Rec.app (R := intR) (m := m) rfl hob hv hlo (by show (c.length + m.length) * 8 ≤ 2 ^ 47; omega)
theorem int_freezeE {h : Heap} {lo b : Nat} {l : List Int} (hob : h[b]? = some (intR.row 3 l)) (hlo : lo ≤ b) : freezeV E.P depth lo h (intR.sl b l) = some (iT l, if l.length = 0 then h else h.set b .dead) := by
 have e0 : intR.sl b l = .slice (some ⟨b, 0, some l.length⟩) l.length l.length := by unfold Rec.sl; simp [intR]
 have hob' : h[b]? = some (.cells 3 (l.map (.int .i64)) 1) := by rw [hob]; unfold Rec.row; rw [int_flat]; rfl
 rw [e0]
 exact frz_one8 hob' s3 g3 hlo (List.length_map _).symm (List.length_map _).symm (by simp [List.all_eq_true])
theorem iO_tr (o : List Int) : isTr (iO o) = true := by cases o <;> rfl
theorem app_start {h : Heap} {m : List Int} {v : Value} (z : Int) (hv : ∀ h, sliceCells h 1 v = some (intR.flat m, m.length)) (hm : m.length ≤ 100000) : ∃ w g, appendT (some ⟨3, 1, 8, .int .i64 0, ⟨some false, some 1⟩⟩) h h.length true (.slice none 0 0) v = some (w, g) ∧
  appendT (some ⟨3, 1, 8, .int .i64 0, ⟨some false, some 1⟩⟩) g h.length false w (lst true [.int .i64 z]) = some (intR.sl h.length (m ++ [z]), h ++ [intR.row 3 (m ++ [z])]) := by
 by_cases h0 : m = []
 ·subst h0
  refine ⟨.slice none 0 0, h, ?_, ?_⟩
  ·unfold appendT
   simp only [Option.bind_some, hv]
   rfl
  ·unfold appendT
   simp only [Option.bind_some]
   rw [show sliceCells h 1 (lst true [.int .i64 z]) = some (intR.flat [z], 1) from cells_lst (by rfl)]
   simp [Rec.sl, Rec.row, intR, Rec.flat]
 ·refine ⟨intR.sl h.length m, h ++ [intR.row 3 m], ?_, ?_⟩
  ·have hl : m.length ≠ 0 := fun e => h0 (List.eq_nil_of_length_eq_zero e)
   unfold appendT
   simp only [Option.bind_some, hv]
   rw [if_neg hl, if_pos (by omega)]
   unfold Rec.sl Rec.row
   rw [Rec.flat_len]; rfl
  ·have := app_num (h := h ++ [intR.row 3 m]) (b := h.length) (lo := h.length) (c := m) z (by simp) (Nat.le_refl _) (by omega)
   rw [this]
   simp
set_option maxHeartbeats 2000000 in
theorem sorted7_spec (l : List Int) (hl : l.length ≤ 10000) : pureCall E.P (L E) 65 [iT l] = some (iO (sortU l)) := by
 rw [← Rg.ins7_sortU, pureCall_fn F65 rfl]
 simp -implicitDefEqProofs [r65, p65]
 rw [LL_for (γ := List Int) l [] (fun i o => [(3, iO o), (4, .int .i64 i)]) (fun _ _ => [])
  (fun _ rest o => (.exit 0, [(3, iO (rest.foldl ins7 o)), (4, undef)], [])) (fun i o => o.length ≤ i) (by omega) (Nat.le_refl _)]
 ·have rr : reifyR E.P [] (iO (l.foldl ins7 [])) = some (iO (l.foldl ins7 [])) := iO_reifyR [] _
  generalize iO (l.foldl ins7 []) = RV at *
  simp -implicitDefEqProofs [k65_3, rr]
 ·simp -implicitDefEqProofs [k65_3, iO]
 ·rfl
 ·intro nx i o hi _
  simp -implicitDefEqProofs [r65_3, k65_3, hi, iT_len, trim_le]
 ·intro nx i z rest o hi hv hd hw ho ih
  have ixl := iT_index hi
  rw [hv] at ixl
  have oln : ∀ h, lenT .sl h (iO o) = some (.int .i64 o.length) := fun h => iO_len
  have oix : ∀ (j : Nat) (hj : j < o.length), indexAddrT (.sl 3 ⟨some false, some 1⟩) (iO o) (.int .i64 (j : Int)) = some (cptr (.int .i64 o[j])) := fun j hj => iO_index hj
  have hle := lowN_le o z
  have gd : ∀ j (hj : j < o.length), o.getD j 0 = o[j] := fun j hj => by rw [List.getD_eq_getElem?_getD, List.getElem?_eq_getElem hj]; rfl
  have ei : ins7 o z = if lowN o z < o.length ∧ o.getD (lowN o z) 0 = z then o else putAt o (lowN o z) z := rfl
  have tk := fun (h : Heap) (k : Nat) (hk : k ≤ o.length) => iO_take (h := h) hk
  have dr := fun (h : Heap) (k : Nat) (hk : k ≤ o.length) => iO_drop (h := h) hk
  have obl : ∀ d n, below (d + 1) n (iO o) = true := fun _ _ => iO_bel
  have otr := iO_tr o
  rw [List.foldl_cons]
  generalize hOV : iO o = OV at *
  simp -implicitDefEqProofs [r65_3, k65_3, hi, iT_len]
  rw [LL_rec (α := Nat) 0 (fun k => [(5, .int .i64 (k : Int))]) (fun _ => []) (fun k => (.exit 2, [(5, .int .i64 ((k + lowN (o.drop k) z : Nat) : Int))], [])) (fun k => k ≤ o.length) (fun k => o.length - k)]
  ·rw [List.drop_zero, Nat.zero_add]
   generalize lowN o z = k at hle ei ⊢
   by_cases hc : k < o.length ∧ o.getD k 0 = z
   ·rw [ei, if_pos hc]
    obtain ⟨hk, hkz⟩ := hc
    rw [gd _ hk] at hkz
    have hk' : (k : Int) < (o.length : Int) := by omega
    have ih := ih o (by omega)
    rw [hOV] at ih
    simp -implicitDefEqProofs [k65_3] at ih
    simp -implicitDefEqProofs [k65_6, oln, hk, hk', oix k hk, ixl, hkz, hw, trim_le]
    exact ih
   ·rw [ei, if_neg hc]
    have ih := ih (putAt o k z) (by rw [Rg.putAt_len]; omega)
    obtain ⟨tv, t1, t2⟩ := tk [] k hle
    obtain ⟨dv, d1, d2⟩ := dr [intR.row 3 (o.take k ++ [z])] k hle
    obtain ⟨wv, g1, a1, a2⟩ := app_start (h := []) (v := tv) z t2 (by rw [List.length_take]; omega)
    simp only [List.length_nil, List.nil_append] at a1 a2
    have a3 := app_ints (h := [intR.row 3 (o.take k ++ [z])]) (b := 0) (lo := 0) (c := o.take k ++ [z]) (m := o.drop k) rfl (d2 _) (Nat.le_refl _) (by simp; omega)
    have ep : o.take k ++ [z] ++ o.drop k = putAt o k z := by rw [List.append_assoc]; rfl
    rw [ep] at a3
    have fz := int_freezeE (h := [intR.row 3 (putAt o k z)]) (lo := 0) (b := 0) (l := putAt o k z) rfl (Nat.le_refl _)
    rw [if_neg (by rw [Rg.putAt_len]; omega)] at fz
    have eO : iO (putAt o k z) = iT (putAt o k z) := by
     have hl : (putAt o k z).length = o.length + 1 := Rg.putAt_len ..
     cases hq : putAt o k z with
     | nil => rw [hq] at hl; exact absurd hl (by simp)
     | cons a q => rfl
    rw [eO] at ih
    simp -implicitDefEqProofs [k65_3] at ih
    by_cases hk : k < o.length
    ·have hk' : (k : Int) < (o.length : Int) := by omega
     have hne : ¬ o[k] = z := fun q => hc ⟨hk, by rw [gd _ hk, q]⟩
     simp -implicitDefEqProofs [k65_6, oln, hk, hk', oix k hk, ixl, hne, prep_frz, prep_still, rop_loadT, isCp_cptr, otr, t1, d1, a1, a2, a3, lit_num, fz, hw, trim_cut, iT_bel, obl]
     exact ih
    ·have hk' : ¬ ((k : Int) < (o.length : Int)) := by omega
     simp -implicitDefEqProofs [k65_6, oln, hk, hk', ixl, prep_frz, prep_still, rop_loadT, isCp_cptr, otr, t1, d1, a1, a2, a3, lit_num, fz, hw, trim_cut, iT_bel, obl]
     exact ih
  ·exact Nat.zero_le _
  ·simp -implicitDefEqProofs [k65_6]
  ·rfl
  ·intro nx k hk ih
   by_cases hko : k < o.length
   ·have hk' : (k : Int) < (o.length : Int) := by omega
    have e : o.drop k = o[k] :: o.drop (k + 1) := List.drop_eq_getElem_cons hko
    have wk : IntKind.i64.wrap ((k : Int) + 1) = ((k + 1 : Nat) : Int) := (wrap64 (by omega) (by omega)).trans (by omega)
    have ih := ih (k + 1) (by omega) (by omega)
    rw [e]
    simp -implicitDefEqProofs [k65_6, -Int.natCast_add] at ih
    by_cases hz : o[k] < z
    ·have el : k + lowN (o[k] :: o.drop (k + 1)) z = k + 1 + lowN (o.drop (k + 1)) z := by
      show k + (if o[k] < z then _ else _) = _
      rw [if_pos hz]; omega
     rw [el]
     simp -implicitDefEqProofs [r65_6, k65_6, oln, hko, hk', oix k hko, ixl, hz, wk, trim_le, -Int.natCast_add]
     exact ih
    ·have el : k + lowN (o[k] :: o.drop (k + 1)) z = k := by
      show k + (if o[k] < z then _ else _) = _
      rw [if_neg hz]; rfl
     rw [el]
     simp -implicitDefEqProofs [r65_6, k65_6, oln, hko, hk', oix k hko, ixl, hz, trim_le]
   ·have hk' : ¬ ((k : Int) < (o.length : Int)) := by omega
    have e : k + lowN (o.drop k) z = k := by rw [List.drop_eq_nil_of_le (by omega)]; rfl
    rw [e]
    simp -implicitDefEqProofs [r65_6, k65_6, oln, hko, hk', trim_le]
end Go.Proofs.YtjkemccfcabhgaaGreat.Bm
