/-
 Chapter 32: copies of phases, living rights and the phases that are left, walked. Conditions: lists that are not too long.
-/
import Derived.Test.YtjkemccfcabhgaaGreatQB19
namespace Go.Proofs.YtjkemccfcabhgaaGreat.Bm
open Go Go.RowKit
open Rg (Rect Pt)
def entR : Rec (ByteArray × Int) where
 enc p := [.string p.1, .int .i64 p.2]
 m := 1
 len _ := rfl
 set _ := rfl
 bel _ _ := rfl
structure Vo where
 b : Rect
 z0 : Int
 z1 : Int
 u : Int
 n : Int
 x : Bool
def volC (v : Vo) : List Value := [.int .i64 v.b.x0, .int .i64 v.b.y0, .int .i64 v.b.x1, .int .i64 v.b.y1, .int .i64 v.z0, .int .i64 v.z1, .int .i64 v.u, .int .i64 v.n, .bool v.x]
def volR : Rec Vo where
 enc v := volC v
 m := 8
 len _ := rfl
 set _ := rfl
 bel _ _ := rfl
structure Pd where
 lot : Int
 v : Vo
def pdR : Rec Pd where
 enc p := .int .i64 p.lot :: volC p.v
 m := 9
 len _ := rfl
 set _ := rfl
 bel _ _ := rfl
structure Ph where
 kv : Option Bool
 vs : List Vo
 kg : Option Bool
 gs : List (ByteArray × Int)
def phC (p : Ph) : List Value := [volR.o p.kv p.vs, entR.o p.kg p.gs]
theorem phC_set (p : Ph) (n : Nat) : (phC p).all (settled (n + 1)) = true := by
 unfold phC
 simp only [List.all_cons, List.all_nil, Rec.o_set, Bool.and_self]
theorem phC_bel (p : Ph) (d n : Nat) : (phC p).all (below (d + 1) n) = true := by
 unfold phC
 simp only [List.all_cons, List.all_nil, Rec.o_bel, Bool.and_self]
def phR : Rec Ph where
 enc p := phC p
 m := 1
 len _ := rfl
 set p := phC_set p 7
 bel p n := phC_bel p 7 n
structure Rt where
 id : Int
 hol : Int
 lot : Int
 kp : Option Bool
 ph : List Ph
 used : Int
 til : Int
 over : Bool
def rtC (r : Rt) : List Value := [.int .i64 r.id, .int .i64 r.hol, .int .i64 r.lot, phR.o r.kp r.ph, .int .i64 r.used, .int .i64 r.til, .bool r.over]
theorem rtC_set (r : Rt) (n : Nat) : (rtC r).all (settled (n + 1)) = true := by
 unfold rtC
 simp only [List.all_cons, List.all_nil, Rec.o_set, Bool.and_true, Bool.true_and]; rfl
theorem rtC_bel (r : Rt) (d n : Nat) : (rtC r).all (below (d + 1) n) = true := by
 unfold rtC
 simp only [List.all_cons, List.all_nil, Rec.o_bel, Bool.and_true, Bool.true_and]; rfl
def rtR : Rec Rt where
 enc r := rtC r
 m := 6
 len _ := rfl
 set r := rtC_set r 7
 bel r n := rtC_bel r 7 n
structure Tb where
 nm : ByteArray
 kr : Option Bool
 rs : List (ByteArray × Int)
 els : Int
def tbC (t : Tb) : List Value := [.string t.nm, entR.o t.kr t.rs, .int .i64 t.els]
theorem tbC_set (r : Tb) (n : Nat) : (tbC r).all (settled (n + 1)) = true := by
 unfold tbC
 simp only [List.all_cons, List.all_nil, Rec.o_set, Bool.and_true, Bool.true_and]; rfl
theorem tbC_bel (r : Tb) (d n : Nat) : (tbC r).all (below (d + 1) n) = true := by
 unfold tbC
 simp only [List.all_cons, List.all_nil, Rec.o_bel, Bool.and_true, Bool.true_and]; rfl
def tbR : Rec Tb where
 enc r := tbC r
 m := 2
 len _ := rfl
 set r := tbC_set r 7
 bel r n := tbC_bel r 7 n
structure Pn where
 d : Op
 kt : Option Bool
 ts : List Tb
 z : Op
 r : Op
 c : Op
 v : Op
 s : Op
 h : Int
def pnC (p : Pn) : List Value := [opV p.d, tbR.o p.kt p.ts, opV p.z, opV p.r, opV p.c, opV p.v, opV p.s, .int .i64 p.h]
def pnV (p : Pn) : Value := .agg ⟨pnC p⟩
theorem pnC_set (p : Pn) (n : Nat) : (pnC p).all (settled (n + 1)) = true := by
 unfold pnC
 simp only [List.all_cons, List.all_nil, Rec.o_set, op_set, Bool.and_true, Bool.true_and]; rfl
theorem pnV_set (p : Pn) (n : Nat) : settled (n + 2) (pnV p) = true := pnC_set p n
structure Tw where
 p : Pn
 land : Op
 eas : Op
 win : Op
 kb : Option Bool
 bs : List Pd
 ke : Option Bool
 es : List (ByteArray × Int)
def twC (t : Tw) : List Value := [opV t.p.d, tbR.o t.p.kt t.p.ts, opV t.p.z, opV t.p.r, opV t.p.c, opV t.p.v, opV t.p.s, .int .i64 t.p.h, opV t.land, opV t.eas, opV t.win, pdR.o t.kb t.bs, entR.o t.ke t.es]
def twV (t : Tw) : Value := .agg ⟨twC t⟩
theorem twC_set (p : Tw) (n : Nat) : (twC p).all (settled (n + 1)) = true := by
 unfold twC
 simp only [List.all_cons, List.all_nil, Rec.o_set, op_set, Bool.and_true, Bool.true_and]; rfl
structure Cc where
 nm : ByteArray
 load : Int
 lim : Int
 x : Bool
 cs : List Pt
def ccC (c : Cc) : List Value := [.string c.nm, .int .i64 c.load, .int .i64 c.lim, lst c.x (spanR.vals c.cs)]
def ccV (c : Cc) : Value := .agg ⟨ccC c⟩
structure Pk where
 nm : ByteArray
 base : Int
 kt : Option Bool
 tops : List Int
def pkC (c : Pk) : List Value := [.string c.nm, .int .i64 c.base, intE.o c.kt c.tops]
def pkV (c : Pk) : Value := .agg ⟨pkC c⟩
end Go.Proofs.YtjkemccfcabhgaaGreat.Bm
namespace Go.Proofs.YtjkemccfcabhgaaGreat.Bm
open Go Go.RowKit
open Rg (Rect Pt)
open Cw (top limited nam)
def rightV (v : Vo) : Bool := okR v.b && (decide (0 ≤ v.z0) && (decide (v.z0 < v.z1) && (decide (v.z1 ≤ 4096) && ((decide (v.u = 0) || decide (v.n = 0)) && (decide (0 ≤ v.u) && (decide (v.u < 6) && (decide (0 ≤ v.n) && decide (v.n ≤ 1048576))))))))
structure RightV (v : Vo) : Prop where
 b : okR v.b = true
 z0 : 0 ≤ v.z0
 zz : v.z0 < v.z1
 z1 : v.z1 ≤ 4096
 un : v.u = 0 ∨ v.n = 0
 u0 : 0 ≤ v.u
 u6 : v.u < 6
 n0 : 0 ≤ v.n
 n1 : v.n ≤ 1048576
theorem rightV_ok {v : Vo} (h : rightV v = true) : RightV v := by
 unfold rightV at h
 simp only [Bool.and_eq_true, Bool.or_eq_true, decide_eq_true_eq] at h
 obtain ⟨h1, h2, h3, h4, h5, h6, h7, h8, h9⟩ := h
 exact ⟨h1, h2, h3, h4, h5, h6, h7, h8, h9⟩
def stoV (v : Vo) : Int := if v.x = true ∨ rightV v = false then 0 else (v.z1 - v.z0 + 2) / 3
theorem stoV_in (v : Vo) : 0 ≤ stoV v ∧ stoV v ≤ 1366 := by
 unfold stoV
 split
 ·omega
 ·rename_i h
  have hr := rightV_ok (v := v) (by cases q : rightV v; exact absurd (.inr q) h; rfl)
  have := hr.z0; have := hr.zz; have := hr.z1
  omega
def floV (v : Vo) : Int := if rightV v = true then v.b.area * stoV v else 0
theorem floV_in (v : Vo) : 0 ≤ floV v ∧ floV v ≤ 1501949790683136 := by
 unfold floV
 split
 ·rename_i h
  have hr := rightV_ok h
  have ha := area_bound hr.b
  have hs := stoV_in v
  constructor
  ·exact Int.mul_nonneg ha.1 hs.1
  ·have := Int.mul_le_mul ha.2 hs.2 hs.1 (by omega)
   omega
 ·omega
def useB : Nat → ByteArray
 | 0 => ⟨⟨[104, 111, 109, 101]⟩⟩
 | 1 => ⟨⟨[115, 104, 111, 112]⟩⟩
 | 2 => ⟨⟨[119, 111, 114, 107]⟩⟩
 | 3 => ⟨⟨[112, 97, 114, 107]⟩⟩
 | 4 => ⟨⟨[112, 108, 97, 110, 116]⟩⟩
 | _ => ⟨⟨[104, 97, 108, 108]⟩⟩
def traffB : ByteArray := ⟨⟨[116, 114, 97, 102, 102, 105, 99]⟩⟩
def findE (s : ByteArray) (d : Int) : List (ByteArray × Int) → Int
 | [] => d
 | e :: l => if e.1 = s then e.2 else findE s d l
def clampR (n : Int) : Int := max 0 (min n 1048576)
theorem clampR_in (n : Int) : 0 ≤ clampR n ∧ clampR n ≤ 1048576 := by unfold clampR; omega
def rowF (s : ByteArray) : List Tb → Int
 | [] => 0
 | t :: r => if t.nm = traffB then clampR (findE s t.els t.rs) else rowF s r
theorem rowF_in (s : ByteArray) : ∀ ts, 0 ≤ rowF s ts ∧ rowF s ts ≤ 1048576
 | [] => ⟨Int.le_refl _, by show (0 : Int) ≤ _; omega⟩
 | t :: r => by
  unfold rowF
  split
  ·exact clampR_in _
  ·exact rowF_in s r
def trafV (ts : List Tb) (v : Vo) : Int :=
 if 0 < rowF (useB v.u.toNat) ts ∧ 109951162777600 / rowF (useB v.u.toNat) ts < floV v then 1099511627776 else (rowF (useB v.u.toNat) ts * floV v + 99) / 100
theorem trafV_mul {ts : List Tb} {v : Vo} (h : ¬ (0 < rowF (useB v.u.toNat) ts ∧ 109951162777600 / rowF (useB v.u.toNat) ts < floV v)) : 0 ≤ rowF (useB v.u.toNat) ts * floV v ∧ rowF (useB v.u.toNat) ts * floV v ≤ 109951162777600 := by
 have hr := rowF_in (useB v.u.toNat) ts
 have hf := floV_in v
 refine ⟨Int.mul_nonneg hr.1 hf.1, ?_⟩
 by_cases h0 : 0 < rowF (useB v.u.toNat) ts
 ·have h1 : floV v ≤ 109951162777600 / rowF (useB v.u.toNat) ts := by
   by_cases q : floV v ≤ 109951162777600 / rowF (useB v.u.toNat) ts
   ·exact q
   ·exact absurd ⟨h0, by omega⟩ h
  have := (Int.le_ediv_iff_mul_le h0).1 h1
  rw [Int.mul_comm]; exact this
 ·have : rowF (useB v.u.toNat) ts = 0 := by omega
  rw [this, Int.zero_mul]; decide
theorem trafV_in (ts : List Tb) (v : Vo) : 0 ≤ trafV ts v ∧ trafV ts v ≤ 1099511627776 := by
 unfold trafV
 split
 ·decide
 ·rename_i h
  have := trafV_mul h
  omega
def meetsL (l : List Rect) (b : Rect) : Bool := l.any fun r => okR r && (okR b && Rg.meetB r b)
def loadV (ts : List Tb) (c : Cc) (v : Vo) : Int :=
 if rightV v = true then
  if eR (polyX c.cs) = 0 ∧ meetsL (lR (polyX c.cs)) v.b = true then
   if c.load = 0 then v.n else if c.load = 1 then trafV ts v else if c.load = 2 then v.b.area else 0
  else 0
 else 0
theorem loadV_in (ts : List Tb) (c : Cc) (v : Vo) : 0 ≤ loadV ts c v ∧ loadV ts c v ≤ 1099511627776 := by
 unfold loadV
 split
 ·rename_i h
  have hr := rightV_ok h
  have ha := area_bound hr.b
  have ht := trafV_in ts v
  have := hr.n0; have := hr.n1
  split
  ·split
   ·omega
   ·split
    ·omega
    ·split
     ·omega
     ·decide
  ·decide
 ·decide
def sumV (ts : List Tb) (c : Cc) (l : List Vo) : Int := (l.map (loadV ts c)).sum
theorem sumV_cons (ts : List Tb) (c : Cc) (v : Vo) (l : List Vo) : sumV ts c (v :: l) = loadV ts c v + sumV ts c l := rfl
theorem sumV_in (ts : List Tb) (c : Cc) (l : List Vo) : 0 ≤ sumV ts c l ∧ sumV ts c l ≤ (l.length : Int) * 1099511627776 := Cw.sum_in _ _ (loadV_in ts c) l
def loadT32 (t : Tw) (c : Cc) : Int := nam c.nm t.es + sumV t.p.ts c (t.bs.map (·.v))
def phaseL (ts : List Tb) (c : Cc) (p : Ph) : Int := sumV ts c p.vs - nam c.nm p.gs
def livR (r : Rt) : Bool := !r.over && (decide (0 ≤ r.used) && decide (r.used < r.ph.length))
def leftR (r : Rt) : List Ph := if livR r = true then r.ph.drop r.used.toNat else []
def loadsR (ts : List Tb) (c : Cc) (r : Rt) : List Int := (leftR r).map (phaseL ts c)
def topR (ts : List Tb) (c : Cc) (r : Rt) : Int := top (loadsR ts c r)
structure PhOk (p : Ph) : Prop where
 kv : Rec.Ok p.kv p.vs
 kg : Rec.Ok p.kg p.gs
structure RtOk (r : Rt) : Prop where
 kp : Rec.Ok r.kp r.ph
 ph : ∀ p ∈ r.ph, PhOk p
structure TwOk (t : Tw) : Prop where
 kt : Rec.Ok t.p.kt t.p.ts
 kr : ∀ b ∈ t.p.ts, Rec.Ok b.kr b.rs
 kb : Rec.Ok t.kb t.bs
 ke : Rec.Ok t.ke t.es
structure PhFew (p : Ph) : Prop where
 vs : p.vs.length ≤ 1000
 gs : p.gs.length ≤ 1000
theorem nam_in' (c : ByteArray) {l : List (ByteArray × Int)} (h : l.length ≤ 1000) : -1099511627776000 ≤ nam c l ∧ nam c l ≤ 1099511627776000 := by
 have := Cw.nam_in c l
 omega
theorem sumV_in' (ts : List Tb) (c : Cc) {l : List Vo} (h : l.length ≤ 1000) : 0 ≤ sumV ts c l ∧ sumV ts c l ≤ 1099511627776000 := by
 have := sumV_in ts c l
 omega
theorem phaseL_in (ts : List Tb) (c : Cc) {p : Ph} (h : PhFew p) : -1099511627776000 ≤ phaseL ts c p ∧ phaseL ts c p ≤ 2199023255552000 := by
 have h1 := nam_in' c.nm h.gs
 have h2 := sumV_in' ts c h.vs
 unfold phaseL
 omega
theorem loadT_in {t : Tw} (c : Cc) (h1 : t.bs.length ≤ 1000) (h2 : t.es.length ≤ 1000) : -1099511627776000 ≤ loadT32 t c ∧ loadT32 t c ≤ 2199023255552000 := by
 have k1 := nam_in' c.nm h2
 have k2 := sumV_in' t.p.ts c (l := t.bs.map (·.v)) (by rw [List.length_map]; exact h1)
 unfold loadT32
 omega
end Go.Proofs.YtjkemccfcabhgaaGreat.Bm
namespace Go.Proofs.YtjkemccfcabhgaaGreat.Bm
open Go Go.RowKit
open Rg (Rect Pt)
theorem vol_val (v : Vo) : volR.val v = .agg ⟨[.int .i64 v.b.x0, .int .i64 v.b.y0, .int .i64 v.b.x1, .int .i64 v.b.y1, .int .i64 v.z0, .int .i64 v.z1, .int .i64 v.u, .int .i64 v.n, .bool v.x]⟩ := rfl
theorem rightV_spec (v : Vo) : pureCall E.P (L E) 36 [volR.val v] = some (.bool (rightV v)) := by
 have hr := right_s v.b
 rw [vol_val, pureCall_fn F36 rfl]
 unfold rightV
 cases h : okR v.b
 ·rw [h] at hr
  simp -implicitDefEqProofs [r36, p36, ret0 m52, hr]
 rw [h] at hr
 by_cases h1 : 0 ≤ v.z0
 case neg =>
  have h1' : v.z0 < 0 := by omega
  simp -implicitDefEqProofs [r36, p36, ret0 m52, hr, h1, h1']
 have h1' : ¬ (v.z0 < 0) := by omega
 by_cases h2 : v.z0 < v.z1
 case neg =>
  have h2' : v.z1 ≤ v.z0 := by omega
  simp -implicitDefEqProofs [r36, p36, ret0 m52, hr, h1, h1', h2, h2']
 have h2' : ¬ (v.z1 ≤ v.z0) := by omega
 by_cases h3 : v.z1 ≤ 4096
 case neg =>
  have h3' : 4096 < v.z1 := by omega
  simp -implicitDefEqProofs [r36, p36, ret0 m52, hr, h1, h1', h2, h2', h3, h3']
 have h3' : ¬ (4096 < v.z1) := by omega
 by_cases h4 : v.u = 0
 ·by_cases h5 : 0 ≤ v.n
  case neg =>
   simp -implicitDefEqProofs [r36, p36, ret0 m52, hr, h1, h1', h2, h2', h3, h3', h4, h5]
  simp -implicitDefEqProofs [r36, p36, ret0 m52, hr, h1, h1', h2, h2', h3, h3', h4, h5]
 ·by_cases h5 : v.n = 0
  case neg => simp -implicitDefEqProofs [r36, p36, ret0 m52, hr, h1, h1', h2, h2', h3, h3', h4, h5]
  by_cases h6 : 0 ≤ v.u
  case neg => simp -implicitDefEqProofs [r36, p36, ret0 m52, hr, h1, h1', h2, h2', h3, h3', h4, h5, h6]
  by_cases h7 : v.u < 6
  case neg => simp -implicitDefEqProofs [r36, p36, ret0 m52, hr, h1, h1', h2, h2', h3, h3', h4, h5, h6, h7]
  simp -implicitDefEqProofs [r36, p36, ret0 m52, hr, h1, h1', h2, h2', h3, h3', h4, h5, h6, h7]
theorem sto_spec (v : Vo) : pureCall E.P (L E) 82 [volR.val v] = some (.int .i64 (stoV v)) := by
 have hr := rightV_spec v
 rw [vol_val] at hr ⊢
 rw [pureCall_fn F82 rfl]
 unfold stoV
 cases hx : v.x
 case true => simp -implicitDefEqProofs [r82, p82]
 rw [hx] at hr
 cases h : rightV v
 ·rw [h] at hr
  simp -implicitDefEqProofs [r82, p82, ret0 m36, hr]
 ·have k := rightV_ok h
  have k0 := k.z0; have k1 := k.zz; have k2 := k.z1
  rw [h] at hr
  have e1 : IntKind.i64.wrap (v.z1 - v.z0) = v.z1 - v.z0 := wrap64 (by omega) (by omega)
  have e2 : IntKind.i64.wrap (v.z1 - v.z0 + 3) = v.z1 - v.z0 + 3 := wrap64 (by omega) (by omega)
  have e3 : IntKind.i64.wrap (v.z1 - v.z0 + 3 - 1) = v.z1 - v.z0 + 2 := (wrap64 (by omega) (by omega)).trans (by omega)
  have e4 : IntKind.i64.wrap ((v.z1 - v.z0 + 2).tdiv 3) = (v.z1 - v.z0 + 2) / 3 := by
   rw [Int.tdiv_eq_ediv_of_nonneg (by omega)]
   exact wrap64 (by omega) (by omega)
  simp -implicitDefEqProofs [r82, p82, ret0 m36, hr, e1, e2, e3, e4, bin_quo]
theorem flo_spec (v : Vo) : pureCall E.P (L E) 61 [volR.val v] = some (.int .i64 (floV v)) := by
 have hr := rightV_spec v
 have hs := sto_spec v
 rw [vol_val] at hr hs ⊢
 rw [pureCall_fn F61 rfl]
 unfold floV
 cases h : rightV v
 ·rw [h] at hr
  simp -implicitDefEqProofs [r61, p61, ret0 m36, hr]
 ·have ha := area_s v.b (rightV_ok h).b
  have hf := floV_in v
  unfold floV at hf
  rw [if_pos h] at hf
  rw [h] at hr
  have e : IntKind.i64.wrap (v.b.area * stoV v) = v.b.area * stoV v := wrap64 (by omega) (by omega)
  simp -implicitDefEqProofs [r61, p61, ret0 m36, hr, ret0 m42, ha, ret0 m82, hs, e]
end Go.Proofs.YtjkemccfcabhgaaGreat.Bm
namespace Go.Proofs.YtjkemccfcabhgaaGreat.Bm
open Go Go.RowKit
open Rg (Rect Pt)
def idxB {α : Type} (f : α → Bool) : List α → Int → Int
 | [], _ => -1
 | a :: l, i => if f a = true then i else idxB f l (i + 1)
theorem idxB_cons {α : Type} (f : α → Bool) (a : α) (l : List α) (i : Int) : idxB f (a :: l) i = if f a = true then i else idxB f l (i + 1) := rfl
theorem idxB_any {α : Type} (f : α → Bool) : ∀ (l : List α) (i : Int), 0 ≤ i → (l.any f = true → i ≤ idxB f l i) ∧ (l.any f = false → idxB f l i = -1)
 | [], _, _ => ⟨fun h => absurd h (by simp), fun _ => rfl⟩
 | a :: l, i, hi => by
  rw [idxB_cons, List.any_cons]
  have ih := idxB_any f l (i + 1) (by omega)
  by_cases h : f a = true
  ·rw [if_pos h, h]; exact ⟨fun _ => Int.le_refl _, fun q => absurd q (by simp)⟩
  ·rw [if_neg h, Bool.eq_false_iff.2 h, Bool.false_or]
   exact ⟨fun q => by have := ih.1 q; omega, ih.2⟩
def isU (s : ByteArray) (e : ByteArray × Int) : Bool := decide (e.1 = s)
theorem findE_idx (s : ByteArray) (d : Int) : ∀ (l : List (ByteArray × Int)) (i : Nat), (idxB (isU s) l i = -1 ∧ findE s d l = d) ∨ ∃ j, ∃ hj : j < l.length, idxB (isU s) l i = ((i + j : Nat) : Int) ∧ findE s d l = l[j].2
 | [], _ => .inl ⟨rfl, rfl⟩
 | e :: l, i => by
  rw [idxB_cons]
  unfold isU findE
  by_cases h : e.1 = s
  ·rw [if_pos (decide_eq_true h), if_pos h]
   exact .inr ⟨0, by simp, by simp, rfl⟩
  ·rw [if_neg (by simpa using h), if_neg h]
   rcases findE_idx s d l (i + 1) with ⟨h1, h2⟩ | ⟨j, hj, h1, h2⟩
   ·exact .inl ⟨by rw [← h1]; rfl, h2⟩
   ·refine .inr ⟨j + 1, by simpa using hj, ?_, by simpa using h2⟩
    have e : ((i : Int) + 1) = ((i + 1 : Nat) : Int) := by omega
    rw [e]
    exact h1.trans (by omega)
def namesV : List Value := [.string ⟨⟨[104, 111, 109, 101]⟩⟩, .string ⟨⟨[115, 104, 111, 112]⟩⟩, .string ⟨⟨[119, 111, 114, 107]⟩⟩, .string ⟨⟨[112, 97, 114, 107]⟩⟩, .string ⟨⟨[112, 108, 97, 110, 116]⟩⟩, .string ⟨⟨[104, 97, 108, 108]⟩⟩]
theorem names_build : buildT (.arr ⟨[Value.string ⟨⟨[]⟩⟩, Value.string ⟨⟨[]⟩⟩, Value.string ⟨⟨[]⟩⟩, Value.string ⟨⟨[]⟩⟩, Value.string ⟨⟨[]⟩⟩, Value.string ⟨⟨[]⟩⟩]⟩ 1) #[(0, .string ⟨⟨[104, 111, 109, 101]⟩⟩), (1, .string ⟨⟨[115, 104, 111, 112]⟩⟩), (2, .string ⟨⟨[119, 111, 114, 107]⟩⟩), (3, .string ⟨⟨[112, 97, 114, 107]⟩⟩), (4, .string ⟨⟨[112, 108, 97, 110, 116]⟩⟩), (5, .string ⟨⟨[104, 97, 108, 108]⟩⟩)] = some (.agg ⟨namesV⟩) := rfl
theorem names_index (u : Nat) (hu : u < 6) : indexAddrT (.arr 6 ⟨some false, some 1⟩) (cptr (.agg ⟨namesV⟩)) (.int .i64 (u : Int)) = some (cptr (.string (useB u))) := by
 have : u = 0 ∨ u = 1 ∨ u = 2 ∨ u = 3 ∨ u = 4 ∨ u = 5 := by omega
 rcases this with rfl | rfl | rfl | rfl | rfl | rfl <;> rfl
theorem ent_val (p : ByteArray × Int) : entR.val p = .agg ⟨[.string p.1, .int .i64 p.2]⟩ := rfl
theorem row1_spec (u : Nat) (hu : u < 6) (e : ByteArray × Int) : pureCall E.P (L E) 81 [entR.val e, cptr (.agg ⟨namesV⟩), cptr (.int .i64 (u : Int))] = some (.bool (isU (useB u) e)) := by
 have h := names_index u hu
 rw [ent_val, pureCall_fn F81 rfl]
 unfold isU
 simp -implicitDefEqProofs [r81, p81, h]
theorem indexE_spec (k : Option Bool) (l : List (ByteArray × Int)) (u : Nat) (hu : u < 6) (hk : Rec.Ok k l) (hl : l.length ≤ 9223372036854775807) : pureCall E.P (L E) 80 [entR.o k l, .func (.func 81) ⟨[]⟩ ⟨[cptr (.agg ⟨namesV⟩), cptr (.int .i64 (u : Int))]⟩] = some (.int .i64 (idxB (isU (useB u)) l 0)) := by
 have ll := fun h => Rec.o_len (R := entR) (h := h) hk
 have il := fun (i : Nat) (hi : i < l.length) => Rec.o_index (R := entR) (s := 2) (t := 69) (kk := .i64) rfl hk hi
 have hb := row1_spec u hu
 have rn : ∀ h, reify E.P 8 h (cptr (.agg ⟨namesV⟩)) = some (cptr (.agg ⟨namesV⟩)) := fun h => rfl
 generalize entR.o k l = VL at *
 generalize cptr (.agg ⟨namesV⟩) = VN at *
 generalize isU (useB u) = f at *
 rw [pureCall_fn F80 rfl]
 simp -implicitDefEqProofs [r80, p80, ll]
 rw [LL_for (γ := Unit) l () (fun i _ => [(8, .int .i64 i)]) (fun _ _ => []) (fun i rest _ => if idxB f rest i = -1 then (.exit 0, [(8, undef)], []) else (.ret, [(4, .int .i64 (idxB f rest i)), (8, undef)], [])) (fun _ _ => True) hl trivial]
 ·rw [show ((0 : Nat) : Int) = 0 from rfl]
  by_cases q : idxB f l 0 = -1
  ·simp -implicitDefEqProofs [k80_2, q]
  ·simp -implicitDefEqProofs [k80_2, q]
 ·simp -implicitDefEqProofs [k80_2]
 ·rfl
 ·intro nx i c hi _
  have e : ∀ z, idxB f [] z = -1 := fun _ => rfl
  simp -implicitDefEqProofs [r80_2, k80_2, hi, e, trim_le]
 ·intro nx i v rest c hi hv hd hw _ ih
  have ih := ih () trivial
  have hi2 : ((i : Int) < l.length) := by omega
  have x1 := il i hi
  have hb := hb v
  have rp : ∀ h, reify E.P 8 h (.agg ⟨[.string v.1, .int .i64 v.2]⟩) = some (.agg ⟨[.string v.1, .int .i64 v.2]⟩) := fun h => rfl
  rw [hv, ent_val] at x1
  rw [ent_val] at hb
  have e2 : (((i + 1 : Nat) : Int)) = (i : Int) + 1 := by omega
  rw [e2] at ih
  rw [idxB_cons]
  simp -implicitDefEqProofs [k80_2] at ih
  cases he : f v
  ·rw [he] at hb
   simp -implicitDefEqProofs [r80_2, k80_2, hi2, x1, ret0 m81, rp, rn, hb, hw, trim_le]
   exact ih
  ·rw [he] at hb
   have hn : ¬ ((i : Int) = -1) := by omega
   simp -implicitDefEqProofs [r80_2, k80_2, hi2, x1, ret0 m81, rp, rn, hb, hn, trim_le]
theorem tb_val (t : Tb) : tbR.val t = .agg ⟨[.string t.nm, entR.o t.kr t.rs, .int .i64 t.els]⟩ := rfl
def tabO : List Tb → Option Tb
 | [] => none
 | t :: r => if t.nm = traffB then some t else tabO r
theorem tabO_cons (t : Tb) (r : List Tb) : tabO (t :: r) = if t.nm = traffB then some t else tabO r := rfl
theorem rowF_eq (s : ByteArray) : ∀ ts, rowF s ts = match tabO ts with | none => 0 | some t => clampR (findE s t.els t.rs)
 | [] => rfl
 | t :: r => by
  unfold rowF
  rw [tabO_cons]
  by_cases h : t.nm = traffB
  ·rw [if_pos h, if_pos h]
  ·rw [if_neg h, if_neg h]; exact rowF_eq s r
theorem oe_ld (k : Option Bool) (l : List (ByteArray × Int)) (j : Nat) (hk : Rec.Ok k l) (hj : j < l.length) : indexAddrT (.sl 69 ⟨some true, some 2⟩) (entR.o k l) (.int .i64 (j : Int)) = some (cptr (.agg ⟨[.string l[j].1, .int .i64 l[j].2]⟩)) := Rec.o_index (R := entR) (s := 2) (t := 69) (kk := .i64) rfl hk hj
end Go.Proofs.YtjkemccfcabhgaaGreat.Bm
namespace Go.Proofs.YtjkemccfcabhgaaGreat.Bm
open Go Go.RowKit
open Rg (Rect Pt)
def TbOk (t : Tb) : Prop := Rec.Ok t.kr t.rs ∧ t.rs.length ≤ 9223372036854775807
def hpR (p : Pn) (VL : Value) (u : Nat) : Heap := [.cells 30 [opV p.d, VL, opV p.z, opV p.r, opV p.c, opV p.v, opV p.s, .int .i64 p.h] 0, .cells 3 [.int .i64 (u : Int)] 0, .cells 127 namesV 0]
theorem names_len : namesV.length = 6 := rfl
set_option maxHeartbeats 2000000 in
theorem row_spec (p : Pn) (u : Nat) (hu : u < 6) (hk : Rec.Ok p.kt p.ts) (hl : p.ts.length ≤ 9223372036854775807) (hts : ∀ t ∈ p.ts, TbOk t) : pureCall E.P (L E) 60 [pnV p, .int .i64 (u : Int)] = some (.int .i64 (rowF (useB u) p.ts)) := by
 have ll := fun h => Rec.o_len (R := tbR) (h := h) hk
 have il := fun (i : Nat) (hi : i < p.ts.length) => Rec.o_index (R := tbR) (s := 3) (t := 80) (kk := .i64) rfl hk hi
 have nb := names_build
 have s3 : szOf E.P 3 = some 1 := by kernel_rfl
 have a3 : aggT E.P 3 = some false := by kernel_rfl
 have wp : ∀ v, wrapP (some false) [v] = some (cptr v) := fun _ => rfl
 have s6 : szOf E.P 127 = some 6 := by kernel_rfl
 have a6 : aggT E.P 127 = some true := by kernel_rfl
 have sn : namesV.all (settled 8) = true := rfl
 have wn : wrapP (some true) namesV = some (cptr (.agg ⟨namesV⟩)) := rfl
 have pb : ∀ d n, below (d + 1) n (tbR.o p.kt p.ts) = true := fun d n => Rec.o_bel
 have nbl : ∀ d n, namesV.all (below (d + 1) n) = true := fun d n => rfl
 have ob : ∀ d n o, below (d + 1) n (opV o) = true := fun d n o => op_bel
 rw [rowF_eq]
 rw [pureCall_fn F60 rfl]
 unfold pnV pnC
 generalize tbR.o p.kt p.ts = VL at *
 simp -implicitDefEqProofs [r60, p60, ll, nb, names_len]
 rw [LL_for (γ := Unit) p.ts () (fun i _ => [(14, .int .i64 i)]) (fun _ _ => hpR p VL u) (fun i rest _ => match tabO rest with | none => (.exit 0, [(14, undef)], hpR p VL u) | some t => (.ret, [(4, .int .i64 (clampR (findE (useB u) t.els t.rs))), (14, undef)], hpR p VL u)) (fun _ _ => True) hl trivial]
 ·cases ht : tabO p.ts with
  | none => simp -implicitDefEqProofs [k60_3]
  | some t => simp -implicitDefEqProofs [k60_3]
 ·simp -implicitDefEqProofs [k60_3]
 ·rfl
 ·intro nx i c hi _
  have e : tabO [] = none := rfl
  rw [e]
  unfold hpR
  simp -implicitDefEqProofs [r60_3, k60_3, hi, trim_le]
 ·intro nx i v rest c hi hv hd hw _ ih
  have ih := ih () trivial
  have hi2 : ((i : Int) < p.ts.length) := by omega
  have x1 := il i hi
  rw [hv, tb_val] at x1
  rw [tabO_cons]
  unfold hpR at *
  simp -implicitDefEqProofs [k60_3] at ih
  by_cases he : v.nm = traffB
  ·have hv2 : v ∈ p.ts := by rw [← hv]; exact List.getElem_mem hi
   obtain ⟨kr, lr⟩ := hts v hv2
   have ix := indexE_spec v.kr v.rs u hu kr lr
   have ro : ∀ h, reify E.P 8 h (entR.o v.kr v.rs) = some (entR.o v.kr v.rs) := fun h => Rec.o_reify
   rw [if_pos he]; dsimp only
   rw [show traffB = ⟨⟨[116, 114, 97, 102, 102, 105, 99]⟩⟩ from rfl] at he
   rcases findE_idx (useB u) v.els v.rs 0 with ⟨h1, h2⟩ | ⟨j, hj, h1, h2⟩
   ·rw [show ((0 : Nat) : Int) = 0 from rfl] at h1
    rw [h1] at ix
    rw [h2]
    simp -implicitDefEqProofs [r60_3, k60_3, hi2, x1, he, ret0 m80, ix, ro, s3, a3, wp, s6, a6, wn, sn, reifyC_set, names_len, max_int, min_int, clampR, trim_cut, pb, nbl, ob]
   ·rw [show ((0 : Nat) : Int) = 0 from rfl] at h1
    have e0 : 0 + j = j := Nat.zero_add j
    rw [e0] at h1
    rw [h1] at ix
    rw [h2]
    have oe := oe_ld v.kr v.rs j kr hj
    simp -implicitDefEqProofs [r60_3, k60_3, hi2, x1, he, ret0 m80, ix, ro, s3, a3, wp, s6, a6, wn, sn, reifyC_set, names_len, oe, max_int, min_int, clampR, trim_cut, pb, nbl, ob]
  ·rw [if_neg he]
   rw [show traffB = ⟨⟨[116, 114, 97, 102, 102, 105, 99]⟩⟩ from rfl] at he
   simp -implicitDefEqProofs [r60_3, k60_3, hi2, x1, he, hw, trim_cut, pb, nbl, ob]
   exact ih
end Go.Proofs.YtjkemccfcabhgaaGreat.Bm
namespace Go.Proofs.YtjkemccfcabhgaaGreat.Bm
open Go Go.RowKit
open Rg (Rect Pt)
structure PnOk (p : Pn) : Prop where
 kt : Rec.Ok p.kt p.ts
 lt : p.ts.length ≤ 9223372036854775807
 tb : ∀ t ∈ p.ts, TbOk t
theorem pn_reify (p : Pn) (h : Heap) : reify E.P 8 h (pnV p) = some (pnV p) := by
 show (reifyC E.P 7 h (pnC p)).map _ = _
 rw [reifyC_set (pnC_set p 7)]; rfl
set_option maxHeartbeats 2000000 in
theorem traf_spec (p : Pn) (hp : PnOk p) (v : Vo) (hv : rightV v = true) : pureCall E.P (L E) 41 [pnV p, volR.val v] = some (.int .i64 (trafV p.ts v)) := by
 have k := rightV_ok hv
 have k0 := k.u0; have k6 := k.u6
 have hrow := row_spec p v.u.toNat (by omega) hp.kt hp.lt hp.tb
 rw [Int.toNat_of_nonneg k0] at hrow
 have hf := flo_spec v
 have hpr := fun h => pn_reify p h
 have hfr := rowF_in (useB v.u.toNat) p.ts
 have hfl := floV_in v
 have hm := trafV_mul (ts := p.ts) (v := v)
 have hps := pnV_set p
 unfold trafV at *
 generalize rowF (useB v.u.toNat) p.ts = r at *
 generalize floV v = f at *
 rw [vol_val] at hf ⊢
 rw [pureCall_fn F41 rfl]
 unfold pnV pnC at *
 generalize tbR.o p.kt p.ts = VL at *
 by_cases h0 : 0 < r
 ·have hr0 : r ≠ 0 := by omega
  have hle : (109951162777600 : Int) / r ≤ 109951162777600 := Int.ediv_le_self _ (by decide)
  have hge : 0 ≤ (109951162777600 : Int) / r := Int.ediv_nonneg (by decide) (by omega)
  have e1 : IntKind.i64.wrap ((109951162777600 : Int).tdiv r) = 109951162777600 / r := by
   rw [Int.tdiv_eq_ediv_of_nonneg (by decide)]
   exact wrap64 (by omega) (by omega)
  have qo : aBin E.P .quo 3 (.int .i64 109951162777600) (.int .i64 r) = some (.int .i64 (109951162777600 / r)) := by rw [bin_quo hr0, e1]
  by_cases h1 : 109951162777600 / r < f
  ·simp -implicitDefEqProofs [r41, p41, ret0 m60, hrow, hpr, ret0 m61, hf, h0, qo, h1]
  ·have hm := hm (fun q => h1 q.2)
   have e2 : IntKind.i64.wrap (r * f) = r * f := wrap64 (by omega) (by omega)
   have e3 : IntKind.i64.wrap (r * f + 100) = r * f + 100 := wrap64 (by omega) (by omega)
   have e4 : IntKind.i64.wrap (r * f + 100 - 1) = r * f + 99 := (wrap64 (by omega) (by omega)).trans (by omega)
   have e5 : IntKind.i64.wrap ((r * f + 99).tdiv 100) = (r * f + 99) / 100 := by
    rw [Int.tdiv_eq_ediv_of_nonneg (by omega)]
    exact wrap64 (by omega) (by omega)
   simp -implicitDefEqProofs [r41, p41, ret0 m60, hrow, hpr, ret0 m61, hf, h0, qo, h1, e2, e3, e4, e5, bin_quo]
 ·have hm := hm (fun q => h0 q.1)
  have e2 : IntKind.i64.wrap (r * f) = r * f := wrap64 (by omega) (by omega)
  have e3 : IntKind.i64.wrap (r * f + 100) = r * f + 100 := wrap64 (by omega) (by omega)
  have e4 : IntKind.i64.wrap (r * f + 100 - 1) = r * f + 99 := (wrap64 (by omega) (by omega)).trans (by omega)
  have e5 : IntKind.i64.wrap ((r * f + 99).tdiv 100) = (r * f + 99) / 100 := by
   rw [Int.tdiv_eq_ediv_of_nonneg (by omega)]
   exact wrap64 (by omega) (by omega)
  simp -implicitDefEqProofs [r41, p41, ret0 m60, hrow, hpr, ret0 m61, hf, h0, e2, e3, e4, e5, bin_quo]
theorem load1_spec (r : Rect) (v : Vo) (hr : okR r = true) (hv : okR v.b = true) : pureCall E.P (L E) 38 [rectR.val r, cptr (volR.val v)] = some (.bool (Rg.meetB r v.b)) := by
 have h := intersect_spec r v.b hr hv
 rw [rect_val, rect_val] at h
 rw [pureCall_fn F38 rfl, rect_val, vol_val]
 cases hm : Rg.meetB r v.b
 ·rw [hm] at h
  simp -implicitDefEqProofs [r38, p38, ret0 m39, h, rect_val]
 ·rw [hm] at h
  simp -implicitDefEqProofs [r38, p38, ret0 m39, h, rect_val]
theorem indexR_spec (k : Option Bool) (l : List Rect) (v : Vo) (hk : Rec.Ok k l) (hl : l.length ≤ 9223372036854775807) (hok : ∀ r ∈ l, okR r = true) (hv : okR v.b = true) : pureCall E.P (L E) 59 [rectR.o k l, .func (.func 38) ⟨[]⟩ ⟨[cptr (volR.val v)]⟩] = some (.int .i64 (idxB (fun r => Rg.meetB r v.b) l 0)) := by
 have ll := fun h => Rec.o_len (R := rectR) (h := h) hk
 have il := fun (i : Nat) (hi : i < l.length) => Rec.o_index (R := rectR) (s := 4) (t := 71) (kk := .i64) rfl hk hi
 have hb : ∀ r ∈ l, pureCall E.P (L E) 38 [rectR.val r, cptr (volR.val v)] = some (.bool ((fun r => Rg.meetB r v.b) r)) := fun r h => load1_spec r v (hok r h) hv
 have rn : ∀ h, reify E.P 8 h (cptr (volR.val v)) = some (cptr (volR.val v)) := fun h => rfl
 generalize rectR.o k l = VL at *
 generalize cptr (volR.val v) = VN at *
 generalize (fun r => Rg.meetB r v.b) = f at *
 rw [pureCall_fn F59 rfl]
 simp -implicitDefEqProofs [r59, p59, ll]
 rw [LL_for (γ := Unit) l () (fun i _ => [(8, .int .i64 i)]) (fun _ _ => []) (fun i rest _ => if idxB f rest i = -1 then (.exit 0, [(8, undef)], []) else (.ret, [(4, .int .i64 (idxB f rest i)), (8, undef)], [])) (fun _ _ => True) hl trivial]
 ·rw [show ((0 : Nat) : Int) = 0 from rfl]
  by_cases q : idxB f l 0 = -1
  ·simp -implicitDefEqProofs [k59_2, q]
  ·simp -implicitDefEqProofs [k59_2, q]
 ·simp -implicitDefEqProofs [k59_2]
 ·rfl
 ·intro nx i c hi _
  have e : ∀ z, idxB f [] z = -1 := fun _ => rfl
  simp -implicitDefEqProofs [r59_2, k59_2, hi, e, trim_le]
 ·intro nx i v rest c hi hv hd hw _ ih
  have ih := ih () trivial
  have hi2 : ((i : Int) < l.length) := by omega
  have x1 := il i hi
  have hb := hb v (by rw [← hv]; exact List.getElem_mem hi)
  have rp : ∀ h, reify E.P 8 h (.agg ⟨[.int .i64 v.x0, .int .i64 v.y0, .int .i64 v.x1, .int .i64 v.y1]⟩) = some (.agg ⟨[.int .i64 v.x0, .int .i64 v.y0, .int .i64 v.x1, .int .i64 v.y1]⟩) := fun h => rfl
  rw [hv, rect_val] at x1
  rw [rect_val] at hb
  have e2 : (((i + 1 : Nat) : Int)) = (i : Int) + 1 := by omega
  rw [e2] at ih
  rw [idxB_cons]
  simp -implicitDefEqProofs [k59_2] at ih
  cases he : f v
  ·rw [he] at hb
   simp -implicitDefEqProofs [r59_2, k59_2, hi2, x1, ret0 m38, rp, rn, hb, hw, trim_le]
   exact ih
  ·rw [he] at hb
   have hn : ¬ ((i : Int) = -1) := by omega
   simp -implicitDefEqProofs [r59_2, k59_2, hi2, x1, ret0 m38, rp, rn, hb, hn, trim_le]
theorem idxB_pos {α : Type} (f : α → Bool) (l : List α) : decide (0 ≤ idxB f l 0) = l.any f := by
 obtain ⟨h1, h2⟩ := idxB_any f l 0 (by omega)
 cases h : l.any f
 ·rw [h2 h]; rfl
 ·exact decide_eq_true (h1 h)
theorem containsR_spec (k : Option Bool) (l : List Rect) (v : Vo) (hk : Rec.Ok k l) (hl : l.length ≤ 9223372036854775807) (hok : ∀ r ∈ l, okR r = true) (hv : okR v.b = true) : pureCall E.P (L E) 40 [rectR.o k l, .func (.func 38) ⟨[]⟩ ⟨[cptr (volR.val v)]⟩] = some (.bool (l.any fun r => Rg.meetB r v.b)) := by
 have h := indexR_spec k l v hk hl hok hv
 have hp := idxB_pos (fun r => Rg.meetB r v.b) l
 have so : ∀ h, reify E.P 8 h (rectR.o k l) = some (rectR.o k l) := fun h => Rec.o_reify
 have rc : ∀ n h, reifyC E.P n h [cptr (volR.val v)] = some [cptr (volR.val v)] := fun n h => reifyC_set rfl
 generalize rectR.o k l = VL at *
 generalize cptr (volR.val v) = VN at *
 rw [pureCall_fn F40 rfl]
 rw [← hp]
 generalize idxB (fun r => Rg.meetB r v.b) l 0 = z at *
 simp -implicitDefEqProofs [r40, p40, ret0 m59, so, rc, h]
end Go.Proofs.YtjkemccfcabhgaaGreat.Bm
namespace Go.Proofs.YtjkemccfcabhgaaGreat.Bm
open Go Go.RowKit
open Rg (Rect Pt)
open Cw (limited nam nam_cons)
theorem cc_reify (c : Cc) (h : Heap) : reify E.P 8 h (ccV c) = some (ccV c) := rfl
theorem meetsL_ok {l : List Rect} {b : Rect} (hl : ∀ r ∈ l, okR r = true) (hb : okR b = true) : meetsL l b = l.any fun r => Rg.meetB r b := by
 unfold meetsL
 exact Rg.any_ext fun r hr => by rw [hl r hr, hb]; rfl
set_option maxHeartbeats 2000000 in
theorem load_spec (p : Pn) (hp : PnOk p) (c : Cc) (hc : c.cs.length ≤ 1000000) (v : Vo) : pureCall E.P (L E) 30 [pnV p, ccV c, volR.val v] = some (.int .i64 (loadV p.ts c v)) := by
 have hrv := rightV_spec v
 have hG := pregion_o c.x c.cs hc
 have hpr := fun h => pn_reify p h
 have hps := pnV_set p
 have hcr := fun h => cc_reify c h
 have hT := traf_spec p hp v
 have hC := containsR_spec (kR (polyX c.cs)) (lR (polyX c.cs)) v (kR_ok _)
 have hreg := regB_iff.1 (polyX_reg c.cs)
 have hC := hC (by have := hreg.2.1; omega) (fun r hr => List.all_eq_true.1 hreg.1 r hr)
 have hm := fun hb => meetsL_ok (l := lR (polyX c.cs)) (b := v.b) (fun r hr => List.all_eq_true.1 hreg.1 r hr) hb
 have ro : ∀ h, reify E.P 8 h (rectR.o (kR (polyX c.cs)) (lR (polyX c.cs))) = some (rectR.o (kR (polyX c.cs)) (lR (polyX c.cs))) := fun h => Rec.o_reify
 have wv : wrapP (some true) (volC v) = some (cptr (volR.val v)) := rfl
 have sv : (volC v).all (settled 8) = true := rfl
 have s9 : szOf E.P 75 = some 9 := by kernel_rfl
 have a9 : aggT E.P 75 = some true := by kernel_rfl
 have sl : settled depth (lst c.x (spanR.vals c.cs)) = true := rfl
 unfold loadV
 generalize eR (polyX c.cs) = ee at *
 generalize lR (polyX c.cs) = ll at *
 generalize rectR.o (kR (polyX c.cs)) ll = VR at *
 rw [vol_val] at *
 rw [pureCall_fn F30 rfl]
 unfold ccV ccC pnV pnC at *
 generalize tbR.o p.kt p.ts = VL at *
 cases hr : rightV v
 ·rw [hr] at hrv
  simp -implicitDefEqProofs [r30, p30, ret0 m36, hrv]
 rw [hr] at hrv
 have k := rightV_ok hr
 have hC := hC k.b
 have ha := area_s v.b k.b
 have hT := hT hr
 rw [hm k.b]
 generalize (ll.any fun r => Rg.meetB r v.b) = mb at *
 by_cases he : ee = 0
 case neg =>
  simp -implicitDefEqProofs [r30, p30, ret0 m36, hrv, ret1 m37, hG, sl, he]
  done
 cases mb
 ·simp -implicitDefEqProofs [r30, p30, ret0 m36, hrv, ret1 m37, hG, sl, he, ret0 m40, hC, ro, s9, a9]
  done
 by_cases q0 : c.load = 0
 ·simp -implicitDefEqProofs [r30, p30, ret0 m36, hrv, ret1 m37, hG, sl, he, ret0 m40, hC, ro, s9, a9, q0]
  done
 by_cases q1 : c.load = 1
 ·simp -implicitDefEqProofs [r30, p30, ret0 m36, hrv, ret1 m37, hG, sl, he, ret0 m40, hC, ro, s9, a9, q1, ret0 m41, hT, hpr]
  done
 by_cases q2 : c.load = 2
 ·simp -implicitDefEqProofs [r30, p30, ret0 m36, hrv, ret1 m37, hG, sl, he, ret0 m40, hC, ro, s9, a9, q2, ret0 m42, ha]
  done
 simp -implicitDefEqProofs [r30, p30, ret0 m36, hrv, ret1 m37, hG, sl, he, ret0 m40, hC, ro, s9, a9, q0, q1, q2]
 done
end Go.Proofs.YtjkemccfcabhgaaGreat.Bm
namespace Go.Proofs.YtjkemccfcabhgaaGreat.Bm
open Go Go.RowKit
open Rg (Rect Pt)
open Cw (limited nam nam_cons nam_nil limited_in)
theorem limited_spec32 (n : Int) : pureCall E.P (L E) 17 [.int .i64 n] = some (.int .i64 (limited n)) := by
 rw [pureCall_fn F17 rfl]
 simp -implicitDefEqProofs [r17, p17, max_int, min_int, limited]
def bndS (z : Int) (i : Nat) : Prop := -(i : Int) * 1099511627776 ≤ z ∧ z ≤ (i : Int) * 1099511627776
theorem bndS_step {z w : Int} {i : Nat} (h : bndS z i) (hw : -1099511627776 ≤ w ∧ w ≤ 1099511627776) : bndS (z + w) (i + 1) := by
 unfold bndS at *
 constructor <;> omega
theorem bndS_le {z : Int} {i : Nat} (h : bndS z i) (hi : i ≤ 100000) : -200000000000000000 ≤ z ∧ z ≤ 200000000000000000 := by
 unfold bndS at h
 omega
theorem bndS_zero : bndS 0 0 := by unfold bndS; omega
def ccO (c : Cc) : AObj := .cells 41 [.string c.nm, .int .i64 c.load, .int .i64 c.lim, lst c.x (spanR.vals c.cs)] 0
theorem named_spec (k : Option Bool) (l : List (ByteArray × Int)) (c : Cc) (hk : Rec.Ok k l) (hl : l.length ≤ 1000) : pureCall E.P (L E) 29 [entR.o k l, ccV c] = some (.int .i64 (nam c.nm l)) := by
 have ll := fun h => Rec.o_len (R := entR) (h := h) hk
 have il := fun (i : Nat) (hi : i < l.length) => oe_ld k l i hk hi
 have vb : ∀ d n, below (d + 1) n (entR.o k l) = true := fun d n => Rec.o_bel
 generalize entR.o k l = VL at *
 rw [pureCall_fn F29 rfl]
 unfold ccV ccC
 simp -implicitDefEqProofs [r29, p29, ll]
 rw [LL_for (γ := Int) l 0 (fun i c => [(5, .int .i64 c), (10, .int .i64 i)]) (fun _ _ => [ccO c]) (fun i rest z => (.exit 0, [(5, .int .i64 (z + nam c.nm rest)), (10, undef)], [ccO c])) (fun i z => bndS z i) (by omega) bndS_zero]
 ·simp -implicitDefEqProofs [k29_3]
 ·simp -implicitDefEqProofs [k29_3]
 ·rfl
 ·intro nx i z hi _
  unfold ccO
  rw [nam_nil]
  simp -implicitDefEqProofs [r29_3, k29_3, hi, trim_le]
 ·intro nx i v rest z hi hv hd hw hz ih
  have hi2 : ((i : Int) < l.length) := by omega
  have x1 := il i hi
  rw [hv] at x1
  have hb := bndS_le hz (by omega)
  have hlim := limited_in v.2
  have hs := limited_spec32 v.2
  rw [nam_cons]
  unfold ccO at *
  by_cases he : v.1 = c.nm
  ·have ih := ih (z + limited v.2) (bndS_step hz hlim)
   have e1 : IntKind.i64.wrap (z + limited v.2) = z + limited v.2 := wrap64 (by omega) (by omega)
   simp -implicitDefEqProofs [k29_3] at ih
   rw [if_pos he, ← Int.add_assoc]
   simp -implicitDefEqProofs [r29_3, k29_3, hi2, x1, he, ret0 m17, hs, e1, hw, trim_cut, vb]
   exact ih
  ·have ih := ih z (by have := bndS_step hz (w := 0) (by omega); rwa [Int.add_zero] at this)
   simp -implicitDefEqProofs [k29_3] at ih
   rw [if_neg he, Int.zero_add]
   simp -implicitDefEqProofs [r29_3, k29_3, hi2, x1, he, hw, trim_cut, vb]
   exact ih
end Go.Proofs.YtjkemccfcabhgaaGreat.Bm
namespace Go.Proofs.YtjkemccfcabhgaaGreat.Bm
open Go Go.RowKit
open Rg (Rect Pt)
open Cw (limited nam nam_cons nam_nil limited_in)
theorem pd_val (p : Pd) : pdR.val p = .agg ⟨[.int .i64 p.lot, .int .i64 p.v.b.x0, .int .i64 p.v.b.y0, .int .i64 p.v.b.x1, .int .i64 p.v.b.y1, .int .i64 p.v.z0, .int .i64 p.v.z1, .int .i64 p.v.u, .int .i64 p.v.n, .bool p.v.x]⟩ := rfl
theorem tw_reify (t : Tw) (h : Heap) : reify E.P 8 h (twV t) = some (twV t) := by
 show (reifyC E.P 7 h (twC t)).map _ = _
 rw [reifyC_set (twC_set t 7)]; rfl
structure TwFew (t : Tw) : Prop where
 p : PnOk t.p
 kb : Rec.Ok t.kb t.bs
 ke : Rec.Ok t.ke t.es
 lb : t.bs.length ≤ 1000
 le : t.es.length ≤ 1000
def twO (t : Tw) (VT VB VE : Value) : AObj := .cells 37 [opV t.p.d, VT, opV t.p.z, opV t.p.r, opV t.p.c, opV t.p.v, opV t.p.s, .int .i64 t.p.h, opV t.land, opV t.eas, opV t.win, VB, VE] 0
def bndT (n z : Int) (i : Nat) : Prop := n ≤ z ∧ z ≤ n + (i : Int) * 1099511627776
theorem bndT_zero {n : Int} : bndT n n 0 := by unfold bndT; omega
theorem bndT_step {n z w : Int} {i : Nat} (h : bndT n z i) (hw : 0 ≤ w ∧ w ≤ 1099511627776) : bndT n (z + w) (i + 1) := by
 unfold bndT at *
 constructor <;> omega
theorem bndT_le {n z : Int} {i : Nat} (h : bndT n z i) (hi : i ≤ 100000) (hn : -1099511627776000 ≤ n ∧ n ≤ 1099511627776000) : -200000000000000000 ≤ z ∧ z ≤ 200000000000000000 := by
 unfold bndT at h
 omega
set_option maxHeartbeats 2000000 in
theorem loadT_spec (t : Tw) (ht : TwFew t) (c : Cc) (hc : c.cs.length ≤ 1000000) : pureCall E.P (L E) 10 [twV t, ccV c] = some (.int .i64 (loadT32 t c)) := by
 have hnam := named_spec t.ke t.es c ht.ke ht.le
 have hld := load_spec t.p ht.p c hc
 have hpr := fun h => pn_reify t.p h
 have hps := pnV_set t.p
 have ll := fun h => Rec.o_len (R := pdR) (h := h) ht.kb
 have il := fun (i : Nat) (hi : i < t.bs.length) => Rec.o_index (R := pdR) (s := 10) (t := 78) (kk := .i64) rfl ht.kb hi
 have ro : ∀ h, reify E.P 8 h (entR.o t.ke t.es) = some (entR.o t.ke t.es) := fun h => Rec.o_reify
 have sl : settled depth (lst c.x (spanR.vals c.cs)) = true := rfl
 have b1 : ∀ d n, below (d + 1) n (tbR.o t.p.kt t.p.ts) = true := fun d n => Rec.o_bel
 have b2 : ∀ d n, below (d + 1) n (pdR.o t.kb t.bs) = true := fun d n => Rec.o_bel
 have b3 : ∀ d n, below (d + 1) n (entR.o t.ke t.es) = true := fun d n => Rec.o_bel
 have ob : ∀ d n o, below (d + 1) n (opV o) = true := fun d n o => op_bel
 have hn := nam_in' c.nm ht.le
 have hlb := ht.lb
 have hlt : loadT32 t c = nam c.nm t.es + sumV t.p.ts c (t.bs.map (·.v)) := rfl
 rw [hlt, pureCall_fn F10 rfl]
 unfold twV twC ccV ccC pnV pnC at *
 generalize tbR.o t.p.kt t.p.ts = VT at *
 generalize pdR.o t.kb t.bs = VB at *
 generalize entR.o t.ke t.es = VE at *
 generalize nam c.nm t.es = n0 at *
 simp -implicitDefEqProofs [r10, p10, ll, ret0 m29, hnam, ro]
 rw [LL_for (γ := Int) t.bs n0 (fun i z => [(5, .int .i64 z), (15, .int .i64 i)]) (fun _ _ => [twO t VT VB VE, ccO c]) (fun i rest z => (.exit 0, [(5, .int .i64 (z + sumV t.p.ts c (rest.map (·.v)))), (15, undef)], [twO t VT VB VE, ccO c])) (fun i z => bndT n0 z i) (by omega) bndT_zero]
 ·simp -implicitDefEqProofs [k10_3]
 ·simp -implicitDefEqProofs [k10_3]
 ·rfl
 ·intro nx i z hi _
  have e : sumV t.p.ts c ([].map fun (x : Pd) => x.v) = 0 := rfl
  rw [e]
  unfold ccO twO
  simp -implicitDefEqProofs [r10_3, k10_3, hi, trim_le]
 ·intro nx i v rest z hi hv hd hw hz ih
  have hi2 : ((i : Int) < t.bs.length) := by omega
  have x1 := il i hi
  rw [hv, pd_val] at x1
  have hb := bndT_le hz (by omega) hn
  have hin := loadV_in t.p.ts c v.v
  have hs := hld v.v
  rw [vol_val] at hs
  have ih := ih (z + loadV t.p.ts c v.v) (bndT_step hz hin)
  have e1 : IntKind.i64.wrap (z + loadV t.p.ts c v.v) = z + loadV t.p.ts c v.v := wrap64 (by omega) (by omega)
  rw [List.map_cons, sumV_cons, ← Int.add_assoc]
  unfold ccO twO at *
  generalize loadV t.p.ts c v.v = w at *
  simp -implicitDefEqProofs [k10_3, -List.map_map] at ih
  simp -implicitDefEqProofs [r10_3, k10_3, hi2, x1, ret0 m30, hs, hpr, e1, hw, trim_cut, b1, b2, b3, ob, -List.map_map]
  exact ih
def phO (VV VG : Value) : AObj := .cells 64 [VV, VG] 0
def pnO (p : Pn) (VT : Value) : AObj := .cells 30 [opV p.d, VT, opV p.z, opV p.r, opV p.c, opV p.v, opV p.s, .int .i64 p.h] 0
theorem ph_reify (p : Ph) (h : Heap) : reify E.P 8 h (phR.val p) = some (phR.val p) := by
 show (reifyC E.P 7 h (phC p)).map _ = _
 rw [reifyC_set (phC_set p 7)]; rfl
set_option maxHeartbeats 2000000 in
theorem phase_spec (p : Pn) (hp : PnOk p) (c : Cc) (hc : c.cs.length ≤ 1000000) (f : Ph) (hf : PhOk f) (hw : PhFew f) : pureCall E.P (L E) 19 [pnV p, ccV c, phR.val f] = some (.int .i64 (phaseL p.ts c f)) := by
 have hnam := named_spec f.kg f.gs c hf.kg hw.gs
 have hld := load_spec p hp c hc
 have hpr := fun h => pn_reify p h
 have ll := fun h => Rec.o_len (R := volR) (h := h) hf.kv
 have il := fun (i : Nat) (hi : i < f.vs.length) => Rec.o_index (R := volR) (s := 9) (t := 75) (kk := .i64) rfl hf.kv hi
 have ro : ∀ h, reify E.P 8 h (entR.o f.kg f.gs) = some (entR.o f.kg f.gs) := fun h => Rec.o_reify
 have sl : settled depth (lst c.x (spanR.vals c.cs)) = true := rfl
 have b1 : ∀ d n, below (d + 1) n (tbR.o p.kt p.ts) = true := fun d n => Rec.o_bel
 have b2 : ∀ d n, below (d + 1) n (volR.o f.kv f.vs) = true := fun d n => Rec.o_bel
 have b3 : ∀ d n, below (d + 1) n (entR.o f.kg f.gs) = true := fun d n => Rec.o_bel
 have ob : ∀ d n o, below (d + 1) n (opV o) = true := fun d n o => op_bel
 have hn := nam_in' c.nm hw.gs
 have hlb := hw.vs
 have hlt : phaseL p.ts c f = -nam c.nm f.gs + sumV p.ts c f.vs := by unfold phaseL; omega
 have ev : phR.val f = .agg ⟨[volR.o f.kv f.vs, entR.o f.kg f.gs]⟩ := rfl
 rw [hlt, pureCall_fn F19 rfl, ev]
 unfold ccV ccC pnV pnC at *
 generalize tbR.o p.kt p.ts = VT at *
 generalize volR.o f.kv f.vs = VB at *
 generalize entR.o f.kg f.gs = VE at *
 generalize nam c.nm f.gs = n0 at *
 obtain ⟨n1, hn1⟩ : ∃ n1, n1 = -n0 := ⟨_, rfl⟩
 rw [← hn1]
 have e0 : IntKind.i64.wrap (-n0) = n1 := (wrap64 (by omega) (by omega)).trans hn1.symm
 have hn' : -1099511627776000 ≤ n1 ∧ n1 ≤ 1099511627776000 := by omega
 simp -implicitDefEqProofs [r19, p19, ll, ret0 m29, hnam, ro, e0]
 rw [LL_for (γ := Int) f.vs n1 (fun i z => [(7, .int .i64 z), (18, .int .i64 i)]) (fun _ _ => [pnO p VT, ccO c, phO VB VE]) (fun i rest z => (.exit 0, [(7, .int .i64 (z + sumV p.ts c rest)), (18, undef)], [pnO p VT, ccO c, phO VB VE])) (fun i z => bndT n1 z i) (by omega) bndT_zero]
 ·simp -implicitDefEqProofs [k19_3]
 ·simp -implicitDefEqProofs [k19_3]
 ·rfl
 ·intro nx i z hi _
  have e : sumV p.ts c [] = 0 := rfl
  rw [e]
  unfold ccO pnO phO
  simp -implicitDefEqProofs [r19_3, k19_3, hi, trim_le]
 ·intro nx i v rest z hi hv hd hw hz ih
  have hi2 : ((i : Int) < f.vs.length) := by omega
  have x1 := il i hi
  rw [hv, vol_val] at x1
  have hb := bndT_le hz (by omega) hn'
  have hin := loadV_in p.ts c v
  have hs := hld v
  rw [vol_val] at hs
  have ih := ih (z + loadV p.ts c v) (bndT_step hz hin)
  have e1 : IntKind.i64.wrap (z + loadV p.ts c v) = z + loadV p.ts c v := wrap64 (by omega) (by omega)
  rw [sumV_cons, ← Int.add_assoc]
  unfold ccO pnO phO at *
  generalize loadV p.ts c v = w at *
  simp -implicitDefEqProofs [k19_3] at ih
  simp -implicitDefEqProofs [r19_3, k19_3, hi2, x1, ret0 m30, hs, hpr, e1, hw, trim_cut, b1, b2, b3, ob]
  exact ih
end Go.Proofs.YtjkemccfcabhgaaGreat.Bm
namespace Go.Proofs.YtjkemccfcabhgaaGreat.Bm
open Go Go.RowKit
open Rg (Rect Pt)
def kF (k : Option Bool) : Option Bool := k.map fun _ => false
theorem kF_ok {α : Type} {k : Option Bool} {l : List α} (h : Rec.Ok k l) : Rec.Ok (kF k) l := by
 cases k with
 | none => exact h
 | some b => exact Rec.ok_some
theorem sV : szOf E.P 75 = some 9 := by kernel_rfl
theorem aV : aggT E.P 75 = some true := by kernel_rfl
theorem sEn : szOf E.P 69 = some 2 := by kernel_rfl
theorem aEn : aggT E.P 69 = some true := by kernel_rfl
theorem app_r0 {α : Type} {R : Rec α} {el : El} {h : Heap} {lo : Nat} {st : Bool} {u : Value} {m : List α} (hel : el.size = R.m + 1) (hu : sliceCells h el.size u = some (R.flat m, m.length)) (hm : m ≠ []) (hb : m.length * el.bytes ≤ 2 ^ 47) :
  appendT (some el) h lo st (lst true []) u = some (R.sl h.length m, h ++ [R.row el.e m]) := by
 have hm0 : m.length ≠ 0 := fun e => hm (List.eq_nil_of_length_eq_zero e)
 rw [append_lst, hu]
 simp only [Option.bind_some]
 rw [if_neg hm0, if_pos ⟨rfl, by simpa using hb⟩]
 unfold Rec.sl Rec.row
 rw [← Rec.flat_len, hel]
 simp
abbrev elV : El := ⟨75, 9, 72, .agg ⟨[.int .i64 0, .int .i64 0, .int .i64 0, .int .i64 0, .int .i64 0, .int .i64 0, .int .i64 0, .int .i64 0, .bool false]⟩, ⟨some true, some 9⟩⟩
abbrev elE : El := ⟨69, 2, 24, .agg ⟨[.string ⟨⟨[]⟩⟩, .int .i64 0]⟩, ⟨some true, some 2⟩⟩
theorem cloV_spec (k : Option Bool) (l : List Vo) (hk : Rec.Ok k l) (hl : l.length ≤ 1000) : pureCall E.P (L E) 73 [volR.o k l] = some (volR.o (kF k) l) := by
 have ho : E.orc 73 = some (cloG E0 73) := rfl
 have hR : rfnOf E0 73 = some r73 := by kernel_rfl
 unfold pureCall
 cases k with
 | none =>
  have eq : aBin E0.P .eql 62 (.slice none 0 0) (.slice none 0 0) = some (.bool true) := by kernel_rfl
  show (L E _ [.slice none 0 0] [] 0).bind _ = _
  rw [L_orc ho, cloG_some rfl, evF_one hR rfl]
  simp -implicitDefEqProofs [r73, p73, eq]
  rfl
 | some x =>
  cases l with
  | nil =>
   show (L E _ [lst x []] [] 0).bind _ = _
   rw [L_orc ho, cloG_none]
   rfl
  | cons v l =>
   have he : emptyT [lst x (volR.vals (v :: l))] = false := by cases x <;> rfl
   have eq : aBin E0.P .eql 62 (lst x (volR.vals (v :: l))) (.slice none 0 0) = some (.bool false) := by cases x <;> kernel_rfl
   have ap := app_r0 (R := volR) (el := elV) (h := []) (lo := 0) (st := false) (u := lst x (volR.vals (v :: l))) (m := v :: l) rfl (Rec.cells_tree rfl _) (by simp) (by show (v :: l).length * 72 ≤ 2 ^ 47; omega)
   have lit : ∀ lv, buildSliceT (some elV) lv [] 0 ⟨[]⟩ = some (lst true [], []) := fun lv => build_none.trans rfl
   have rr := Rec.reifyR_row (R := volR) (P := E.P) (h := [volR.row 75 (v :: l)]) (b := 0) (t := 75) (l := v :: l) rfl sV aV
   show (L E _ [lst x (volR.vals (v :: l))] [] 0).bind _ = _
   rw [L_orc ho, cloG_some he, evF_one hR rfl]
   generalize lst x (volR.vals (v :: l)) = V at *
   simp -implicitDefEqProofs [r73, p73, eq, lit, ap, -append_lst, rr]
   rfl
theorem cloE_spec (k : Option Bool) (l : List (ByteArray × Int)) (hk : Rec.Ok k l) (hl : l.length ≤ 1000) : pureCall E.P (L E) 74 [entR.o k l] = some (entR.o (kF k) l) := by
 have ho : E.orc 74 = some (cloG E0 74) := rfl
 have hR : rfnOf E0 74 = some r74 := by kernel_rfl
 unfold pureCall
 cases k with
 | none =>
  have eq : aBin E0.P .eql 35 (.slice none 0 0) (.slice none 0 0) = some (.bool true) := by kernel_rfl
  show (L E _ [.slice none 0 0] [] 0).bind _ = _
  rw [L_orc ho, cloG_some rfl, evF_one hR rfl]
  simp -implicitDefEqProofs [r74, p74, eq]
  rfl
 | some x =>
  cases l with
  | nil =>
   show (L E _ [lst x []] [] 0).bind _ = _
   rw [L_orc ho, cloG_none]
   rfl
  | cons v l =>
   have he : emptyT [lst x (entR.vals (v :: l))] = false := by cases x <;> rfl
   have eq : aBin E0.P .eql 35 (lst x (entR.vals (v :: l))) (.slice none 0 0) = some (.bool false) := by cases x <;> kernel_rfl
   have ap := app_r0 (R := entR) (el := elE) (h := []) (lo := 0) (st := false) (u := lst x (entR.vals (v :: l))) (m := v :: l) rfl (Rec.cells_tree rfl _) (by simp) (by show (v :: l).length * 24 ≤ 2 ^ 47; omega)
   have lit : ∀ lv, buildSliceT (some elE) lv [] 0 ⟨[]⟩ = some (lst true [], []) := fun lv => build_none.trans rfl
   have rr := Rec.reifyR_row (R := entR) (P := E.P) (h := [entR.row 69 (v :: l)]) (b := 0) (t := 69) (l := v :: l) rfl sEn aEn
   show (L E _ [lst x (entR.vals (v :: l))] [] 0).bind _ = _
   rw [L_orc ho, cloG_some he, evF_one hR rfl]
   generalize lst x (entR.vals (v :: l)) = V at *
   simp -implicitDefEqProofs [r74, p74, eq, lit, ap, -append_lst, rr]
   rfl
end Go.Proofs.YtjkemccfcabhgaaGreat.Bm
namespace Go.Proofs.YtjkemccfcabhgaaGreat.Bm
open Go Go.RowKit
open Rg (Rect Pt)
def cloP (p : Ph) : Ph := ⟨kF p.kv, p.vs, kF p.kg, p.gs⟩
theorem cloP_ok {p : Ph} (h : PhOk p) : PhOk (cloP p) := ⟨kF_ok h.kv, kF_ok h.kg⟩
theorem cloP_few {p : Ph} (h : PhFew p) : PhFew (cloP p) := ⟨h.vs, h.gs⟩
theorem sPh : szOf E.P 64 = some 2 := by kernel_rfl
theorem aPh : aggT E.P 64 = some true := by kernel_rfl
theorem ph_val (p : Ph) : phR.val p = .agg ⟨[volR.o p.kv p.vs, entR.o p.kg p.gs]⟩ := rfl
theorem ph_build (k m : Option Bool) (l : List Vo) (g : List (ByteArray × Int)) : buildT (.fs ⟨[.slice none 0 0, .slice none 0 0]⟩ ⟨[(0, 1), (1, 1)]⟩) #[(0, volR.o k l), (1, entR.o m g)] = some (.agg ⟨[volR.o k l, entR.o m g]⟩) := by
 cases k <;> cases m <;> rfl
abbrev elP : El := ⟨64, 2, 48, .agg ⟨[.slice none 0 0, .slice none 0 0]⟩, ⟨some true, some 2⟩⟩
theorem ph_lit (h : Heap) (p : Ph) : buildSliceT (some elP) false h 1 #[(0, .agg ⟨[volR.o p.kv p.vs, entR.o p.kg p.gs]⟩)] = some (lst true (phR.vals [p]), h) := by
 obtain ⟨k, l, m, g⟩ := p
 cases k <;> cases m <;> exact (build_lit' (n := 1) rfl rfl (by decide) (by decide) (by decide)).trans rfl
structure PhsOk (l : List Ph) : Prop where
 ok : ∀ p ∈ l, PhOk p
 few : ∀ p ∈ l, PhFew p
 len : l.length ≤ 1000
set_option maxHeartbeats 2000000 in
theorem phases_spec (k : Option Bool) (l : List Ph) (hk : Rec.Ok k l) (hl : PhsOk l) : pureCall E.P (L E) 49 [phR.o k l] = some (lst false (phR.vals (l.map cloP))) := by
 have ll := fun h => Rec.o_len (R := phR) (h := h) hk
 have il := fun (i : Nat) (hi : i < l.length) => Rec.o_index (R := phR) (s := 2) (t := 64) (kk := .i64) rfl hk hi
 have vb : ∀ d n, below (d + 1) n (phR.o k l) = true := fun d n => Rec.o_bel
 have hlen := hl.len
 generalize phR.o k l = VL at *
 rw [pureCall_fn F49 rfl]
 simp -implicitDefEqProofs [r49, p49, ll, prep_new, newK_nil sPh]
 rw [LL_for (γ := List Ph) l [] (fun i acc => [(3, phR.sl 0 acc), (8, .int .i64 i)]) (fun _ acc => [phR.row 64 acc]) (fun i rest acc => (.exit 0, [(3, phR.sl 0 (acc ++ rest.map cloP)), (8, undef)], [phR.row 64 (acc ++ rest.map cloP)])) (fun i acc => acc.length = i) (by omega) rfl]
 ·have rr := Rec.reifyR_row (R := phR) (P := E.P) (h := [phR.row 64 (l.map cloP)]) (b := 0) (t := 64) (l := l.map cloP) rfl sPh aPh
  simp -implicitDefEqProofs [k49_3, rr]
 ·simp -implicitDefEqProofs [k49_3, Rec.sl_nil]
 ·rfl
 ·intro nx i acc hi _
  rw [List.map_nil, List.append_nil]
  simp -implicitDefEqProofs [r49_3, k49_3, hi, trim_le]
 ·intro nx i v rest acc hi hv hd hw ha ih
  have hi2 : ((i : Int) < l.length) := by omega
  have x1 := il i hi
  rw [hv, ph_val] at x1
  have hm : v ∈ l := by rw [← hv]; exact List.getElem_mem hi
  have hok := hl.ok v hm
  have hfew := hl.few v hm
  have c1 := cloV_spec v.kv v.vs hok.kv hfew.vs
  have c2 := cloE_spec v.kg v.gs hok.kg hfew.gs
  have bd := ph_build (kF v.kv) (kF v.kg) v.vs v.gs
  have lt := fun h => ph_lit h (cloP v)
  have s1 : settled depth (volR.o v.kv v.vs) = true := Rec.o_set
  have s2 : settled depth (entR.o v.kg v.gs) = true := Rec.o_set
  have b1 : ∀ d n, below (d + 1) n (volR.o v.kv v.vs) = true := fun d n => Rec.o_bel
  have b2 : ∀ d n, below (d + 1) n (entR.o v.kg v.gs) = true := fun d n => Rec.o_bel
  have ap := fun h (hob : h[0]? = some (phR.row 64 acc)) => Rec.app (R := phR) (el := elP) (h := h) (b := 0) (lo := 0) (acc := acc) (m := [cloP v]) (u := lst true (phR.vals [cloP v])) rfl hob (Rec.cells_tree rfl _) (Nat.zero_le _) (by show (acc.length + 1) * 48 ≤ 2 ^ 47; omega)
  have ih := ih (acc ++ [cloP v]) (by rw [List.length_append, ha]; rfl)
  rw [List.map_cons, show acc ++ cloP v :: rest.map cloP = (acc ++ [cloP v]) ++ rest.map cloP by simp]
  have e1 : volR.o (cloP v).kv (cloP v).vs = volR.o (kF v.kv) v.vs := rfl
  have e2 : entR.o (cloP v).kg (cloP v).gs = entR.o (kF v.kg) v.gs := rfl
  rw [e1, e2] at lt
  generalize volR.o (kF v.kv) v.vs = V1 at *
  generalize entR.o (kF v.kg) v.gs = V2 at *
  simp -implicitDefEqProofs [k49_3, -List.append_assoc] at ih
  simp -implicitDefEqProofs [r49_3, k49_3, hi2, x1, ret1 m73, c1, s1, ret1 m74, c2, s2, bd, lt, ap, hw, trim_cut, vb, Rec.row_bel, Rec.sl_bel, -List.append_assoc]
  exact ih
end Go.Proofs.YtjkemccfcabhgaaGreat.Bm
