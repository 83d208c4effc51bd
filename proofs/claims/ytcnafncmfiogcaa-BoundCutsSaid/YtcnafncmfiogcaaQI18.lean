/-
  Chapter 25: pairs of uses, and when a problem is valid, walked. Conditions: problems with few elements.
-/
import Derived.Test.YtcnafncmfiogcaaQI17
import Derived.Test.YtcnafncmfiogcaaQI16
import Derived.Test.YtcnafncmfiogcaaQI14
import Derived.Test.YtcnafncmfiogcaaQI15
namespace Go.Proofs.Ytcnafncmfiogcaa.Cp
abbrev Rd := Int × List Br × List Br
def forest (f : Nd → List Br → Option Rd) : List Nd → Int → List Br → Option Rd
  | [], m, r => some (m, [], r)
  | t :: ts, m, r => match f t r with
    | none => none
    | some x => match forest f ts (max m x.1) x.2.2 with
      | none => none
      | some y => some (y.1, x.2.1 ++ y.2.1, y.2.2)
def prv (P : Pr) : Nat → Nd → List Br → Option Rd
  | _, _, [] => none
  | 0, s, b :: r => if b.kids = 0 then some (s.v, [⟨b.kids, s.v⟩], r) else none
  | n + 1, s, b :: r =>
    if b.kids = (conts P s).length then
      (match forest (prv P n) (conts P s) s.v r with
      | none => none
      | some x => some (x.1, ⟨b.kids, x.1⟩ :: x.2.1, x.2.2))
    else if b.kids = 0 then some (reach P s, [⟨b.kids, reach P s⟩], r) else none
def kidsL (l : List Br) : List Int := l.map Br.kids
def Reads (f : List Br → Option Rd) : Prop := ∀ l x, f l = some x → ∃ l0, l = l0 ++ x.2.2 ∧ kidsL x.2.1 = kidsL l0 ∧ ∀ l1 r1, kidsL l1 = kidsL l0 → f (l1 ++ r1) = some (x.1, x.2.1, r1)
theorem forest_nil (f : Nd → List Br → Option Rd) (m : Int) (r : List Br) : forest f [] m r = some (m, [], r) := rfl
theorem forest_cons {f : Nd → List Br → Option Rd} {t : Nd} {ts : List Nd} {m : Int} {r : List Br} {y : Rd} (h : forest f (t :: ts) m r = some y) :
    ∃ x z, f t r = some x ∧ forest f ts (max m x.1) x.2.2 = some z ∧ y = (z.1, x.2.1 ++ z.2.1, z.2.2) := by
  unfold forest at h
  cases hx : f t r with
  | none => rw [hx] at h; exact absurd h (by simp)
  | some x =>
    rw [hx] at h
    cases hz : forest f ts (max m x.1) x.2.2 with
    | none => simp only [hz] at h; exact absurd h (by simp)
    | some z =>
      simp only [hz] at h
      exact ⟨x, z, rfl, hz, (Option.some.inj h).symm⟩
theorem forest_mk {f : Nd → List Br → Option Rd} {t : Nd} {ts : List Nd} {m : Int} {r : List Br} {x z : Rd} (hx : f t r = some x) (hz : forest f ts (max m x.1) x.2.2 = some z) :
    forest f (t :: ts) m r = some (z.1, x.2.1 ++ z.2.1, z.2.2) := by
  show (match f t r with | none => none | some x => match forest f ts (max m x.1) x.2.2 with | none => none | some y => some (y.1, x.2.1 ++ y.2.1, y.2.2)) = _
  rw [hx]
  show (match forest f ts (max m x.1) x.2.2 with | none => none | some y => some (y.1, x.2.1 ++ y.2.1, y.2.2)) = _
  rw [hz]
theorem forest_reads {f : Nd → List Br → Option Rd} (h : ∀ t, Reads (f t)) : ∀ (ts : List Nd) (m : Int), Reads (forest f ts m)
  | [], m => fun l x q => by
    have e := Option.some.inj q
    subst e
    refine ⟨[], rfl, rfl, fun l1 r1 q => ?_⟩
    have : l1 = [] := List.map_eq_nil_iff.1 q
    rw [this]; rfl
  | t :: ts, m => fun l y q => by
    obtain ⟨x, z, hx, hz, rfl⟩ := forest_cons q
    obtain ⟨l0, e0, k0, p0⟩ := h t l x hx
    obtain ⟨l2, e2, k2, p2⟩ := forest_reads h ts (max m x.1) x.2.2 z hz
    refine ⟨l0 ++ l2, ?_, ?_, fun l1 r1 q => ?_⟩
    · show l = l0 ++ l2 ++ z.2.2
      rw [List.append_assoc, ← e2]; exact e0
    · show kidsL (x.2.1 ++ z.2.1) = _
      unfold kidsL at *
      rw [List.map_append, List.map_append, k0, k2]
    · have q : l1.map Br.kids = (l0 ++ l2).map Br.kids := q
      rw [List.map_append, List.map_eq_append_iff] at q
      obtain ⟨a, b, rfl, qa, qb⟩ := q
      rw [List.append_assoc]
      exact forest_mk (p0 a (b ++ r1) qa) (p2 b r1 qb)
theorem prv_zero (P : Pr) (s : Nd) (b : Br) (r : List Br) : prv P 0 s (b :: r) = if b.kids = 0 then some (s.v, [⟨b.kids, s.v⟩], r) else none := rfl
theorem prv_succ (P : Pr) (n : Nat) (s : Nd) (b : Br) (r : List Br) : prv P (n + 1) s (b :: r) = if b.kids = (conts P s).length then
      (match forest (prv P n) (conts P s) s.v r with
      | none => none
      | some x => some (x.1, ⟨b.kids, x.1⟩ :: x.2.1, x.2.2))
    else if b.kids = 0 then some (reach P s, [⟨b.kids, reach P s⟩], r) else none := rfl
theorem prv_nil (P : Pr) (n : Nat) (s : Nd) : prv P n s [] = none := by cases n <;> rfl
theorem prv_reads (P : Pr) : ∀ (n : Nat) (s : Nd), Reads (prv P n s)
  | n, s => fun l x q => by
    cases l with
    | nil => rw [prv_nil] at q; exact absurd q (by simp)
    | cons b r =>
      have one : ∀ (m : Int), (∀ b' r', b'.kids = b.kids → prv P n s (b' :: r') = some (m, [⟨b.kids, m⟩], r')) → x = (m, [⟨b.kids, m⟩], r) →
          ∃ l0, b :: r = l0 ++ x.2.2 ∧ kidsL x.2.1 = kidsL l0 ∧ ∀ l1 r1, kidsL l1 = kidsL l0 → prv P n s (l1 ++ r1) = some (x.1, x.2.1, r1) := by
        intro m hm hx
        subst hx
        refine ⟨[b], rfl, rfl, fun l1 r1 q => ?_⟩
        match l1, q with
        | [], q => exact absurd q (by simp [kidsL])
        | [b'], q => exact hm b' r1 (by simpa [kidsL] using q)
        | _ :: _ :: _, q => exact absurd (congrArg List.length q) (by simp [kidsL])
      cases n with
      | zero =>
        rw [prv_zero] at q
        by_cases k : b.kids = 0
        · rw [if_pos k] at q
          exact one s.v (fun b' r' e => by rw [prv_zero, if_pos (e.trans k), e]) (Option.some.inj q).symm
        · rw [if_neg k] at q; exact absurd q (by simp)
      | succ n =>
        rw [prv_succ] at q
        by_cases k : b.kids = (conts P s).length
        · rw [if_pos k] at q
          cases hz : forest (prv P n) (conts P s) s.v r with
          | none => rw [hz] at q; exact absurd q (by simp)
          | some z =>
            rw [hz] at q
            have q := Option.some.inj q
            subst q
            obtain ⟨l0, e0, k0, p0⟩ := forest_reads (fun t => prv_reads P n t) (conts P s) s.v r z hz
            refine ⟨b :: l0, by rw [e0]; rfl, ?_, fun l1 r1 q => ?_⟩
            · show b.kids :: kidsL z.2.1 = b.kids :: kidsL l0
              rw [k0]
            · cases l1 with
              | nil => exact absurd q (by simp [kidsL])
              | cons b' l1 =>
                have q1 : b'.kids = b.kids := by have := congrArg List.head? q; simpa [kidsL] using this
                have q2 : kidsL l1 = kidsL l0 := by have := congrArg List.tail q; simpa [kidsL] using this
                rw [List.cons_append, prv_succ, q1, if_pos k, p0 l1 r1 q2]
        · rw [if_neg k] at q
          by_cases k0 : b.kids = 0
          · rw [if_pos k0] at q
            exact one (reach P s) (fun b' r' e => by rw [prv_succ, e, if_neg k, if_pos k0]) (Option.some.inj q).symm
          · rw [if_neg k0] at q; exact absurd q (by simp)
structure Sound (P : Pr) (s : Nd) (x : Rd) : Prop where
  all : ∀ c t, run P s c = some t → t.v ≤ x.1
  le : x.1 ≤ reach P s
  head : ∃ k o, x.2.1 = ⟨k, x.1⟩ :: o
theorem forest_ge {f : Nd → List Br → Option Rd} : ∀ {ts : List Nd} {m : Int} {r : List Br} {y : Rd}, forest f ts m r = some y → m ≤ y.1 ∧ ∀ t ∈ ts, ∃ l x, f t l = some x ∧ x.1 ≤ y.1
  | [], m, r, y, h => by
    have := Option.some.inj h; subst this
    exact ⟨Int.le_refl _, fun t ht => absurd ht (by simp)⟩
  | t :: ts, m, r, y, h => by
    obtain ⟨x, z, hx, hz, rfl⟩ := forest_cons h
    obtain ⟨i1, i2⟩ := forest_ge hz
    have i1 : max m x.1 ≤ z.1 := i1
    refine ⟨by show m ≤ z.1; omega, fun w hw => ?_⟩
    rcases List.mem_cons.1 hw with rfl | hw
    · exact ⟨r, x, hx, by show x.1 ≤ z.1; omega⟩
    · exact i2 w hw
theorem forest_le {f : Nd → List Br → Option Rd} {B : Int} : ∀ {ts : List Nd} {m : Int} {r : List Br} {y : Rd}, forest f ts m r = some y → m ≤ B → (∀ t ∈ ts, ∀ l x, f t l = some x → x.1 ≤ B) → y.1 ≤ B
  | [], m, r, y, h, hm, _ => by
    have := Option.some.inj h; subst this; exact hm
  | t :: ts, m, r, y, h, hm, hk => by
    obtain ⟨x, z, hx, hz, rfl⟩ := forest_cons h
    have := hk t List.mem_cons_self r x hx
    exact forest_le (y := z) hz (by omega) fun w hw => hk w (List.mem_cons_of_mem t hw)
theorem mem_conts {P : Pr} (hP : OnlyUs P) {s t : Nd} {u : Int} (h : next P s u = some t) : t ∈ conts P s := by
  obtain ⟨_, _, _, _, h2, _⟩ := next_some h
  exact List.mem_filterMap.2 ⟨u, hP _ _ h2, h⟩
theorem conts_mem {P : Pr} {s t : Nd} (h : t ∈ conts P s) : ∃ u, next P s u = some t := by
  obtain ⟨u, _, hu⟩ := List.mem_filterMap.1 h
  exact ⟨u, hu⟩
theorem run_zero {P : Pr} {s t : Nd} {c : List Int} (h : s.rem.length = 0) (q : run P s c = some t) : t = s := by
  cases c with
  | nil => exact (Option.some.inj q).symm
  | cons u c =>
    obtain ⟨s1, h1, _⟩ := run_step q
    have := next_rem h1
    omega
theorem prv_sound {P : Pr} (hP : OnlyUs P) : ∀ (n : Nat) (s : Nd) (l : List Br) (x : Rd), s.rem.length ≤ n → Good P s → prv P n s l = some x → Sound P s x
  | n, s, [], x, _, _, h => by rw [prv_nil] at h; exact absurd h (by simp)
  | 0, s, b :: r, x, hn, g, h => by
    rw [prv_zero] at h
    by_cases k : b.kids = 0
    · rw [if_pos k] at h
      have := Option.some.inj h; subst this
      exact ⟨fun c t q => by rw [run_zero (by omega) q]; exact Int.le_refl _, good_reach g, b.kids, [], rfl⟩
    · rw [if_neg k] at h; exact absurd h (by simp)
  | n + 1, s, b :: r, x, hn, g, h => by
    rw [prv_succ] at h
    by_cases k : b.kids = (conts P s).length
    · rw [if_pos k] at h
      cases hz : forest (prv P n) (conts P s) s.v r with
      | none => rw [hz] at h; exact absurd h (by simp)
      | some z =>
        rw [hz] at h
        have := Option.some.inj h; subst this
        obtain ⟨i1, i2⟩ := forest_ge hz
        refine ⟨?_, ?_, b.kids, z.2.1, rfl⟩
        · intro c t q
          cases c with
          | nil => rw [← Option.some.inj q]; exact i1
          | cons u c =>
            obtain ⟨s1, h1, h2⟩ := run_step q
            obtain ⟨l, y, hy, hle⟩ := i2 s1 (mem_conts hP h1)
            have := next_rem h1
            have := (prv_sound hP n s1 l y (by omega) (next_good g h1) hy).all c t h2
            exact Int.le_trans this hle
        · refine forest_le (y := z) hz (good_reach g) fun t ht l y hy => ?_
          obtain ⟨u, hu⟩ := conts_mem ht
          have := next_rem hu
          have := (prv_sound hP n t l y (by omega) (next_good g hu) hy).le
          rw [next_reach hu] at this
          exact this
    · rw [if_neg k] at h
      by_cases k0 : b.kids = 0
      · rw [if_pos k0] at h
        have := Option.some.inj h; subst this
        exact ⟨fun c t q => run_le g q, Int.le_refl _, b.kids, [], rfl⟩
      · rw [if_neg k0] at h; exact absurd h (by simp)
def le2 : List Br → List Br → Prop
  | [], [] => True
  | x :: l, y :: o => x.kids = y.kids ∧ y.bound ≤ x.bound ∧ le2 l o
  | _, _ => False
theorem le2_append : ∀ {a b c d : List Br}, le2 a b → le2 c d → le2 (a ++ c) (b ++ d)
  | [], [], _, _, _, h => h
  | _ :: _, _ :: _, _, _, ⟨h1, h2, h3⟩, h => ⟨h1, h2, le2_append h3 h⟩
  | [], _ :: _, _, _, h, _ => h.elim
  | _ :: _, [], _, _, h, _ => h.elim
theorem conts_good {P : Pr} {s : Nd} {n : Nat} (hn : s.rem.length ≤ n + 1) (g : Good P s) : ∀ t ∈ conts P s, t.rem.length ≤ n ∧ Good P t := by
  intro t ht
  obtain ⟨u, hu⟩ := conts_mem ht
  have := next_rem hu
  exact ⟨by omega, next_good g hu⟩
def tight (P : Pr) (A : List Int) (l : List Br) : Option (List Br) :=
  if 4000 < l.length then none else
    match prv P A.length (root P A) l with
    | none => none
    | some x => if x.2.2 = [] then some x.2.1 else none
theorem tight_iff {P : Pr} {A : List Int} {l o : List Br} : tight P A l = some o ↔ l.length ≤ 4000 ∧ ∃ m, prv P A.length (root P A) l = some (m, o, []) := by
  unfold tight
  by_cases h : 4000 < l.length
  · rw [if_pos h]
    exact ⟨fun q => absurd q (by simp), fun q => absurd q.1 (by omega)⟩
  · rw [if_neg h]
    cases hx : prv P A.length (root P A) l with
    | none => exact ⟨fun q => absurd q (by simp), fun ⟨_, _, q⟩ => absurd q (by simp)⟩
    | some x =>
      simp only
      by_cases hr : x.2.2 = []
      · rw [if_pos hr]
        refine ⟨fun q => ⟨by omega, x.1, ?_⟩, fun ⟨_, m, q⟩ => ?_⟩
        · rw [← Option.some.inj q, ← hr]
        · rw [Option.some.inj q]
      · rw [if_neg hr]
        refine ⟨fun q => absurd q (by simp), fun ⟨_, m, q⟩ => ?_⟩
        rw [Option.some.inj q] at hr
        exact absurd rfl hr
def lows : List Br → List Br → Bool
  | x :: l, y :: o => decide (x.bound < y.bound) || lows l o
  | _, _ => false
def chk (P : Pr) (A c : List Int) (v : Int) (l : List Br) : Nat :=
  match run P (root P A) c with
  | none => 1
  | some t => if t.v = v then
      (match tight P A l with
      | none => 2
      | some o => if v < (o.headD ⟨0, 0⟩).bound ∨ lows l o = true then 2 else 0)
    else 1
theorem lows_le2 : ∀ {l o : List Br}, le2 l o → lows l o = false
  | [], [], _ => rfl
  | x :: l, y :: o, ⟨_, h2, h3⟩ => by
    show (decide (x.bound < y.bound) || lows l o) = false
    rw [lows_le2 h3, decide_eq_false (by omega)]; rfl
  | [], _ :: _, h => h.elim
  | _ :: _, [], h => h.elim
theorem root_good {P : Pr} {A : List Int} (hA : ∀ a ∈ A, 0 ≤ a) (hm : 0 ≤ P.most) : Good P (root P A) := ⟨hA, hm⟩
theorem best_sr {P : Pr} {A : List Int} {n : Int} {b : List Int} {l : List Br} (h : best P A = some (n, b, l)) : l.length ≤ 4000 ∧ sr P A.length (root P A) (-1, []) = ((n, b), l) := by
  unfold best at h
  by_cases q : (sr P A.length (root P A) (-1, [])).2.length ≤ 4000
  · have h := Option.some.inj ((if_pos q).symm.trans h)
    have e1 : (sr P A.length (root P A) (-1, [])).1.1 = n := congrArg Prod.fst h
    have e2 : (sr P A.length (root P A) (-1, [])).1.2 = b := congrArg (fun x => x.2.1) h
    have e3 : (sr P A.length (root P A) (-1, [])).2 = l := congrArg (fun x => x.2.2) h
    rw [← e1, ← e2, ← e3]
    exact ⟨q, rfl⟩
  · exact absurd ((if_neg q).symm.trans h) (by simp)
theorem tight_read {P : Pr} {A : List Int} {l o : List Br} (h : tight P A l = some o) : kidsL o = kidsL l := by
  obtain ⟨h1, m, h2⟩ := tight_iff.1 h
  obtain ⟨l0, e0, k0, _⟩ := prv_reads P A.length (root P A) l _ h2
  have e0 : l = l0 ++ [] := e0
  rw [List.append_nil] at e0
  rw [e0]; exact k0
end Go.Proofs.Ytcnafncmfiogcaa.Cp
namespace Go.Proofs.Ytcnafncmfiogcaa.Cp
structure Q where
  uses : Int
  left : List (ByteArray × Int)
  most : Int
  never : List (Int × Int)
def nameB (u : Int) : ByteArray :=
  if u = 0 then ⟨⟨[104, 111, 109, 101]⟩⟩ else if u = 1 then ⟨⟨[115, 104, 111, 112]⟩⟩ else if u = 2 then ⟨⟨[119, 111, 114, 107]⟩⟩ else if u = 3 then ⟨⟨[112, 97, 114, 107]⟩⟩
  else if u = 4 then ⟨⟨[112, 108, 97, 110, 116]⟩⟩ else ⟨⟨[104, 97, 108, 108]⟩⟩
def bitB (w u : Int) : Bool := decide (w / 2 ^ u.toNat % 2 = 1)
def hasP (l : List (Int × Int)) (x : Int × Int) : Bool := l.any fun y => decide (x = y)
def mayQ (q : Q) (last : Option Int) (u : Int) : Bool :=
  decide (0 ≤ u) && (decide (u < 6) && (bitB q.uses u && (match last with | none => true | some w => !hasP q.never (w, u))))
def limS (u : Int) (l : Int) (e : ByteArray × Int) : Int := if e.1 = nameB u then max (-1) (min l e.2) else l
def limQ (q : Q) (u : Int) : Int := q.left.foldl (limS u) q.most
def prQ (q : Q) : Pr := ⟨mayQ q, limQ q, q.most⟩
def badP (p : Int × Int) : Bool := decide (min p.1 p.2 < 0) || decide (6 ≤ max p.1 p.2)
def validQ (q : Q) : Bool := decide (0 ≤ q.uses) && (decide (q.uses ≤ 63) && (decide (0 ≤ q.most) && (decide (q.left.length ≤ 30) && (decide (q.never.length ≤ 36) && !q.never.any badP))))
theorem validQ_iff {q : Q} : validQ q = true ↔ 0 ≤ q.uses ∧ q.uses ≤ 63 ∧ 0 ≤ q.most ∧ q.left.length ≤ 30 ∧ q.never.length ≤ 36 ∧ q.never.any badP = false := by
  unfold validQ
  simp only [Bool.and_eq_true, decide_eq_true_eq, Bool.not_eq_true']
theorem may_us {q : Q} : OnlyUs (prQ q) := by
  intro l u h
  have h : mayQ q l u = true := h
  unfold mayQ at h
  simp only [Bool.and_eq_true, decide_eq_true_eq] at h
  unfold us
  have h0 := h.1
  have h1 := h.2.1
  have : u = 0 ∨ u = 1 ∨ u = 2 ∨ u = 3 ∨ u = 4 ∨ u = 5 := by omega
  simp only [List.mem_cons, List.not_mem_nil, or_false]
  omega
theorem may_ge {q : Q} {l : Option Int} {u : Int} (h : mayQ q l u = true) : 0 ≤ u ∧ u < 6 := by
  unfold mayQ at h
  simp only [Bool.and_eq_true, decide_eq_true_eq] at h
  exact ⟨h.1, h.2.1⟩
theorem fold_le (u : Int) : ∀ (L : List (ByteArray × Int)) (l x : Int), 0 ≤ x → (x ≤ L.foldl (limS u) l ↔ x ≤ l ∧ ∀ e ∈ L, e.1 = nameB u → x ≤ e.2)
  | [], l, x, _ => by simp
  | e :: L, l, x, hx => by
    rw [List.foldl_cons, fold_le u L _ x hx]
    unfold limS
    by_cases h : e.1 = nameB u
    · rw [if_pos h]
      constructor
      · rintro ⟨h1, h2⟩
        refine ⟨by omega, fun e' he' hn => ?_⟩
        rcases List.mem_cons.1 he' with rfl | he'
        · omega
        · exact h2 e' he' hn
      · rintro ⟨h1, h2⟩
        have := h2 e List.mem_cons_self h
        exact ⟨by omega, fun e' he' hn => h2 e' (List.mem_cons_of_mem e he') hn⟩
    · rw [if_neg h]
      constructor
      · rintro ⟨h1, h2⟩
        refine ⟨h1, fun e' he' hn => ?_⟩
        rcases List.mem_cons.1 he' with rfl | he'
        · exact absurd hn h
        · exact h2 e' he' hn
      · rintro ⟨h1, h2⟩
        exact ⟨h1, fun e' he' hn => h2 e' (List.mem_cons_of_mem e he') hn⟩
theorem fold_hi (u : Int) : ∀ (L : List (ByteArray × Int)) (l : Int), -1 ≤ l → L.foldl (limS u) l ≤ l ∧ -1 ≤ L.foldl (limS u) l
  | [], l, h => ⟨Int.le_refl _, h⟩
  | e :: L, l, h => by
    have hs : -1 ≤ limS u l e ∧ limS u l e ≤ l := by unfold limS; split <;> omega
    have := fold_hi u L (limS u l e) hs.1
    rw [List.foldl_cons]
    omega
def leftOk (q : Q) (u x : Int) : Bool := q.left.all fun e => !decide (e.1 = nameB u) || decide (x ≤ e.2)
theorem leftOk_iff {q : Q} {u x : Int} : leftOk q u x = true ↔ ∀ e ∈ q.left, e.1 = nameB u → x ≤ e.2 := by
  unfold leftOk
  rw [List.all_eq_true]
  refine forall_congr' fun e => forall_congr' fun _ => ?_
  by_cases h : e.1 = nameB u <;> simp [h]
def goR (q : Q) : Option Int → (Int → Int) → List Int → List Int → Bool
  | _, _, _, [] => true
  | _, _, [], _ :: _ => false
  | prev, sums, a :: A, u :: c => mayQ q prev u && (leftOk q u (sums u + a) && goR q (some u) (fun w => if w = u then sums u + a else sums w) A c)
theorem go_nil (q : Q) (p : Option Int) (f : Int → Int) (A : List Int) : goR q p f A [] = true := by cases A <;> rfl
def inA (A : List Int) : Bool := A.all fun a => decide (1 ≤ a) && decide (a ≤ 1099511627776)
theorem inA_iff {A : List Int} : inA A = true ↔ ∀ a ∈ A, 1 ≤ a ∧ a ≤ 1099511627776 := by
  unfold inA
  rw [List.all_eq_true]
  refine forall_congr' fun e => forall_congr' fun _ => ?_
  simp
def fitR (q : Q) (A c : List Int) : Bool :=
  validQ q && (decide (A.length ≤ 12) && (decide (c.length ≤ A.length) && (inA A && (goR q none (fun _ => 0) A c && decide ((A.take c.length).sum ≤ q.most)))))
def fitS (q : Q) (A c : List Int) : Bool :=
  validQ q && (decide (A.length ≤ 12) && (decide (c.length ≤ A.length) && (inA A && fits (prQ q) A c)))
theorem sum_take_nonneg {A : List Int} (h : ∀ a ∈ A, 1 ≤ a ∧ a ≤ 1099511627776) (n : Nat) : 0 ≤ (A.take n).sum :=
  sum_nonneg fun a ha => by have := h a (List.mem_of_mem_take ha); omega
theorem last_snoc (c : List Int) (u : Int) : (c ++ [u]).getLast? = some u := by simp
theorem go_run {q : Q} (hm : 0 ≤ q.most) : ∀ (c : List Int) (s : Nd) (sums : Int → Int), (∀ a ∈ s.rem, 1 ≤ a ∧ a ≤ 1099511627776) → (∀ u, 0 ≤ sums u ∧ sums u ≤ s.v) → (∀ u, s.left u = limQ q u - sums u) → s.v ≤ q.most → c.length ≤ s.rem.length →
    ((goR q s.c.getLast? sums s.rem c = true ∧ s.v + (s.rem.take c.length).sum ≤ q.most) ↔ (run (prQ q) s c).isSome = true)
  | [], s, sums, _, _, _, hv, _ => by
    rw [go_nil]
    show (true = true ∧ s.v + (s.rem.take 0).sum ≤ q.most) ↔ (some s).isSome = true
    simp [hv]
  | u :: c, s, sums, hA, hs, hl, hv, hc => by
    cases hr : s.rem with
    | nil => rw [hr] at hc; exact absurd hc (Nat.not_succ_le_zero _)
    | cons a r =>
      rw [hr] at hA hc
      have ha := hA a List.mem_cons_self
      have hsu := hs u
      show ((mayQ q s.c.getLast? u && (leftOk q u (sums u + a) && goR q (some u) (fun w => if w = u then sums u + a else sums w) r c)) = true ∧ s.v + ((a :: r).take (c.length + 1)).sum ≤ q.most) ↔ _
      rw [run_cons, List.take_succ_cons, List.sum_cons]
      simp only [Bool.and_eq_true]
      have hn : next (prQ q) s u = if mayQ q s.c.getLast? u = true ∧ 0 ≤ s.left u - a ∧ s.v + a ≤ q.most then some (take s u a r) else none := by
        unfold next; rw [hr]; rfl
      have hk := fold_le u q.left q.most (sums u + a) (by omega)
      have hlu : s.left u = q.left.foldl (limS u) q.most - sums u := hl u
      have hlo := leftOk_iff (q := q) (u := u) (x := sums u + a)
      have h0 : 0 ≤ (r.take c.length).sum := sum_take_nonneg (fun a ha => hA a (List.mem_cons_of_mem _ ha)) c.length
      have ih := go_run hm c (take s u a r) (fun w => if w = u then sums u + a else sums w) (fun a ha => hA a (List.mem_cons_of_mem _ ha))
      have e1 : (take s u a r).c.getLast? = some u := last_snoc s.c u
      have e2 : (take s u a r).rem = r := rfl
      have e3 : (take s u a r).v = s.v + a := rfl
      rw [e1, e2, e3] at ih
      rw [hn]
      by_cases hc3 : mayQ q s.c.getLast? u = true ∧ 0 ≤ s.left u - a ∧ s.v + a ≤ q.most
      · rw [if_pos hc3]
        have ih := ih (fun w => by
            show 0 ≤ (if w = u then sums u + a else sums w) ∧ (if w = u then sums u + a else sums w) ≤ s.v + a
            have := hs w
            split <;> omega) (fun w => by
            show (if w = u then s.left u - a else s.left w) = _
            by_cases hw : w = u
            · subst hw; rw [if_pos rfl, if_pos rfl, hl]; omega
            · rw [if_neg hw, if_neg hw, hl]) hc3.2.2 (by simpa using hc)
        show _ ↔ (run (prQ q) (take s u a r) c).isSome = true
        rw [← ih]
        constructor
        · rintro ⟨⟨_, _, h3⟩, h4⟩; exact ⟨h3, by omega⟩
        · rintro ⟨h3, h4⟩
          exact ⟨⟨hc3.1, hlo.2 (hk.1 (by omega)).2, h3⟩, by omega⟩
      · rw [if_neg hc3]
        constructor
        · rintro ⟨⟨h1, h2, _⟩, h4⟩
          exact absurd ⟨h1, by have := hk.2 ⟨by omega, hlo.1 h2⟩; omega, by omega⟩ hc3
        · intro h; exact absurd h (by simp)
theorem fit_eq (q : Q) (A c : List Int) : fitR q A c = fitS q A c := by
  unfold fitR fitS
  cases hv : validQ q
  · rfl
  by_cases h1 : A.length ≤ 12
  case neg => rw [decide_eq_false h1]; rfl
  by_cases h2 : c.length ≤ A.length
  case neg => rw [decide_eq_false h2]; simp
  cases hA : inA A
  · simp
  have hm := (validQ_iff.1 hv).2.2.1
  have key := go_run hm c (root (prQ q) A) (fun _ => 0) (inA_iff.1 hA) (fun u => ⟨Int.le_refl _, Int.le_refl _⟩) (fun u => by show limQ q u = limQ q u - 0; omega) hm h2
  have e1 : (root (prQ q) A).c.getLast? = none := rfl
  have e2 : (root (prQ q) A).rem = A := rfl
  have e3 : (root (prQ q) A).v = 0 := rfl
  rw [e1, e2, e3, Int.zero_add] at key
  unfold fits
  rw [Bool.true_and, decide_eq_true h1, Bool.true_and, decide_eq_true h2, Bool.true_and, Bool.true_and, Bool.true_and, Bool.true_and, Bool.true_and, Bool.true_and]
  rw [Bool.eq_iff_iff, ← key, Bool.and_eq_true, decide_eq_true_eq]
end Go.Proofs.Ytcnafncmfiogcaa.Cp
namespace Go.Proofs.Ytcnafncmfiogcaa.Bm
open Go Go.RowKit
def entR : Rec (ByteArray × Int) where
  enc p := [.string p.1, .int .i64 p.2]
  m := 1
  len _ := rfl
  set _ := rfl
  bel _ _ := rfl
def pairR : Rec (Int × Int) where
  enc p := [.int .i64 p.1, .int .i64 p.2]
  m := 1
  len _ := rfl
  set _ := rfl
  bel _ _ := rfl
theorem ent_val (p : ByteArray × Int) : entR.val p = .agg ⟨[.string p.1, .int .i64 p.2]⟩ := rfl
theorem pair_val (p : Int × Int) : pairR.val p = .agg ⟨[.int .i64 p.1, .int .i64 p.2]⟩ := rfl
structure Pb where
  uses : Int
  kl : Option Bool
  left : List (ByteArray × Int)
  most : Int
  kn : Option Bool
  never : List (Int × Int)
def Pb.cells (p : Pb) : List Value := [.int .i64 p.uses, entR.o p.kl p.left, .int .i64 p.most, pairR.o p.kn p.never]
def Pb.val (p : Pb) : Value := .agg ⟨p.cells⟩
def Pb.obj (p : Pb) : AObj := .cells 26 p.cells 0
structure PbOk (p : Pb) : Prop where
  kl : Rec.Ok p.kl p.left
  kn : Rec.Ok p.kn p.never
  u : -9223372036854775808 ≤ p.uses ∧ p.uses ≤ 9223372036854775807
  m : -9223372036854775808 ≤ p.most ∧ p.most ≤ 9223372036854775807
  nl : p.left.length ≤ 40
  nn : p.never.length ≤ 40
theorem Pb.reify (p : Pb) (h : Heap) (n : Nat) : Bm.reify E.P (n + 1) h p.val = some p.val := by
  have hc : p.cells.all (settled depth) = true := by
    unfold Pb.cells depth
    simp only [List.all_cons, List.all_nil, set_int, Rec.o_set, Bool.and_self]
  show (reifyC E.P n h p.cells).map _ = _
  rw [reifyC_set hc]; rfl
theorem Pb.set (p : Pb) : settled depth p.val = true := by
  show p.cells.all (settled 7) = true
  unfold Pb.cells
  simp only [List.all_cons, List.all_nil, set_int, Rec.o_set, Bool.and_self]
theorem Pb.bel (p : Pb) (n : Nat) : belowO n p.obj = true := by
  show p.cells.all (below 8 n) = true
  unfold Pb.cells
  simp only [List.all_cons, List.all_nil, bel_int, Rec.o_bel, Bool.and_self]
theorem lit_int (h : Heap) (z : Int) : buildSliceT (some ⟨3, 1, 8, .int .i64 0, ⟨some false, some 1⟩⟩) false h 1 #[(0, .int .i64 z)] = some (lst true (intE.vals [z]), h) := Enc.lit (O := intE) z rfl rfl rfl
theorem lit_none (h : Heap) (b : Bool) : buildSliceT (some ⟨3, 1, 8, .int .i64 0, ⟨some false, some 1⟩⟩) b h 0 #[] = some (lst true [], h) := build_none'.trans rfl
theorem sI1 : szOf E.P 3 = some 1 := by kernel_rfl
theorem gI1 : aggT E.P 3 = some false := by kernel_rfl
def eqG {α : Type} [DecidableEq α] (a b : List α) : Bool := decide (a = b)
theorem eqG_cons {α : Type} [DecidableEq α] {a b : α} {x y : List α} : eqG (a :: x) (b :: y) = (decide (a = b) && eqG x y) := by
  unfold eqG; simp only [List.cons.injEq, Bool.decide_and]
def idxB {α : Type} (f : α → Bool) : List α → Int → Int
  | [], _ => -1
  | a :: l, i => if f a = true then i else idxB f l (i + 1)
theorem idxB_cons {α : Type} (f : α → Bool) (a : α) (l : List α) (i : Int) : idxB f (a :: l) i = if f a = true then i else idxB f l (i + 1) := rfl
theorem idxB_any {α : Type} (f : α → Bool) : ∀ (l : List α) (i : Int), 0 ≤ i → (l.any f = true → i ≤ idxB f l i) ∧ (l.any f = false → idxB f l i = -1)
  | [], _, _ => ⟨fun h => absurd h (by simp), fun _ => rfl⟩
  | a :: l, i, hi => by
    rw [idxB_cons, List.any_cons]
    have ih := idxB_any f l (i + 1) (by omega)
    by_cases h : f a = true
    · rw [if_pos h, h]; exact ⟨fun _ => Int.le_refl _, fun q => absurd q (by simp)⟩
    · rw [if_neg h, Bool.eq_false_iff.2 h, Bool.false_or]
      exact ⟨fun q => by have := ih.1 q; omega, ih.2⟩
theorem idxB_pos {α : Type} (f : α → Bool) (l : List α) : decide (0 ≤ idxB f l 0) = l.any f := by
  have h := idxB_any f l 0 (Int.le_refl _)
  cases q : l.any f
  · rw [h.2 q]; rfl
  · exact decide_eq_true (h.1 q)
theorem index_ints (k : Option Bool) (l : List Int) (z : Int) (hk : Enc.Ok k l) (hl : l.length ≤ 1000000) : pureCall E.P (L E) 40 [intE.o k l, .int .i64 z] = some (.int .i64 (idxB (fun a => decide (z = a)) l 0)) := by
  have ll := fun h => Enc.o_len (O := intE) (h := h) hk
  have il := fun (i : Nat) (hi : i < l.length) => Enc.index_o (O := intE) (t := 3) (k := .i64) hk hi
  generalize intE.o k l = VL at *
  rw [pureCall_fn F40 rfl]
  generalize hf : (fun a => decide (z = a)) = f
  simp -implicitDefEqProofs [r40, p40, ll]
  rw [LL_for (γ := Unit) l () (fun i _ => [(8, .int .i64 i)]) (fun _ _ => []) (fun i rest _ => if idxB f rest i = -1 then (.exit 0, [(8, undef)], []) else (.ret, [(4, .int .i64 (idxB f rest i)), (8, undef)], [])) (fun _ _ => True) (by omega) trivial]
  · rw [show ((0 : Nat) : Int) = 0 from rfl]
    by_cases q : idxB f l 0 = -1
    · simp -implicitDefEqProofs [k40_2, q]
    · simp -implicitDefEqProofs [k40_2, q]
  · simp -implicitDefEqProofs [k40_2]
  · rfl
  · intro nx i c hi _
    have e : ∀ z, idxB f [] z = -1 := fun _ => rfl
    simp -implicitDefEqProofs [r40_2, k40_2, hi, e, trim_le]
  · intro nx i v rest c hi hv hd hw _ ih
    have ih := ih () trivial
    have hi2 : ((i : Int) < l.length) := by omega
    have x1 := il i hi
    rw [hv] at x1
    have e2 : (((i + 1 : Nat) : Int)) = (i : Int) + 1 := by omega
    rw [e2] at ih
    rw [idxB_cons]
    simp -implicitDefEqProofs [k40_2] at ih
    have ef : f v = decide (z = v) := by rw [← hf]
    rw [ef]
    by_cases he : z = v
    · have hn : ¬ ((i : Int) = -1) := by omega
      subst he
      simp -implicitDefEqProofs [r40_2, k40_2, hi2, x1, hn, trim_le, intE]
    · simp -implicitDefEqProofs [r40_2, k40_2, hi2, x1, he, hw, trim_le, intE]
      exact ih
open Cp (badP hasP)
theorem bad_spec (p : Int × Int) : pureCall E.P (L E) 63 [pairR.val p] = some (.bool (badP p)) := by
  have mn : ∀ a b : Int, aMinMax false [.int .i64 a, .int .i64 b] = some (.int .i64 (min a b)) := fun a b => by
    show some (Value.int .i64 (if b < a then b else a)) = _
    congr 2
    omega
  have mx : ∀ a b : Int, aMinMax true [.int .i64 a, .int .i64 b] = some (.int .i64 (max a b)) := fun a b => by
    show some (Value.int .i64 (if b > a then b else a)) = _
    congr 2
    omega
  unfold badP
  rw [pureCall_fn F63 rfl, pair_val]
  generalize p.1 = a
  generalize p.2 = b
  have i0 : ∀ t, indexAddrT (.arr 2 ⟨some false, some 1⟩) (.pointer (some ⟨0, 0, none⟩)) (.int .i64 0) = some (.pointer (some ⟨0, 0, none⟩)) ∧ indexAddrT (.arr 2 ⟨some false, some 1⟩) (.pointer (some ⟨0, 0, none⟩)) (.int t 1) = some (.pointer (some ⟨0, 1, none⟩)) := fun t => ⟨rfl, rfl⟩
  have i0a := (i0 .i64).1
  have i0b := (i0 .i64).2
  by_cases h : min a b < 0
  · simp -implicitDefEqProofs [r63, p63, i0a, i0b, mn, h]
  · simp -implicitDefEqProofs [r63, p63, i0a, i0b, mn, mx, h]
end Go.Proofs.Ytcnafncmfiogcaa.Bm
namespace Go.Proofs.Ytcnafncmfiogcaa.Bm
open Go Go.RowKit
variable {h : Heap} {P : Program}
def cAt (b j : Nat) : Value := .pointer (some ⟨b, j, none⟩)
theorem arr_idx {len b off u : Nat} {k : IntKind} {g : Option Bool} (hu : u < len) : indexAddrT (.arr len ⟨g, some 1⟩) (.pointer (some ⟨b, off, none⟩)) (.int k (u : Int)) = some (cAt b (off + u)) := by
  show (if 0 ≤ (u : Int) ∧ (u : Int) < (len : Int) then (some 1).map fun s => Value.pointer (some (shift ⟨b, off, none⟩ ((u : Int).toNat * s))) else none) = _
  rw [if_pos ⟨by omega, by omega⟩, Int.toNat_natCast]
  simp [shift, cAt]
theorem arr_idxN {len b off u s : Nat} {k : IntKind} {g : Option Bool} (hu : u < len) : indexAddrT (.arr len ⟨g, some s⟩) (.pointer (some ⟨b, off, none⟩)) (.int k (u : Int)) = some (cAt b (off + u * s)) := by
  show (if 0 ≤ (u : Int) ∧ (u : Int) < (len : Int) then (some s).map fun s => Value.pointer (some (shift ⟨b, off, none⟩ ((u : Int).toNat * s))) else none) = _
  rw [if_pos ⟨by omega, by omega⟩, Int.toNat_natCast]
  simp [shift, cAt]
theorem arr_idxC {len b off u : Nat} {k : IntKind} {g : Option Bool} (hu : u < len) : indexAddrT (.arr len ⟨g, some 1⟩) (cAt b off) (.int k (u : Int)) = some (cAt b (off + u)) := arr_idx hu
theorem obj_row {b : Nat} {t : TypeId} {c : List Value} (hob : h[b]? = some (.cells t c 0)) {j : Nat} : rowOf h ⟨b, j, none⟩ = some c := by
  unfold rowOf
  show (match h[b]? with | some (.cells _ c g) => _ | _ => none) = _
  rw [hob]; rfl
theorem obj_load {b j : Nat} {t : TypeId} {c : List Value} {v : Value} {sz : Option Nat} (hob : h[b]? = some (.cells t c 0)) (hc : c[j]? = some v) : loadT ⟨some false, sz⟩ h (cAt b j) = some v := by
  unfold cAt
  rw [load_one, obj_row hob, Option.bind_some, hc]
theorem obj_store {b j lo : Nat} {t : TypeId} {c : List Value} {v : Value} (hob : h[b]? = some (.cells t c 0)) (hj : j < c.length) (hlo : lo ≤ b) (hv : cellsOf v = some [v]) : storeT (some 1) h lo v (cAt b j) = some (h.set b (.cells t (c.set j v) 0)) := by
  unfold cAt
  rw [store_ptr, hv, Option.bind_some, if_pos (show 1 = [v].length from rfl)]
  unfold wrN
  show (match h[b]? with | some (.cells t c g) => _ | _ => none) = _
  rw [hob]
  show (if _ then _ else none) = _
  rw [if_pos ⟨hlo, rfl, by simp, by simp; omega⟩]
  show some (h.set b (.cells t (splice c j [v]) 0)) = _
  rw [splice_one hj]
theorem obj_all {b n : Nat} {t : TypeId} {c : List Value} (hob : h[b]? = some (.cells t c 0)) (hn : c.length = n) : loadT ⟨some true, some n⟩ h (cAt b 0) = some (.agg ⟨c⟩) := by
  unfold cAt
  rw [load_agg, obj_row hob, Option.bind_some]
  show (if 0 + n ≤ c.length then some (Value.agg ((c.drop 0).take n).toArray) else none) = _
  rw [if_pos (by omega), List.drop_zero, List.take_of_length_le (by omega)]
theorem obj_put {b n lo : Nat} {t : TypeId} {c d : List Value} (hob : h[b]? = some (.cells t c 0)) (hn : c.length = n) (hd : d.length = n) (h0 : 0 < n) (hlo : lo ≤ b) : storeT (some n) h lo (.agg ⟨d⟩) (cAt b 0) = some (h.set b (.cells t d 0)) := by
  unfold cAt
  rw [store_ptr, cellsOf_agg, Option.bind_some, if_pos hd.symm]
  unfold wrN
  show (match h[b]? with | some (.cells t c g) => _ | _ => none) = _
  rw [hob]
  show (if _ then _ else none) = _
  rw [if_pos ⟨hlo, rfl, by show 0 < d.length; omega, by show 0 + d.length ≤ c.length; omega⟩]
  show some (h.set b (.cells t (splice c 0 d) 0)) = _
  unfold splice
  rw [List.take_zero, List.nil_append, List.drop_of_length_le (by omega), List.append_nil]
theorem obj_frz {b lo : Nat} {t : TypeId} {c : List Value} (hob : h[b]? = some (.cells t c 0)) (hs : szOf P t = some c.length) (ha : aggT P t = some true) (hlo : lo ≤ b) (hc : c.all (settled 8) = true) :
    freezeV P depth lo h (cAt b 0) = some (cptr (.agg ⟨c⟩), h.set b .dead) := by
  unfold cAt
  rw [frz_ptr8 hob hs ha hlo, if_pos hc]; rfl
theorem isCp_cptr {v : Value} : isCp (cptr v) = true := rfl
theorem rop_loadC {E : Env} {C : Callee} {lo : Nat} {k : TI} {x : Operand} {ρ : Operand → Value} (hc : isCp (ρ x) = true) : ropR E C lo true (.load k x) ρ h = (loadT k h (ρ x)).map (·, h) := by
  show (if (true && !isCp (ρ x)) = true then none else _) = _
  rw [hc]; rfl
end Go.Proofs.Ytcnafncmfiogcaa.Bm
namespace Go.Proofs.Ytcnafncmfiogcaa.Bm
open Go Go.RowKit
open Cp (Q nameB limS limQ mayQ prQ validQ badP hasP bitB)
def Pb.q (p : Pb) : Q := ⟨p.uses, p.left, p.most, p.never⟩
def stC (av : Value) (p : Pb) (L : List Int) (v : Int) : List Value := av :: (p.cells ++ (intE.vals L ++ [.int .i64 v]))
def stV (av : Value) (p : Pb) (L : List Int) (v : Int) : Value := .agg ⟨stC av p L v⟩
def stO (av : Value) (p : Pb) (L : List Int) (v : Int) : AObj := .cells 70 (stC av p L v) 0
theorem pb_len (p : Pb) : p.cells.length = 4 := rfl
theorem st_len {av : Value} {p : Pb} {L : List Int} {v : Int} (hL : L.length = 6) : (stC av p L v).length = 12 := by
  unfold stC
  simp [pb_len, Enc.vals_len, hL]
theorem st_left {av : Value} {p : Pb} {L : List Int} {v : Int} {u : Nat} (hu : u < L.length) : (stC av p L v)[5 + u]? = some (.int .i64 L[u]) := by
  unfold stC
  rw [show 5 + u = (4 + u) + 1 by omega, List.getElem?_cons_succ, List.getElem?_append_right (by rw [pb_len]; omega), pb_len, List.getElem?_append_left (by rw [Enc.vals_len]; omega), show 4 + u - 4 = u by omega]
  exact Enc.vals_get hu
theorem st_set {av : Value} {p : Pb} {L : List Int} {v z : Int} {u : Nat} (hu : u < L.length) : (stC av p L v).set (5 + u) (.int .i64 z) = stC av p (L.set u z) v := by
  unfold stC
  rw [show 5 + u = (4 + u) + 1 by omega, List.set_cons_succ, List.set_append_right _ _ (by rw [pb_len]; omega), pb_len, show 4 + u - 4 = u by omega, List.set_append_left _ _ (by rw [Enc.vals_len]; omega)]
  rw [show Value.int .i64 z = intE.e z from rfl, Enc.vals_put]
theorem pb_all (p : Pb) : p.cells.all (settled 8) = true := by
  unfold Pb.cells
  simp only [List.all_cons, List.all_nil, set_int, Rec.o_set, Bool.and_self]
theorem st_all {av : Value} {p : Pb} {L : List Int} {v : Int} (ha : settled 8 av = true) : (stC av p L v).all (settled 8) = true := by
  unfold stC
  rw [List.all_cons, ha, List.all_append, pb_all, List.all_append, Enc.vals_set]; rfl
theorem pb_bel (p : Pb) (d n : Nat) : p.cells.all (below (d + 1) n) = true := by
  unfold Pb.cells
  simp only [List.all_cons, List.all_nil, bel_int, Rec.o_bel, Bool.and_self]
theorem ints_bel (L : List Int) (d n : Nat) : (intE.vals L).all (below (d + 1) n) = true := by
  rw [List.all_eq_true]
  intro v hv
  obtain ⟨a, _, rfl⟩ := List.mem_map.1 hv
  rfl
theorem st_bel {av : Value} {p : Pb} {L : List Int} {v : Int} {d n : Nat} (ha : below (d + 1) n av = true) : (stC av p L v).all (below (d + 1) n) = true := by
  have e := ints_bel L d n
  unfold stC
  rw [List.all_cons, ha, List.all_append, pb_bel, List.all_append, e]; rfl
theorem cat_bel {b j d n : Nat} : below (d + 1) n (cAt b j) = decide (b < n) := rfl
def limN (q : Q) (n : Nat) : List Int := (List.range 6).map fun i => if i < n then limQ q i else 0
theorem limN_len (q : Q) (n : Nat) : (limN q n).length = 6 := by simp [limN]
theorem limN_get (q : Q) (n i : Nat) (hi : i < (limN q n).length) : (limN q n)[i] = if i < n then limQ q i else 0 := by simp [limN]
theorem limN_set (q : Q) (n : Nat) (l : Int) (h : l = limQ q n) : (limN q n).set n l = limN q (n + 1) := by
  apply List.ext_getElem
  · simp [limN]
  · intro i h1 h2
    rw [List.getElem_set, limN_get]
    by_cases e : n = i
    · subst e; rw [if_pos rfl, limN_get, if_pos (by omega), h]
    · rw [if_neg e, limN_get]
      by_cases q : i < n
      · rw [if_pos q, if_pos (by omega)]
      · rw [if_neg q, if_neg (by omega)]
def limL (q : Q) : List Int := limN q 6
def zSt : List Value := [.slice none 0 0, .int .i64 0, .slice none 0 0, .int .i64 0, .slice none 0 0, .int .i64 0, .int .i64 0, .int .i64 0, .int .i64 0, .int .i64 0, .int .i64 0, .int .i64 0]
def namesV : List Value := [.string ⟨⟨[104, 111, 109, 101]⟩⟩, .string ⟨⟨[115, 104, 111, 112]⟩⟩, .string ⟨⟨[119, 111, 114, 107]⟩⟩, .string ⟨⟨[112, 97, 114, 107]⟩⟩, .string ⟨⟨[112, 108, 97, 110, 116]⟩⟩, .string ⟨⟨[104, 97, 108, 108]⟩⟩]
theorem names_build : buildT (.arr ⟨[Value.string ⟨⟨[]⟩⟩, Value.string ⟨⟨[]⟩⟩, Value.string ⟨⟨[]⟩⟩, Value.string ⟨⟨[]⟩⟩, Value.string ⟨⟨[]⟩⟩, Value.string ⟨⟨[]⟩⟩]⟩ 1) #[(0, .string ⟨⟨[104, 111, 109, 101]⟩⟩), (1, .string ⟨⟨[115, 104, 111, 112]⟩⟩), (2, .string ⟨⟨[119, 111, 114, 107]⟩⟩), (3, .string ⟨⟨[112, 97, 114, 107]⟩⟩), (4, .string ⟨⟨[112, 108, 97, 110, 116]⟩⟩), (5, .string ⟨⟨[104, 97, 108, 108]⟩⟩)] = some (.agg ⟨namesV⟩) := rfl
theorem names_index (u : Nat) (hu : u < 6) : indexT (.arr 6 ⟨some false, some 1⟩) (.agg ⟨namesV⟩) (.int .i64 (u : Int)) = some (.string (nameB u)) := by
  have : u = 0 ∨ u = 1 ∨ u = 2 ∨ u = 3 ∨ u = 4 ∨ u = 5 := by omega
  rcases this with rfl | rfl | rfl | rfl | rfl | rfl <;> rfl
theorem st_build (ka : Option Bool) (A : List Int) (a b d e : Value) : buildT (.fs ⟨zSt⟩ ⟨[(0, 1), (1, 4), (5, 6), (11, 1)]⟩) #[(0, intE.o ka A), (1, .agg ⟨[a, b, d, e]⟩)] = some (.agg ⟨intE.o ka A :: ([a, b, d, e] ++ [.int .i64 0, .int .i64 0, .int .i64 0, .int .i64 0, .int .i64 0, .int .i64 0, .int .i64 0])⟩) := by
  cases ka with
  | none => rfl
  | some x => cases x <;> rfl
end Go.Proofs.Ytcnafncmfiogcaa.Bm
namespace Go.Proofs.Ytcnafncmfiogcaa.Bm
open Go Go.RowKit
open Cp (Q nameB limS limQ mayQ prQ validQ badP hasP bitB)
theorem minI (a b : Int) : aMinMax false [.int .i64 a, .int .i64 b] = some (.int .i64 (min a b)) := by
  show some (Value.int .i64 (if b < a then b else a)) = _
  congr 2
  omega
theorem maxI (a b : Int) : aMinMax true [.int .i64 a, .int .i64 b] = some (.int .i64 (max a b)) := by
  show some (Value.int .i64 (if b > a then b else a)) = _
  congr 2
  omega
set_option maxHeartbeats 1000000 in
theorem begin_spec (p : Pb) (hp : PbOk p) (ka : Option Bool) (A : List Int) : pureCall E.P (L E) 45 [intE.o ka A, p.val] = some (stV (intE.o ka A) p (limL p.q) 0) := by
  have so : settled 8 (intE.o ka A) = true := Enc.o_set
  have oo : one (intE.o ka A) = true := Enc.o_one
  have bo : ∀ n, below 8 n (intE.o ka A) = true := fun n => Enc.o_bel
  have sb := fun (L : List Int) => st_all (p := p) (L := L) (v := 0) so
  have bb := fun (L : List Int) (n : Nat) => st_bel (d := 7) (p := p) (L := L) (v := 0) (bo n)
  have bod : ∀ d n, below (d + 1) n (intE.o ka A) = true := fun d n => Enc.o_bel
  have nv : ∀ d n, namesV.all (below (d + 1) n) = true := fun d n => rfl
  have pn : ∀ d n, below (d + 1) n (pairR.o p.kn p.never) = true := fun d n => Rec.o_bel
  have pb := pb_bel p
  have sbu : buildT (.fs ⟨zSt⟩ ⟨[(0, 1), (1, 4), (5, 6), (11, 1)]⟩) #[(0, intE.o ka A), (1, .agg ⟨p.cells⟩)] = _ := st_build ka A _ _ _ _
  generalize intE.o ka A = av at *
  have ln := fun h => Rec.o_len (R := entR) (h := h) hp.kl
  have ix := fun (i : Nat) (hi : i < p.left.length) => Rec.o_index (R := entR) (s := 2) (t := 60) (kk := .i64) rfl hp.kl hi
  have l0 : ∀ t, loadT ⟨some true, some 4⟩ (AObj.cells 26 p.cells 0 :: t) (.pointer (some ⟨0, 0, none⟩)) = some (.agg ⟨p.cells⟩) := fun t => obj_all (b := 0) rfl rfl
  have l1 : ∀ t, loadT ⟨some false, some 1⟩ (AObj.cells 26 p.cells 0 :: t) (.pointer (some ⟨0, 1, none⟩)) = some (entR.o p.kl p.left) := fun t => obj_load (b := 0) (j := 1) rfl rfl
  have l2 : ∀ t, loadT ⟨some false, some 1⟩ (AObj.cells 26 p.cells 0 :: t) (.pointer (some ⟨0, 2, none⟩)) = some (.int .i64 p.most) := fun t => obj_load (b := 0) (j := 2) rfl rfl
  have bl : ∀ d n, below (d + 1) n (entR.o p.kl p.left) = true := fun d n => Rec.o_bel
  have nl := hp.nl
  have s0 : ∀ a b, storeT (some 12) [a, b, AObj.cells 70 zSt 0] 0 (.agg ⟨av :: (p.cells ++ [.int .i64 0, .int .i64 0, .int .i64 0, .int .i64 0, .int .i64 0, .int .i64 0, .int .i64 0])⟩) (.pointer (some ⟨2, 0, none⟩)) = some [a, b, AObj.cells 70 (stC av p (limN p.q 0) 0) 0] := fun a b =>
    (obj_put (h := [a, b, AObj.cells 70 zSt 0]) (b := 2) (n := 12) (lo := 0) (t := 70) (c := zSt) (d := av :: (p.cells ++ [.int .i64 0, .int .i64 0, .int .i64 0, .int .i64 0, .int .i64 0, .int .i64 0, .int .i64 0])) rfl rfl rfl (by decide) (Nat.zero_le _)).trans rfl
  rw [pureCall_fn F45 rfl]
  unfold Pb.val
  unfold zSt at s0 sbu
  simp -implicitDefEqProofs [r45, p45, l0, names_build, sbu]
  have ai := fun (u : Nat) (hu : u < 6) => arr_idx (b := 2) (off := 5) (len := 6) (k := .i64) (g := some false) hu
  have lC := fun (L : List Int) (hL : L.length = 6) => st_len (av := av) (p := p) (v := 0) hL
  have ll := limN_len p.q
  have stf : ∀ (e : Heap) (L : List Int) (u : Nat) (z : Int), L.length = 6 → u < 6 → storeT (some 1) (AObj.cells 26 p.cells 0 :: AObj.cells 70 zSt 0 :: AObj.cells 70 (stC av p L 0) 0 :: e) 0 (.int .i64 z) (cAt 2 (5 + u)) =
      some (AObj.cells 26 p.cells 0 :: AObj.cells 70 zSt 0 :: AObj.cells 70 (stC av p (L.set u z) 0) 0 :: e) := fun e L u z hL hu => by
    rw [obj_store (b := 2) (lo := 0) (t := 70) (c := stC av p L 0) rfl (by rw [st_len hL]; omega) (Nat.zero_le _) rfl, st_set (by omega)]; rfl
  have ldf : ∀ (e : Heap) (L : List Int) (u : Nat) (hL : L.length = 6) (hu : u < 6), loadT ⟨some false, some 1⟩ (AObj.cells 26 p.cells 0 :: AObj.cells 70 zSt 0 :: AObj.cells 70 (stC av p L 0) 0 :: e) (cAt 2 (5 + u)) = some (.int .i64 (L[u]'(by omega))) :=
    fun e L u hL hu => obj_load (b := 2) (t := 70) (c := stC av p L 0) rfl (st_left (by omega))
  have lda : loadT ⟨some true, some 12⟩ [AObj.cells 26 p.cells 0, AObj.cells 70 zSt 0, AObj.cells 70 (stC av p (limL p.q) 0) 0] (.pointer (some ⟨2, 0, none⟩)) = some (.agg ⟨stC av p (limL p.q) 0⟩) := obj_all (b := 2) rfl (lC _ (ll 6))
  have sta : storeT (some 12) [AObj.cells 26 p.cells 0, AObj.cells 70 zSt 0, AObj.cells 70 (stC av p (limL p.q) 0) 0] 0 (.agg ⟨stC av p (limL p.q) 0⟩) (.pointer (some ⟨1, 0, none⟩)) = some [AObj.cells 26 p.cells 0, AObj.cells 70 (stC av p (limL p.q) 0) 0, AObj.cells 70 (stC av p (limL p.q) 0) 0] :=
    (obj_put (h := [AObj.cells 26 p.cells 0, AObj.cells 70 zSt 0, AObj.cells 70 (stC av p (limL p.q) 0) 0]) (b := 1) (n := 12) (lo := 0) (t := 70) (c := zSt) rfl rfl (lC _ (ll 6)) (by decide) (Nat.zero_le _)).trans rfl
  have ldr : loadT ⟨some true, some 12⟩ [AObj.cells 26 p.cells 0, AObj.cells 70 (stC av p (limL p.q) 0) 0, AObj.cells 70 (stC av p (limL p.q) 0) 0] (.pointer (some ⟨1, 0, none⟩)) = some (.agg ⟨stC av p (limL p.q) 0⟩) := obj_all (b := 1) rfl (lC _ (ll 6))
  rw [LL_rec (α := Nat) 0 (fun u => [(14, .int .i64 (u : Int))]) (fun u => [AObj.cells 26 p.cells 0, AObj.cells 70 zSt 0, AObj.cells 70 (stC av p (limN p.q u) 0) 0])
    (fun _ => (.exit 0, [(14, undef)], [AObj.cells 26 p.cells 0, AObj.cells 70 zSt 0, AObj.cells 70 (stC av p (limL p.q) 0) 0])) (fun u => u ≤ 6) (fun u => 6 - u) (Nat.zero_le _)]
  · have sb := sb (limL p.q)
    simp -implicitDefEqProofs [k45_3, lda, sta, ldr, reifyC_set, sb]
    rfl
  · simp -implicitDefEqProofs [k45_3]
  · rfl
  · intro nx u hu ih
    by_cases h6 : u < 6
    · have hu' : (u : Int) < 6 := by omega
      have iu := names_index u h6
      have au := ai u h6
      have hw : IntKind.i64.wrap ((u : Int) + 1) = ((u + 1 : Nat) : Int) := (wrap64 (by omega) (by omega)).trans (by omega)
      have sf := stf [] (limN p.q u) u p.most (ll u) h6
      simp -implicitDefEqProofs [r45_3, k45_3, hu', iu, au, l1, l2, ln, sf]
      rw [LL_for (γ := Int) p.left p.most (fun i _ => [(26, .int .i64 i)]) (fun _ l => [AObj.cells 26 p.cells 0, AObj.cells 70 zSt 0, AObj.cells 70 (stC av p ((limN p.q u).set u l) 0) 0])
        (fun _ rest l => (.exit 2, [(26, undef)], [AObj.cells 26 p.cells 0, AObj.cells 70 zSt 0, AObj.cells 70 (stC av p ((limN p.q u).set u (rest.foldl (limS u) l)) 0) 0])) (fun _ _ => True) (by omega) trivial]
      · have ih := ih (u + 1) (by omega) (by omega)
        rw [← limN_set p.q u (p.left.foldl (limS u) p.most) rfl] at ih
        simp -implicitDefEqProofs [k45_3, -Int.natCast_add] at ih
        simp -implicitDefEqProofs [k45_7, hw, trim_le, -Int.natCast_add]
        exact ih
      · simp -implicitDefEqProofs [k45_7]
      · rfl
      · intro nx i l hi _
        simp -implicitDefEqProofs [r45_7, k45_7, hi, trim_le]
      · intro nx i v rest l hi hv hd hwi _ ih
        have hi' : (i : Int) < (p.left.length : Int) := by omega
        have xi := ix i hi
        rw [hv, ent_val] at xi
        have hL : ((limN p.q u).set u l).length = 6 := by rw [List.length_set, ll]
        have ld := fun e => ldf e _ u hL h6
        have sd := fun e z => stf e _ u z hL h6
        simp only [List.getElem_set_self] at ld
        have b0 := bb ((limN p.q u).set u l)
        have bz : ∀ n, zSt.all (below 8 n) = true := fun n => rfl
        rw [List.foldl_cons]
        have es : ∀ l, limS u l v = if v.1 = nameB u then max (-1) (min l v.2) else l := fun l => rfl
        rw [es]
        by_cases hn : v.1 = nameB u
        · have ih := ih (max (-1) (min l v.2)) trivial
          simp -implicitDefEqProofs [k45_7, -Int.natCast_add] at ih
          have b1 := bb ((limN p.q u).set u (max (-1) (min l v.2)))
          rw [if_pos hn]
          simp -implicitDefEqProofs [r45_7, k45_7, hi', xi, hn, au, ld, sd, minI, maxI, hwi, trim_cut, pb, b1, bz, bo, bod, bl, nv, pn, cat_bel, -List.all_eq_true, -Int.natCast_add]
          exact ih
        · have ih := ih l trivial
          simp -implicitDefEqProofs [k45_7, -Int.natCast_add] at ih
          rw [if_neg hn]
          simp -implicitDefEqProofs [r45_7, k45_7, hi', xi, hn, hwi, trim_cut, pb, b0, bz, bo, bod, bl, nv, pn, cat_bel, -List.all_eq_true, -Int.natCast_add]
          exact ih
    · have : u = 6 := by omega
      subst this
      simp -implicitDefEqProofs [r45_3, k45_3, trim_le, limL]
end Go.Proofs.Ytcnafncmfiogcaa.Bm
namespace Go.Proofs.Ytcnafncmfiogcaa.Bm
open Go Go.RowKit
open Cp (Q nameB limS limQ mayQ prQ validQ badP hasP bitB)
theorem eql_arr2 (a b c d : Int) : aBin E.P .eql 61 (.agg ⟨[.int .i64 a, .int .i64 b]⟩) (.agg ⟨[.int .i64 c, .int .i64 d]⟩) = (allOf [some (a == c), some (b == d)]).map .bool := by kernel_rfl
theorem eql_pair (x y : Int × Int) : aBin E.P .eql 61 (.agg ⟨[.int .i64 x.1, .int .i64 x.2]⟩) (.agg ⟨[.int .i64 y.1, .int .i64 y.2]⟩) = some (.bool (decide (x = y))) := by
  rw [eql_arr2]
  obtain ⟨a, b⟩ := x
  obtain ⟨c, d⟩ := y
  rw [show (a == c) = decide (a = c) from rfl, show (b == d) = decide (b = d) from rfl]
  by_cases h1 : a = c <;> by_cases h2 : b = d <;> simp [allOf, h1, h2]
theorem index_pairs (k : Option Bool) (l : List (Int × Int)) (x : Int × Int) (hk : Rec.Ok k l) (hl : l.length ≤ 1000000) : pureCall E.P (L E) 79 [pairR.o k l, .agg ⟨[.int .i64 x.1, .int .i64 x.2]⟩] = some (.int .i64 (idxB (fun y => decide (x = y)) l 0)) := by
  have ll := fun h => Rec.o_len (R := pairR) (h := h) hk
  have il := fun (i : Nat) (hi : i < l.length) => Rec.o_index (R := pairR) (s := 2) (t := 61) (kk := .i64) rfl hk hi
  have bl : ∀ d n, below (d + 1) n (pairR.o k l) = true := fun d n => Rec.o_bel
  generalize pairR.o k l = VL at *
  rw [pureCall_fn F79 rfl]
  generalize hf : (fun y => decide (x = y)) = f
  simp -implicitDefEqProofs [r79, p79, ll]
  rw [LL_for (γ := Unit) l () (fun i _ => [(8, .int .i64 i)]) (fun _ _ => [.cells 61 [.int .i64 x.1, .int .i64 x.2] 0]) (fun i rest _ => if idxB f rest i = -1 then (.exit 0, [(8, undef)], [.cells 61 [.int .i64 x.1, .int .i64 x.2] 0]) else (.ret, [(4, .int .i64 (idxB f rest i)), (8, undef)], [.cells 61 [.int .i64 x.1, .int .i64 x.2] 0])) (fun _ _ => True) (by omega) trivial]
  · rw [show ((0 : Nat) : Int) = 0 from rfl]
    by_cases q : idxB f l 0 = -1
    · simp -implicitDefEqProofs [k79_2, q]
    · simp -implicitDefEqProofs [k79_2, q]
  · simp -implicitDefEqProofs [k79_2]
  · rfl
  · intro nx i c hi _
    have e : ∀ z, idxB f [] z = -1 := fun _ => rfl
    simp -implicitDefEqProofs [r79_2, k79_2, hi, e, trim_le]
  · intro nx i v rest c hi hv hd hw _ ih
    have ih := ih () trivial
    have hi2 : ((i : Int) < l.length) := by omega
    have x1 := il i hi
    rw [hv, pair_val] at x1
    have e2 : (((i + 1 : Nat) : Int)) = (i : Int) + 1 := by omega
    rw [e2] at ih
    rw [idxB_cons]
    simp -implicitDefEqProofs [k79_2] at ih
    have ef : f v = decide (x = v) := by rw [← hf]
    have eq := eql_pair x v
    rw [ef]
    by_cases he : x = v
    · have hn : ¬ ((i : Int) = -1) := by omega
      rw [decide_eq_true he] at eq ⊢
      simp -implicitDefEqProofs [r79_2, k79_2, hi2, x1, eq, hn, trim_le]
    · rw [decide_eq_false he] at eq ⊢
      simp -implicitDefEqProofs [r79_2, k79_2, hi2, x1, eq, hw, trim_le]
      exact ih
theorem contains_pairs (k : Option Bool) (l : List (Int × Int)) (x : Int × Int) (hk : Rec.Ok k l) (hl : l.length ≤ 1000000) : pureCall E.P (L E) 64 [pairR.o k l, .agg ⟨[.int .i64 x.1, .int .i64 x.2]⟩] = some (.bool (hasP l x)) := by
  have h := index_pairs k l x hk hl
  have hp := idxB_pos (fun y => decide (x = y)) l
  have so : ∀ h, reify E.P 8 h (pairR.o k l) = some (pairR.o k l) := fun h => Rec.o_reify
  generalize pairR.o k l = VL at *
  rw [pureCall_fn F64 rfl]
  unfold hasP
  rw [← hp]
  generalize idxB (fun y => decide (x = y)) l 0 = z at *
  simp -implicitDefEqProofs [r64, p64, ret0 m79, so, h, reifyC_set]
theorem indexF_pairs (k : Option Bool) (l : List (Int × Int)) (hk : Rec.Ok k l) (hl : l.length ≤ 1000000) : pureCall E.P (L E) 78 [pairR.o k l, .func (.func 63) #[] #[]] = some (.int .i64 (idxB badP l 0)) := by
  have ll := fun h => Rec.o_len (R := pairR) (h := h) hk
  have il := fun (i : Nat) (hi : i < l.length) => Rec.o_index (R := pairR) (s := 2) (t := 61) (kk := .i64) rfl hk hi
  generalize pairR.o k l = VL at *
  rw [pureCall_fn F78 rfl]
  simp -implicitDefEqProofs [r78, p78, ll]
  rw [LL_for (γ := Unit) l () (fun i _ => [(8, .int .i64 i)]) (fun _ _ => []) (fun i rest _ => if idxB badP rest i = -1 then (.exit 0, [(8, undef)], []) else (.ret, [(4, .int .i64 (idxB badP rest i)), (8, undef)], [])) (fun _ _ => True) (by omega) trivial]
  · rw [show ((0 : Nat) : Int) = 0 from rfl]
    by_cases q : idxB badP l 0 = -1
    · simp -implicitDefEqProofs [k78_2, q]
    · simp -implicitDefEqProofs [k78_2, q]
  · simp -implicitDefEqProofs [k78_2]
  · rfl
  · intro nx i c hi _
    have e : ∀ z, idxB badP [] z = -1 := fun _ => rfl
    simp -implicitDefEqProofs [r78_2, k78_2, hi, e, trim_le]
  · intro nx i v rest c hi hv hd hw _ ih
    have ih := ih () trivial
    have hi2 : ((i : Int) < l.length) := by omega
    have x1 := il i hi
    have hb := bad_spec v
    have rp : ∀ h, reify E.P 8 h (.agg ⟨[.int .i64 v.1, .int .i64 v.2]⟩) = some (.agg ⟨[.int .i64 v.1, .int .i64 v.2]⟩) := fun h => rfl
    rw [hv, pair_val] at x1
    rw [pair_val] at hb
    have e2 : (((i + 1 : Nat) : Int)) = (i : Int) + 1 := by omega
    rw [e2] at ih
    rw [idxB_cons]
    simp -implicitDefEqProofs [k78_2] at ih
    cases he : badP v
    · rw [he] at hb
      simp -implicitDefEqProofs [r78_2, k78_2, hi2, x1, ret0 m63, rp, hb, hw, trim_le]
      exact ih
    · rw [he] at hb
      have hn : ¬ ((i : Int) = -1) := by omega
      simp -implicitDefEqProofs [r78_2, k78_2, hi2, x1, ret0 m63, rp, hb, hn, trim_le]
theorem containsF_pairs (k : Option Bool) (l : List (Int × Int)) (hk : Rec.Ok k l) (hl : l.length ≤ 1000000) : pureCall E.P (L E) 62 [pairR.o k l, .func (.func 63) #[] #[]] = some (.bool (l.any badP)) := by
  have h := indexF_pairs k l hk hl
  have hp := idxB_pos badP l
  have so : ∀ h, reify E.P 8 h (pairR.o k l) = some (pairR.o k l) := fun h => Rec.o_reify
  generalize pairR.o k l = VL at *
  rw [pureCall_fn F62 rfl]
  rw [← hp]
  generalize idxB badP l 0 = z at *
  simp -implicitDefEqProofs [r62, p62, ret0 m78, so, h]
theorem pb_ld (p : Pb) (j : Nat) (v : Value) (h : p.cells[j]? = some v) (t : Heap) : loadT ⟨some false, some 1⟩ (AObj.cells 26 p.cells 0 :: t) (.pointer (some ⟨0, j, none⟩)) = some v := obj_load (b := 0) (j := j) rfl h
theorem valid_spec (p : Pb) (hp : PbOk p) : pureCall E.P (L E) 41 [p.val] = some (.bool (validQ p.q)) := by
  have c := containsF_pairs p.kn p.never hp.kn (by have := hp.nn; omega)
  have so : ∀ h, reify E.P 8 h (pairR.o p.kn p.never) = some (pairR.o p.kn p.never) := fun h => Rec.o_reify
  have l0 := pb_ld p 0 _ rfl
  have l1 := pb_ld p 1 _ rfl
  have l2 := pb_ld p 2 _ rfl
  have l3 := pb_ld p 3 _ rfl
  have n1 := fun h => Rec.o_len (R := entR) (h := h) hp.kl
  have n3 := fun h => Rec.o_len (R := pairR) (h := h) hp.kn
  have e : validQ p.q = (decide (0 ≤ p.uses) && (decide (p.uses ≤ 63) && (decide (0 ≤ p.most) && (decide (p.left.length ≤ 30) && (decide (p.never.length ≤ 36) && !p.never.any badP))))) := rfl
  have rf : ∀ h, reify E.P 8 h (.func (.func 63) #[] #[]) = some (.func (.func 63) #[] #[]) := fun h => rfl
  rw [e]
  rw [pureCall_fn F41 rfl]
  unfold Pb.val
  generalize p.never.any badP = nb at *
  by_cases q1 : p.uses < 0
  · have : ¬ 0 ≤ p.uses := by omega
    simp -implicitDefEqProofs [r41, p41, l0, q1, this]
  have q1' : 0 ≤ p.uses := by omega
  by_cases q2 : 64 ≤ p.uses
  · have : ¬ p.uses ≤ 63 := by omega
    simp -implicitDefEqProofs [r41, p41, l0, q1, q2, this]
  have q2' : p.uses ≤ 63 := by omega
  by_cases q3 : p.most < 0
  · have : ¬ 0 ≤ p.most := by omega
    simp -implicitDefEqProofs [r41, p41, l0, l2, q1, q2, q3, this]
  have q3' : 0 ≤ p.most := by omega
  by_cases q4 : (30 : Int) < p.left.length
  · have : ¬ p.left.length ≤ 30 := by omega
    simp -implicitDefEqProofs [r41, p41, l0, l1, l2, n1, q1, q2, q3, q4, this]
  have q4' : p.left.length ≤ 30 := by omega
  by_cases q5 : (36 : Int) < p.never.length
  · have : ¬ p.never.length ≤ 36 := by omega
    simp -implicitDefEqProofs [r41, p41, l0, l1, l2, l3, n1, n3, q1, q2, q3, q4, q5, this]
  have q5' : p.never.length ≤ 36 := by omega
  simp -implicitDefEqProofs [r41, p41, l0, l1, l2, l3, n1, n3, q1, q2, q3, q4, q5, q1', q2', q3', q4', q5', ret0 m62, so, rf, c]
end Go.Proofs.Ytcnafncmfiogcaa.Bm
