/-
  Chapter 26: how a choice goes on with a use that may stand, walked; whole choices; their reach. Conditions: areas in their range.
-/
import Derived.Test.YtcnafncmfiogcaaQI18
import Derived.Test.YtcnafncmfiogcaaQI24
namespace Go.Proofs.Ytcnafncmfiogcaa.Cp
def TrL (f : Nd → List Br → Prop) : List Nd → List Br → Prop
  | [], L => L = []
  | t :: ts, L => ∃ l L', L = l ++ L' ∧ f t l ∧ TrL f ts L'
def Leaf (P : Pr) (B : Int) (s : Nd) (l : List Br) : Prop := l = [⟨0, reach P s⟩] ∧ (conts P s = [] → s.v ≤ B) ∧ (conts P s ≠ [] → reach P s ≤ B)
def Tr (P : Pr) (B : Int) : Nat → Nd → List Br → Prop
  | 0, s, l => Leaf P B s l
  | n + 1, s, l => Leaf P B s l ∨ ∃ L, l = ⟨(conts P s).length, reach P s⟩ :: L ∧ conts P s ≠ [] ∧ s.v ≤ B ∧ TrL (Tr P B n) (conts P s) L
theorem kidsU_ge {P : Pr} (hP : OnlyUs P) (n : Nat) : ∀ (ts : List Nd) (a : VB), (∀ t ∈ ts, t.rem.length ≤ n ∧ Good P t) → a.1 ≤ (kidsU (sr P n) ts a).1.1
  | [], _, _ => Int.le_refl _
  | t :: ts, a, h => by
    have h0 := h t List.mem_cons_self
    exact Int.le_trans (sr_told hP n t a h0.1 h0.2).ge (kidsU_ge hP n ts _ fun w hw => h w (List.mem_cons_of_mem t hw))
theorem kidsU_tr {P : Pr} (hP : OnlyUs P) {n : Nat} (ih : ∀ (s : Nd) (a : VB) (B : Int), s.rem.length ≤ n → Good P s → (sr P n s a).1.1 ≤ B → Tr P B n s (sr P n s a).2) :
    ∀ (ts : List Nd) (a : VB) (B : Int), (∀ t ∈ ts, t.rem.length ≤ n ∧ Good P t) → (kidsU (sr P n) ts a).1.1 ≤ B → TrL (Tr P B n) ts (kidsU (sr P n) ts a).2
  | [], _, _, _, _ => rfl
  | t :: ts, a, B, h, hB => by
    have h0 := h t List.mem_cons_self
    have hr := fun w hw => h w (List.mem_cons_of_mem t hw)
    exact ⟨_, _, rfl, ih t a B h0.1 h0.2 (Int.le_trans (kidsU_ge hP n ts _ hr) hB), kidsU_tr hP ih ts _ B hr hB⟩
theorem conts_nil {P : Pr} {s : Nd} (h : s.rem.length = 0) : conts P s = [] := by
  have : s.rem = [] := List.eq_nil_of_length_eq_zero h
  apply List.filterMap_eq_nil_iff.2
  intro u _
  unfold next; rw [this]
theorem sr_tr {P : Pr} (hP : OnlyUs P) : ∀ (n : Nat) (s : Nd) (a : VB) (B : Int), s.rem.length ≤ n → Good P s → (sr P n s a).1.1 ≤ B → Tr P B n s (sr P n s a).2
  | 0, s, a, B, hn, g, h => by
    have hc := conts_nil (P := P) (s := s) (by omega)
    have hu := (upd_ge s a).2
    have h : (upd s a).1 ≤ B := h
    exact ⟨rfl, fun _ => Int.le_trans hu h, fun q => absurd hc q⟩
  | n + 1, s, a, B, hn, g, h => by
    have hu := (upd_ge s a).2
    by_cases q : (upd s a).1 < reach P s
    · rw [sr_pos P n s a q] at h ⊢
      have h1 := kidsU_ge hP n (conts P s) (upd s a) (conts_good hn g)
      have h : (kidsU (sr P n) (conts P s) (upd s a)).1.1 ≤ B := h
      by_cases hc : conts P s = []
      · refine .inl ⟨?_, fun _ => by omega, fun k => absurd hc k⟩
        show (⟨(conts P s).length, reach P s⟩ : Br) :: (kidsU (sr P n) (conts P s) (upd s a)).2 = _
        rw [hc]; rfl
      · exact .inr ⟨_, rfl, hc, by omega, kidsU_tr hP (sr_tr hP n) _ _ B (conts_good hn g) h⟩
    · rw [sr_neg P n s a q] at h ⊢
      have h : (upd s a).1 ≤ B := h
      exact .inl ⟨rfl, fun _ => by omega, fun _ => by omega⟩
def Prv (P : Pr) (n : Nat) (s : Nd) (l : List Br) (m : Int) : Prop := ∃ o, (∀ r, prv P n s (l ++ r) = some (m, o, r)) ∧ le2 l o
def PrvL (P : Pr) (n : Nat) (ts : List Nd) (L : List Br) (m m' : Int) : Prop := ∃ o, (∀ r, forest (prv P n) ts m (L ++ r) = some (m', o, r)) ∧ le2 L o
theorem prvL_cons {P : Pr} {n : Nat} {t : Nd} {ts : List Nd} {l L : List Br} {m x y : Int} (h : Prv P n t l x) (k : PrvL P n ts L (max m x) y) : PrvL P n (t :: ts) (l ++ L) m y := by
  obtain ⟨o, h1, h2⟩ := h
  obtain ⟨o', k1, k2⟩ := k
  refine ⟨o ++ o', fun r => ?_, le2_append h2 k2⟩
  rw [List.append_assoc]
  exact forest_mk (h1 (L ++ r)) (k1 r)
theorem trL_prv {P : Pr} {B : Int} {n : Nat} (ih : ∀ (s : Nd) (l : List Br), s.rem.length ≤ n → Good P s → Tr P B n s l → ∃ m, Prv P n s l m ∧ m ≤ B) :
    ∀ (ts : List Nd) (L : List Br) (m : Int), (∀ t ∈ ts, t.rem.length ≤ n ∧ Good P t) → TrL (Tr P B n) ts L → ∃ m', PrvL P n ts L m m' ∧ m ≤ m' ∧ (m ≤ B → m' ≤ B)
  | [], L, m, _, h => by
    have h : L = [] := h
    subst h
    exact ⟨m, ⟨[], fun _ => rfl, trivial⟩, Int.le_refl _, fun h => h⟩
  | t :: ts, _, m, ht, ⟨l, L', e, h1, h2⟩ => by
    have h0 := ht t List.mem_cons_self
    obtain ⟨x, p1, p2⟩ := ih t l h0.1 h0.2 h1
    obtain ⟨y, q1, q2, q3⟩ := trL_prv ih ts L' (max m x) (fun w hw => ht w (List.mem_cons_of_mem t hw)) h2
    subst e
    exact ⟨y, prvL_cons p1 q1, by omega, fun h => q3 (by omega)⟩
theorem prv_leaf {P : Pr} {n : Nat} {s : Nd} (hn : s.rem.length ≤ n) (g : Good P s) : Prv P n s [⟨0, reach P s⟩] (if conts P s = [] then s.v else reach P s) := by
  have hr := good_reach g
  cases n with
  | zero =>
    rw [if_pos (conts_nil (by omega))]
    refine ⟨[⟨0, s.v⟩], fun r => ?_, rfl, hr, trivial⟩
    show prv P 0 s (⟨0, reach P s⟩ :: r) = _
    rw [prv_zero, if_pos rfl]
  | succ n =>
    by_cases hc : conts P s = []
    · rw [if_pos hc]
      refine ⟨[⟨0, s.v⟩], fun r => ?_, rfl, hr, trivial⟩
      show prv P (n + 1) s (⟨0, reach P s⟩ :: r) = _
      rw [prv_succ, hc, if_pos rfl]; rfl
    · rw [if_neg hc]
      refine ⟨[⟨0, reach P s⟩], fun r => ?_, rfl, Int.le_refl _, trivial⟩
      show prv P (n + 1) s (⟨0, reach P s⟩ :: r) = _
      have : (conts P s).length ≠ 0 := fun h => hc (List.eq_nil_of_length_eq_zero h)
      rw [prv_succ, if_neg (by show ¬ (0 : Int) = _; omega), if_pos rfl]
theorem prv_node {P : Pr} (hP : OnlyUs P) {n : Nat} {s : Nd} {L : List Br} {m : Int} (hn : s.rem.length ≤ n + 1) (g : Good P s) (h : PrvL P n (conts P s) L s.v m) : Prv P (n + 1) s (⟨(conts P s).length, reach P s⟩ :: L) m := by
  obtain ⟨o, h1, h2⟩ := h
  refine ⟨⟨(conts P s).length, m⟩ :: o, fun r => ?_, rfl, ?_, h2⟩
  · show prv P (n + 1) s (⟨(conts P s).length, reach P s⟩ :: (L ++ r)) = _
    rw [prv_succ, if_pos rfl, h1 r]
  · refine forest_le (h1 []) (good_reach g) fun t ht l y hy => ?_
    obtain ⟨u, hu⟩ := conts_mem ht
    have := next_rem hu
    have := (prv_sound hP n t l y (by omega) (next_good g hu) hy).le
    rw [next_reach hu] at this
    exact this
theorem tr_prv {P : Pr} (hP : OnlyUs P) {B : Int} : ∀ (n : Nat) (s : Nd) (l : List Br), s.rem.length ≤ n → Good P s → Tr P B n s l → ∃ m, Prv P n s l m ∧ m ≤ B
  | 0, s, l, hn, g, ⟨e, h1, h2⟩ => by
    subst e
    refine ⟨_, prv_leaf hn g, ?_⟩
    by_cases hc : conts P s = []
    · rw [if_pos hc]; exact h1 hc
    · rw [if_neg hc]; exact h2 hc
  | n + 1, s, l, hn, g, h => by
    rcases h with ⟨e, h1, h2⟩ | ⟨L, e, hc, hv, hL⟩
    · subst e
      refine ⟨_, prv_leaf hn g, ?_⟩
      by_cases hc : conts P s = []
      · rw [if_pos hc]; exact h1 hc
      · rw [if_neg hc]; exact h2 hc
    · subst e
      obtain ⟨m, p1, _, p3⟩ := trL_prv (tr_prv hP n) (conts P s) L s.v (conts_good hn g) hL
      exact ⟨m, prv_node hP hn g p1, p3 hv⟩
structure Place (P : Pr) (A : List Int) (B : Int) (T : List Br) (n : Nat) (t : Nd) (pre l post : List Br) : Prop where
  e : T = pre ++ (l ++ post)
  tr : Tr P B n t l
  hn : t.rem.length ≤ n
  g : Good P t
  run : run P (root P A) t.c = some t
  put : ∀ l' m, Prv P n t l' m → ∃ M, Prv P A.length (root P A) (pre ++ (l' ++ post)) M ∧ m ≤ M ∧ (m ≤ B → M ≤ B)
theorem place_root {P : Pr} {A : List Int} {B : Int} {T : List Br} (g : Good P (root P A)) (h : Tr P B A.length (root P A) T) : Place P A B T A.length (root P A) [] T [] :=
  ⟨by simp, h, Nat.le_refl _, g, rfl, fun l' m q => ⟨m, by rw [List.append_nil, List.nil_append]; exact q, Int.le_refl _, fun h => h⟩⟩
theorem prvL_append {P : Pr} {n : Nat} : ∀ {ts ts' : List Nd} {L L' : List Br} {m x y : Int}, PrvL P n ts L m x → PrvL P n ts' L' x y → PrvL P n (ts ++ ts') (L ++ L') m y
  | ts, ts', L, L', m, x, y, ⟨o, h1, h2⟩, ⟨o', k1, k2⟩ => by
    refine ⟨o ++ o', fun r => ?_, le2_append h2 k2⟩
    rw [List.append_assoc]
    have key : ∀ (ts : List Nd) (m : Int) (l r : List Br) (o : List Br), forest (prv P n) ts m l = some (x, o, r) → forest (prv P n) (ts ++ ts') m l = (match forest (prv P n) ts' x r with | none => none | some z => some (z.1, o ++ z.2.1, z.2.2)) := by
      intro ts
      induction ts with
      | nil =>
        intro m l r o h
        have h := Option.some.inj h
        have e1 : m = x := congrArg Prod.fst h
        have e2 : ([] : List Br) = o := congrArg (fun z : Rd => z.2.1) h
        have e3 : l = r := congrArg (fun z : Rd => z.2.2) h
        subst e1; subst e2; subst e3
        show forest (prv P n) ts' m l = _
        cases forest (prv P n) ts' m l <;> rfl
      | cons t ts ih =>
        intro m l r o h
        obtain ⟨a, z, ha, hz, e⟩ := forest_cons h
        have e1 : x = z.1 := congrArg Prod.fst e
        have e2 : o = a.2.1 ++ z.2.1 := congrArg (fun z : Rd => z.2.1) e
        have e3 : r = z.2.2 := congrArg (fun z : Rd => z.2.2) e
        have hz' : forest (prv P n) ts (max m a.1) a.2.2 = some (x, z.2.1, r) := by rw [hz, e1, e3]
        have := ih _ _ _ _ hz'
        show (match prv P n t l with | none => none | some x => match forest (prv P n) (ts ++ ts') (max m x.1) x.2.2 with | none => none | some y => some (y.1, x.2.1 ++ y.2.1, y.2.2)) = _
        rw [ha]
        show (match forest (prv P n) (ts ++ ts') (max m a.1) a.2.2 with | none => none | some y => some (y.1, a.2.1 ++ y.2.1, y.2.2)) = _
        rw [this, e2]
        cases forest (prv P n) ts' x r with
        | none => rfl
        | some w => show some (w.1, a.2.1 ++ (z.2.1 ++ w.2.1), w.2.2) = some (w.1, a.2.1 ++ z.2.1 ++ w.2.1, w.2.2); rw [List.append_assoc]
    rw [key ts m _ _ _ (h1 (L' ++ r)), k1 r]
theorem place_kid {P : Pr} (hP : OnlyUs P) {A : List Int} {B : Int} {T : List Br} {n : Nat} {t w : Nd} {pre post L1 l L2 : List Br} {b : Br} {u : Int} {ts1 ts2 : List Nd}
    (h : Place P A B T (n + 1) t pre (b :: (L1 ++ (l ++ L2))) post) (hb : b = ⟨(conts P t).length, reach P t⟩) (hv : t.v ≤ B) (hc : conts P t = ts1 ++ w :: ts2) (hu : next P t u = some w)
    (k1 : TrL (Tr P B n) ts1 L1) (k2 : Tr P B n w l) (k3 : TrL (Tr P B n) ts2 L2) : Place P A B T n w (pre ++ b :: L1) l (L2 ++ post) := by
  have hg := conts_good h.hn h.g
  rw [hc] at hg
  have hw := hg w (by simp)
  have hcc : w.c = t.c ++ [u] := by
    obtain ⟨_, _, _, rfl, _⟩ := next_some hu
    rfl
  refine ⟨?_, k2, hw.1, hw.2, ?_, fun l' m q => ?_⟩
  · rw [h.e]; simp
  · rw [hcc, run_append, h.run]
    show run P t [u] = _
    rw [run_cons, hu]; rfl
  · obtain ⟨x, p1, p2, p3⟩ := trL_prv (tr_prv hP n) ts1 L1 t.v (fun z hz => hg z (by simp [hz])) k1
    obtain ⟨y, q1, q2, q3⟩ := trL_prv (tr_prv hP n) ts2 L2 (max x m) (fun z hz => hg z (by simp [hz])) k3
    have r1 : PrvL P n (w :: ts2) (l' ++ L2) x y := prvL_cons q q1
    have r2 : PrvL P n (conts P t) (L1 ++ (l' ++ L2)) t.v y := by rw [hc]; exact prvL_append p1 r1
    have r3 := prv_node hP h.hn h.g r2
    rw [← hb] at r3
    obtain ⟨M, s1, s2, s3⟩ := h.put _ _ r3
    refine ⟨M, ?_, by omega, fun hm => s3 (q3 (by have := p3 hv; omega))⟩
    have e : pre ++ (b :: (L1 ++ (l' ++ L2)) ++ post) = pre ++ b :: L1 ++ (l' ++ (L2 ++ post)) := by simp
    rw [← e]; exact s1
theorem tr_pos {P : Pr} {B : Int} : ∀ {n : Nat} {s : Nd} {l : List Br}, Tr P B n s l → l ≠ []
  | 0, _, _, h, e => by rw [h.1] at e; cases e
  | _ + 1, _, _, .inl h, e => by rw [h.1] at e; cases e
  | _ + 1, _, _, .inr ⟨_, h, _⟩, e => by rw [h] at e; cases e
theorem tr_inner {P : Pr} {B : Int} : ∀ {n : Nat} {s : Nd} {l : List Br}, Tr P B n s l → 1 < l.length → ∃ k L, n = k + 1 ∧ l = ⟨(conts P s).length, reach P s⟩ :: L ∧ s.v ≤ B ∧ TrL (Tr P B k) (conts P s) L
  | 0, _, _, h, e => by rw [h.1] at e; exact absurd e (by simp)
  | _ + 1, _, _, .inl h, e => by rw [h.1] at e; exact absurd e (by simp)
  | k + 1, _, _, .inr ⟨L, h, _, h2, h3⟩, _ => ⟨k, L, rfl, h, h2, h3⟩
theorem tr_head {P : Pr} {B : Int} : ∀ {n : Nat} {s : Nd} {l : List Br}, Tr P B n s l → ∃ k L, l = ⟨k, reach P s⟩ :: L ∧ (k = 0 → L = [] ∧ (conts P s ≠ [] → reach P s ≤ B)) ∧ (k ≠ 0 → conts P s ≠ [])
  | 0, _, _, h => ⟨0, [], h.1, fun _ => ⟨rfl, h.2.2⟩, fun k => absurd rfl k⟩
  | _ + 1, _, _, .inl h => ⟨0, [], h.1, fun _ => ⟨rfl, h.2.2⟩, fun k => absurd rfl k⟩
  | _ + 1, s, _, .inr ⟨L, h, h1, _⟩ => ⟨_, L, h, fun k => absurd (List.eq_nil_of_length_eq_zero (by omega)) h1, fun _ => h1⟩
theorem best_place {P : Pr} (hP : OnlyUs P) {A : List Int} (hA : ∀ a ∈ A, 0 ≤ a) (hm : 0 ≤ P.most) {n : Int} {b : List Int} {l : List Br} (h : best P A = some (n, b, l)) : Place P A n l A.length (root P A) [] l [] := by
  obtain ⟨_, h2⟩ := best_sr h
  have g := root_good hA hm
  refine place_root g ?_
  have := sr_tr hP A.length (root P A) (-1, []) n (Nat.le_refl _) g (by rw [h2]; exact Int.le_refl _)
  rw [h2] at this
  exact this
theorem cut_law {P : Pr} (hP : OnlyUs P) {A : List Int} (hA : ∀ a ∈ A, 0 ≤ a) (hm : 0 ≤ P.most) {v : Int} {c : List Int} {T : List Br} (h : best P A = some (v, c, T)) {n : Nat} {t : Nd} {pre L post : List Br} {b : Br} (p : Place P A v T n t pre (b :: L) post) :
    b.bound = reach P t ∧ (chk P A c v (pre ++ (⟨0, b.bound⟩ :: post)) = 0 ↔ b.kids = 0 ∨ reach P t ≤ v) := by
  obtain ⟨k, L', e, h1, h2⟩ := tr_head p.tr
  have eb : b = ⟨k, reach P t⟩ := by have := congrArg List.head? e; simpa using this
  have hb : b.bound = reach P t := by rw [eb]
  have hk : b.kids = k := by rw [eb]
  refine ⟨hb, ?_⟩
  obtain ⟨M, hq, q3, q4⟩ := p.put _ _ (prv_leaf p.hn p.g)
  obtain ⟨o, q1, q2⟩ := hq
  have q1 := q1 []
  rw [List.append_nil] at q1
  obtain ⟨⟨s, b1, b2⟩, _, _⟩ := best_told hP hA hm h
  have hl : (pre ++ (([⟨0, reach P t⟩] : List Br) ++ post)).length ≤ 4000 := by
    have := (best_sr h).1
    rw [p.e] at this
    simp only [List.length_append, List.length_cons, List.length_nil] at this ⊢
    omega
  have ht : Cp.tight P A (pre ++ ([⟨0, reach P t⟩] ++ post)) = some o := tight_iff.2 ⟨hl, M, q1⟩
  have ks := prv_sound hP A.length (root P A) _ _ (Nat.le_refl _) (root_good hA hm) q1
  obtain ⟨kk, o', eo⟩ := ks.head
  have eo : o = ⟨kk, M⟩ :: o' := eo
  have hM : chk P A c v (pre ++ ([⟨0, reach P t⟩] ++ post)) = 0 ↔ M ≤ v := by
    have hlo := lows_le2 q2
    have hd : (o.headD ⟨0, 0⟩).bound = M := by rw [eo]; rfl
    unfold chk
    rw [b1, ht]
    simp only [b2, ↓reduceIte]
    by_cases z : v < M
    · rw [if_pos (.inl (by rw [hd]; exact z))]; exact ⟨fun q => absurd q (by decide), fun q => absurd q (by omega)⟩
    · rw [if_neg (by rintro (q | q); rw [hd] at q; exact z q; rw [hlo] at q; cases q)]; exact ⟨fun _ => by omega, fun _ => rfl⟩
  rw [hb]
  show chk P A c v (pre ++ ([⟨0, reach P t⟩] ++ post)) = 0 ↔ _
  rw [hM, hk]
  constructor
  · intro hv
    by_cases kz : k = 0
    · exact .inl kz
    · right
      rw [if_neg (h2 kz)] at q3
      omega
  · rintro (kz | hr)
    · refine q4 ?_
      obtain ⟨hL, hz⟩ := h1 kz
      have h3 : t.v ≤ v := (best_told hP hA hm h).2.1 t.c t p.run
      by_cases hc : conts P t = []
      · rw [if_pos hc]; exact h3
      · rw [if_neg hc]; exact hz hc
    · refine q4 ?_
      have := good_reach p.g
      split <;> omega
def skip : Int → List Br → Nat
  | _, [] => 0
  | k, b :: r => if 0 < k then skip (k - 1 + b.kids) r + 1 else 0
theorem skip_zero (l : List Br) : skip 0 l = 0 := by cases l <;> rfl
theorem skip_cons {k : Int} {b : Br} {r : List Br} (h : 0 < k) : skip k (b :: r) = skip (k - 1 + b.kids) r + 1 := if_pos h
theorem trL_skip {f : Nd → List Br → Prop} (ih : ∀ t l, f t l → ∀ k r, 0 ≤ k → skip (k + 1) (l ++ r) = l.length + skip k r) : ∀ {ts : List Nd} {L : List Br}, TrL f ts L → ∀ k r, 0 ≤ k → skip (k + ts.length) (L ++ r) = L.length + skip k r
  | [], L, h, k, r, _ => by
    have h : L = [] := h
    subst h; simp
  | t :: ts, _, ⟨l, L', e, h1, h2⟩, k, r, hk => by
    subst e
    have e1 : k + ((t :: ts).length : Nat) = (k + (ts.length : Nat)) + 1 := by rw [List.length_cons]; omega
    rw [e1, List.append_assoc, ih t l h1 _ _ (by omega), trL_skip ih h2 k r hk, List.length_append]; omega
theorem tr_skip {P : Pr} {B : Int} : ∀ {n : Nat} {s : Nd} {l : List Br}, Tr P B n s l → ∀ k r, 0 ≤ k → skip (k + 1) (l ++ r) = l.length + skip k r
  | 0, s, l, h, k, r, hk => by
    rw [h.1]
    show skip (k + 1) (⟨0, reach P s⟩ :: r) = _
    rw [skip_cons (by omega), show k + 1 - 1 + (0 : Int) = k by omega]; simp; omega
  | n + 1, s, l, .inl h, k, r, hk => by
    rw [h.1]
    show skip (k + 1) (⟨0, reach P s⟩ :: r) = _
    rw [skip_cons (by omega), show k + 1 - 1 + (0 : Int) = k by omega]; simp; omega
  | n + 1, s, l, .inr ⟨L, e, _, _, hL⟩, k, r, hk => by
    rw [e]
    show skip (k + 1) (⟨(conts P s).length, reach P s⟩ :: (L ++ r)) = _
    rw [skip_cons (by omega), show k + 1 - 1 + ((conts P s).length : Int) = k + (conts P s).length by omega, trL_skip (fun t l h => tr_skip h) hL k r hk, List.length_cons]; omega
def endF (T : List Br) (i : Nat) : Nat := i + skip 1 (T.drop i)
theorem place_end {P : Pr} {A : List Int} {B : Int} {T : List Br} {n : Nat} {t : Nd} {pre l post : List Br} (p : Place P A B T n t pre l post) : endF T pre.length = pre.length + l.length := by
  unfold endF
  rw [p.e, List.drop_left, show (1 : Int) = 0 + 1 from rfl, tr_skip p.tr 0 post (Int.le_refl _), skip_zero]; omega
theorem kid_end {P : Pr} {B : Int} {T pre l post : List Br} {n : Nat} {t : Nd} (e : T = pre ++ (l ++ post)) (h : Tr P B n t l) : endF T pre.length = pre.length + l.length := by
  unfold endF
  rw [e, List.drop_left, show (1 : Int) = 0 + 1 from rfl, tr_skip h 0 post (Int.le_refl _), skip_zero]; omega
def grF (P : Pr) : Nat → Nd → Int
  | 0, s => s.v
  | n + 1, s => (conts P s).foldl (fun m t => max m (grF P n t)) s.v
end Go.Proofs.Ytcnafncmfiogcaa.Cp
namespace Go.Proofs.Ytcnafncmfiogcaa.Bm
open Go Go.RowKit
open Cp (Q nameB limS limQ mayQ prQ validQ badP hasP bitB)
structure Bp where
  A : List Int
  may : List Bool
  lim : List Int
  nev : List Bool
  most : Int
def bolE : Enc Bool := ⟨.bool, fun _ => rfl, fun _ _ => rfl, fun _ _ _ => rfl, fun _ _ => rfl⟩
def bpC (av : Value) (b : Bp) : List Value := av :: (bolE.vals b.may ++ (intE.vals b.lim ++ (bolE.vals b.nev ++ [.int .i64 b.most])))
def bpV (b : Bp) : Value := cptr (.agg ⟨bpC (lst false (intE.vals b.A)) b⟩)
structure BpL (b : Bp) : Prop where
  may : b.may.length = 6
  lim : b.lim.length = 6
  nev : b.nev.length = 36
  most : -9223372036854775808 ≤ b.most ∧ b.most ≤ 9223372036854775807
theorem bp_len {av : Value} {b : Bp} (h : BpL b) : (bpC av b).length = 50 := by
  unfold bpC
  simp [Enc.vals_len, h.may, h.lim, h.nev]
theorem bp_fits {av : Value} {b : Bp} (h : BpL b) : fitsTT ⟨some true, some 50⟩ (.agg ⟨bpC av b⟩) = true := fits_ag (by show (bpC av b).length = 50; exact bp_len h)
theorem take_left' {α : Type} {a b : List α} {n : Nat} (h : a.length = n) : (a ++ b).take n = a := by subst h; simp
theorem drop_left' {α : Type} {a b : List α} {n : Nat} (h : a.length = n) : (a ++ b).drop n = b := by subst h; simp
theorem bp_f0 {b : Bp} (h : BpL b) : fieldAddrT ⟨some true, some 50⟩ (some (0, ⟨some false, some 1⟩)) (bpV b) = some (cptr (lst false (intE.vals b.A))) := by
  unfold bpV
  rw [fieldAddr_cptr, if_pos (bp_fits h)]; rfl
theorem bp_sub {b : Bp} (h : BpL b) {n m : Nat} {l : List Value} (hl : ((bpC (lst false (intE.vals b.A)) b).drop n).take (m + 1) = l) : fieldAddrT ⟨some true, some 50⟩ (some (n, ⟨some true, some (m + 1)⟩)) (bpV b) = some (cptr (.agg ⟨l⟩)) := by
  unfold bpV
  rw [fieldAddr_cptr, if_pos (bp_fits h)]
  show (fieldT (some (n, ⟨some true, some (m + 1)⟩)) (.agg ⟨bpC _ b⟩)).map cptr = _
  rw [field_agg, Option.bind_some, part_agg]
  have e : (Array.extract ⟨bpC (lst false (intE.vals b.A)) b⟩ n (n + (m + 1))) = ⟨l⟩ := by
    rw [← Array.toList_inj, ← hl]; simp [List.take_drop]
  rw [Option.map_some, e]
theorem bp_f1 {b : Bp} (h : BpL b) : fieldAddrT ⟨some true, some 50⟩ (some (1, ⟨some true, some 6⟩)) (bpV b) = some (cptr (.agg ⟨bolE.vals b.may⟩)) := bp_sub h (by
  unfold bpC
  rw [List.drop_succ_cons, List.drop_zero, take_left' (by rw [Enc.vals_len, h.may])])
theorem bp_f7 {b : Bp} (h : BpL b) : fieldAddrT ⟨some true, some 50⟩ (some (7, ⟨some true, some 6⟩)) (bpV b) = some (cptr (.agg ⟨intE.vals b.lim⟩)) := bp_sub h (by
  unfold bpC
  rw [List.drop_succ_cons, drop_left' (by rw [Enc.vals_len, h.may]), take_left' (by rw [Enc.vals_len, h.lim])])
theorem bp_f13 {b : Bp} (h : BpL b) : fieldAddrT ⟨some true, some 50⟩ (some (13, ⟨some true, some 36⟩)) (bpV b) = some (cptr (.agg ⟨bolE.vals b.nev⟩)) := bp_sub h (by
  unfold bpC
  rw [List.drop_succ_cons, ← List.append_assoc, drop_left' (by rw [List.length_append, Enc.vals_len, Enc.vals_len, h.may, h.lim]), take_left' (by rw [Enc.vals_len, h.nev])])
theorem bp_get49 {av : Value} {b : Bp} (h : BpL b) : (bpC av b)[49]? = some (.int .i64 b.most) := by
  unfold bpC
  rw [List.getElem?_cons_succ, List.getElem?_append_right (by rw [Enc.vals_len, h.may]; omega), List.getElem?_append_right (by rw [Enc.vals_len, Enc.vals_len, h.may, h.lim]; omega), List.getElem?_append_right (by rw [Enc.vals_len, Enc.vals_len, Enc.vals_len, h.may, h.lim, h.nev]; omega), Enc.vals_len, Enc.vals_len, Enc.vals_len, h.may, h.lim, h.nev]; rfl
theorem bp_f49 {b : Bp} (h : BpL b) : fieldAddrT ⟨some true, some 50⟩ (some (49, ⟨some false, some 1⟩)) (bpV b) = some (cptr (.int .i64 b.most)) := by
  unfold bpV
  rw [fieldAddr_cptr, if_pos (bp_fits h)]
  show ((⟨bpC _ b⟩ : Array Value)[49]?).map cptr = _
  rw [List.getElem?_toArray, bp_get49 h]; rfl
theorem bol_i {l : List Bool} {n u : Nat} (hl : l.length = n) (hu : u < n) : indexAddrT (.arr n ⟨some false, some 1⟩) (cptr (.agg ⟨bolE.vals l⟩)) (.int .i64 (u : Int)) = some (cptr (.bool (l[u]'(by omega)))) := by
  rw [index_arrC, if_pos ⟨by omega, by omega⟩]
  show ((⟨bolE.vals l⟩ : Array Value)[(u : Int).toNat * 1]?).map cptr = _
  rw [Int.toNat_natCast, Nat.mul_one, List.getElem?_toArray, Enc.vals_get (by omega)]; rfl
theorem nev_i {l : List Bool} {i : Nat} (hi : i < 6) : indexAddrT (.arr 6 ⟨some true, some 6⟩) (cptr (.agg ⟨bolE.vals l⟩)) (.int .i64 (i : Int)) = some (cptr (.agg ⟨bolE.vals ((l.drop (i * 6)).take 6)⟩)) := by
  rw [index_arrC, if_pos ⟨by omega, by omega⟩]
  show (partT ⟨some true, some 6⟩ (⟨bolE.vals l⟩ : Array Value) ((i : Int).toNat * 6)).map cptr = _
  rw [part_agg, Int.toNat_natCast]
  have e : (Array.extract ⟨bolE.vals l⟩ (i * 6) (i * 6 + 6)) = ⟨bolE.vals ((l.drop (i * 6)).take 6)⟩ := by
    rw [← Array.toList_inj]
    simp [← Enc.vals_take, ← Enc.vals_drop, List.take_drop]
  rw [Option.map_some, e]
theorem nev_len {l : List Bool} {i : Nat} (hl : l.length = 36) (hi : i < 6) : ((l.drop (i * 6)).take 6).length = 6 := by simp; omega
structure BS where
  U : List Int
  v : Int
  l : Int
  k : Nat
def BS.c (x : BS) : List Value := intE.vals x.U ++ [.int .i64 x.v, .int .i64 x.l, .int .i64 x.k]
def BS.V (x : BS) : Value := .agg ⟨x.c⟩
structure BsW (A : List Int) (x : BS) : Prop where
  u : x.U.length = 6
  b : ∀ z ∈ x.U, 0 ≤ z ∧ z ≤ x.v
  l : -1 ≤ x.l ∧ x.l < 6
  v : 0 ≤ x.v ∧ x.v ≤ (x.k : Int) * 1099511627776
  k : x.k ≤ A.length
theorem bs_len {x : BS} (h : x.U.length = 6) : x.c.length = 9 := by unfold BS.c; rw [List.length_append, Enc.vals_len, h]; rfl
theorem bs_get {x : BS} {u : Nat} (hu : u < x.U.length) : x.c[u]? = some (.int .i64 x.U[u]) := by
  unfold BS.c
  rw [List.getElem?_append_left (by rw [Enc.vals_len]; exact hu)]
  exact Enc.vals_get hu
theorem bs_get6 {x : BS} (h : x.U.length = 6) : x.c[6]? = some (.int .i64 x.v) := by
  unfold BS.c; rw [List.getElem?_append_right (by rw [Enc.vals_len]; omega), Enc.vals_len, h]; rfl
theorem bs_get7 {x : BS} (h : x.U.length = 6) : x.c[7]? = some (.int .i64 x.l) := by
  unfold BS.c; rw [List.getElem?_append_right (by rw [Enc.vals_len]; omega), Enc.vals_len, h]; rfl
theorem bs_get8 {x : BS} (h : x.U.length = 6) : x.c[8]? = some (.int .i64 x.k) := by
  unfold BS.c; rw [List.getElem?_append_right (by rw [Enc.vals_len]; omega), Enc.vals_len, h]; rfl
theorem bs_set {x : BS} {u : Nat} {z : Int} (hu : u < x.U.length) : x.c.set u (.int .i64 z) = BS.c ⟨x.U.set u z, x.v, x.l, x.k⟩ := by
  unfold BS.c
  rw [List.set_append_left _ _ (by rw [Enc.vals_len]; exact hu), show Value.int .i64 z = intE.e z from rfl, Enc.vals_put]
theorem bs_set6 {x : BS} {z : Int} (h : x.U.length = 6) : x.c.set 6 (.int .i64 z) = BS.c ⟨x.U, z, x.l, x.k⟩ := by
  unfold BS.c
  rw [List.set_append_right _ _ (by rw [Enc.vals_len]; omega), Enc.vals_len, h]; rfl
theorem bs_set7 {x : BS} {z : Int} (h : x.U.length = 6) : x.c.set 7 (.int .i64 z) = BS.c ⟨x.U, x.v, z, x.k⟩ := by
  unfold BS.c
  rw [List.set_append_right _ _ (by rw [Enc.vals_len]; omega), Enc.vals_len, h]; rfl
theorem bs_set8 {x : BS} {z : Nat} (h : x.U.length = 6) : x.c.set 8 (.int .i64 (z : Int)) = BS.c ⟨x.U, x.v, x.l, z⟩ := by
  unfold BS.c
  rw [List.set_append_right _ _ (by rw [Enc.vals_len]; omega), Enc.vals_len, h]; rfl
theorem bs_all (x : BS) (n : Nat) : x.c.all (settled (n + 1)) = true := by
  unfold BS.c
  rw [List.all_append, List.all_eq_true.2 (fun v hv => by obtain ⟨a, _, rfl⟩ := List.mem_map.1 hv; rfl)]; rfl
theorem bs_bel (x : BS) (d n : Nat) : x.c.all (below (d + 1) n) = true := by
  unfold BS.c
  rw [List.all_append, ints_bel]; rfl
theorem bs_reify (x : BS) (h : Heap) (n : Nat) : reify E.P (n + 2) h x.V = some x.V := by
  show (reifyC E.P (n + 1) h x.c).map _ = _
  rw [reifyC_set (by have := bs_all x 7; exact this)]; rfl
def zB : BS := ⟨[0, 0, 0, 0, 0, 0], 0, 0, 0⟩
def bs0 : BS := ⟨[0, 0, 0, 0, 0, 0], 0, -1, 0⟩
theorem bs0_w (A : List Int) : BsW A bs0 := ⟨rfl, by decide, by decide, by decide, Nat.zero_le _⟩
set_option maxRecDepth 100000 in
theorem start_spec : pureCall E.P (L E) 68 [] = some bs0.V := pureCall_le (evF_L 20) (by kernel_rfl)
def nextB (b : Bp) (x : BS) (u : Int) : BS × Bool :=
  if u < 0 ∨ 6 ≤ u ∨ b.may.getD u.toNat false = false ∨ x.k = b.A.length ∨ (0 ≤ x.l ∧ b.nev.getD (6 * x.l.toNat + u.toNat) false = true) then (x, false)
  else (⟨x.U.set u.toNat (x.U.getD u.toNat 0 + b.A.getD x.k 0), x.v + b.A.getD x.k 0, u, x.k + 1⟩,
    decide (x.U.getD u.toNat 0 + b.A.getD x.k 0 ≤ b.lim.getD u.toNat 0) && decide (x.v + b.A.getD x.k 0 ≤ b.most))
theorem nextB_w {b : Bp} (hA : AOk b.A) {x : BS} (hx : BsW b.A x) (u : Int) : BsW b.A (nextB b x u).1 := by
  unfold nextB
  split
  · exact hx
  · rename_i h
    have hk : x.k < b.A.length := by have := hx.k; have : x.k ≠ b.A.length := fun e => h (.inr (.inr (.inr (.inl e)))); omega
    have e : b.A.getD x.k 0 = b.A[x.k] := by rw [List.getD_eq_getElem?_getD, List.getElem?_eq_getElem hk]; rfl
    have ha := hA.a _ (List.getElem_mem hk)
    have hu : u.toNat < x.U.length := by have := hx.u; have : ¬ 6 ≤ u := fun e => h (.inr (.inl e)); omega
    have e2 : x.U.getD u.toNat 0 = x.U[u.toNat] := by rw [List.getD_eq_getElem?_getD, List.getElem?_eq_getElem hu]; rfl
    have hb := hx.b _ (List.getElem_mem hu)
    have hv := hx.v
    rw [e, e2]
    refine ⟨by show (x.U.set _ _).length = 6; rw [List.length_set]; exact hx.u, fun z hz => ?_, ⟨by show -1 ≤ u; have : ¬ u < 0 := fun e => h (.inl e); omega, by show u < 6; have : ¬ 6 ≤ u := fun e => h (.inr (.inl e)); omega⟩, ?_, hk⟩
    · show 0 ≤ z ∧ z ≤ x.v + b.A[x.k]
      rcases List.mem_or_eq_of_mem_set hz with q | q
      · have := hx.b z q; omega
      · omega
    · show 0 ≤ x.v + b.A[x.k] ∧ x.v + b.A[x.k] ≤ ((x.k + 1 : Nat) : Int) * 1099511627776
      omega
theorem sBS : szOf E.P 84 = some 9 := by kernel_rfl
theorem aBS : aggT E.P 84 = some true := by kernel_rfl
theorem nil_bp {b : Bp} {h : Heap} : nilT (bpV b) h = some (bpV b, h) := rfl
theorem getD_eq {α : Type} {l : List α} {i : Nat} {d : α} (h : i < l.length) : l.getD i d = l[i] := by rw [List.getD_eq_getElem?_getD, List.getElem?_eq_getElem h]; rfl
set_option maxHeartbeats 4000000 in
theorem next_no (b : Bp) (hb : BpL b) (_hA : b.A.length ≤ 1000) (x : BS) (hx : BsW b.A x) (u : Int)
    (h : u < 0 ∨ 6 ≤ u ∨ b.may.getD u.toNat false = false ∨ x.k = b.A.length ∨ (0 ≤ x.l ∧ b.nev.getD (6 * x.l.toNat + u.toNat) false = true)) :
    pureCall E.P (L E) 69 [bpV b, x.V, .int .i64 u] = some (.tuple ⟨[x.V, .bool false]⟩) := by
  have hU := hx.u
  have f1 := bp_f1 hb
  have f0 := bp_f0 hb
  have f13 := bp_f13 hb
  have nb : ∀ h, nilT (bpV b) h = some (bpV b, h) := fun h => nil_bp
  have la : ∀ h, lenT .sl h (lst false (intE.vals b.A)) = some (.int .i64 b.A.length) := fun h => Enc.o_len (O := intE) (k := some false) Enc.ok_some
  generalize bpV b = B at *
  have ld : ∀ j w t, x.c[j]? = some w → loadT ⟨some false, some 1⟩ (AObj.cells 84 x.c 0 :: t) (.pointer (some ⟨0, j, none⟩)) = some w := fun j w t hj => obj_load (b := 0) (j := j) rfl hj
  have l7 := fun t => ld 7 _ t (bs_get7 hU)
  have l8 := fun t => ld 8 _ t (bs_get8 hU)
  have lA : ∀ t, loadT ⟨some true, some 9⟩ (AObj.cells 84 x.c 0 :: t) (.pointer (some ⟨0, 0, none⟩)) = some x.V := fun t => obj_all (b := 0) rfl (bs_len hU)
  have sA : storeT (some 9) [AObj.cells 84 x.c 0, AObj.cells 84 zB.c 0] 0 x.V (.pointer (some ⟨1, 0, none⟩)) = some [AObj.cells 84 x.c 0, AObj.cells 84 x.c 0] :=
    (obj_put (h := [AObj.cells 84 x.c 0, AObj.cells 84 zB.c 0]) (b := 1) (n := 9) (lo := 0) (t := 84) (c := zB.c) rfl rfl (bs_len hU) (by decide) (Nat.zero_le _)).trans rfl
  have lR : loadT ⟨some true, some 9⟩ [AObj.cells 84 x.c 0, AObj.cells 84 x.c 0] (.pointer (some ⟨1, 0, none⟩)) = some x.V := obj_all (b := 1) rfl (bs_len hU)
  have rf := fun h => bs_reify x h 6
  have ez : zB.c = [.int .i64 0, .int .i64 0, .int .i64 0, .int .i64 0, .int .i64 0, .int .i64 0, .int .i64 0, .int .i64 0, .int .i64 0] := rfl
  rw [ez] at sA
  rw [pureCall_fn F69 rfl]
  unfold BS.V at lA sA lR rf ⊢
  by_cases q1 : u < 0
  · simp -implicitDefEqProofs [r69, p69, q1, lA, sA, lR, rf]
  by_cases q2 : 6 ≤ u
  · simp -implicitDefEqProofs [r69, p69, q1, q2, lA, sA, lR, rf]
  have h := (h.resolve_left q1).resolve_left q2
  obtain ⟨n, rfl⟩ : ∃ n : Nat, u = (n : Int) := ⟨u.toNat, by omega⟩
  have hn : n < 6 := by omega
  rw [Int.toNat_natCast] at h
  have hnm : n < b.may.length := by have := hb.may; omega
  have i1 := bol_i hb.may hn
  rw [getD_eq hnm] at h
  generalize b.may[n] = mb at *
  cases mb with
  | false => simp -implicitDefEqProofs [r69, p69, q1, q2, rop_nilT, nb, f1, i1, lA, sA, lR, rf]
  | true =>
    have h := h.resolve_left (by decide)
    by_cases q4 : x.k = b.A.length
    · rw [q4] at l8
      simp -implicitDefEqProofs [r69, p69, q1, q2, rop_nilT, nb, f1, i1, f0, la, l8, lA, sA, lR, rf]
    · obtain ⟨h1, h2⟩ := h.resolve_left q4
      have q4' : ¬ ((x.k : Int) = b.A.length) := by omega
      obtain ⟨m, hm⟩ : ∃ m : Nat, x.l = (m : Int) := ⟨x.l.toNat, by omega⟩
      have hm6 : m < 6 := by have := hx.l; omega
      rw [hm, Int.toNat_natCast] at h2
      have i13 := nev_i (l := b.nev) hm6
      have i14 := bol_i (nev_len hb.nev hm6) hn
      have hg : 6 * m + n < b.nev.length := by have := hb.nev; omega
      rw [getD_eq hg] at h2
      have e3 : ((b.nev.drop (m * 6)).take 6)[n]'(by rw [nev_len hb.nev hm6]; exact hn) = true := by
        rw [List.getElem_take, List.getElem_drop, ← h2]
        congr 1; omega
      rw [e3] at i14
      rw [hm] at l7
      simp -implicitDefEqProofs [r69, p69, q1, q2, rop_nilT, nb, f1, i1, f0, la, l8, q4', l7, f13, i13, i14, lA, sA, lR, rf]
end Go.Proofs.Ytcnafncmfiogcaa.Bm
namespace Go.Proofs.Ytcnafncmfiogcaa.Bm
open Go Go.RowKit
open Cp (Q nameB limS limQ mayQ prQ validQ badP hasP bitB)
set_option maxHeartbeats 4000000 in
theorem next_yes (b : Bp) (hb : BpL b) (hA : AOk b.A) (x : BS) (hx : BsW b.A x) (n : Nat) (hn : n < 6) (hm : b.may[n]'(by have := hb.may; omega) = true) (hk : x.k < b.A.length)
    (hl : ∀ m : Nat, x.l = (m : Int) → b.nev.getD (6 * m + n) false = false) :
    pureCall E.P (L E) 69 [bpV b, x.V, .int .i64 (n : Int)] = some (.tuple ⟨[BS.V ⟨x.U.set n (x.U[n]'(by have := hx.u; omega) + b.A[x.k]), x.v + b.A[x.k], (n : Int), x.k + 1⟩,
      .bool (decide (x.U[n]'(by have := hx.u; omega) + b.A[x.k] ≤ b.lim[n]'(by have := hb.lim; omega)) && decide (x.v + b.A[x.k] ≤ b.most))]⟩) := by
  have hU := hx.u
  have hnU : n < x.U.length := by omega
  have hnl : n < b.lim.length := by have := hb.lim; omega
  have ha := hA.a _ (List.getElem_mem hk)
  have h13 := hA.len
  have hz := hx.b _ (List.getElem_mem hnU)
  have hv := hx.v
  have hxk := hx.k
  have f1 := bp_f1 hb
  have f0 := bp_f0 hb
  have f7 := bp_f7 hb
  have f13 := bp_f13 hb
  have f49 := bp_f49 hb
  have i1 := bol_i hb.may hn
  rw [hm] at i1
  have i7 := st_i5 hb.lim hn
  have nb : ∀ h, nilT (bpV b) h = some (bpV b, h) := fun h => nil_bp
  have la : ∀ h, lenT .sl h (lst false (intE.vals b.A)) = some (.int .i64 b.A.length) := fun h => Enc.o_len (O := intE) (k := some false) Enc.ok_some
  have ia : indexAddrT (.sl 3 ⟨some false, some 1⟩) (lst false (intE.vals b.A)) (.int .i64 (x.k : Int)) = some (cptr (.int .i64 b.A[x.k])) := Enc.index_tree (O := intE) hk
  have cB : isCp (bpV b) = true := rfl
  generalize bpV b = B at *
  generalize hx1 : (⟨x.U.set n (x.U[n] + b.A[x.k]), x.v, x.l, x.k⟩ : BS) = x1
  have e1 : x.c.set n (.int .i64 (x.U[n] + b.A[x.k])) = x1.c := by rw [bs_set hnU, hx1]
  have hU1 : x1.U.length = 6 := by rw [← hx1]; show (x.U.set _ _).length = 6; rw [List.length_set, hU]
  have ev1 : x1.v = x.v := by rw [← hx1]
  generalize hx2 : (⟨x1.U, x.v + b.A[x.k], x1.l, x1.k⟩ : BS) = x2
  have e2 : x1.c.set 6 (.int .i64 (x.v + b.A[x.k])) = x2.c := by rw [bs_set6 hU1, hx2]
  have hU2 : x2.U.length = 6 := by rw [← hx2]; exact hU1
  generalize hx3 : (⟨x2.U, x2.v, (n : Int), x2.k⟩ : BS) = x3
  have e3 : x2.c.set 7 (.int .i64 (n : Int)) = x3.c := by rw [bs_set7 hU2, hx3]
  have hU3 : x3.U.length = 6 := by rw [← hx3]; exact hU2
  have ek3 : x3.k = x.k := by rw [← hx3, ← hx2, ← hx1]
  generalize hx4 : (⟨x3.U, x3.v, x3.l, x.k + 1⟩ : BS) = x4
  have e4 : x3.c.set 8 (.int .i64 ((x.k : Int) + 1)) = x4.c := by
    have := bs_set8 (x := x3) (z := x.k + 1) hU3
    rw [hx4, Int.natCast_add] at this
    exact this
  have hU4 : x4.U.length = 6 := by rw [← hx4]; exact hU3
  have ev4 : x4.v = x.v + b.A[x.k] := by rw [← hx4, ← hx3, ← hx2]
  have eu4 : x4.U = x.U.set n (x.U[n] + b.A[x.k]) := by rw [← hx4, ← hx3, ← hx2, ← hx1]
  have eg4 : x4.c[n]? = some (.int .i64 (x.U[n] + b.A[x.k])) := by
    rw [bs_get (by omega)]
    simp only [eu4, List.getElem_set_self]
  have ef : (⟨x.U.set n (x.U[n] + b.A[x.k]), x.v + b.A[x.k], (n : Int), x.k + 1⟩ : BS) = x4 := by rw [← hx4, ← hx3, ← hx2, ← hx1]
  rw [ef]
  have ld : ∀ (y : BS) j w t, y.c[j]? = some w → loadT ⟨some false, some 1⟩ (AObj.cells 84 y.c 0 :: t) (.pointer (some ⟨0, j, none⟩)) = some w := fun y j w t hj => obj_load (b := 0) (j := j) rfl hj
  have ldn : ∀ (y : BS) j w t, y.c[j]? = some w → loadT ⟨some false, some 1⟩ (AObj.cells 84 y.c 0 :: t) (cAt 0 j) = some w := fun y j w t hj => obj_load (b := 0) (j := j) rfl hj
  have st : ∀ (y y' : BS) (j : Nat) (w : Value) (t : Heap), y.U.length = 6 → j < 9 → cellsOf w = some [w] → y.c.set j w = y'.c → storeT (some 1) (AObj.cells 84 y.c 0 :: t) 0 w (cAt 0 j) = some (AObj.cells 84 y'.c 0 :: t) := fun y y' j w t h6 hj hc he =>
    (obj_store (b := 0) (j := j) (lo := 0) (t := 84) (c := y.c) rfl (by rw [bs_len h6]; exact hj) (Nat.zero_le _) hc).trans (by rw [he]; rfl)
  have l7 := fun t => ld x 7 _ t (bs_get7 hU)
  have l8 := fun t => ld x 8 _ t (bs_get8 hU)
  have lU := fun t => ldn x n _ t (bs_get hnU)
  have s1 := fun t => st x x1 n _ t hU (by omega) rfl e1
  have l61 := fun t => ld x1 6 _ t (bs_get6 hU1)
  have s2 : ∀ t, storeT (some 1) (AObj.cells 84 x1.c 0 :: t) 0 (.int .i64 (x.v + b.A[x.k])) (.pointer (some ⟨0, 6, none⟩)) = some (AObj.cells 84 x2.c 0 :: t) := fun t => st x1 x2 6 _ t hU1 (by omega) rfl e2
  have s3 : ∀ t, storeT (some 1) (AObj.cells 84 x2.c 0 :: t) 0 (.int .i64 (n : Int)) (.pointer (some ⟨0, 7, none⟩)) = some (AObj.cells 84 x3.c 0 :: t) := fun t => st x2 x3 7 _ t hU2 (by omega) rfl e3
  have l83 := fun t => ld x3 8 _ t (bs_get8 hU3)
  rw [ek3] at l83
  rw [ev1] at l61
  have s4 : ∀ t, storeT (some 1) (AObj.cells 84 x3.c 0 :: t) 0 (.int .i64 ((x.k : Int) + 1)) (.pointer (some ⟨0, 8, none⟩)) = some (AObj.cells 84 x4.c 0 :: t) := fun t => st x3 x4 8 _ t hU3 (by omega) rfl e4
  have fz : ∀ z : AObj, freezeV E.P depth 0 [AObj.cells 84 x4.c 0, z] (.pointer (some ⟨0, 0, none⟩)) = some (cptr (.agg ⟨x4.c⟩), [AObj.dead, z]) := fun z =>
    (obj_frz (P := E.P) (lo := 0) (b := 0) (t := 84) (h := [AObj.cells 84 x4.c 0, z]) rfl (by rw [sBS, bs_len hU4]) aBS (Nat.zero_le _) (bs_all x4 7)).trans rfl
  have ff : fitsTT ⟨some true, some 9⟩ (.agg ⟨x4.c⟩) = true := fits_ag (by show x4.c.length = 9; exact bs_len hU4)
  have g0 : fieldAddrT ⟨some true, some 9⟩ (some (0, ⟨some true, some 6⟩)) (cptr (.agg ⟨x4.c⟩)) = some (cptr (.agg ⟨intE.vals x4.U⟩)) := by
    rw [fieldAddr_cptr, if_pos ff]
    show (fieldT (some (0, ⟨some true, some 6⟩)) (.agg ⟨x4.c⟩)).map cptr = _
    rw [field_agg, Option.bind_some, part_agg]
    have e : (Array.extract ⟨x4.c⟩ 0 (0 + 6)) = ⟨intE.vals x4.U⟩ := by
      rw [← Array.toList_inj]
      show _ = intE.vals x4.U
      simp [BS.c]
      rw [List.take_append_of_le_length (by rw [Enc.vals_len]; omega), List.take_of_length_le (by rw [Enc.vals_len]; omega)]
    rw [Option.map_some, e]
  have gi := st_i5 hU4 hn
  have eg4' : x4.U[n]'(by omega) = x.U[n] + b.A[x.k] := by simp only [eu4, List.getElem_set_self]
  rw [eg4'] at gi
  have g6 : fieldAddrT ⟨some true, some 9⟩ (some (6, ⟨some false, some 1⟩)) (cptr (.agg ⟨x4.c⟩)) = some (cptr (.int .i64 (x.v + b.A[x.k]))) := by
    rw [fieldAddr_cptr, if_pos ff]
    show ((⟨x4.c⟩ : Array Value)[6]?).map cptr = _
    rw [List.getElem?_toArray, bs_get6 hU4, ev4]; rfl
  have sA : storeT (some 9) [AObj.dead, AObj.cells 84 zB.c 0] 0 (.agg ⟨x4.c⟩) (.pointer (some ⟨1, 0, none⟩)) = some [AObj.dead, AObj.cells 84 x4.c 0] :=
    (obj_put (h := [AObj.dead, AObj.cells 84 zB.c 0]) (b := 1) (n := 9) (lo := 0) (t := 84) (c := zB.c) rfl rfl (bs_len hU4) (by decide) (Nat.zero_le _)).trans rfl
  have lR : loadT ⟨some true, some 9⟩ [AObj.dead, AObj.cells 84 x4.c 0] (.pointer (some ⟨1, 0, none⟩)) = some (.agg ⟨x4.c⟩) := obj_all (b := 1) rfl (bs_len hU4)
  have rf : ∀ h, reifyC E.P 7 h x4.c = some x4.c := fun h => reifyC_set (by have := bs_all x4 7; exact this)
  have ez : zB.c = [.int .i64 0, .int .i64 0, .int .i64 0, .int .i64 0, .int .i64 0, .int .i64 0, .int .i64 0, .int .i64 0, .int .i64 0] := rfl
  rw [ez] at sA
  have ai : indexAddrT (.arr 6 ⟨some false, some 1⟩) (.pointer (some ⟨0, 0, none⟩)) (.int .i64 (n : Int)) = some (cAt 0 n) := by
    have := arr_idx (b := 0) (off := 0) (len := 6) (k := .i64) (g := some false) hn
    rw [Nat.zero_add] at this
    exact this
  have q1 : ¬ ((n : Int) < 0) := by omega
  have q2 : ¬ (6 ≤ (n : Int)) := by omega
  have q4 : ¬ ((x.k : Int) = b.A.length) := by omega
  have w1 : IntKind.i64.wrap (x.U[n] + b.A[x.k]) = x.U[n] + b.A[x.k] := wrap64 (by omega) (by omega)
  have w2 : IntKind.i64.wrap (x.v + b.A[x.k]) = x.v + b.A[x.k] := wrap64 (by omega) (by omega)
  have w3 : IntKind.i64.wrap ((x.k : Int) + 1) = (x.k : Int) + 1 := wrap64 (by omega) (by omega)
  unfold BS.V
  clear ef ev4 eu4 eg4 eg4' e1 e2 e3 e4 hx1 hx2 hx3 hx4 ev1 ek3 st ld ldn
  generalize x.U[n] = un at *
  generalize b.A[x.k] = a at *
  generalize b.lim[n] = z at *
  rw [pureCall_fn F69 rfl]
  by_cases q5 : x.l < 0
  · have q5' : ¬ (0 ≤ x.l) := by omega
    by_cases d1 : un + a ≤ z <;> by_cases d2 : x.v + a ≤ b.most <;>
    simp -implicitDefEqProofs [r69, p69, q1, q2, rop_nilT, nb, f1, i1, f0, la, l8, q4, l7, q5', ia, ai, lU, w1, s1, l61, w2, s2, s3, l83, w3, s4, prep_frz, prep_still, fz, rop_loadC, isCp_cptr, ff, g0, gi, f7, i7, g6, f49, d1, d2, sA, lR, rf]
  · obtain ⟨m, hm'⟩ : ∃ m : Nat, x.l = (m : Int) := ⟨x.l.toNat, by omega⟩
    have hm6 : m < 6 := by have := hx.l; omega
    have h2 := hl m hm'
    have i13 := nev_i (l := b.nev) hm6
    have i14 := bol_i (nev_len hb.nev hm6) hn
    have hg : 6 * m + n < b.nev.length := by have := hb.nev; omega
    rw [getD_eq hg] at h2
    have e3 : ((b.nev.drop (m * 6)).take 6)[n]'(by rw [nev_len hb.nev hm6]; exact hn) = false := by
      rw [List.getElem_take, List.getElem_drop, ← h2]
      congr 1; omega
    rw [e3] at i14
    rw [hm'] at l7
    by_cases d1 : un + a ≤ z <;> by_cases d2 : x.v + a ≤ b.most <;>
    simp -implicitDefEqProofs [r69, p69, q1, q2, rop_nilT, nb, f1, i1, f0, la, l8, q4, l7, f13, i13, i14, ia, ai, lU, w1, s1, l61, w2, s2, s3, l83, w3, s4, prep_frz, prep_still, fz, rop_loadC, isCp_cptr, ff, g0, gi, f7, i7, g6, f49, d1, d2, sA, lR, rf]
theorem next_spec (b : Bp) (hb : BpL b) (hA : AOk b.A) (x : BS) (hx : BsW b.A x) (u : Int) :
    pureCall E.P (L E) 69 [bpV b, x.V, .int .i64 u] = some (.tuple ⟨[(nextB b x u).1.V, .bool (nextB b x u).2]⟩) := by
  unfold nextB
  by_cases h : u < 0 ∨ 6 ≤ u ∨ b.may.getD u.toNat false = false ∨ x.k = b.A.length ∨ (0 ≤ x.l ∧ b.nev.getD (6 * x.l.toNat + u.toNat) false = true)
  · rw [if_pos h]
    exact next_no b hb (by have := hA.len; omega) x hx u h
  · rw [if_neg h]
    obtain ⟨n, rfl⟩ : ∃ n : Nat, u = (n : Int) := ⟨u.toNat, by have : ¬ u < 0 := fun e => h (.inl e); omega⟩
    have hn : n < 6 := by have : ¬ 6 ≤ (n : Int) := fun e => h (.inr (.inl e)); omega
    rw [Int.toNat_natCast] at h ⊢
    have hnm : n < b.may.length := by have := hb.may; omega
    have hnU : n < x.U.length := by have := hx.u; omega
    have hnl : n < b.lim.length := by have := hb.lim; omega
    have hk : x.k < b.A.length := by have := hx.k; have : x.k ≠ b.A.length := fun e => h (.inr (.inr (.inr (.inl e)))); omega
    have hm : b.may[n] = true := by
      cases hc : b.may[n] with
      | true => rfl
      | false => exact absurd (.inr (.inr (.inl (by rw [getD_eq hnm, hc])))) h
    rw [getD_eq hnU, getD_eq hk, getD_eq hnl]
    refine next_yes b hb hA x hx n hn hm hk fun m hm' => ?_
    cases hc : b.nev.getD (6 * m + n) false with
    | false => rfl
    | true => exact absurd (.inr (.inr (.inr (.inr ⟨by omega, by rw [hm', Int.toNat_natCast]; exact hc⟩)))) h
theorem bs_flat (x : BS) : flat x.V = true := by
  show x.c.toArray.all atom = true
  rw [List.all_toArray]
  unfold BS.c
  rw [List.all_append, List.all_eq_true.2 (fun v hv => by obtain ⟨a, _, rfl⟩ := List.mem_map.1 hv; rfl)]; rfl
theorem bs_scalar (x : BS) : scalar x.V = true := bs_flat x
def folB (b : Bp) : BS → List Int → BS × Bool
  | x, [] => (x, true)
  | x, u :: c => if (nextB b x u).2 = true then folB b (nextB b x u).1 c else ((nextB b x u).1, false)
theorem folB_cons (b : Bp) (x : BS) (u : Int) (c : List Int) : folB b x (u :: c) = if (nextB b x u).2 = true then folB b (nextB b x u).1 c else ((nextB b x u).1, false) := rfl
theorem folB_w {b : Bp} (hA : AOk b.A) : ∀ (c : List Int) {x : BS}, BsW b.A x → BsW b.A (folB b x c).1
  | [], _, h => h
  | u :: c, x, h => by
    rw [folB_cons]
    split
    · exact folB_w hA c (nextB_w hA h u)
    · exact nextB_w hA h u
set_option maxHeartbeats 2000000 in
theorem follow_spec (b : Bp) (hb : BpL b) (hA : AOk b.A) (kc : Option Bool) (c : List Int) (hkc : Enc.Ok kc c) (hc : c.length ≤ 1000000) :
    pureCall E.P (L E) 53 [bpV b, intE.o kc c] = some (.tuple ⟨[(folB b bs0 c).1.V, .bool (folB b bs0 c).2]⟩) := by
  have lc := fun h => Enc.o_len (O := intE) (h := h) hkc
  have ic : ∀ (i : Nat) (hi : i < c.length), indexAddrT (.sl 3 ⟨some false, some 1⟩) (intE.o kc c) (.int .i64 (i : Int)) = some (cptr (.int .i64 c[i])) := fun i hi => Enc.index_o (O := intE) hkc hi
  generalize intE.o kc c = CV at *
  have ns := fun x hx u => next_spec b hb hA x hx u
  have rB : ∀ h, reify E.P 8 h (bpV b) = some (bpV b) := fun h => rfl
  generalize bpV b = B at *
  have st := start_spec
  have s1 : ∀ (y z w : BS), z.U.length = 6 → w.U.length = 6 → storeT (some 9) [AObj.cells 84 y.c 0, AObj.cells 84 z.c 0] 0 w.V (.pointer (some ⟨1, 0, none⟩)) = some [AObj.cells 84 y.c 0, AObj.cells 84 w.c 0] := fun y z w hz hw =>
    (obj_put (h := [AObj.cells 84 y.c 0, AObj.cells 84 z.c 0]) (b := 1) (n := 9) (lo := 0) (t := 84) (c := z.c) rfl (bs_len hz) (bs_len hw) (by decide) (Nat.zero_le _)).trans rfl
  have s0 : ∀ (y z w : BS), y.U.length = 6 → w.U.length = 6 → storeT (some 9) [AObj.cells 84 y.c 0, AObj.cells 84 z.c 0] 0 w.V (.pointer (some ⟨0, 0, none⟩)) = some [AObj.cells 84 w.c 0, AObj.cells 84 z.c 0] := fun y z w hz hw =>
    (obj_put (h := [AObj.cells 84 y.c 0, AObj.cells 84 z.c 0]) (b := 0) (n := 9) (lo := 0) (t := 84) (c := y.c) rfl (bs_len hz) (bs_len hw) (by decide) (Nat.zero_le _)).trans rfl
  have l1 : ∀ (y z : BS), z.U.length = 6 → loadT ⟨some true, some 9⟩ [AObj.cells 84 y.c 0, AObj.cells 84 z.c 0] (.pointer (some ⟨1, 0, none⟩)) = some z.V := fun y z hz => obj_all (b := 1) rfl (bs_len hz)
  have l0 : ∀ (y z : BS), y.U.length = 6 → loadT ⟨some true, some 9⟩ [AObj.cells 84 y.c 0, AObj.cells 84 z.c 0] (.pointer (some ⟨0, 0, none⟩)) = some y.V := fun y z hz => obj_all (b := 0) rfl (bs_len hz)
  have rf := fun (x : BS) h => bs_reify x h 6
  have hz : zB.U.length = 6 := rfl
  have h0 : bs0.U.length = 6 := rfl
  have ez : zB.c = [.int .i64 0, .int .i64 0, .int .i64 0, .int .i64 0, .int .i64 0, .int .i64 0, .int .i64 0, .int .i64 0, .int .i64 0] := rfl
  have i1 := s1 zB zB bs0 hz h0
  rw [ez] at i1
  rw [pureCall_fn F53 rfl]
  simp -implicitDefEqProofs [r53, p53, ret0 m68, st, i1, bs_scalar, lc]
  rw [LL_for (γ := BS) c bs0 (fun i _ => [(13, .int .i64 i)]) (fun _ x => [AObj.cells 84 zB.c 0, AObj.cells 84 x.c 0])
    (fun _ rest x => if (folB b x rest).2 = true then (.exit 0, [(13, undef)], [AObj.cells 84 zB.c 0, AObj.cells 84 (folB b x rest).1.c 0]) else (.ret, [(5, .bool false), (13, undef)], [AObj.cells 84 (folB b x rest).1.c 0, AObj.cells 84 (folB b x rest).1.c 0])) (fun _ x => BsW b.A x) (by omega) (bs0_w b.A)]
  · have hw := folB_w hA c (bs0_w b.A)
    generalize folB b bs0 c = y at *
    obtain ⟨y, ok⟩ := y
    have r1 := rf y
    have l1 := l1 zB y hw.u
    have s0 := s0 zB y y hz hw.u
    have l0 := l0 y y hw.u
    cases ok
    · simp -implicitDefEqProofs [k53_3, l0, r1]
    · simp -implicitDefEqProofs [k53_3, l1, s0, l0, r1]
  · simp -implicitDefEqProofs [k53_3]
  · rfl
  · intro nx i x hi _
    have e : folB b x [] = (x, true) := rfl
    rw [e]
    simp -implicitDefEqProofs [r53_3, k53_3, hi, trim_le]
  · intro nx i u rest x hi hv hd hw hx ih
    have hi' : (i : Int) < (c.length : Int) := by omega
    have xi := ic i hi
    rw [hv] at xi
    have n1 := ns x hx u
    have w1 := nextB_w hA hx u
    have ih := ih _ w1
    have l1 := l1 zB x hx.u
    have s1 := s1 zB x _ hx.u w1.u
    have l2 := l1
    rw [folB_cons]
    generalize nextB b x u = y at *
    obtain ⟨y, ok⟩ := y
    have l3 := l1
    have r0 := rf x
    have ly : loadT ⟨some true, some 9⟩ [AObj.cells 84 zB.c 0, AObj.cells 84 y.c 0] (.pointer (some ⟨1, 0, none⟩)) = some y.V := obj_all (b := 1) rfl (bs_len w1.u)
    have s2 := s0 zB y y hz w1.u
    cases ok
    · simp -implicitDefEqProofs [r53_3, k53_3, hi', xi, l1, ret0 m69, bs_flat, rB, r0, n1, s1, ly, s2, trim_le]
    · simp -implicitDefEqProofs [k53_3] at ih
      simp -implicitDefEqProofs [r53_3, k53_3, hi', xi, l1, ret0 m69, bs_flat, rB, r0, n1, s1, hw, trim_le]
      exact ih
set_option maxHeartbeats 1000000 in
theorem breach_spec (b : Bp) (hb : BpL b) (hA : AOk b.A) (x : BS) (hx : BsW b.A x) :
    pureCall E.P (L E) 54 [bpV b, x.V] = some (.int .i64 (min (x.v + (b.A.drop x.k).sum) b.most)) := by
  have hU := hx.u
  have hk := hx.k
  have hv := hx.v
  have h13 := hA.len
  have f0 := bp_f0 hb
  have f49 := bp_f49 hb
  have nb : ∀ h, nilT (bpV b) h = some (bpV b, h) := fun h => nil_bp
  generalize bpV b = B at *
  have ld : ∀ j w t, x.c[j]? = some w → loadT ⟨some false, some 1⟩ (AObj.cells 84 x.c 0 :: t) (.pointer (some ⟨0, j, none⟩)) = some w := fun j w t hj => obj_load (b := 0) (j := j) rfl hj
  have l6 := fun t => ld 6 _ t (bs_get6 hU)
  have l8 := fun t => ld 8 _ t (bs_get8 hU)
  have sd : ∀ h : Heap, sliceT (.sl 3 ⟨some false, some 1⟩) h (lst false (intE.vals b.A)) (some (.int .i64 (x.k : Int))) none none = some (lst false (intE.vals (b.A.drop x.k))) := fun h => Enc.drop_tree (O := intE) rfl hk
  have lD : ∀ h, lenT .sl h (lst false (intE.vals (b.A.drop x.k))) = some (.int .i64 (b.A.drop x.k).length) := fun h => Enc.o_len (O := intE) (k := some false) Enc.ok_some
  have iD : ∀ (i : Nat) (hi : i < (b.A.drop x.k).length), indexAddrT (.sl 3 ⟨some false, some 1⟩) (lst false (intE.vals (b.A.drop x.k))) (.int .i64 (i : Int)) = some (cptr (.int .i64 (b.A.drop x.k)[i])) := fun i hi => Enc.index_tree (O := intE) hi
  have hD : ∀ a ∈ b.A.drop x.k, 0 ≤ a ∧ a ≤ 1099511627776 := fun a ha => hA.a a (List.mem_of_mem_drop ha)
  have hDl : (b.A.drop x.k).length ≤ 13 := by rw [List.length_drop]; omega
  generalize b.A.drop x.k = D at *
  have eV : x.V = .agg ⟨x.c⟩ := rfl
  rw [pureCall_fn F54 rfl, eV]
  simp -implicitDefEqProofs [r54, p54, l6, l8, rop_nilT, nb, f0, sd, lD]
  rw [LL_for (γ := Int) D x.v (fun i y => [(5, .int .i64 y), (18, .int .i64 i)]) (fun _ _ => [AObj.cells 84 x.c 0]) (fun _ rest y => (.exit 0, [(5, .int .i64 (y + rest.sum)), (18, undef)], [AObj.cells 84 x.c 0])) (fun i y => 0 ≤ y ∧ y ≤ ((x.k : Int) + i) * 1099511627776) (by omega) ⟨hv.1, by simpa using hv.2⟩]
  · simp -implicitDefEqProofs [k54_3, rop_nilT, nb, f49, minI]
  · simp -implicitDefEqProofs [k54_3]
  · rfl
  · intro nx i y hi _
    simp -implicitDefEqProofs [r54_3, k54_3, hi, trim_le]
  · intro nx i a rest y hi ha hd hw hy ih
    have hi' : (i : Int) < (D.length : Int) := by omega
    have xi := iD i hi
    rw [ha] at xi
    have hab := hD a (ha ▸ List.getElem_mem hi)
    have ih := ih (y + a) ⟨by omega, by rw [Int.natCast_add, ← Int.add_assoc, Int.add_mul]; omega⟩
    have e : y + (a :: rest).sum = y + a + rest.sum := by rw [List.sum_cons]; omega
    have w1 : IntKind.i64.wrap (y + a) = y + a := wrap64 (by omega) (by omega)
    rw [e]
    simp -implicitDefEqProofs [k54_3] at ih
    simp -implicitDefEqProofs [r54_3, k54_3, hi', xi, w1, hw, trim_le]
    exact ih
end Go.Proofs.Ytcnafncmfiogcaa.Bm
