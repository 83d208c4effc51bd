/-
  The machine without a bound on the depth of calls and the number of rounds: the limit, and its equation. Conditions: none.
-/
import Derived.Test.YtgeebooalafepaaBmCode
namespace Go.Proofs.Ytgeebooalafepaa.Bm
open Go Go.RowKit

/-- What a growing sequence of unfinished results comes to. -/
noncomputable def lim {α : Type} (F : Nat → Option α) : Option α :=
  open Classical in if h : ∃ n, (F n).isSome = true then F h.choose else none

def Grows {α : Type} (F : Nat → Option α) : Prop := ∀ n m r, n ≤ m → F n = some r → F m = some r

theorem lim_some {α : Type} {F : Nat → Option α} (hF : Grows F) {r : α} : lim F = some r ↔ ∃ n, F n = some r := by
  unfold lim
  constructor
  · intro h
    split at h
    · exact ⟨_, h⟩
    · cases h
  · rintro ⟨n, hn⟩
    have he : ∃ n, (F n).isSome = true := ⟨n, by rw [hn]; rfl⟩
    rw [dif_pos he]
    obtain ⟨x, hx⟩ := Option.isSome_iff_exists.1 he.choose_spec
    rw [hx]
    rcases Nat.le_total n he.choose with h | h
    · rw [hF _ _ _ h hn] at hx; exact hx.symm
    · rw [hF _ _ _ h hx] at hn; exact hn

def LeC (C C' : Callee) : Prop := ∀ f args h lo r, C f args h lo = some r → C' f args h lo = some r
def LeB (b b' : Body) : Prop := ∀ σ h r, b σ h = some r → b' σ h = some r

section
variable {E : Env}

theorem bind_le {α β : Type} {x x' : Option α} {f f' : α → Option β} (hx : ∀ a, x = some a → x' = some a) (hf : ∀ a b, f a = some b → f' a = some b) {b : β} (h : x.bind f = some b) : x'.bind f' = some b := by
  simp only [Option.bind_eq_some_iff] at h ⊢
  obtain ⟨a, h1, h2⟩ := h
  exact ⟨a, hx a h1, hf a b h2⟩

theorem pureCall_le {C C' : Callee} (hC : LeC C C') {f : FuncId} {args : List Value} {r : Value} (h : pureCall E.P C f args = some r) : pureCall E.P C' f args = some r := by
  unfold pureCall at *
  exact bind_le (fun a ha => hC _ _ _ _ _ ha) (fun a b hb => hb) h

theorem retCall_le {C C' : Callee} (hC : LeC C C') {lo : Nat} {strict : Bool} {f : FuncId} {args : List Value} {h : Heap} {r : Value × Heap} (hr : retCall E C lo strict f args h = some r) : retCall E C' lo strict f args h = some r := by
  unfold retCall at *
  split at hr
  · refine bind_le (fun a ha => ha) (fun a b hb => bind_le (fun a ha => pureCall_le hC ha) (fun a b hb => hb) hb) hr
  · split at hr
    · rw [if_pos ‹_›]
      simp only [Option.map_eq_some_iff] at hr ⊢
      obtain ⟨a, h1, h2⟩ := hr
      exact ⟨a, pureCall_le hC h1, h2⟩
    · cases hr
  · split at hr
    · cases hr
    · rw [if_neg ‹_›]; exact hC _ _ _ _ _ hr
  · split at hr
    · cases hr
    · rw [if_neg ‹_›]
      simp only [Option.bind_eq_some_iff, Option.map_eq_some_iff] at hr ⊢
      obtain ⟨q, h0, a, h1, h2⟩ := hr
      exact ⟨q, h0, a, pureCall_le hC h1, h2⟩
  · split at hr
    · cases hr
    · rw [if_neg ‹_›]
      simp only [Option.map_eq_some_iff] at hr ⊢
      obtain ⟨a, h1, h2⟩ := hr
      exact ⟨a, hC _ _ _ _ _ h1, h2⟩

theorem aop_le {C C' : Callee} (hC : LeC C C') {lo : Nat} {strict : Bool} {op : Op} {ρ : Operand → Value} {h : Heap} {r : Value × Heap} (hr : aop E C lo strict op ρ h = some r) : aop E C' lo strict op ρ h = some r := by
  cases op with
  | call c =>
    simp only [aop] at hr ⊢
    split at hr
    · unfold aCall at *
      split at hr
      · exact retCall_le hC hr
      · cases hr
    · exact hr
    · cases hr
  | makeFunc fn _ _ => cases fn <;> exact hr
  | _ => exact hr

theorem runOps_le {C C' : Callee} (hC : LeC C C') {lo : Nat} {ops : Array Oper} : ∀ (l : List (Oper × Bool)) (σ : Slots) (h : Heap) (r : Slots × Heap), runOps E C lo ops l σ h = some r → runOps E C' lo ops l σ h = some r
  | [], σ, h, r, hr => hr
  | (o, st) :: l, σ, h, r, hr => by
    simp only [runOps] at hr ⊢
    split at hr
    · exact bind_le (fun a ha => aop_le hC ha) (fun a b hb => runOps_le hC l _ _ _ hb) hr
    · exact runOps_le hC l _ _ _ hr
    · cases hr

theorem evG_le {f : FuncId} {C C' : Callee} (hC : LeC C C') {Lp Lp' : List Nat × List Nat → Body → Body} (hL : ∀ k b b', LeB b b' → LeB (Lp k b) (Lp' k b')) {lo : Nat} : ∀ c : Code, LeB (evG E f C Lp lo c) (evG E f C' Lp' lo c) := by
  intro c
  induction c with
  | region id ops draw =>
    intro σ h r hr
    simp only [evG] at hr ⊢
    refine bind_le (fun a ha => ha) (fun a b hb => ?_) hr
    simp only [Option.map_eq_some_iff] at hb ⊢
    obtain ⟨x, h1, h2⟩ := hb
    exact ⟨x, runOps_le hC _ _ _ _ h1, h2⟩
  | seq a b iha ihb =>
    intro σ h r hr
    simp only [evG] at hr ⊢
    refine bind_le (fun x hx => iha _ _ _ hx) (fun x y hy => ?_) hr
    obtain ⟨e1, σ1, h1⟩ := x
    cases e1 <;> simp only at hy ⊢
    case normal => exact ihb _ _ _ hy
    all_goals exact hy
  | cond c a b iha ihb =>
    intro σ h r hr
    simp only [evG] at hr ⊢
    split at hr
    · exact iha _ _ _ hr
    · exact ihb _ _ _ hr
    · cases hr
  | block id a iha =>
    intro σ h r hr
    simp only [evG, Option.map_eq_some_iff] at hr ⊢
    obtain ⟨x, h1, h2⟩ := hr
    exact ⟨x, iha _ _ _ h1, h2⟩
  | loop a iha => intro σ h r hr; exact hL _ _ _ iha _ _ _ hr
  | scope a iha =>
    intro σ h r hr
    simp only [evG] at hr ⊢
    exact bind_le (fun x hx => iha _ _ _ hx) (fun x y hy => hy) hr
  | _ => intro σ h r hr; exact hr

theorem evLoop_le (k : List Nat × List Nat) {b b' : Body} (hb : LeB b b') : ∀ n m, n ≤ m → LeB (evLoop n k b) (evLoop m k b') := by
  intro n
  induction n with
  | zero => intro m _ σ h r hr; simp [evLoop] at hr
  | succ n ih =>
    intro m hm σ h r hr
    obtain ⟨m, rfl⟩ : ∃ m', m = m' + 1 := ⟨m - 1, by omega⟩
    simp only [evLoop] at hr ⊢
    refine bind_le (fun x hx => hb _ _ _ hx) (fun x y hy => ?_) hr
    obtain ⟨e1, σ1, h1⟩ := x
    cases e1 <;> simp only at hy ⊢
    case normal => exact ih m (by omega) _ _ _ hy
    all_goals exact hy

theorem evCall_le {C C' : Callee} (hC : LeC C C') {Lp Lp' : List Nat × List Nat → Body → Body} (hL : ∀ k b b', LeB b b' → LeB (Lp k b) (Lp' k b')) : LeC (evCall E C Lp) (evCall E C' Lp') := by
  intro f args h lo r hr
  unfold evCall at *
  split at hr
  · exact hr
  simp only [evBody] at hr ⊢
  refine bind_le (fun x hx => hx) (fun x y hy => bind_le (fun x hx => hx) (fun x y hy => bind_le (fun x hx => evG_le hC hL _ _ _ _ hx) (fun x y hy => hy) hy) hy) hr

theorem evF_mono : ∀ n m, n ≤ m → LeC (evF E n) (evF E m) := by
  intro n
  induction n with
  | zero => intro m _ f args h lo r hr; simp [evF] at hr
  | succ n ih =>
    intro m hm
    obtain ⟨m, rfl⟩ : ∃ m', m = m' + 1 := ⟨m - 1, by omega⟩
    exact evCall_le (ih m (by omega)) fun k b b' hb => evLoop_le k hb n m (by omega)

/-- A call, without a bound. -/
noncomputable def L (E : Env) : Callee := fun f args h lo => lim fun n => evF E n f args h lo
/-- A loop, without a bound. -/
noncomputable def LL (k : List Nat × List Nat) (b : Body) : Body := fun σ h => lim fun n => evLoop n k b σ h

theorem L_some {f : FuncId} {args : List Value} {h : Heap} {lo : Nat} {r : Value × Heap} : L E f args h lo = some r ↔ ∃ n, evF E n f args h lo = some r :=
  lim_some fun n m _r hm hr => evF_mono n m hm _ _ _ _ _ hr
theorem LL_some {k : List Nat × List Nat} {b : Body} {σ : Slots} {h : Heap} {r : Exit × Slots × Heap} : LL k b σ h = some r ↔ ∃ n, evLoop n k b σ h = some r :=
  lim_some fun n m _r hm hr => evLoop_le k (fun _ _ _ h => h) n m hm _ _ _ hr

theorem evF_L (n : Nat) : LeC (evF E n) (L E) := fun _ _ _ _ _ hr => L_some.2 ⟨n, hr⟩
theorem evLoop_LL (n : Nat) (k : List Nat × List Nat) {b b' : Body} (hb : LeB b b') : LeB (evLoop n k b) (LL k b') := fun _ _ _ hr => LL_some.2 ⟨n, evLoop_le k hb n n (Nat.le_refl _) _ _ _ hr⟩

/-! ### Whatever the limit does, it has done at some depth -/

def At {α : Type} (F : Nat → Option α) (r : α) : Prop := ∃ n, ∀ m, n ≤ m → F m = some r

theorem At.pure {α : Type} {x : Option α} {r : α} (h : x = some r) : At (fun _ => x) r := ⟨0, fun _ _ => h⟩
theorem At.bind {α β : Type} {F : Nat → Option α} {G : Nat → α → Option β} {a : α} {b : β} (h : At F a) (k : At (fun n => G n a) b) : At (fun n => (F n).bind (G n)) b := by
  obtain ⟨n, hn⟩ := h
  obtain ⟨m, hm⟩ := k
  refine ⟨max n m, fun x hx => ?_⟩
  simp only [hn x (by omega), Option.bind_some]
  exact hm x (by omega)

theorem L_at {f : FuncId} {args : List Value} {h : Heap} {lo : Nat} {r : Value × Heap} (hr : L E f args h lo = some r) : At (fun n => evF E n f args h lo) r := by
  obtain ⟨n, hn⟩ := L_some.1 hr
  exact ⟨n, fun m hm => evF_mono n m hm _ _ _ _ _ hn⟩

theorem At.map {α β : Type} {F : Nat → Option α} {a : α} (g : α → β) (h : At F a) : At (fun n => (F n).map g) (g a) := by
  obtain ⟨n, hn⟩ := h
  exact ⟨n, fun m hm => by simp [hn m hm]⟩

theorem pureCall_at {f : FuncId} {args : List Value} {r : Value} (hr : pureCall E.P (L E) f args = some r) : At (fun n => pureCall E.P (evF E n) f args) r := by
  unfold pureCall at *
  simp only [Option.bind_eq_some_iff] at hr
  obtain ⟨x, h1, h2⟩ := hr
  exact (L_at h1).bind (.pure h2)

theorem aop_at {lo : Nat} {strict : Bool} {op : Op} {ρ : Operand → Value} {h : Heap} {r : Value × Heap} (hr : aop E (L E) lo strict op ρ h = some r) : At (fun n => aop E (evF E n) lo strict op ρ h) r := by
  cases op with
  | call c =>
    simp only [aop] at hr ⊢
    split at hr
    · rename_i f hcal
      try simp only [hcal]
      unfold aCall at *
      split at hr
      case h_2 => cases hr
      rename_i g first captured hf
      try simp only [hf]
      unfold retCall at *
      split at hr
      · rename_i hm
        try simp only [hm]
        simp only [Option.bind_eq_some_iff] at hr
        obtain ⟨ts, h1, x, h2, h3⟩ := hr
        exact (At.pure h1).bind ((pureCall_at h2).bind (.pure h3))
      · rename_i hm
        try simp only [hm]
        split at hr
        · rename_i hs
          simp only [if_pos hs]
          simp only [Option.map_eq_some_iff] at hr
          obtain ⟨x, h1, rfl⟩ := hr
          exact (pureCall_at h1).map _
        · cases hr
      · rename_i hm
        try simp only [hm]
        split at hr
        · cases hr
        · rename_i hs
          simp only [if_neg hs]
          exact L_at hr
      · rename_i hm
        try simp only [hm]
        split at hr
        · cases hr
        · rename_i hs
          simp only [if_neg hs]
          simp only [Option.bind_eq_some_iff, Option.map_eq_some_iff] at hr
          obtain ⟨q, h0, x, h1, rfl⟩ := hr
          exact (At.pure h0).bind ((pureCall_at h1).map _)
      · rename_i hm0 hm1 hm2 hm4
        split at hr
        · cases hr
        rename_i hs
        simp only [Option.map_eq_some_iff] at hr
        obtain ⟨x, h1, rfl⟩ := hr
        have e := (L_at h1).map fun r => (r.1, trim h.length [r.1] r.2)
        obtain ⟨n, hn⟩ := e
        refine ⟨n, fun m hm => ?_⟩
        simp only [if_neg hs]
        exact hn m hm
    · rename_i b hcal
      try simp only [hcal]
      exact .pure hr
    · cases hr
  | makeFunc fn _ _ => cases fn <;> exact .pure hr
  | _ => exact .pure hr

theorem runOps_at {lo : Nat} {ops : Array Oper} : ∀ (l : List (Oper × Bool)) (σ : Slots) (h : Heap) (r : Slots × Heap), runOps E (L E) lo ops l σ h = some r → At (fun n => runOps E (evF E n) lo ops l σ h) r
  | [], σ, h, r, hr => .pure hr
  | (o, st) :: l, σ, h, r, hr => by
    simp only [runOps] at hr ⊢
    split at hr
    · rename_i hg
      try simp only [hg]
      simp only [Option.bind_eq_some_iff] at hr
      obtain ⟨x, h1, h2⟩ := hr
      exact (aop_at h1).bind (runOps_at l _ _ _ h2)
    · rename_i hg
      try simp only [hg]
      exact runOps_at l _ _ _ hr
    · cases hr

theorem evG_at {f : FuncId} {lo : Nat} : ∀ (c : Code) (σ : Slots) (h : Heap) (r : Exit × Slots × Heap), evG E f (L E) LL lo c σ h = some r → At (fun n => evG E f (evF E n) (evLoop n) lo c σ h) r := by
  intro c
  induction c with
  | region id ops draw =>
    intro σ h r hr
    simp only [evG] at hr ⊢
    simp only [Option.bind_eq_some_iff, Option.map_eq_some_iff] at hr
    obtain ⟨x, h1, y, h2, rfl⟩ := hr
    exact (At.pure h1).bind ((runOps_at _ _ _ _ h2).map _)
  | seq a b iha ihb =>
    intro σ h r hr
    simp only [evG, Option.bind_eq_some_iff] at hr ⊢
    obtain ⟨⟨e1, σ1, h1⟩, ha, hr⟩ := hr
    refine (iha _ _ _ ha).bind ?_
    cases e1 <;> simp only at hr ⊢
    case normal => exact ihb _ _ _ hr
    all_goals exact .pure hr
  | cond c a b iha ihb =>
    intro σ h r hr
    simp only [evG] at hr ⊢
    split at hr
    · exact iha _ _ _ hr
    · exact ihb _ _ _ hr
    · cases hr
  | block id a iha =>
    intro σ h r hr
    simp only [evG, Option.map_eq_some_iff] at hr ⊢
    obtain ⟨x, h1, rfl⟩ := hr
    exact (iha _ _ _ h1).map _
  | scope a iha =>
    intro σ h r hr
    simp only [evG, Option.bind_eq_some_iff] at hr ⊢
    obtain ⟨x, h1, h2⟩ := hr
    exact (iha _ _ _ h1).bind (.pure h2)
  | loop a iha =>
    intro σ h r hr
    simp only [evG] at hr ⊢
    obtain ⟨m, hm⟩ := LL_some.1 hr
    suffices key : ∀ m σ h, evLoop m (E.kill f ((firstReg a).getD 0)) (evG E f (L E) LL lo a) σ h = some r → At (fun n => evLoop m (E.kill f ((firstReg a).getD 0)) (evG E f (evF E n) (evLoop n) lo a) σ h) r by
      obtain ⟨n, hn⟩ := key m σ h hm
      refine ⟨max n m, fun x hx => ?_⟩
      exact evLoop_le _ (fun _ _ _ h => h) m x (by omega) _ _ _ (hn x (by omega))
    intro m
    induction m with
    | zero => intro σ h hr; simp [evLoop] at hr
    | succ m ih =>
      intro σ h hr
      simp only [evLoop, Option.bind_eq_some_iff] at hr ⊢
      obtain ⟨⟨e1, σ1, h1⟩, ha, hr⟩ := hr
      refine (iha _ _ _ ha).bind ?_
      cases e1 <;> simp only at hr ⊢
      case normal => exact ih _ _ hr
      all_goals exact .pure hr
  | _ => intro σ h r hr; exact .pure hr

theorem evCall_at {f : FuncId} {args : List Value} {h : Heap} {lo : Nat} {r : Value × Heap} (hr : evCall E (L E) LL f args h lo = some r) : At (fun n => evCall E (evF E n) (evLoop n) f args h lo) r := by
  unfold evCall at *
  split at hr
  · exact .pure hr
  · simp only [evBody, Option.bind_eq_some_iff] at hr
    obtain ⟨fn, h1, c, h2, x, h3, h4⟩ := hr
    simp only [evBody]
    exact (At.pure h1).bind ((At.pure h2).bind ((evG_at _ _ _ _ h3).bind (.pure h4)))

/-- The equation of a call. -/
theorem L_eq (f : FuncId) (args : List Value) (h : Heap) (lo : Nat) : L E f args h lo = evCall E (L E) LL f args h lo := by
  apply Option.ext
  intro r
  constructor
  · intro hr
    obtain ⟨n, hn⟩ := L_some.1 hr
    cases n with
    | zero => simp [evF] at hn
    | succ n => exact evCall_le (evF_L n) (fun k b b' hb => evLoop_LL n k hb) _ _ _ _ _ hn
  · intro hr
    obtain ⟨n, hn⟩ := evCall_at hr
    exact L_some.2 ⟨n + 1, hn n (Nat.le_refl _)⟩

/-- The equation of a loop. -/
theorem LL_eq (k : List Nat × List Nat) (b : Body) (σ : Slots) (h : Heap) : LL k b σ h = (b (forget k.1 σ) h).bind fun r => match r.1 with
    | .normal => LL k b (forget k.1 r.2.1) (trim h.length (forget k.1 r.2.1) r.2.2)
    | _ => some (r.1, forget k.2 r.2.1, trim h.length (forget k.2 r.2.1) r.2.2) := by
  apply Option.ext
  intro r
  constructor
  · intro hr
    obtain ⟨n, hn⟩ := LL_some.1 hr
    cases n with
    | zero => simp [evLoop] at hn
    | succ n =>
      simp only [evLoop] at hn
      refine bind_le (fun x hx => hx) (fun x y hy => ?_) hn
      obtain ⟨e1, σ1, h1⟩ := x
      cases e1 <;> simp only at hy ⊢
      case normal => exact LL_some.2 ⟨n, hy⟩
      all_goals exact hy
  · intro hr
    simp only [Option.bind_eq_some_iff] at hr
    obtain ⟨⟨e1, σ1, h1⟩, ha, hr⟩ := hr
    cases e1 <;> simp only at hr
    case normal =>
      obtain ⟨n, hn⟩ := LL_some.1 hr
      exact LL_some.2 ⟨n + 1, by simp only [evLoop, ha, Option.bind_some]; exact hn⟩
    all_goals exact LL_some.2 ⟨1, by simp only [evLoop, ha, Option.bind_some]; exact hr⟩

/-- The limit is sound. -/
theorem L_sound (hP : OkProg E.P) (hO : OrcSound E) : CSound E (L E) :=
  ⟨fun f args h lo r hr => by obtain ⟨n, hn⟩ := L_some.1 hr; exact (evF_sound hP hO n).dfd _ _ _ _ _ hn,
   fun f args h lo v h' hr => by obtain ⟨n, hn⟩ := L_some.1 hr; exact (evF_sound hP hO n).snd _ _ _ _ _ _ hn⟩

end
end Go.Proofs.Ytgeebooalafepaa.Bm
