/-
  Bodies and calls: what the abstract interpreter tells of them is true of the model's run, on every tape.
-/
import Derived.Test.YtomcadipdacanaaGreatDoorEngM
import Derived.LoopN
namespace Go.Eng
open Go
set_option linter.unusedVariables false

/-- a frame's slots are what the abstract frame tells -/
structure FR (ρ : Ren) (N : Nat) (f : T4 AV) (tmps : Array Value) : Prop where
  size : tmps.size = N
  at_ : ∀ t, VR ρ (evP f (pathOf t)) (tmps.getD t undef)

theorem FR.mono {ρ ρ' : Ren} {N : Nat} {f : T4 AV} {tmps : Array Value} (h : FR ρ N f tmps) (hle : ρ.le ρ') : FR ρ' N f tmps := ⟨h.size, fun t => (h.at_ t).mono hle⟩

theorem FR.op {ρ : Ren} {N : Nat} {f : T4 AV} {a : Act} (h : FR ρ N f a.tmps) (x : Operand) : VR ρ (evO f x) (a.eval x) := by
  cases x with
  | tmp t => exact h.at_ t
  | const v => exact .of ρ v
  | global g => exact .c _
  | func fn => exact .clo .nil .nil

theorem evP_set (f : T4 AV) (v : AV) (d t : Nat) : evP (T4.set v (pathOf d) f) (pathOf t) = if t = d then v else evP f (pathOf t) := by
  unfold evP
  by_cases h : t = d
  · subst h; rw [if_pos rfl, T4.get_set_self]
  · rw [if_neg h, T4.get_set_ne _ _ _ (fun e => h (pathOf_inj e))]

theorem FR.put {ρ : Ren} {N : Nat} {f : T4 AV} {a : Act} (h : FR ρ N f a.tmps) {v : AV} {cv : Value} (hv : VR ρ v cv) (d : Nat) (hd : d < N) : FR ρ N (T4.set v (pathOf d) f) (a.put (some d) cv).tmps := by
  refine ⟨by simp [Act.put, h.size], fun t => ?_⟩
  rw [evP_set]
  show VR ρ _ ((a.tmps.setIfInBounds d cv).getD t undef)
  by_cases ht : t = d
  · subst ht
    rw [if_pos rfl, Array.getD_eq_getD_getElem?, Array.getElem?_setIfInBounds_self_of_lt (by rw [h.size]; exact hd)]
    exact hv
  · rw [if_neg ht]
    have := h.at_ t
    rw [Array.getD_eq_getD_getElem?] at this ⊢
    rw [Array.getElem?_setIfInBounds_ne (fun e => ht e.symm)]
    exact this

/-- calls put off, as they are told -/
inductive DefR (P : Program) (ρ : Ren) : List (FuncId × List AV) → List Deferred → Prop
  | nil : DefR P ρ [] []
  | cons {g : FuncId} {args : List AV} {l : List (FuncId × List AV)} {d : Deferred} {r : List Deferred} {cargs : Array Value} (ht : ∃ fv cap, d.target = .fn fv cap) (hi : ∀ w, (invoke d.target d.args).run P w = .ok (.enter g cargs) w)
      (ha : VRs ρ args cargs.toList) (hr : DefR P ρ l r) : DefR P ρ ((g, args) :: l) (d :: r)

theorem DefR.mono {P : Program} {ρ ρ' : Ren} {l : List (FuncId × List AV)} {r : List Deferred} (h : DefR P ρ l r) (hle : ρ.le ρ') : DefR P ρ' l r := by
  induction h with
  | nil => exact .nil
  | cons ht hi ha _ ih => exact .cons ht hi (ha.mono hle) ih

/-- a frame is what the abstract one tells, its calls put off too -/
structure AR (P : Program) (ρ : Ren) (N : Nat) (f : T4 AV) (s : St) (a : Act) : Prop where
  fr : FR ρ N f a.tmps
  df : DefR P ρ s.ds a.defers

theorem AR.mono {P : Program} {ρ ρ' : Ren} {N : Nat} {f : T4 AV} {s : St} {a : Act} (h : AR P ρ N f s a) (hle : ρ.le ρ') : AR P ρ' N f s a := ⟨h.fr.mono hle, h.df.mono hle⟩

/-- what a body comes to, handed on -/
def QOf (P : Program) (ρ : Ren) (w : World) (N : Nat) (r : Res) (Q : Exit → Act → World → Prop) : Prop := match r with
  | .ok f s => ∀ a' w', Post ρ w s w' (fun ρ' => AR P ρ' N f s a') → Q .normal a' w'
  | .exit id f s => ∀ a' w', Post ρ w s w' (fun ρ' => AR P ρ' N f s a') → Q (.exit id) a' w'
  | .ret f s => ∀ a' w', Post ρ w s w' (fun ρ' => AR P ρ' N f s a') → Q .ret a' w'
  | .bad _ => False

theorem QOf.shift {P : Program} {ρ ρ1 : Ren} {w w1 : World} {N : Nat} {r : Res} {Q : Exit → Act → World → Prop} (h : QOf P ρ w N r Q) (he : Ext w ρ ρ1) (hk : Keeps ρ w w1) : QOf P ρ1 w1 N r Q := by
  cases r with
  | ok f s => exact fun a' w' hp => h a' w' (hp.then he hk)
  | exit id f s => exact fun a' w' hp => h a' w' (hp.then he hk)
  | ret f s => exact fun a' w' hp => h a' w' (hp.then he hk)
  | bad _ => exact h

theorem put_defers (a : Act) (dst : Option Tmp) (v : Value) : (a.put dst v).defers = a.defers := by cases dst <;> rfl

/-- a slot laid -/
theorem fin_inv {N : Nat} {dst : Option Tmp} {v : AV} {f f' : T4 AV} {s s' : St} (h : fin N dst v f s = .ok f' s') : s' = s ∧ ∀ (ρ : Ren) (a : Act) (cv : Value), FR ρ N f a.tmps → VR ρ v cv → FR ρ N f' (a.put dst cv).tmps := by
  unfold fin at h
  cases hd : dstB N dst with
  | skip =>
    rw [hd] at h
    cases h
    unfold dstB at hd
    cases dst with
    | none => exact ⟨rfl, fun ρ a cv hf _ => hf⟩
    | some d => dsimp only at hd; cases hb : Nat.blt d N <;> rw [hb] at hd <;> cases hd
  | put p =>
    rw [hd] at h
    change T4.setK v p f (fun f => Res.ok f s) = .ok f' s' at h
    rw [T4.setK_eq] at h
    cases h
    unfold dstB at hd
    cases dst with
    | none => cases hd
    | some d =>
      dsimp only at hd
      cases hb : Nat.blt d N with
      | false => rw [hb] at hd; cases hd
      | true =>
        rw [hb] at hd
        cases hd
        exact ⟨rfl, fun ρ a cv hf hv => hf.put hv d (blt hb)⟩
  | bad => rw [hd] at h; cases h
theorem fin_ok {N : Nat} {dst : Option Tmp} {v : AV} {f : T4 AV} {s : St} : (∃ f', fin N dst v f s = .ok f' s) ∨ ∃ w, fin N dst v f s = .bad w := by
  unfold fin
  cases dstB N dst with
  | skip => exact .inl ⟨f, rfl⟩
  | put p => exact .inl ⟨_, T4.setK_eq _ _ _ _⟩
  | bad => exact .inr ⟨_, rfl⟩

/-- is an operation wanted? -/
theorem guard_none {ops : Array Oper} {o : Oper} (h : guardB ops o = .none) (tmps : Array Value) : Region.wanted o (yielded ops tmps) = true := by
  unfold guardB at h
  unfold Region.wanted
  cases hg : o.guard with
  | none => rfl
  | some p =>
    obtain ⟨j, want⟩ := p
    rw [hg] at h
    dsimp only at h
    cases hd : (ops[j]?).bind (·.dst) with
    | none => rw [hd] at h; cases h
    | some d => rw [hd] at h; cases h

theorem guard_tmp {ops : Array Oper} {o : Oper} {p : Pth} {want : Bool} (h : guardB ops o = .tmp p want) : ∃ j d, o.guard = some (j, want) ∧ (ops[j]?).bind (·.dst) = some d ∧ p = pathOf d := by
  unfold guardB at h
  cases hg : o.guard with
  | none => rw [hg] at h; cases h
  | some q =>
    obtain ⟨j, want'⟩ := q
    rw [hg] at h
    dsimp only at h
    cases hd : (ops[j]?).bind (·.dst) with
    | none => rw [hd] at h; cases h
    | some d => rw [hd] at h; cases h; exact ⟨j, d, rfl, hd, rfl⟩

theorem wanted_tmp {ops : Array Oper} {o : Oper} {j d : Nat} {want : Bool} (hg : o.guard = some (j, want)) (hd : (ops[j]?).bind (·.dst) = some d) (tmps : Array Value) :
    Region.wanted o (yielded ops tmps) = ((match tmps[d]? with | some (.bool b) => some b | _ => none : Option Bool) == some want) := by
  unfold Region.wanted
  rw [hg]
  dsimp only
  unfold yielded
  rw [hd]
  rfl

theorem yields_of {ρ : Ren} {v : AV} {tmps : Array Value} {d : Nat} (h : VR ρ v (tmps.getD d undef)) :
    (asB v = .t → (match tmps[d]? with | some (.bool b) => some b | _ => none : Option Bool) = some true) ∧ (asB v = .f → (match tmps[d]? with | some (.bool b) => some b | _ => none : Option Bool) = some false) ∧
    (asB v = .u → (match tmps[d]? with | some (.bool b) => some b | _ => none : Option Bool) = none) := by
  rw [Array.getD_eq_getD_getElem?] at h
  refine ⟨fun hb => ?_, fun hb => ?_, fun hb => ?_⟩
  · rw [asB_t hb] at h
    cases ht : tmps[d]? with
    | none => rw [ht] at h; cases h
    | some x => rw [ht] at h; have := h.b_inv; simp only [Option.getD_some] at this; subst this; rfl
  · rw [asB_f hb] at h
    cases ht : tmps[d]? with
    | none => rw [ht] at h; cases h
    | some x => rw [ht] at h; have := h.b_inv; simp only [Option.getD_some] at this; subst this; rfl
  · obtain ⟨vs, hv⟩ := asB_u hb
    rw [hv] at h
    cases ht : tmps[d]? with
    | none => rfl
    | some x => rw [ht] at h; have := h.c_inv; simp only [Option.getD_some] at this; subst this; rfl

/-- what stepOp tells: either the operation is not wanted and its slot is laid void, or it is run -/
theorem stepOp_inv {P : Program} {N : Nat} {env : Env} {ops : Array Oper} {o : Oper} {f f' : T4 AV} {s s' : St} (h : stepOp P N env ops o f s = .ok f' s') {ρ : Ren} {tmps : Array Value} (hf : FR ρ N f tmps) :
    (Region.wanted o (yielded ops tmps) = true ∧ runOp P N env o f s = .ok f' s') ∨ (Region.wanted o (yielded ops tmps) = false ∧ fin N o.dst uv f s = .ok f' s') := by
  unfold stepOp at h
  cases hg : guardB ops o with
  | none => rw [hg] at h; exact .inl ⟨guard_none hg tmps, h⟩
  | bad => rw [hg] at h; cases h
  | tmp p want =>
    rw [hg] at h
    obtain ⟨j, d, h1, h2, rfl⟩ := guard_tmp hg
    have hw := wanted_tmp h1 h2 tmps
    obtain ⟨y1, y2, y3⟩ := yields_of (hf.at_ d)
    change OB.rec (motive := fun _ => Res) _ _ _ _ (asB (evP f (pathOf d))) = .ok f' s' at h
    cases hb : asB (evP f (pathOf d)) with
    | t =>
      rw [hb] at h
      rw [y1 hb] at hw
      cases want with
      | true => exact .inl ⟨hw, h⟩
      | false => exact .inr ⟨hw, h⟩
    | f =>
      rw [hb] at h
      rw [y2 hb] at hw
      cases want with
      | true => exact .inr ⟨hw, h⟩
      | false => exact .inl ⟨hw, h⟩
    | u =>
      rw [hb] at h
      rw [y3 hb] at hw
      exact .inr ⟨hw, h⟩
    | no => rw [hb] at h; cases h

theorem runOp_inv {P : Program} {N : Nat} {env : Env} {o : Oper} {f f' : T4 AV} {s s' : St} (h : runOp P N env o f s = .ok f' s') : ∃ v s1, OpB.rec (motive := fun _ => OR) (fun g => g P env o.type f s) (aop o.op) = .val v s1 ∧ fin N o.dst v f s1 = .ok f' s' := by
  unfold runOp at h
  cases hr : OpB.rec (motive := fun _ => OR) (fun g => g P env o.type f s) (aop o.op) with
  | val v s1 => rw [hr] at h; exact ⟨v, s1, rfl, h⟩
  | no w => rw [hr] at h; cases h

theorem put_tmps (a : Act) (ds : List Deferred) (dst : Option Tmp) (v : Value) : ({ a with defers := ds }.put dst v).tmps = (a.put dst v).tmps := by cases dst <;> rfl

/-- an operation that is run -/
theorem oper_upon {P : Program} {N : Nat} {env : Env} (henv : EnvOK P env) {o : Oper} {Q : Exit → Act → World → Prop} {K : Act → World → Prop} {ρ : Ren} {s s' : St} {f f' : T4 AV} {a : Act} {w : World}
    (h : SR ρ s w) (hf : AR P ρ N f s a) (hr : runOp P N env o f s = .ok f' s') (hk : ∀ a' w', Post ρ w s' w' (fun ρ' => AR P ρ' N f' s' a') → K a' w') : o.upon P a K Q ((execOp a.eval o).run P w) := by
  obtain ⟨v, s1, h1, h2⟩ := runOp_inv hr
  obtain ⟨rfl, h3⟩ := fin_inv h2
  by_cases hd : ∃ c, o.op = .defer c
  · obtain ⟨c, hc⟩ := hd
    have h1' : OpB.rec (motive := fun _ => OR) (fun g => g P env o.type f s) (deferBox c) = .val v s' := by rw [hc] at h1; exact h1
    obtain ⟨rfl, g, args, d, cargs, rfl, e1, e2, e3, e4⟩ := defer_upon (w := w) hc (fun x _ => hf.fr.op x) h1'
    rw [e1, Oper.upon_defer]
    refine hk _ w (Post.here (h.ds rfl rfl rfl) ⟨?_, ?_⟩)
    · rw [put_tmps]; exact h3 ρ a undef hf.fr (.c _)
    · rw [put_defers]; exact .cons e2 e3 e4 hf.df
  · have hnd : ∀ c, o.op ≠ .defer c := fun c hc => hd ⟨c, hc⟩
    have hu := aop_upon henv hnd h (fun x _ => hf.fr.op x) h1
    refine hu _ Q fun cv w' hp => hk _ w' ?_
    obtain ⟨ρ', e1, e2, e3, e4⟩ := hp
    refine ⟨ρ', e1, e2, e3, h3 ρ' a cv (hf.fr.mono e1.le) e4, ?_⟩
    rw [put_defers, ans_ds hnd h1]
    exact hf.df.mono e1.le

/-- an operation in a region, one way through -/
theorem wpOp_step {P : Program} {N : Nat} {env : Env} (henv : EnvOK P env) {ops : Array Oper} {i : Nat} {o : Oper} (ho : ops[i]? = some o) {Q : Exit → Act → World → Prop} {K : Act → World → Prop} {ρ : Ren} {s s' : St} {f f' : T4 AV} {a : Act} {w : World}
    (h : SR ρ s w) (hf : AR P ρ N f s a) (hr : stepOp P N env ops o f s = .ok f' s') (hk : ∀ a' w', Post ρ w s' w' (fun ρ' => AR P ρ' N f' s' a') → K a' w') : wpOp P ops Q i K a w := by
  unfold wpOp
  rw [ho]
  dsimp only
  rcases stepOp_inv hr hf.fr with ⟨hw, hr⟩ | ⟨hw, hr⟩
  · rw [if_pos hw]
    exact .inl (oper_upon henv h hf hr hk)
  · rw [hw]
    simp only [Bool.false_eq_true, if_false]
    obtain ⟨rfl, h3⟩ := fin_inv hr
    exact hk _ w (Post.here h ⟨h3 ρ a undef hf.fr (.c _), by rw [put_defers]; exact hf.df⟩)

theorem execL_wp {P : Program} {N : Nat} {env : Env} (henv : EnvOK P env) {ops : Array Oper} {Q : Exit → Act → World → Prop} : ∀ (l : List Oper) (k : Nat), ops.toList.drop k = l → ∀ (ρ : Ren) (s : St) (f : T4 AV) (a : Act) (w : World), SR ρ s w → AR P ρ N f s a →
    QOf P ρ w N (execL P N env ops l f s) Q → wpOps P ops Q (List.range' k l.length) a w
  | [], k, hl, ρ, s, f, a, w, h, hf, hq => by
    show Q .normal a w
    exact hq a w (Post.here h hf)
  | o :: l, k, hl, ρ, s, f, a, w, h, hf, hq => by
    rw [List.length_cons, List.range'_succ, wpOps_cons]
    have ho : ops[k]? = some o := by
      rw [← Array.getElem?_toList]
      have : (ops.toList.drop k)[0]? = some o := by rw [hl]; rfl
      rw [List.getElem?_drop] at this
      simpa using this
    have hl' : ops.toList.drop (k + 1) = l := by
      rw [← List.tail_drop, hl]; rfl
    change QOf P ρ w N (Res.rec (motive := fun _ => Res) (execL P N env ops l) (fun _ _ _ => .bad []) (fun _ _ => .bad []) Res.bad (stepOp P N env ops o f s)) Q at hq
    cases hs : stepOp P N env ops o f s with
    | ok f1 s1 =>
      rw [hs] at hq
      refine wpOp_step henv ho h hf hs fun a' w' hp => ?_
      obtain ⟨ρ1, e1, e2, e3, e4⟩ := hp
      exact execL_wp henv l (k + 1) hl' ρ1 s1 f1 a' w' e3 e4 (QOf.shift hq e1 e2)
    | exit id f1 s1 => rw [hs] at hq; exact hq.elim
    | ret f1 s1 => rw [hs] at hq; exact hq.elim
    | bad w1 => rw [hs] at hq; exact hq.elim

end Go.Eng
