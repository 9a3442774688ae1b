/-
  A region that draws its order: one step, wherever it stands in the order.
-/
import Derived.Test.YtiamlopedkoifaaEngN
import Derived.Orders
namespace Go.Eng
open Go
set_option linter.unusedVariables false

/-- slots as an operation sees them -/
def Sees (ops : Array Oper) (o : Oper) (fX f : T4 AV) : Prop := ∀ t ∈ looks ops o, evP fX (pathOf t) = evP f (pathOf t)

/-- one slot laid, the rest as it was -/
def Laid (dst : Option Tmp) (v : AV) (f f' : T4 AV) : Prop := ∀ t, evP f' (pathOf t) = if dst = some t then v else evP f (pathOf t)

theorem fin_laid {N : Nat} {dst : Option Tmp} {v : AV} {f f' : T4 AV} {s s' : St} (h : fin N dst v f s = .ok f' s') : Laid dst v f f' ∧ ∀ fX sX, ∃ fX', fin N dst v fX sX = .ok fX' sX ∧ Laid dst v fX fX' := by
  unfold fin at h ⊢
  cases hd : dstB N dst with
  | skip =>
    rw [hd] at h
    cases h
    unfold dstB at hd
    cases dst with
    | none => exact ⟨fun t => by simp, fun fX sX => ⟨fX, rfl, fun t => by simp⟩⟩
    | some d => dsimp only at hd; cases hb : Nat.blt d N <;> rw [hb] at hd <;> cases hd
  | put p =>
    rw [hd] at h
    change T4.setK v p f (fun f => Res.ok f s) = .ok f' s' at h
    rw [T4.setK_eq] at h
    cases h
    unfold dstB at hd
    cases dst with
    | none => cases hd
    | some d =>
      dsimp only at hd
      cases hb : Nat.blt d N with
      | false => rw [hb] at hd; cases hd
      | true =>
        rw [hb] at hd
        cases hd
        have key : ∀ g : T4 AV, Laid (some d) v g (T4.set v (pathOf d) g) := by
          intro g t
          rw [evP_set]
          by_cases h : t = d
          · subst h; simp
          · rw [if_neg h, if_neg (fun e => h (Option.some.inj e).symm)]
        exact ⟨key f, fun fX sX => ⟨_, T4.setK_eq _ _ _ _, key fX⟩⟩
  | bad => rw [hd] at h; cases h

theorem sees_op {ops : Array Oper} {o : Oper} {fX f : T4 AV} (h : Sees ops o fX f) : ∀ x ∈ o.op.operands.toList, evO fX x = evO f x := by
  intro x hx
  cases x with
  | tmp t =>
    refine h t ?_
    unfold looks
    rw [List.mem_append]
    left
    rw [List.mem_filterMap]
    exact ⟨_, hx, rfl⟩
  | const v => rfl
  | global g => rfl
  | func fn => rfl

/-- where a step's answer comes from -/
theorem stepOp_cases {P : Program} {N : Nat} {env : Env} {ops : Array Oper} {o : Oper} {f f' : T4 AV} {s s' : St} (h : stepOp P N env ops o f s = .ok f' s') :
    (∃ v, ans P env o f s = .val v s' ∧ fin N o.dst v f s' = .ok f' s' ∧ ∀ fX sX, Sees ops o fX f → stepOp P N env ops o fX sX = runOp P N env o fX sX) ∨
    (s' = s ∧ fin N o.dst uv f s = .ok f' s ∧ ∀ fX sX, Sees ops o fX f → stepOp P N env ops o fX sX = fin N o.dst uv fX sX) := by
  have hrun : runOp P N env o f s = .ok f' s' → ∃ v, ans P env o f s = .val v s' ∧ fin N o.dst v f s' = .ok f' s' := by
    intro hr
    obtain ⟨v, s1, h1, h2⟩ := runOp_inv hr
    obtain ⟨rfl, _⟩ := fin_inv h2
    exact ⟨v, h1, h2⟩
  have hfin : fin N o.dst uv f s = .ok f' s' → s' = s ∧ fin N o.dst uv f s = .ok f' s := by
    intro hr
    obtain ⟨rfl, _⟩ := fin_inv hr
    exact ⟨rfl, hr⟩
  unfold stepOp at h ⊢
  cases hg : guardB ops o with
  | none =>
    rw [hg] at h
    obtain ⟨v, h1, h2⟩ := hrun h
    exact .inl ⟨v, h1, h2, fun fX sX _ => rfl⟩
  | bad => rw [hg] at h; cases h
  | tmp p want =>
    rw [hg] at h
    obtain ⟨j, d, g1, g2, rfl⟩ := guard_tmp hg
    have hsee : ∀ fX, Sees ops o fX f → evP fX (pathOf d) = evP f (pathOf d) := by
      intro fX hs
      refine hs d ?_
      unfold looks
      rw [List.mem_append]
      right
      rw [g1]
      dsimp only
      rw [g2]
      simp
    change OB.rec (motive := fun _ => Res) _ _ _ _ (asB (evP f (pathOf d))) = .ok f' s' at h
    cases hb : asB (evP f (pathOf d)) with
    | t =>
      rw [hb] at h
      cases want with
      | true =>
        obtain ⟨v, h1, h2⟩ := hrun h
        exact .inl ⟨v, h1, h2, fun fX sX hs => by show OB.rec (motive := fun _ => Res) _ _ _ _ (asB (evP fX (pathOf d))) = _; rw [hsee fX hs, hb]; rfl⟩
      | false =>
        obtain ⟨h1, h2⟩ := hfin h
        exact .inr ⟨h1, h2, fun fX sX hs => by show OB.rec (motive := fun _ => Res) _ _ _ _ (asB (evP fX (pathOf d))) = _; rw [hsee fX hs, hb]; rfl⟩
    | f =>
      rw [hb] at h
      cases want with
      | true =>
        obtain ⟨h1, h2⟩ := hfin h
        exact .inr ⟨h1, h2, fun fX sX hs => by show OB.rec (motive := fun _ => Res) _ _ _ _ (asB (evP fX (pathOf d))) = _; rw [hsee fX hs, hb]; rfl⟩
      | false =>
        obtain ⟨v, h1, h2⟩ := hrun h
        exact .inl ⟨v, h1, h2, fun fX sX hs => by show OB.rec (motive := fun _ => Res) _ _ _ _ (asB (evP fX (pathOf d))) = _; rw [hsee fX hs, hb]; rfl⟩
    | u =>
      rw [hb] at h
      obtain ⟨h1, h2⟩ := hfin h
      exact .inr ⟨h1, h2, fun fX sX hs => by show OB.rec (motive := fun _ => Res) _ _ _ _ (asB (evP fX (pathOf d))) = _; rw [hsee fX hs, hb]⟩
    | no => rw [hb] at h; cases h

theorem runOp_of {P : Program} {N : Nat} {env : Env} {o : Oper} {f f' : T4 AV} {s s1 : St} {v : AV} (h : ans P env o f s = .val v s1) (h' : fin N o.dst v f s1 = .ok f' s1) : runOp P N env o f s = .ok f' s1 := by
  unfold runOp
  unfold ans at h
  rw [h]
  exact h'

theorem ans_still {P : Program} {env : Env} {o : Oper} {f : T4 AV} (h : cls o.op < 2) {s s' : St} {v : AV} (hr : ans P env o f s = .val v s') : s' = s := by
  rcases Nat.lt_or_ge (cls o.op) 1 with h1 | h1
  · exact (ans_pure P env o f (by omega) s v s' hr).1
  · exact (ans_read (by omega) hr).1

/-- what a step does with memory -/
theorem stepOp_still {P : Program} {N : Nat} {env : Env} {ops : Array Oper} {o : Oper} {f f' : T4 AV} {s s' : St} (h : stepOp P N env ops o f s = .ok f' s') (hc : cls o.op < 2) : s' = s := by
  rcases stepOp_cases h with ⟨v, h1, _⟩ | ⟨h1, _⟩
  · exact ans_still hc h1
  · exact h1
theorem stepOp_grows {P : Program} {N : Nat} {env : Env} {ops : Array Oper} {o : Oper} {f f' : T4 AV} {s s' : St} (h : stepOp P N env ops o f s = .ok f' s') (hc : cls o.op < 3) (hf : Fresh s) : Grows s s' := by
  rcases stepOp_cases h with ⟨v, h1, _⟩ | ⟨rfl, _⟩
  · rcases Nat.lt_or_ge (cls o.op) 2 with h2 | h2
    · rw [ans_still h2 h1]; exact .refl s
    · exact ans_alloc (by omega) h1 hf
  · exact .refl s'

/-- a step taken elsewhere: it lays the same -/
theorem stepOp_move {P : Program} {N : Nat} {env : Env} {ops : Array Oper} {o : Oper} {f f' fX : T4 AV} {s s' sX sX' : St} (h : stepOp P N env ops o f s = .ok f' s') (hl : Sees ops o fX f)
    (hm : (sX = s ∧ sX' = s') ∨ (sX' = sX ∧ (cls o.op = 0 ∨ (cls o.op = 1 ∧ Grows s sX)))) :
    ∃ fX' v, stepOp P N env ops o fX sX = .ok fX' sX' ∧ Laid o.dst v f f' ∧ Laid o.dst v fX fX' := by
  rcases stepOp_cases h with ⟨v, h1, h2, h3⟩ | ⟨rfl, h2, h3⟩
  · obtain ⟨l1, l2⟩ := fin_laid h2
    obtain ⟨fX', l3, l4⟩ := l2 fX sX'
    refine ⟨fX', v, ?_, l1, l4⟩
    rw [h3 fX sX hl]
    refine runOp_of ?_ l3
    rw [ans_congr (sees_op hl)]
    rcases hm with ⟨rfl, rfl⟩ | ⟨rfl, hc | ⟨hc, hg⟩⟩
    · exact h1
    · exact (ans_pure P env o f hc s v s' h1).2 sX'
    · exact (ans_read hc h1).2 sX' hg
  · obtain ⟨l1, l2⟩ := fin_laid h2
    have hx : sX' = sX := by
      rcases hm with ⟨rfl, rfl⟩ | ⟨rfl, _⟩
      · rfl
      · rfl
    subst hx
    obtain ⟨fX', l3, l4⟩ := l2 fX sX'
    exact ⟨fX', uv, by rw [h3 fX sX' hl]; exact l3, l1, l4⟩

/-- the text's own order, step by step -/
structure Run (P : Program) (N : Nat) (env : Env) (ops : Array Oper) (n : Nat) (fs : Nat → T4 AV) (ss : Nat → St) : Prop where
  step : ∀ (i : Nat) (o : Oper), i < n → ops.toList[i]? = some o → stepOp P N env ops o (fs i) (ss i) = .ok (fs (i + 1)) (ss (i + 1))

theorem execL_run {P : Program} {N : Nat} {env : Env} {ops : Array Oper} : ∀ (l : List Oper) (f : T4 AV) (s : St), (∃ w, execL P N env ops l f s = .bad w) ∨
    ∃ (fs : Nat → T4 AV) (ss : Nat → St), fs 0 = f ∧ ss 0 = s ∧ execL P N env ops l f s = .ok (fs l.length) (ss l.length) ∧ ∀ (i : Nat) (o : Oper), l[i]? = some o → stepOp P N env ops o (fs i) (ss i) = .ok (fs (i + 1)) (ss (i + 1))
  | [], f, s => .inr ⟨fun _ => f, fun _ => s, rfl, rfl, rfl, fun i o h => by simp at h⟩
  | o :: r, f, s => by
    have e : execL P N env ops (o :: r) f s = Res.rec (motive := fun _ => Res) (execL P N env ops r) (fun _ _ _ => .bad []) (fun _ _ => .bad []) Res.bad (stepOp P N env ops o f s) := rfl
    rw [e]
    cases hs : stepOp P N env ops o f s with
    | ok f1 s1 =>
      rcases execL_run r f1 s1 with h | ⟨fs, ss, h1, h2, h3, h4⟩
      · exact .inl h
      · refine .inr ⟨fun i => match i with | 0 => f | i + 1 => fs i, fun i => match i with | 0 => s | i + 1 => ss i, rfl, rfl, h3, fun i p hp => ?_⟩
        cases i with
        | zero => simp at hp; subst hp; dsimp only; rw [h1, h2]; exact hs
        | succ i => exact h4 i p (by simpa using hp)
    | exit id f1 s1 => exact .inl ⟨_, rfl⟩
    | ret f1 s1 => exact .inl ⟨_, rfl⟩
    | bad w => exact .inl ⟨_, rfl⟩

end Go.Eng
