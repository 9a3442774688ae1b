/-
  A region that draws its order: one step, wherever it stands in the order.
-/
import Derived.Test.YtomcadipdacanaaGreatDoorEngM2
import Derived.Test.YtomcadipdacanaaGreatDoorEngN
import Derived.Orders
namespace Go.Eng
open Go
set_option linter.unusedVariables false

/-- slots as an operation sees them -/
def Sees (ops : Array Oper) (o : Oper) (fX f : T4 AV) : Prop := ∀ t ∈ looks ops o, evP fX (pathOf t) = evP f (pathOf t)

/-- one slot laid, the rest as it was -/
def Laid (dst : Option Tmp) (v : AV) (f f' : T4 AV) : Prop := ∀ t, evP f' (pathOf t) = if dst = some t then v else evP f (pathOf t)

theorem fin_laid {N : Nat} {dst : Option Tmp} {v : AV} {f f' : T4 AV} {s s' : St} (h : fin N dst v f s = .ok f' s') : Laid dst v f f' ∧ ∀ fX sX, ∃ fX', fin N dst v fX sX = .ok fX' sX ∧ Laid dst v fX fX' := by
  unfold fin at h ⊢
  cases hd : dstB N dst with
  | skip =>
    rw [hd] at h
    cases h
    unfold dstB at hd
    cases dst with
    | none => exact ⟨fun t => by simp, fun fX sX => ⟨fX, rfl, fun t => by simp⟩⟩
    | some d => dsimp only at hd; cases hb : Nat.blt d N <;> rw [hb] at hd <;> cases hd
  | put p =>
    rw [hd] at h
    change T4.setK v p f (fun f => Res.ok f s) = .ok f' s' at h
    rw [T4.setK_eq] at h
    cases h
    unfold dstB at hd
    cases dst with
    | none => cases hd
    | some d =>
      dsimp only at hd
      cases hb : Nat.blt d N with
      | false => rw [hb] at hd; cases hd
      | true =>
        rw [hb] at hd
        cases hd
        have key : ∀ g : T4 AV, Laid (some d) v g (T4.set v (pathOf d) g) := by
          intro g t
          rw [evP_set]
          by_cases h : t = d
          · subst h; simp
          · rw [if_neg h, if_neg (fun e => h (Option.some.inj e).symm)]
        exact ⟨key f, fun fX sX => ⟨_, T4.setK_eq _ _ _ _, key fX⟩⟩
  | bad => rw [hd] at h; cases h

theorem sees_op {ops : Array Oper} {o : Oper} {fX f : T4 AV} (h : Sees ops o fX f) : ∀ x ∈ o.op.operands.toList, evO fX x = evO f x := by
  intro x hx
  cases x with
  | tmp t =>
    refine h t ?_
    unfold looks
    rw [List.mem_append]
    left
    rw [List.mem_filterMap]
    exact ⟨_, hx, rfl⟩
  | const v => rfl
  | global g => rfl
  | func fn => rfl

/-- where a step's answer comes from -/
theorem stepOp_cases {P : Program} {N : Nat} {env : Env} {ops : Array Oper} {o : Oper} {f f' : T4 AV} {s s' : St} (h : stepOp P N env ops o f s = .ok f' s') :
    (∃ v, ans P env o f s = .val v s' ∧ fin N o.dst v f s' = .ok f' s' ∧ (∀ fX sX, Sees ops o fX f → stepOp P N env ops o fX sX = runOp P N env o fX sX) ∧ wantB ops o f = true) ∨
    (s' = s ∧ fin N o.dst uv f s = .ok f' s ∧ ∀ fX sX, Sees ops o fX f → stepOp P N env ops o fX sX = fin N o.dst uv fX sX) := by
  have hrun : runOp P N env o f s = .ok f' s' → ∃ v, ans P env o f s = .val v s' ∧ fin N o.dst v f s' = .ok f' s' := by
    intro hr
    obtain ⟨v, s1, h1, h2⟩ := runOp_inv hr
    obtain ⟨rfl, _⟩ := fin_inv h2
    exact ⟨v, h1, h2⟩
  have hfin : fin N o.dst uv f s = .ok f' s' → s' = s ∧ fin N o.dst uv f s = .ok f' s := by
    intro hr
    obtain ⟨rfl, _⟩ := fin_inv hr
    exact ⟨rfl, hr⟩
  unfold stepOp at h ⊢
  cases hg : guardB ops o with
  | none =>
    rw [hg] at h
    obtain ⟨v, h1, h2⟩ := hrun h
    exact .inl ⟨v, h1, h2, fun fX sX _ => rfl, by unfold wantB; rw [hg]⟩
  | bad => rw [hg] at h; cases h
  | tmp p want =>
    rw [hg] at h
    obtain ⟨j, d, g1, g2, rfl⟩ := guard_tmp hg
    have hsee : ∀ fX, Sees ops o fX f → evP fX (pathOf d) = evP f (pathOf d) := by
      intro fX hs
      refine hs d ?_
      unfold looks
      rw [List.mem_append]
      right
      rw [g1]
      dsimp only
      rw [g2]
      simp
    change OB.rec (motive := fun _ => Res) _ _ _ _ (asB (evP f (pathOf d))) = .ok f' s' at h
    cases hb : asB (evP f (pathOf d)) with
    | t =>
      rw [hb] at h
      cases want with
      | true =>
        obtain ⟨v, h1, h2⟩ := hrun h
        exact .inl ⟨v, h1, h2, fun fX sX hs => by show OB.rec (motive := fun _ => Res) _ _ _ _ (asB (evP fX (pathOf d))) = _; rw [hsee fX hs, hb]; rfl, by unfold wantB; rw [hg]; show OB.rec (motive := fun _ => Bool) _ _ _ _ (asB (evP f (pathOf d))) = _; rw [hb] <;> rfl⟩
      | false =>
        obtain ⟨h1, h2⟩ := hfin h
        exact .inr ⟨h1, h2, fun fX sX hs => by show OB.rec (motive := fun _ => Res) _ _ _ _ (asB (evP fX (pathOf d))) = _; rw [hsee fX hs, hb]; rfl⟩
    | f =>
      rw [hb] at h
      cases want with
      | true =>
        obtain ⟨h1, h2⟩ := hfin h
        exact .inr ⟨h1, h2, fun fX sX hs => by show OB.rec (motive := fun _ => Res) _ _ _ _ (asB (evP fX (pathOf d))) = _; rw [hsee fX hs, hb]; rfl⟩
      | false =>
        obtain ⟨v, h1, h2⟩ := hrun h
        exact .inl ⟨v, h1, h2, fun fX sX hs => by show OB.rec (motive := fun _ => Res) _ _ _ _ (asB (evP fX (pathOf d))) = _; rw [hsee fX hs, hb]; rfl, by unfold wantB; rw [hg]; show OB.rec (motive := fun _ => Bool) _ _ _ _ (asB (evP f (pathOf d))) = _; rw [hb] <;> rfl⟩
    | u =>
      rw [hb] at h
      obtain ⟨h1, h2⟩ := hfin h
      exact .inr ⟨h1, h2, fun fX sX hs => by show OB.rec (motive := fun _ => Res) _ _ _ _ (asB (evP fX (pathOf d))) = _; rw [hsee fX hs, hb]⟩
    | no => rw [hb] at h; cases h

theorem runOp_of {P : Program} {N : Nat} {env : Env} {o : Oper} {f f' : T4 AV} {s s1 : St} {v : AV} (h : ans P env o f s = .val v s1) (h' : fin N o.dst v f s1 = .ok f' s1) : runOp P N env o f s = .ok f' s1 := by
  unfold runOp
  unfold ans at h
  rw [h]
  exact h'

theorem ans_still {P : Program} {env : Env} {o : Oper} {f : T4 AV} (h : cls P o.op < 2) {s s' : St} {v : AV} (hr : ans P env o f s = .val v s') : s' = s := by
  rcases Nat.lt_or_ge (cls P o.op) 1 with h1 | h1
  · exact (ans_pure P env o f (by omega) s v s' hr).1
  · exact (ans_read (by omega) hr).1

/-- what a step does with memory -/
theorem stepOp_still {P : Program} {N : Nat} {env : Env} {ops : Array Oper} {o : Oper} {f f' : T4 AV} {s s' : St} (h : stepOp P N env ops o f s = .ok f' s') (hc : cls P o.op < 2) : s' = s := by
  rcases stepOp_cases h with ⟨v, h1, _⟩ | ⟨h1, _⟩
  · exact ans_still hc h1
  · exact h1
theorem stepOp_grows {P : Program} {N : Nat} {env : Env} {ops : Array Oper} {o : Oper} {f f' : T4 AV} {s s' : St} (h : stepOp P N env ops o f s = .ok f' s') (hc : cls P o.op < 3) (hf : Fresh s) : Grows s s' := by
  rcases stepOp_cases h with ⟨v, h1, _⟩ | ⟨rfl, _⟩
  · rcases Nat.lt_or_ge (cls P o.op) 2 with h2 | h2
    · rw [ans_still h2 h1]; exact .refl s
    · exact ans_alloc (by omega) h1 hf
  · exact .refl s'

/-- a step taken elsewhere: it lays the same -/
theorem stepOp_move {P : Program} {N : Nat} {env : Env} {ops : Array Oper} {o : Oper} {f f' fX : T4 AV} {s s' sX sX' : St} (h : stepOp P N env ops o f s = .ok f' s') (hl : Sees ops o fX f)
    (hm : (sX = s ∧ sX' = s') ∨ (sX' = sX ∧ s' = s ∧ (wantB ops o f = true → ∀ v, ans P env o f s = .val v s' → ans P env o f sX = .val v sX))) :
    ∃ fX' v, stepOp P N env ops o fX sX = .ok fX' sX' ∧ Laid o.dst v f f' ∧ Laid o.dst v fX fX' := by
  rcases stepOp_cases h with ⟨v, h1, h2, h3, hwt⟩ | ⟨rfl, h2, h3⟩
  · obtain ⟨l1, l2⟩ := fin_laid h2
    obtain ⟨fX', l3, l4⟩ := l2 fX sX'
    refine ⟨fX', v, ?_, l1, l4⟩
    rw [h3 fX sX hl]
    refine runOp_of ?_ l3
    rw [ans_congr (sees_op hl)]
    rcases hm with ⟨rfl, rfl⟩ | ⟨rfl, _, hc⟩
    · exact h1
    · exact hc hwt v h1
  · obtain ⟨l1, l2⟩ := fin_laid h2
    have hx : sX' = sX := by
      rcases hm with ⟨rfl, rfl⟩ | ⟨rfl, _, _⟩
      · rfl
      · rfl
    subst hx
    obtain ⟨fX', l3, l4⟩ := l2 fX sX'
    exact ⟨fX', uv, by rw [h3 fX sX' hl]; exact l3, l1, l4⟩

/-- the text's own order, step by step; reads that are asked again answer the same -/
structure Run (P : Program) (N : Nat) (env : Env) (ops : Array Oper) (n : Nat) (fs : Nat → T4 AV) (ss : Nat → St) : Prop where
  asked : ∀ (k i : Nat) (o p : Oper), i < k → ops.toList[i]? = some o → ops.toList[k]? = some p → cls P o.op = 1 → cls P p.op = 3 → ¬ Waits ops k i → again P env ops (fs (k + 1)) (ss (k + 1)) o = true
  back : ∀ (k j : Nat) (o p : Oper), k < j → ops.toList[k]? = some o → ops.toList[j]? = some p → 2 ≤ cls P o.op → cls P p.op = 1 → ¬ Waits ops j k → askB P env ops (fs j) (fs (j + 1)) p (ss k) = true
  swap : ∀ (i j : Nat) (o p : Oper), i < j → ops.toList[i]? = some o → ops.toList[j]? = some p → Swap P ops i j o p → ¬ Waits ops j i → swNe (fs j) o p = true
  step : ∀ (i : Nat) (o : Oper), i < n → ops.toList[i]? = some o → stepOp P N env ops o (fs i) (ss i) = .ok (fs (i + 1)) (ss (i + 1))

theorem execC_run {P : Program} {N : Nat} {env : Env} {ops : Array Oper} : ∀ (l : List PlanOp) (f : T4 AV) (s : St) (hs : List St), (∃ w, execC P N env ops l f s hs = .bad w) ∨
    ∃ (fs : Nat → T4 AV) (ss : Nat → St) (H : Nat → List St), fs 0 = f ∧ ss 0 = s ∧ H 0 = hs ∧ execC P N env ops l f s hs = .ok (fs l.length) (ss l.length) ∧
      ∀ (i : Nat) (x : PlanOp), l[i]? = some x → stepOp P N env ops x.o (fs i) (ss i) = .ok (fs (i + 1)) (ss (i + 1)) ∧ allAgain P env ops (fs (i + 1)) (ss (i + 1)) x.rs = true ∧
        backOk P env ops (fs i) (fs (i + 1)) x.o x.nb (H i) = true ∧ H (i + 1) = histOf x.ch (ss i) (H i) ∧ allNe (fs i) x.o x.sw = true
  | [], f, s, hs => .inr ⟨fun _ => f, fun _ => s, fun _ => hs, rfl, rfl, rfl, rfl, fun i o h => by simp at h⟩
  | x :: r, f, s, hs => by
    have e : execC P N env ops (x :: r) f s hs = Res.rec (motive := fun _ => Res) (fun f' s' => bif_ (allAgain P env ops f' s' x.rs) (bif_ (backOk P env ops f f' x.o x.nb hs) (bif_ (allNe f x.o x.sw) (execC P N env ops r f' s' (histOf x.ch s hs)) (.bad [x.o.pos, "order of stores"])) (.bad [x.o.pos, "order back"])) (.bad [x.o.pos, "order"])) (fun _ _ _ => .bad []) (fun _ _ => .bad []) Res.bad (stepOp P N env ops x.o f s) := rfl
    rw [e]
    cases hst : stepOp P N env ops x.o f s with
    | ok f1 s1 =>
      dsimp only
      cases ha : allAgain P env ops f1 s1 x.rs with
      | false => exact .inl ⟨_, rfl⟩
      | true =>
        cases hb : backOk P env ops f f1 x.o x.nb hs with
        | false => exact .inl ⟨_, rfl⟩
        | true =>
        cases hn : allNe f x.o x.sw with
        | false => exact .inl ⟨_, rfl⟩
        | true =>
          rcases execC_run r f1 s1 (histOf x.ch s hs) with h | ⟨fs, ss, H, h1, h2, h0, h3, h4⟩
          · exact .inl h
          · refine .inr ⟨fun i => match i with | 0 => f | i + 1 => fs i, fun i => match i with | 0 => s | i + 1 => ss i, fun i => match i with | 0 => hs | i + 1 => H i, rfl, rfl, rfl, h3, fun i p hp => ?_⟩
            cases i with
            | zero => simp at hp; subst hp; dsimp only; rw [h1, h2, h0]; exact ⟨hst, ha, hb, rfl, hn⟩
            | succ i => exact h4 i p (by simpa using hp)
    | exit id f1 s1 => exact .inl ⟨_, rfl⟩
    | ret f1 s1 => exact .inl ⟨_, rfl⟩
    | bad w => exact .inl ⟨_, rfl⟩

theorem countChg_cons (P : Program) (o : Oper) (r : List Oper) : countChg P (o :: r) = bif Nat.ble 2 (cls P o.op) then countChg P r + 1 else countChg P r := rfl
theorem countChg_append (P : Program) : ∀ (l m : List Oper), countChg P (l ++ m) = countChg P l + countChg P m
  | [], m => by simp [countChg]
  | o :: l, m => by
    rw [List.cons_append, countChg_cons, countChg_cons, countChg_append P l m]
    cases Nat.ble 2 (cls P o.op) <;> simp <;> omega
theorem countChg_drop (P : Program) : ∀ (l : List Oper) (n : Nat), countChg P (l.drop n) ≤ countChg P l
  | [], n => by simp [countChg]
  | o :: l, 0 => by simp
  | o :: l, n + 1 => by
    rw [List.drop_succ_cons, countChg_cons]
    have := countChg_drop P l n
    cases Nat.ble 2 (cls P o.op) <;> simp <;> omega
theorem backN_lt {P : Program} (m : Nat) : ∀ (l : List Oper) (i k : Nat) (o : Oper), l[k]? = some o → 2 ≤ cls P o.op → m.testBit (i + k) = false → countChg P (l.drop (k + 1)) < backN P m i l
  | [], i, k, o, h, _, _ => by simp at h
  | p :: r, i, k, o, h, hc, hm => by
    unfold backN
    cases hb : (Nat.ble 2 (cls P p.op) && !m.testBit i) with
    | true =>
      show countChg P ((p :: r).drop (k + 1)) < countChg P r + 1
      rw [List.drop_succ_cons]
      have := countChg_drop P r k
      omega
    | false =>
      show countChg P ((p :: r).drop (k + 1)) < backN P m (i + 1) r
      cases k with
      | zero =>
        exfalso
        simp at h; subst h
        rw [Nat.add_zero] at hm
        rw [hm, Nat.ble_eq_true_of_le hc] at hb
        cases hb
      | succ k =>
        rw [List.drop_succ_cons]
        exact backN_lt m r (i + 1) k o (by simpa using h) hc (by rw [show i + 1 + k = i + (k + 1) by omega]; exact hm)
theorem backOk_get {P : Program} {env : Env} {ops : Array Oper} {f f' : T4 AV} {o : Oper} : ∀ (n : Nat) (l : List St), backOk P env ops f f' o n l = true → ∀ c, c < n → ∀ s, l[c]? = some s → askB P env ops f f' o s = true
  | 0, l, h, c, hc, s, hs => by omega
  | n + 1, [], h, c, hc, s, hs => by simp at hs
  | n + 1, t :: r, h, c, hc, s, hs => by
    change Bool.rec (motive := fun _ => Bool) false (backOk P env ops f f' o n r) (askB P env ops f f' o t) = true at h
    cases ht : askB P env ops f f' o t with
    | false => rw [ht] at h; cases h
    | true =>
      rw [ht] at h
      cases c with
      | zero => simp at hs; subst hs; exact ht
      | succ c => exact backOk_get n r h c (by omega) s (by simpa using hs)
/-- where an elder state stands in the history -/
theorem hist_get {P : Program} {ops : Array Oper} {ss : Nat → St} {H : Nat → List St} : ∀ (j : Nat), j ≤ ops.size → (∀ (i : Nat) (o : Oper), i < j → ops.toList[i]? = some o → H (i + 1) = histOf (Nat.ble 2 (cls P o.op)) (ss i) (H i)) →
    ∀ (k : Nat) (o : Oper), k < j → ops.toList[k]? = some o → 2 ≤ cls P o.op → (H j)[countChg P ((ops.toList.take j).drop (k + 1))]? = some (ss k)
  | 0, _, _, k, o, hk, _, _ => by omega
  | j + 1, hj, hH, k, o, hk, ho, hc => by
    have hlt : j < ops.toList.length := by rw [Array.length_toList]; omega
    have hoj : ops.toList[j]? = some ops.toList[j] := List.getElem?_eq_getElem hlt
    have h1 := hH j _ (Nat.lt_succ_self j) hoj
    have htake : ops.toList.take (j + 1) = ops.toList.take j ++ [ops.toList[j]] := by rw [List.take_add_one, hoj]; rfl
    by_cases hkj : k = j
    · subst hkj
      rw [hoj] at ho
      cases ho
      rw [h1, Nat.ble_eq_true_of_le hc, List.drop_eq_nil_of_le (by simp; omega)]
      rfl
    · have ih := hist_get j (by omega) (fun i o hi ho => hH i o (by omega) ho) k o (by omega) ho hc
      rw [htake, List.drop_append_of_le_length (by simp; omega), countChg_append, h1]
      cases hb : Nat.ble 2 (cls P (ops.toList[j]).op) with
      | true =>
        have : countChg P [ops.toList[j]] = 1 := by rw [countChg_cons, hb]; rfl
        rw [this]
        show (ss j :: H j)[_ + 1]? = _
        rw [List.getElem?_cons_succ]
        exact ih
      | false =>
        have : countChg P [ops.toList[j]] = 0 := by rw [countChg_cons, hb]; rfl
        rw [this]
        exact ih

theorem freeReads_mem {P : Program} (m : Nat) : ∀ (l : List Oper) (k i : Nat) (o : Oper), l[i]? = some o → cls P o.op = 1 → m.testBit (k + i) = false → o ∈ freeReads P m k l
  | [], k, i, o, h, _, _ => by simp at h
  | p :: r, k, 0, o, h, hc, hm => by
    simp at h; subst h
    unfold freeReads
    rw [Nat.add_zero] at hm
    rw [hm, hc]
    exact List.mem_cons_self
  | p :: r, k, i + 1, o, h, hc, hm => by
    have := freeReads_mem m r (k + 1) i o (by simpa using h) hc (by rw [show k + 1 + i = k + (i + 1) by omega]; exact hm)
    unfold freeReads
    cases Nat.beq (cls P p.op) 1 && !m.testBit k with
    | true => exact List.mem_cons_of_mem _ this
    | false => exact this

theorem planF_get {P : Program} (ops : Array Oper) (ms : List Nat) : ∀ (l : List Oper) (k i : Nat) (o : Oper), l[i]? = some o → (planF P ops ms k l)[i]? = some ⟨o, bif Nat.beq (cls P o.op) 3 then freeReads P (ms.getD (k + i) 0) 0 (ops.toList.take (k + i)) else [], bif Nat.beq (cls P o.op) 1 then backN P (ms.getD (k + i) 0) 0 (ops.toList.take (k + i)) else 0, Nat.ble 2 (cls P o.op), swapsOf P ops (ms.getD (k + i) 0) (k + i) o 0 (ops.toList.take (k + i))⟩
  | [], k, i, o, h => by simp at h
  | p :: r, k, 0, o, h => by simp at h; subst h; rfl
  | p :: r, k, i + 1, o, h => by
    have := planF_get (P := P) ops ms r (k + 1) i o (by simpa using h)
    rw [show k + 1 + i = k + (i + 1) by omega] at this
    exact this
theorem planF_length {P : Program} (ops : Array Oper) (ms : List Nat) : ∀ (l : List Oper) (k : Nat), (planF P ops ms k l).length = l.length
  | [], k => rfl
  | p :: r, k => by rw [planF, List.length_cons, planF_length ops ms r, List.length_cons]

theorem swapsOf_mem {P : Program} (ops : Array Oper) (m j : Nat) (p : Oper) : ∀ (l : List Oper) (n i : Nat) (o : Oper), l[i]? = some o → m.testBit (n + i) = false → swapOk P ops m (n + i) j o p = true → o ∈ swapsOf P ops m j p n l
  | [], n, i, o, h, _, _ => by simp at h
  | q :: r, n, 0, o, h, hm, hs => by
    simp at h; subst h
    rw [Nat.add_zero] at hm hs
    unfold swapsOf
    rw [hm, hs]
    exact List.mem_cons_self
  | q :: r, n, i + 1, o, h, hm, hs => by
    have := swapsOf_mem ops m j p r (n + 1) i o (by simpa using h) (by rw [show n + 1 + i = n + (i + 1) by omega]; exact hm) (by rw [show n + 1 + i = n + (i + 1) by omega]; exact hs)
    unfold swapsOf
    cases !m.testBit n && swapOk P ops m n j q p with
    | true => exact List.mem_cons_of_mem _ this
    | false => exact this
theorem allNe_mem {f : T4 AV} {p : Oper} : ∀ {l : List Oper}, allNe f p l = true → ∀ o ∈ l, swNe f o p = true
  | [], _, o, ho => by cases ho
  | q :: r, h, o, ho => by
    change Bool.rec (motive := fun _ => Bool) false (allNe f p r) (swNe f q p) = true at h
    cases hq : swNe f q p with
    | false => rw [hq] at h; cases h
    | true =>
      rw [hq] at h
      rcases List.mem_cons.1 ho with rfl | ho
      · exact hq
      · exact allNe_mem h o ho

theorem hdEq_eq {a b : Hd} (h : hdEq a b = true) : a = b := by
  unfold hdEq at h
  rw [Bool.and_eq_true, Bool.and_eq_true, Bool.and_eq_true] at h
  obtain ⟨h1, h2, h3, h4⟩ := h
  cases a; cases b
  rw [Hd.mk.injEq]
  exact ⟨Nat.eq_of_beq_eq_true h1, Nat.eq_of_beq_eq_true h2, Nat.eq_of_beq_eq_true h3, eq_of_beq h4⟩

theorem avEq0_eq {a b : AV} (h : avEq0 a b = true) : a = b := by
  unfold avEq0 at h
  split at h
  · rw [Bool.and_eq_true, ieq_iff] at h
    obtain ⟨h1, h2⟩ := h
    rw [kEq_eq h1, eq_of_beq h2]
  · rw [eq_of_beq h]
  · rw [bEq_iff] at h; rw [eq_of_beq h]
  · rw [Bool.and_eq_true] at h
    rw [hdEq_eq h.1, Nat.eq_of_beq_eq_true h.2]
  · rw [Bool.and_eq_true, Bool.and_eq_true, Bool.and_eq_true] at h
    rw [hdEq_eq h.1, Nat.eq_of_beq_eq_true h.2.1, Nat.eq_of_beq_eq_true h.2.2.1, Nat.eq_of_beq_eq_true h.2.2.2]
  · rfl
  · rfl
  · rfl
  · rfl
  · rw [Nat.eq_of_beq_eq_true h]
  · cases h
theorem avEqL_eq : ∀ {l m : List AV}, avEqL l m = true → l = m
  | [], [], _ => rfl
  | [], _ :: _, h => by cases h
  | _ :: _, [], h => by cases h
  | a :: l, b :: m, h => by
    have h' : bif_ (avEq0 a b) (avEqL l m) false = true := h
    cases hab : avEq0 a b with
    | false => rw [hab] at h'; cases h'
    | true =>
      rw [hab] at h'
      rw [avEq0_eq hab, avEqL_eq h']
theorem avEq_eq {a b : AV} (h : avEq a b = true) : a = b := by
  unfold avEq at h
  split at h
  · rw [avEqL_eq h]
  · exact avEq0_eq h

theorem wantB_sees {ops : Array Oper} {o : Oper} {fX f : T4 AV} (h : Sees ops o fX f) : wantB ops o fX = wantB ops o f := by
  unfold wantB
  cases hg : guardB ops o with
  | none => rfl
  | bad => rfl
  | tmp p want =>
    obtain ⟨j, d, g1, g2, rfl⟩ := guard_tmp hg
    have hsee : evP fX (pathOf d) = evP f (pathOf d) := by
      refine h d ?_
      unfold looks
      rw [List.mem_append]
      right
      rw [g1]
      dsimp only
      rw [g2]
      simp
    show OB.rec (motive := fun _ => Bool) _ _ _ _ (asB (evP fX (pathOf d))) = OB.rec (motive := fun _ => Bool) _ _ _ _ (asB (evP f (pathOf d)))
    rw [hsee]

theorem again_inv {P : Program} {env : Env} {ops : Array Oper} {f : T4 AV} {s : St} {o : Oper} (hc : cls P o.op = 1) (hw : wantB ops o f = true) (h : again P env ops f s o = true) : ∃ d v, o.dst = some d ∧ ans P env o f s = .val v s ∧ v = evP f (pathOf d) := by
  unfold again at h
  split at h
  · rename_i d hd
    rw [bif_t hw] at h
    change OR.rec (motive := fun _ => Bool) (fun v _ => avEq v (evP f (pathOf d))) (fun _ => false) (ans P env o f s) = true at h
    cases hx : ans P env o f s with
    | no w => rw [hx] at h; cases h
    | val v s1 =>
      rw [hx] at h
      have := (ans_read hc hx).1
      subst this
      exact ⟨d, v, hd, rfl, avEq_eq h⟩
  · cases h

theorem stepOp_slot {P : Program} {N : Nat} {env : Env} {ops : Array Oper} {o : Oper} {f f' : T4 AV} {s s' : St} (h : stepOp P N env ops o f s = .ok f' s') (hw : wantB ops o f = true) {d : Nat} (hd : o.dst = some d) {v : AV} {s1 : St} (hv : ans P env o f s = .val v s1) : evP f' (pathOf d) = v := by
  have hrun : stepOp P N env ops o f s = runOp P N env o f s := by
    unfold stepOp
    unfold wantB at hw
    cases hg : guardB ops o with
    | none => rfl
    | bad => rw [hg] at hw; cases hw
    | tmp p want =>
      rw [hg] at hw
      change OB.rec (motive := fun _ => Bool) want (!want) false false (asB (evP f p)) = true at hw
      show OB.rec (motive := fun _ => Res) _ _ _ _ (asB (evP f p)) = _
      cases hb : asB (evP f p) with
      | t => rw [hb] at hw; have hw : want = true := hw; subst hw; rfl
      | f => rw [hb] at hw; cases want with
        | true => cases hw
        | false => rfl
      | u => rw [hb] at hw; cases hw
      | no => rw [hb] at hw; cases hw
  rw [hrun] at h
  obtain ⟨v1, s2, h1, h2⟩ := runOp_inv h
  have e : ans P env o f s = .val v1 s2 := h1
  rw [hv] at e
  cases e
  obtain ⟨rfl, _⟩ := fin_inv h2
  rw [(fin_laid h2).1 d, hd, if_pos rfl]

theorem allAgain_mem {P : Program} {env : Env} {ops : Array Oper} {f : T4 AV} {s : St} : ∀ {l : List Oper}, allAgain P env ops f s l = true → ∀ o ∈ l, again P env ops f s o = true
  | [], _, o, ho => by cases ho
  | p :: r, h, o, ho => by
    change Bool.rec (motive := fun _ => Bool) false (allAgain P env ops f s r) (again P env ops f s p) = true at h
    cases hp : again P env ops f s p with
    | false => rw [hp] at h; cases h
    | true =>
      rw [hp] at h
      rcases List.mem_cons.1 ho with rfl | ho
      · exact hp
      · exact allAgain_mem h o ho

theorem stepOp_raw {P : Program} {N : Nat} {env : Env} {ops : Array Oper} {o : Oper} {f f' : T4 AV} {s s' : St} (h : stepOp P N env ops o f s = .ok f' s') : s'.raw = s.raw := by
  rcases stepOp_cases h with ⟨v, g1, _, _⟩ | ⟨g1, _⟩
  · exact ans_raw g1
  · rw [g1]

end Go.Eng
