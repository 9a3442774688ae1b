/-
  Bodies and calls, whole: what the abstract interpreter tells of a function is true of its calls in the model, on every tape.
-/
import Derived.Test.YtomcadipdacanaaGreatDoorEngP4
import Derived.Recover
namespace Go.Eng
open Go
set_option linter.unusedVariables false

/-! ## calls -/

theorem aLoad_at {P : Program} {ρ : Ren} {s : St} {w : World} (h : SR ρ s w) {t : TypeId} {a v : AV} {s' : St} {ca : Value} (ha : VR ρ a ca) (hr : aLoad P t a s = .val v s') :
    ∃ cv, (do loadVar t (← asAddr ca) : Sem Value).run P w = .ok cv w ∧ VR ρ v cv := by
  rcases OP_inv2 hr with ⟨hd, i, rfl, hr⟩ | hr
  rotate_left
  · obtain ⟨rfl, b, i, cv, rfl, h1, h2⟩ := loadR_inv h hr
    refine ⟨cv, ?_, h2⟩
    rw [ha.c_val]
    simp only [asAddr, Sem.run_bind, Sem.run_pure, Result.andThen_ok]
    exact h1
  obtain ⟨l, hl, hs, hfz, h0, h1, rfl⟩ := ha.ptr_inv
  obtain ⟨el, n, cs, lo, hi, hb, hr⟩ := VB_inv hr
  obtain ⟨hlo, hr⟩ := bif_inv hr
  have he := h.top _ _ _ hl _ _ _ _ _ hb
  obtain ⟨l', b1, b2, b3, hok⟩ := h.blks _ _ _ _ _ _ hb hd.e (ble hlo) he
  obtain rfl : l = l' := Option.some.inj (hl.symm.trans b1)
  rcases TS_inv hr with ⟨ht, hr⟩ | ⟨k, ht, hr⟩
  · obtain ⟨x, hx, hr⟩ := Opt_inv hr
    cases hr
    obtain ⟨a, cv, c1, c2, c3⟩ := row_read hok i h0 (by omega)
    rw [hx] at c1; cases c1
    obtain ⟨t1, inf, t2, t3⟩ := tySize_one ht
    refine ⟨cv, ?_, c3⟩
    simp [asAddr, loadVar, t1, c2]
  · obtain ⟨hk, hr⟩ := bif_inv hr
    obtain ⟨as, hx, hr⟩ := Opt_inv hr
    cases hr
    obtain ⟨t1, inf, t2, t3⟩ := tySize_many ht
    obtain ⟨vs, c1, c2, c3⟩ := hok.reads i k h0 (by have := ble hk; omega) as hx
    refine ⟨.agg ⟨vs⟩, ?_, .agg c2⟩
    have hrun := run_loadCells_list (P := P) w (l.at_ i) vs c3
    simp only [asAddr, loadVar, Sem.run_bind, Sem.run_pure, Result.andThen_ok, t1, run_sizeOf' t2, t3, if_true]
    rw [c1] at hrun
    rw [hrun]; rfl

/-- the model's reading of one result -/
def resAt (tmps : Array Value) : ResultVar → Sem Value
  | .tmp t => pure (tmps.getD t undef)
  | .cell a t => do loadVar t (← asAddr (tmps.getD a undef))

theorem resL_ok {P : Program} {ρ : Ren} {s : St} {w : World} {N : Nat} {f : T4 AV} {tmps : Array Value} (h : SR ρ s w) (hf : FR ρ N f tmps) : ∀ (l : List ResultVar) (vs : List AV), resL P f s l = some vs →
    ∃ cvs : List Value, (l.mapM (resAt tmps)).run P w = .ok cvs w ∧ VRs ρ vs cvs
  | [], vs, hr => by
    cases hr
    exact ⟨[], rfl, .nil⟩
  | .tmp t :: r, vs, hr => by
    unfold resL at hr
    cases hx : resL P f s r with
    | none => rw [hx] at hr; cases hr
    | some l =>
      rw [hx] at hr
      cases hr
      obtain ⟨cvs, c1, c2⟩ := resL_ok h hf r l hx
      refine ⟨tmps.getD t undef :: cvs, ?_, .cons (hf.at_ t) c2⟩
      rw [List.mapM_cons]
      simp only [resAt, Sem.run_bind, Sem.run_pure, Result.andThen_ok, c1]
  | .cell a t :: r, vs, hr => by
    unfold resL at hr
    cases hl : aLoad P t (evP f (pathOf a)) s with
    | no w1 => rw [hl] at hr; cases hr
    | val v s1 =>
      rw [hl] at hr
      dsimp only at hr
      cases hx : resL P f s r with
      | none => rw [hx] at hr; cases hr
      | some l =>
        rw [hx] at hr
        cases hr
        obtain ⟨cvs, c1, c2⟩ := resL_ok h hf r l hx
        obtain ⟨cv, d1, d2⟩ := aLoad_at h (hf.at_ a) hl
        refine ⟨cv :: cvs, ?_, .cons d2 c2⟩
        have e : resAt tmps (.cell a t) = (do loadVar t (← asAddr (tmps.getD a undef)) : Sem Value) := rfl
        rw [List.mapM_cons, e, Sem.run_bind, d1, Result.andThen_ok, Sem.run_bind, c1, Result.andThen_ok, Sem.run_pure]

theorem results_ok {P : Program} {ρ : Ren} {s s' : St} {w : World} {N : Nat} {f : T4 AV} {tmps : Array Value} (h : SR ρ s w) (hf : FR ρ N f tmps) {fn : Func} {v : AV} (hr : results P fn f s = .ret v s') :
    s' = s ∧ ∃ cv, (Go.results fn tmps).run P w = .ok cv w ∧ VR ρ v cv := by
  unfold results at hr
  cases hx : resL P f s fn.results.toList with
  | none => rw [hx] at hr; cases hr
  | some vs =>
    rw [hx] at hr
    obtain ⟨cvs, c1, c2⟩ := resL_ok h hf _ vs hx
    have key : (Go.results fn tmps).run P w = .ok (if h : cvs.toArray.size = 1 then cvs.toArray[0] else .tuple cvs.toArray) w := by
      have e : Go.results fn tmps = (do
          let vs ← fn.results.mapM (resAt tmps)
          pure (if h : vs.size = 1 then vs[0] else .tuple vs)) := by
        unfold Go.results
        congr 1
      rw [e]
      have e2 : fn.results.mapM (resAt tmps) = List.toArray <$> fn.results.toList.mapM (resAt tmps) := by
        rw [← List.mapM_toArray]
      rw [e2, Sem.run_bind, Sem.run_map, c1]
      rfl
    unfold resV at hr
    cases c2 with
    | nil => cases hr; exact ⟨rfl, _, key, .tup .nil⟩
    | cons h1 h2 =>
      cases h2 with
      | nil => cases hr; exact ⟨rfl, _, key, h1⟩
      | cons h2 h3 =>
        cases hr
        refine ⟨rfl, _, key, ?_⟩
        rw [dif_neg (by simp)]
        exact .tup (.cons h1 (.cons h2 h3))

theorem FR.start {ρ : Ren} {args : List AV} {cargs : Array Value} (h : VRs ρ args cargs.toList) {N : Nat} (hN : args.length ≤ N) :
    FR ρ N (putL args .e 0) (cargs ++ Array.replicate (N - cargs.size) undef) := by
  have hlen : cargs.size = args.length := by rw [← Array.length_toList]; exact h.length
  refine ⟨by simp; omega, fun t => ?_⟩
  have e : evP (putL args .e 0) (pathOf t) = ((args[t]?).getD uv) := by
    unfold evP
    have : (putL args .e 0).get (pathOf t) = args[t]? := by
      show (putL args .e 0).at_ t = _
      rw [at_putL]
      by_cases ht : t < args.length
      · rw [if_pos (by omega)]; simp
      · rw [if_neg (by omega), T4.at_e, List.getElem?_eq_none (by omega)]
    rw [this]
    cases args[t]? <;> rfl
  rw [e]
  by_cases ht : t < args.length
  · obtain ⟨v, h1, h2⟩ := h.get t (List.getElem?_eq_getElem ht)
    rw [List.getElem?_eq_getElem ht, Array.getD_eq_getD_getElem?, Array.getElem?_append_left (by omega), ← Array.getElem?_toList, h1]
    exact h2
  · rw [List.getElem?_eq_none (by omega), Array.getD_eq_getD_getElem?, Array.getElem?_append_right (by omega)]
    have : ((Array.replicate (N - cargs.size) undef)[t - cargs.size]?).getD undef = undef := by
      rw [Array.getElem?_replicate]; split <;> rfl
    rw [this]
    exact .c _

theorem funcB_mk {P : Program} {g : FuncId} {fn : Func} {c : Code} (h : funcB P g = .mk fn c) : P.funcs[g]? = some fn ∧ fn.body = some c := by
  unfold funcB at h
  cases hf : P.funcs[g]? with
  | none => rw [hf] at h; cases h
  | some fn' =>
    rw [hf] at h
    dsimp only at h
    cases hb : fn'.body with
    | none => rw [hb] at h; cases h
    | some c' => rw [hb] at h; cases h; exact ⟨rfl, hb⟩

/-! ## calls put off -/

theorem wpS_mono {P : Program} {c : Code} {Q Q' : Exit → Act → List Frame → World → Prop} {a : Act} {cs : List Frame} {w : World} (h : c.wpS P Q a cs w) (hq : ∀ e a cs w, Q e a cs w → Q' e a cs w) : c.wpS P Q' a cs w :=
  fun b k h1 h2 => let ⟨e, a', cs', w', q, r⟩ := h b k h1 h2; ⟨e, a', cs', w', hq _ _ _ _ q, r⟩

/-- callers of which the first one returns -/
def Home (cs : List Frame) : Prop := ∃ c r, cs = c :: r ∧ c.mode = .returning
theorem Home.no {cs : List Frame} (h : Home cs) : recoverD cs = none := by
  obtain ⟨c, r, rfl, hm⟩ := h
  simp only [recoverD, hm]

theorem isRec_run {o : Oper} (h : isRec o = true) : o.guard = none ∧ ∀ (P : Program) (ev : Operand → Value) (w : World), (execOp ev o).run P w = .ok .recover w := by
  obtain ⟨dst, op, ty, pos, after, guard⟩ := o
  unfold isRec at h
  dsimp only at h
  split at h
  · rename_i c
    split at h
    · rename_i hc
      refine ⟨rfl, fun P ev w => ?_⟩
      simp only [execOp, resolve, hc, Sem.run_bind, Sem.run_pure, Result.andThen_ok, invoke, builtin]
    · cases h
  · cases h

theorem execLS_wp {P : Program} {N : Nat} {env : Env} (henv : EnvOK P env) {ops : Array Oper} {Q : Exit → Act → World → Prop} {cs : List Frame} (hcs : Home cs) : ∀ (l : List Oper) (k : Nat), ops.toList.drop k = l → ∀ (ρ : Ren) (s : St) (f : T4 AV) (a : Act) (w : World), SR ρ s w → AR P ρ N f s a →
    QOf P ρ w N (execLS P N env ops l f s) Q → wpOpsS P ops (fun e a cs' w => cs' = cs ∧ Q e a w) (List.range' k l.length) a cs w
  | [], k, hl, ρ, s, f, a, w, h, hf, hq => by
    show cs = cs ∧ Q .normal a w
    exact ⟨rfl, hq a w (Post.here h hf)⟩
  | o :: l, k, hl, ρ, s, f, a, w, h, hf, hq => by
    rw [List.length_cons, List.range'_succ]
    have ho : ops[k]? = some o := by
      rw [← Array.getElem?_toList]
      have : (ops.toList.drop k)[0]? = some o := by rw [hl]; rfl
      rw [List.getElem?_drop] at this
      simpa using this
    have hl' : ops.toList.drop (k + 1) = l := by
      rw [← List.tail_drop, hl]; rfl
    change QOf P ρ w N (Res.rec (motive := fun _ => Res) (execLS P N env ops l) (fun _ _ _ => .bad []) (fun _ _ => .bad []) Res.bad (stepOpS P N env ops o f s)) Q at hq
    cases hs : stepOpS P N env ops o f s with
    | exit id f1 s1 => rw [hs] at hq; exact hq.elim
    | ret f1 s1 => rw [hs] at hq; exact hq.elim
    | bad w1 => rw [hs] at hq; exact hq.elim
    | ok f1 s1 =>
      rw [hs] at hq
      have rest : ∀ a' w', Post ρ w s1 w' (fun ρ' => AR P ρ' N f1 s1 a') → wpOpsS P ops (fun e a cs' w => cs' = cs ∧ Q e a w) (List.range' (k + 1) l.length) a' cs w' := by
        intro a' w' hp
        obtain ⟨ρ1, e1, e2, e3, e4⟩ := hp
        exact execLS_wp henv hcs l (k + 1) hl' ρ1 s1 f1 a' w' e3 e4 (QOf.shift (r := execLS P N env ops l f1 s1) hq e1 e2)
      unfold stepOpS at hs
      cases hrec : isRec o with
      | true =>
        rw [hrec] at hs
        obtain ⟨rfl, h3⟩ := fin_inv (s := s) (s' := s1) hs
        obtain ⟨hg, hrun⟩ := isRec_run hrec
        unfold wpOpsS
        rw [ho]
        dsimp only
        rw [if_pos (guard_none (ops := ops) (by unfold guardB; rw [hg]) a.tmps), hrun, hcs.no]
        exact rest _ w (Post.here h ⟨h3 ρ a .nilIface hf.fr (.c _), by rw [put_defers]; exact hf.df⟩)
      | false =>
        rw [hrec] at hs
        unfold wpOpsS
        rw [ho]
        dsimp only
        rcases stepOp_inv (P := P) (N := N) (env := env) (ops := ops) (o := o) (f := f) (f' := f1) (s := s) (s' := s1) hs hf.fr with ⟨hw, hr⟩ | ⟨hw, hr⟩
        · rw [if_pos hw]
          have hu := oper_upon (Q := fun e a' w' => (fun e a cs' w => cs' = cs ∧ Q e a w) e a' cs w') henv h hf hr rest
          cases hx : (execOp a.eval o).run P w with
          | halt x w' => rw [hx] at hu; exact hu
          | ok n w' =>
            rw [hx] at hu
            cases n <;> first | exact hu | exact hu.elim
        · rw [hw]
          simp only [Bool.false_eq_true, if_false]
          obtain ⟨rfl, h3⟩ := fin_inv hr
          exact rest _ w (Post.here h ⟨h3 ρ a undef hf.fr (.c _), by rw [put_defers]; exact hf.df⟩)

theorem execS_wp {P : Program} {N : Nat} {env : Env} (henv : EnvOK P env) (hmix : P.follows .mixedOrders = true) (lf : Nat) {cs : List Frame} (hcs : Home cs) (c : Code) :
    ∀ (Q : Exit → Act → World → Prop) (ρ : Ren) (s : St) (f : T4 AV) (a : Act) (w : World), SR ρ s w → AR P ρ N f s a → QOf P ρ w N (execS P N env lf c f s) Q → c.wpS P (fun e a cs' w => cs' = cs ∧ Q e a w) a cs w := by
  have plain : ∀ (c : Code) (Q : Exit → Act → World → Prop) (ρ : Ren) (s : St) (f : T4 AV) (a : Act) (w : World), SR ρ s w → AR P ρ N f s a → QOf P ρ w N (exec P N env lf c f s) Q → c.wpS P (fun e a cs' w => cs' = cs ∧ Q e a w) a cs w :=
    fun c Q ρ s f a w h hf hq => wpS_of_wp (wp_mono (exec_wp henv hmix lf c Q ρ s f a w h hf hq) fun _ _ _ x => ⟨rfl, x⟩)
  induction c with
  | skip => exact fun Q ρ s f a w h hf hq => plain .skip Q ρ s f a w h hf hq
  | region id ops draw =>
    intro Q ρ s f a w h hf hq
    cases draw with
    | true => exact plain _ Q ρ s f a w h hf hq
    | false =>
      refine wpS_region ?_
      have := execLS_wp henv hcs ops.toList 0 (by simp) ρ s f a w h hf hq
      rwa [show List.range ops.size = List.range' 0 ops.toList.length by simp [List.range_eq_range']]
  | seq x y ihx ihy =>
    intro Q ρ s f a w h hf hq
    refine wpS_seq (wpS_mono (ihx (Exit.then (fun a w => y.wpS P (fun e a cs' w => cs' = cs ∧ Q e a w) a cs w) Q) ρ s f a w h hf ?_) ?_)
    · exact QOf.seq (g := execS P N env lf y) hq fun f1 s1 a' w' ρ1 h1 h2 h3 => ihy Q ρ1 s1 f1 a' w' h1 h2 h3
    · rintro e a cs' w ⟨rfl, hx⟩
      cases e <;> first | exact hx | exact ⟨rfl, hx⟩
  | cond x y z ihy ihz =>
    intro Q ρ s f a w h hf hq
    change QOf P ρ w N (OB.rec (motive := fun _ => Res) (execS P N env lf y f s) (execS P N env lf z f s) (.bad ["cond"]) (.bad ["cond"]) (asB (evO f x))) Q at hq
    have hv := hf.fr.op x
    cases hb : asB (evO f x) with
    | t =>
      rw [hb] at hq
      rw [asB_t hb] at hv
      exact wpS_cond hv.b_inv (ihy Q ρ s f a w h hf hq)
    | f =>
      rw [hb] at hq
      rw [asB_f hb] at hv
      exact wpS_cond hv.b_inv (ihz Q ρ s f a w h hf hq)
    | u => rw [hb] at hq; exact hq.elim
    | no => rw [hb] at hq; exact hq.elim
  | block id x ih => exact fun Q ρ s f a w h hf hq => plain _ Q ρ s f a w h hf hq
  | loop x ih => exact fun Q ρ s f a w h hf hq => plain _ Q ρ s f a w h hf hq
  | rangeFunc f params assign body ih1 ih2 => exact fun Q ρ s f a w h hf hq => hq.elim
  | exit id => exact fun Q ρ s f a w h hf hq => plain (.exit id) Q ρ s f a w h hf hq
  | scope body ih => exact fun Q ρ s f a w h hf hq => hq.elim
  | label l => exact fun Q ρ s f a w h hf hq => plain (.label l) Q ρ s f a w h hf hq
  | goto l => exact fun Q ρ s f a w h hf hq => hq.elim
  | ret => exact fun Q ρ s f a w h hf hq => plain .ret Q ρ s f a w h hf hq
  | refuse why => exact fun Q ρ s f a w h hf hq => hq.elim

/-- calls put off, of a frame that returns, are as they are told -/
def EnvDOK (P : Program) (envD : Env) : Prop := ∀ g args s v s', envD g args s = .ret v s' → ∀ (ρ : Ren) (w : World) (cargs : Array Value), SR ρ s w → VRs ρ args cargs.toList →
  CallsD P g cargs .returning w fun e u w' => u = .returning ∧ ∃ cv, e = .returned cv ∧ Post ρ w s' w' fun _ => True

theorem run_inv {P : Program} {g : FuncId} {args : List AV} {K : Func → Code → T4 AV → CR} {v : AV} {s' : St}
    (hr : FB.rec (motive := fun _ => CR) (fun fn c => bif_ (Nat.ble args.length fn.ntmps) (putLK args .e 0 fun f => K fn c f) (.no ["args"])) (.no ["no function"]) (funcB P g) = .ret v s') :
    ∃ fn c, P.funcs[g]? = some fn ∧ fn.body = some c ∧ args.length ≤ fn.ntmps ∧ K fn c (putL args .e 0) = .ret v s' := by
  cases hb : funcB P g with
  | no => rw [hb] at hr; cases hr
  | mk fn c =>
    rw [hb] at hr
    obtain ⟨hfn, hbody⟩ := funcB_mk hb
    change bif_ (Nat.ble args.length fn.ntmps) (putLK args .e 0 fun f => K fn c f) (CR.no ["args"]) = .ret v s' at hr
    cases hle : Nat.ble args.length fn.ntmps with
    | false => rw [hle] at hr; cases hr
    | true =>
      rw [hle] at hr
      change (putLK args .e 0 fun f => K fn c f) = .ret v s' at hr
      rw [putLK_eq] at hr
      exact ⟨fn, c, hfn, hbody, ble hle, hr⟩

theorem noDs_inv {s s' : St} {r : CR} {v : AV} (h : noDs s r = .ret v s') : s.ds = [] ∧ r = .ret v s' := by
  unfold noDs at h
  cases hd : s.ds with
  | nil => rw [hd] at h; exact ⟨rfl, h⟩
  | cons x l => rw [hd] at h; cases h

theorem AR.start {P : Program} {ρ : Ren} {args : List AV} {cargs : Array Value} (h : VRs ρ args cargs.toList) {N : Nat} (hN : args.length ≤ N) (s : St) :
    AR P ρ N (putL args .e 0) ⟨s.heap, s.next, [], s.raw⟩ { tmps := cargs ++ Array.replicate (N - cargs.size) undef, defers := [] } := ⟨FR.start h hN, .nil⟩

theorem DefR.nil_inv {P : Program} {ρ : Ren} {r : List Deferred} (h : DefR P ρ [] r) : r = [] := by cases h; rfl

theorem runD_ok {P : Program} {env : Env} (henv : EnvOK P env) (hmix : P.follows .mixedOrders = true) (lf : Nat) : EnvDOK P (runD P env lf) := by
  intro g args s v s' hr ρ w cargs h hargs
  obtain ⟨fn, c, hfn, hbody, hlen, hr⟩ := run_inv (K := fun fn c f => Res.rec (motive := fun _ => CR) (fun f s => noDs s (results P fn f s)) (fun _ _ _ => .no ["exit"]) (fun f s => noDs s (results P fn f s)) (fun w => .no (fn.name :: w)) (execS P fn.ntmps env lf c f ⟨s.heap, s.next, [], s.raw⟩)) hr
  refine callsD_of_wpS hfn hbody fun c₀ cs hc => ?_
  have hcs : Home (c₀ :: cs) := ⟨c₀, cs, rfl, hc⟩
  have hc' : ({ c₀ with mode := .returning } : Frame) = c₀ := by rw [← hc]
  have fin : ∀ (f1 : T4 AV) (s1 : St), noDs s1 (results P fn f1 s1) = .ret v s' → ∀ (a' : Act) (w' : World), Post ρ w s1 w' (fun ρ' => AR P ρ' fn.ntmps f1 s1 a') →
      a'.defers = [] ∧ ∃ u', c₀ :: cs = { c₀ with mode := u' } :: cs ∧ ∃ cv, (Go.results fn a'.tmps).run P w' = .ok cv w' ∧ u' = .returning ∧ ∃ cv', Ending.returned cv = .returned cv' ∧ Post ρ w s' w' fun _ => True := by
    intro f1 s1 hres a' w' hp
    obtain ⟨ρ1, e1, e2, e3, e4⟩ := hp
    obtain ⟨hds, hres⟩ := noDs_inv hres
    obtain ⟨rfl, cv, c1, c2⟩ := results_ok e3 e4.fr hres
    have hdf := e4.df
    rw [hds] at hdf
    exact ⟨hdf.nil_inv, .returning, by rw [hc'], cv, c1, rfl, cv, rfl, ρ1, e1, e2, e3, trivial⟩
  refine wpS_mono (execS_wp henv hmix lf hcs c (fun e a w' => bodyPostS P fn c₀ cs _ e a (c₀ :: cs) w') ρ ⟨s.heap, s.next, [], s.raw⟩ (putL args .e 0) _ w (h.ds rfl rfl rfl) (AR.start hargs hlen s) ?_) (by rintro e a cs' w ⟨rfl, hx⟩; exact hx)
  cases hx : execS P fn.ntmps env lf c (putL args .e 0) ⟨s.heap, s.next, [], s.raw⟩ with
  | ok f1 s1 => rw [hx] at hr; exact fin f1 s1 hr
  | exit id f1 s1 => rw [hx] at hr; cases hr
  | ret f1 s1 => rw [hx] at hr; exact fin f1 s1 hr
  | bad x => rw [hx] at hr; cases hr

theorem leave_ok {P : Program} {envD : Env} (hD : EnvDOK P envD) {fn : Func} {f : T4 AV} {tmps : Array Value} {v : AV} {s' : St} : ∀ (ds : List (FuncId × List AV)) (defers : List Deferred) (ρ : Ren) (s : St) (w : World) (R : Ending → World → Prop),
    leave P envD fn f ds s = .ret v s' → DefR P ρ ds defers → SR ρ s w → FR ρ fn.ntmps f tmps → (∀ cv w', Post ρ w s' w' (fun ρ' => VR ρ' v cv) → R (.returned cv) w') → Leaves P fn tmps R defers .returning w
  | [], _, ρ, s, w, R, hr, .nil, h, hf, hR => by
    obtain ⟨rfl, cv, c1, c2⟩ := results_ok h hf hr
    exact ⟨cv, c1, hR cv w (Post.here h c2)⟩
  | (g, args) :: l, d :: r, ρ, s, w, R, hr, .cons (cargs := cargs) ht hi ha hrest, h, hf, hR => by
    change CR.rec (motive := fun _ => CR) (fun _ s1 => leave P envD fn f l s1) CR.no (envD g args s) = .ret v s' at hr
    cases hx : envD g args s with
    | no x => rw [hx] at hr; cases hr
    | ret v1 s1 =>
      rw [hx] at hr
      obtain ⟨fv, cap, ht⟩ := ht
      refine ⟨by simp, fv, cap, g, cargs, ht, hi w, (hD g args s v1 s1 hx ρ w cargs h ha).mono ?_⟩
      rintro e u' w' ⟨rfl, cv, rfl, ρ1, e1, e2, e3, _⟩
      show Leaves P fn tmps R r (settle .returning) w'
      exact leave_ok hD l r ρ1 s1 w' R hr (hrest.mono e1.le) e3 (hf.mono e1.le) fun cv' w'' hp => hR cv' w'' (hp.then e1 e2)

theorem runF_ok {P : Program} {env : Env} (henv : EnvOK P env) (hmix : P.follows .mixedOrders = true) (lf : Nat) : EnvOK P (runF P env lf) := by
  intro g args s v s' hr ρ w cargs h hargs
  obtain ⟨fn, c, hfn, hbody, hlen, hr⟩ := run_inv (K := fun fn c f => Res.rec (motive := fun _ => CR) (fun f s => leave P (runD P env lf) fn f s.ds s) (fun _ _ _ => .no ["exit"]) (fun f s => leave P (runD P env lf) fn f s.ds s) (fun w => .no (fn.name :: w)) (exec P fn.ntmps env lf c f ⟨s.heap, s.next, [], s.raw⟩)) hr
  refine calls_of_wp_defers hfn hbody ?_
  refine exec_wp henv hmix lf c _ ρ ⟨s.heap, s.next, [], s.raw⟩ (putL args .e 0) _ w (h.ds rfl rfl rfl) (AR.start hargs hlen s) ?_
  have fin : ∀ (f1 : T4 AV) (s1 : St), leave P (runD P env lf) fn f1 s1.ds s1 = .ret v s' → ∀ (a' : Act) (w' : World), Post ρ w s1 w' (fun ρ' => AR P ρ' fn.ntmps f1 s1 a') →
      Leaves P fn a'.tmps (fun e w' => ∃ cv, e = .returned cv ∧ Post ρ w s' w' fun ρ' => VR ρ' v cv) a'.defers .returning w' := by
    intro f1 s1 hres a' w' hp
    obtain ⟨ρ1, e1, e2, e3, e4⟩ := hp
    exact leave_ok (runD_ok henv hmix lf) s1.ds a'.defers ρ1 s1 w' _ hres e4.df e3 e4.fr fun cv w'' hp => ⟨cv, rfl, hp.then e1 e2⟩
  cases hx : exec P fn.ntmps env lf c (putL args .e 0) ⟨s.heap, s.next, [], s.raw⟩ with
  | ok f1 s1 => rw [hx] at hr; exact fin f1 s1 hr
  | exit id f1 s1 => rw [hx] at hr; cases hr
  | ret f1 s1 => rw [hx] at hr; exact fin f1 s1 hr
  | bad x => rw [hx] at hr; cases hr

theorem callAt_ok {P : Program} {known : Env} (hk : EnvOK P known) (hmix : P.follows .mixedOrders = true) : ∀ n, EnvOK P (callAt P known n)
  | 0 => hk
  | n + 1 => by
    intro g args s v s' hr
    change CR.rec (motive := fun _ => CR) CR.ret (fun _ => runF P (callAt P known n) n g args s) (known g args s) = .ret v s' at hr
    cases hx : known g args s with
    | ret v1 s1 => rw [hx] at hr; cases hr; exact hk g args s v s' hx
    | no x => rw [hx] at hr; exact runF_ok (callAt_ok hk hmix n) hmix n g args s v s' hr

/-- nothing known ahead -/
def none_ : Env := fun _ _ _ => .no ["unknown"]
theorem none_ok (P : Program) : EnvOK P none_ := fun g args s v s' h => by cases h

end Go.Eng
