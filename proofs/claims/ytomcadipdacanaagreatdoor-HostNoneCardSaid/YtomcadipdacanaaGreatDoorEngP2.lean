/-
  A round over a map's entries: calls that are told from nothing; what a tame round changes; the abstract interpreter's code by code, whatever its loops are.
-/
import Derived.Test.YtomcadipdacanaaGreatDoorEngP1
import Derived.Maps.RangeRun
namespace Go.Eng
open Go
set_option linter.unusedVariables false

/-- nothing is told of any block -/
def Ren.nil : Ren := ⟨fun _ _ => none, fun _ => none, fun _ => none, fun _ => none⟩
theorem Ren.nil_le (ρ : Ren) : Ren.nil.le ρ := ⟨⟨(fun _ _ _ h => nomatch h), (fun _ _ h => nomatch h), (fun _ _ h => nomatch h)⟩, (fun _ _ h => nomatch h)⟩
theorem Ren.nil_free (b : Nat) : Ren.nil.free b := ⟨(fun _ _ _ h _ => nomatch h), (fun _ h => nomatch h)⟩

/-- no memory -/
def St.nil : St := ⟨.e, 0, [], fun _ _ => none⟩
theorem SR.nil (w : World) : SR Ren.nil St.nil w where
  blks := fun A el n cs lo hi h => by rw [show St.nil.heap = .e from rfl, T4.at_e] at h; cases h
  dom := fun _ _ _ h => by cases h
  top := fun _ _ _ h => by cases h
  inj := fun _ _ _ _ _ _ h => by cases h
  objdom := fun _ _ h => by cases h
  objinj := fun _ _ _ h => by cases h
  sep := fun _ _ _ _ _ h => by cases h
  fresh := fun A _ => T4.at_e A
  same := fun _ _ _ _ _ h => by cases h
  rows := fun _ _ _ h => by cases h
  objs := fun m ob h _ => by rw [show St.nil.heap = .e from rfl, T4.at_e] at h; cases h
  zero := fun _ _ h => by cases h
  stdom := fun _ _ h => by cases h
  raws := fun _ _ _ h => by cases h

/-! ## plain values -/

theorem flat1_rel {ρ ρ' : Ren} {a : AV} {v : Value} (h : flat1 a = true) (hv : VR ρ a v) : VR ρ' a v := by
  cases hv with
  | i k n => exact .i k n
  | b b => exact .b b
  | s l => exact .s l
  | c v => exact .c v
  | _ => cases h
theorem flatL_rel {ρ ρ' : Ren} : ∀ {l : List AV} {l' : List Value}, flatL l = true → VRs ρ l l' → VRs ρ' l l'
  | _, _, _, .nil => .nil
  | a :: l, _, h, .cons hv hr => by
    have h' : (flat1 a && flatL l) = true := h
    rw [Bool.and_eq_true] at h'
    exact .cons (flat1_rel h'.1 hv) (flatL_rel h'.2 hr)
theorem flat2_rel {ρ ρ' : Ren} {a : AV} {v : Value} (h : flat2 a = true) (hv : VR ρ a v) : VR ρ' a v := by
  cases hv with
  | i k n => exact .i k n
  | b b => exact .b b
  | s l => exact .s l
  | c v => exact .c v
  | agg hl => exact .agg (flatL_rel h hl)
  | _ => cases h
theorem flat2L_rel {ρ ρ' : Ren} : ∀ {l : List AV} {l' : List Value}, flat2L l = true → VRs ρ l l' → VRs ρ' l l'
  | _, _, _, .nil => .nil
  | a :: l, _, h, .cons hv hr => by
    have h' : (flat2 a && flat2L l) = true := h
    rw [Bool.and_eq_true] at h'
    exact .cons (flat2_rel h'.1 hv) (flat2L_rel h'.2 hr)

theorem pureOf_inv {env : Env} {g : FuncId} {args : List AV} {s s' : St} {v : AV} (hr : pureOf env g args s = .ret v s') : s' = s ∧ flat2L args = true ∧ flat2 v = true ∧ ∃ s1, env g args St.nil = .ret v s1 := by
  unfold pureOf at hr
  cases hp : flat2L args with
  | false => rw [hp] at hr; cases hr
  | true =>
    rw [hp] at hr
    change pureR s (env g args St.nil) = .ret v s' at hr
    cases hx : env g args St.nil with
    | no x => rw [hx] at hr; cases hr
    | ret v1 s1 =>
      rw [hx] at hr
      change Bool.rec (motive := fun _ => CR) (.no _) (.ret v1 s) (flat2 v1) = .ret v s' at hr
      cases hf : flat2 v1 with
      | false => rw [hf] at hr; cases hr
      | true => rw [hf] at hr; cases hr; exact ⟨rfl, rfl, hf, s1, rfl⟩

theorem pureOf_ok {P : Program} {env : Env} (henv : EnvOK P env) : EnvOK P (pureOf env) := by
  intro g args s v s' hr ρ w cargs h hargs
  obtain ⟨rfl, h1, h2, s1, h3⟩ := pureOf_inv hr
  refine (henv g args _ v s1 h3 Ren.nil w cargs (SR.nil w) (flat2L_rel h1 hargs)).mono ?_
  rintro e w' ⟨cv, rfl, ρ1, e1, e2, e3, e4⟩
  exact ⟨cv, rfl, ρ, Ext.refl w ρ, ⟨e2.size, e2.os, e2.output, e2.tape, fun b hb _ => e2.old b hb (Ren.nil_free b)⟩, h.more e2.size fun b hb => e2.old b hb (Ren.nil_free b), flat2_rel h2 e4⟩

/-! ## what a tame round changes -/

/-- one entry laid into one map -/
def One (s s' : St) : Prop := ∃ m X, s' = ⟨s.heap.put m X, s.next, s.ds, s.raw⟩ ∧ ((∃ kd l clk, s.heap.at_ m = some (.map kd l clk)) ∨ ∃ id kd k v, s.heap.at_ m = some (.lmap id kd none) ∧ X = .lmap id kd (some (k, v)))
inductive Ups : Nat → St → St → Prop
  | here (n : Nat) (s : St) : Ups n s s
  | step {n : Nat} {s s1 s2 : St} (h : One s s1) (hr : Ups n s1 s2) : Ups (n + 1) s s2
theorem Ups.more {n : Nat} {s s' : St} (h : Ups n s s') (m : Nat) : Ups (n + m) s s' := by
  induction h with
  | here n s => exact .here _ s
  | step h _ ih => rw [Nat.add_right_comm]; exact .step h ih
theorem Ups.add {n m : Nat} {s s1 s2 : St} (h : Ups n s s1) (h' : Ups m s1 s2) : Ups (n + m) s s2 := by
  induction h with
  | here n s => rw [Nat.add_comm]; exact h'.more n
  | step h _ ih => rw [Nat.add_right_comm]; exact .step h (ih h')
theorem Ups.one {s s' : St} (h : Ups 1 s s') : s' = s ∨ One s s' := by
  cases h with
  | here => exact .inl rfl
  | step h hr => cases hr; exact .inr h

theorem tame_op {P : Program} {N : Nat} {env : Env} {ops : Array Oper} {o : Oper} {f f' : T4 AV} {s s' : St} (ht : tameOp P o = true) (h : stepOp P N (pureOf env) ops o f s = .ok f' s') :
    (∀ t, o.dst ≠ some t → evP f' (pathOf t) = evP f (pathOf t)) ∧ Ups (bif isUpd o then 1 else 0) s s' := by
  rcases stepOp_cases h with ⟨v, h1, h2, _⟩ | ⟨rfl, h2, _⟩
  · have hl := (fin_laid h2).1
    refine ⟨fun t hd => by rw [hl t, if_neg hd], ?_⟩
    unfold tameOp at ht
    rw [Bool.or_eq_true, Bool.or_eq_true, Bool.or_eq_true] at ht
    rcases ht with ht | ht | ht | ht
    · rw [ans_still (by have := ble ht; omega) h1]; exact .here _ s
    · rw [ht]
      have key : ∀ t a b x, aMapUpd P t a b x s = .val v s' → Ups 1 s s' := by
        intro t a b x hr
        obtain ⟨_, m, X, rfl, hc⟩ := aMapUpd_inv hr
        refine .step ⟨m, X, rfl, ?_⟩ (.here _ _)
        rcases hc with hc | ⟨id, kd, y1, y2⟩
        · exact .inl hc
        · exact .inr ⟨id, kd, b, x, y1, y2⟩
      unfold isUpd at ht
      split at ht
      · rename_i ho
        unfold ans at h1
        rw [ho] at h1
        exact key _ _ _ _ h1
      · rename_i ho
        unfold ans at h1
        rw [ho] at h1
        exact key _ _ _ _ h1
      · cases ht
    · unfold isEnt at ht
      split at ht
      · rename_i x ho
        unfold ans at h1
        rw [ho] at h1
        have h1' : aEntry (evO f x) s = .val v s' := h1
        rw [(aEntry_inv h1').1]
        exact .here _ s
      · cases ht
    · unfold isPCall at ht
      split at ht
      · rename_i c ho
        split at ht
        · rename_i g hc
          unfold ans at h1
          rw [ho] at h1
          have h1' : OpB.rec (motive := fun _ => OR) (fun g => g P (pureOf env) o.type f s) (callBox c) = .val v s' := h1
          unfold callBox at h1'
          rw [hc] at h1'
          dsimp only at h1'
          rw [forceL_eq] at h1'
          unfold aCallF at h1'
          rw [ht] at h1'
          change orOf s.ds s.raw (pureOf env g (evL f c.args.toList) s) = .val v s' at h1'
          cases hx : pureOf env g (evL f c.args.toList) s with
          | no w => rw [hx] at h1'; cases h1'
          | ret v1 s1 =>
            rw [hx] at h1'
            obtain ⟨rfl, _⟩ := pureOf_inv hx
            cases h1'
            exact .here _ _
        · cases ht
      · cases ht
  · have hl := (fin_laid h2).1
    exact ⟨fun t hd => by rw [hl t, if_neg hd], .here _ _⟩

/-- a result of a tame round -/
def TameR (ds : List Tmp) (n : Nat) (f : T4 AV) (s : St) : Res → Prop
  | .ok f' s' => (∀ t, t ∉ ds → evP f' (pathOf t) = evP f (pathOf t)) ∧ Ups n s s'
  | .bad _ => True
  | _ => False

theorem dstL_cons (o : Oper) (r : List Oper) : dstL (o :: r) = match o.dst with
    | some d => d :: dstL r
    | none => dstL r := rfl
theorem nUpdL_cons (o : Oper) (r : List Oper) : nUpdL (o :: r) = (bif isUpd o then 1 else 0) + nUpdL r := by
  show (bif isUpd o then nUpdL r + 1 else nUpdL r) = _
  cases isUpd o
  · exact (Nat.zero_add _).symm
  · exact Nat.add_comm _ _

theorem TameR.op {P : Program} {N : Nat} {env : Env} {ops : Array Oper} {o : Oper} {r : List Oper} {f f1 : T4 AV} {s s1 : St} (ht : tameOp P o = true) (h : stepOp P N (pureOf env) ops o f s = .ok f1 s1) {x : Res} (hx : TameR (dstL r) (nUpdL r) f1 s1 x) : TameR (dstL (o :: r)) (nUpdL (o :: r)) f s x := by
  obtain ⟨h1, h2⟩ := tame_op ht h
  cases x with
  | ok f' s' =>
    obtain ⟨g1, g2⟩ := hx
    refine ⟨fun t hd => ?_, by rw [nUpdL_cons]; exact h2.add g2⟩
    rw [dstL_cons] at hd
    cases ho : o.dst with
    | none => rw [ho] at hd h1; rw [g1 t hd, h1 t (by simp)]
    | some d =>
      rw [ho] at hd h1
      simp only [List.mem_cons, not_or] at hd
      rw [g1 t hd.2, h1 t (fun e => hd.1 (Option.some.inj e).symm)]
  | exit id f' s' => exact hx
  | ret f' s' => exact hx
  | bad w => trivial

theorem stepOp_res {P : Program} {N : Nat} {env : Env} {ops : Array Oper} {o : Oper} {f : T4 AV} {s : St} : (∃ f' s', stepOp P N env ops o f s = .ok f' s') ∨ ∃ w, stepOp P N env ops o f s = .bad w := by
  have hfin : ∀ v s, (∃ f' s', fin N o.dst v f s = .ok f' s') ∨ ∃ w, fin N o.dst v f s = .bad w := fun v s => by
    rcases fin_ok (N := N) (dst := o.dst) (v := v) (f := f) (s := s) with ⟨f', h⟩ | h
    · exact .inl ⟨f', s, h⟩
    · exact .inr h
  have hrun : (∃ f' s', runOp P N env o f s = .ok f' s') ∨ ∃ w, runOp P N env o f s = .bad w := by
    unfold runOp
    cases OpB.rec (motive := fun _ => OR) (fun g => g P env o.type f s) (aop o.op) with
    | val v s1 => exact hfin v s1
    | no w => exact .inr ⟨_, rfl⟩
  unfold stepOp
  cases guardB ops o with
  | none => exact hrun
  | bad => exact .inr ⟨_, rfl⟩
  | tmp p want =>
    dsimp only
    cases asB (evP f p) <;> cases want <;> first | exact hrun | exact hfin uv s | exact .inr ⟨_, rfl⟩

theorem tame_L {P : Program} {N : Nat} {env : Env} {ops : Array Oper} : ∀ (l : List Oper) (f : T4 AV) (s : St), tameL P l = true → TameR (dstL l) (nUpdL l) f s (execL P N (pureOf env) ops l f s)
  | [], f, s, _ => ⟨fun _ _ => rfl, .here _ s⟩
  | o :: r, f, s, h => by
    have h' : (tameOp P o && tameL P r) = true := h
    rw [Bool.and_eq_true] at h'
    show TameR _ _ f s (Res.rec (motive := fun _ => Res) (execL P N (pureOf env) ops r) (fun _ _ _ => .bad []) (fun _ _ => .bad []) Res.bad (stepOp P N (pureOf env) ops o f s))
    rcases stepOp_res (P := P) (N := N) (env := pureOf env) (ops := ops) (o := o) (f := f) (s := s) with ⟨f1, s1, hs⟩ | ⟨w, hs⟩
    · rw [hs]; exact TameR.op h'.1 hs (tame_L r f1 s1 h'.2)
    · rw [hs]; trivial

theorem tame_C {P : Program} {N : Nat} {env : Env} {ops : Array Oper} : ∀ (l : List PlanOp) (f : T4 AV) (s : St) (hs : List St), tameL P (l.map (·.o)) = true → TameR (dstL (l.map (·.o))) (nUpdL (l.map (·.o))) f s (execC P N (pureOf env) ops l f s hs)
  | [], f, s, _, _ => ⟨fun _ _ => rfl, .here _ s⟩
  | x :: r, f, s, hh, h => by
    have h' : (tameOp P x.o && tameL P (r.map (·.o))) = true := h
    rw [Bool.and_eq_true] at h'
    have e : execC P N (pureOf env) ops (x :: r) f s hh = Res.rec (motive := fun _ => Res) (fun f' s' => bif_ (allAgain P (pureOf env) ops f' s' x.rs) (bif_ (backOk P (pureOf env) ops f f' x.o x.nb hh) (bif_ (allNe f x.o x.sw) (execC P N (pureOf env) ops r f' s' (histOf x.ch s hh)) (.bad [x.o.pos, "order of stores"])) (.bad [x.o.pos, "order back"])) (.bad [x.o.pos, "order"])) (fun _ _ _ => .bad []) (fun _ _ => .bad []) Res.bad (stepOp P N (pureOf env) ops x.o f s) := rfl
    rw [e]
    rcases stepOp_res (P := P) (N := N) (env := pureOf env) (ops := ops) (o := x.o) (f := f) (s := s) with ⟨f1, s1, hs⟩ | ⟨w, hs⟩
    · rw [hs]
      dsimp only
      cases allAgain P (pureOf env) ops f1 s1 x.rs with
      | false => trivial
      | true =>
        cases backOk P (pureOf env) ops f f1 x.o x.nb hh with
        | false => trivial
        | true =>
          cases allNe f x.o x.sw with
          | false => trivial
          | true => exact TameR.op h'.1 hs (tame_C r f1 s1 _ h'.2)
    · rw [hs]; trivial

theorem planF_map {P : Program} (ops : Array Oper) (ms : List Nat) : ∀ (l : List Oper) (k : Nat), (planF P ops ms k l).map (·.o) = l
  | [], _ => rfl
  | o :: r, k => by
    show o :: (planF P ops ms (k + 1) r).map (·.o) = o :: r
    rw [planF_map ops ms r (k + 1)]

theorem tameL_mem {P : Program} : ∀ {l : List Oper}, tameL P l = true → ∀ o ∈ l, tameOp P o = true
  | [], _, o, ho => by cases ho
  | q :: r, h, o, ho => by
    have h' : (tameOp P q && tameL P r) = true := h
    rw [Bool.and_eq_true] at h'
    rcases List.mem_cons.1 ho with rfl | hm
    · exact h'.1
    · exact tameL_mem h'.2 o hm
theorem tame_noMM {P : Program} {o : Oper} (h : tameOp P o = true) : isMM o = false := by
  cases hm : isMM o with
  | false => rfl
  | true =>
    exfalso
    unfold isMM at hm
    split at hm
    · rename_i t d h1 h2 h3
      unfold tameOp isUpd isEnt isPCall at h
      rw [h1] at h
      cases h
    · cases hm
theorem tame_code {P : Program} {N : Nat} {env : Env} {lf : Nat} (c : Code) : ∀ (f : T4 AV) (s : St), tameC P c = true → TameR (dstC c) (nUpd c) f s (exec0 P N (pureOf env) lf c f s) := by
  induction c with
  | skip => exact fun f s _ => ⟨fun _ _ => rfl, .here _ s⟩
  | region id ops draw =>
    intro f s h
    show TameR _ _ f s (bif_ draw (bif_ (drawOk P (lateOf P ops)) (execC P N (pureOf env) (lateOf P ops) (planOf P (lateOf P ops)) f s []) (.bad ["draw"])) (execL P N (pureOf env) ops ops.toList f s))
    cases draw with
    | false => exact tame_L ops.toList f s h
    | true =>
      rw [lateOf_none fun o ho => tame_noMM (tameL_mem h o ho)]
      show TameR _ _ f s (bif_ (drawOk P ops) (execC P N (pureOf env) ops (planOf P ops) f s []) (.bad ["draw"]))
      cases drawOk P ops with
      | false => trivial
      | true =>
        have e : (planOf P ops).map (·.o) = ops.toList := planF_map ops _ _ _
        have := tame_C (P := P) (N := N) (env := env) (ops := ops) (planOf P ops) f s [] (by rw [e]; exact h)
        rw [e] at this
        exact this
  | seq x y ihx ihy =>
    intro f s h
    have h' : (tameC P x && tameC P y) = true := h
    rw [Bool.and_eq_true] at h'
    show TameR (dstC x ++ dstC y) (nUpd x + nUpd y) f s (Res.rec (motive := fun _ => Res) (exec0 P N (pureOf env) lf y) Res.exit Res.ret Res.bad (exec0 P N (pureOf env) lf x f s))
    have hx := ihx f s h'.1
    cases he : exec0 P N (pureOf env) lf x f s with
    | exit id f1 s1 => rw [he] at hx; exact hx.elim
    | ret f1 s1 => rw [he] at hx; exact hx.elim
    | bad w => trivial
    | ok f1 s1 =>
      rw [he] at hx
      obtain ⟨x1, x2⟩ := hx
      dsimp only
      have hy := ihy f1 s1 h'.2
      cases he2 : exec0 P N (pureOf env) lf y f1 s1 with
      | exit id f2 s2 => rw [he2] at hy; exact hy.elim
      | ret f2 s2 => rw [he2] at hy; exact hy.elim
      | bad w => trivial
      | ok f2 s2 =>
        rw [he2] at hy
        obtain ⟨y1, y2⟩ := hy
        refine ⟨fun t ht => ?_, x2.add y2⟩
        rw [List.mem_append, not_or] at ht
        rw [y1 t ht.2, x1 t ht.1]
  | block id x ih =>
    intro f s h
    show TameR (dstC x) (nUpd x) f s (Res.rec (motive := fun _ => Res) Res.ok (fun id' f s => bif_ (Nat.beq id' id) (.ok f s) (.exit id' f s)) Res.ret Res.bad (exec0 P N (pureOf env) lf x f s))
    have hx := ih f s h
    cases he : exec0 P N (pureOf env) lf x f s with
    | exit id f1 s1 => rw [he] at hx; exact hx.elim
    | ret f1 s1 => rw [he] at hx; exact hx.elim
    | bad w => trivial
    | ok f1 s1 => rw [he] at hx; exact hx
  | _ => intro f s h; cases h

/-! ## code, whatever its loops are -/

theorem QOf.seq {P : Program} {ρ : Ren} {w : World} {N : Nat} {r : Res} {g : T4 AV → St → Res} {Q : Exit → Act → World → Prop} {K : Act → World → Prop} (h : QOf P ρ w N (Res.rec (motive := fun _ => Res) g Res.exit Res.ret Res.bad r) Q)
    (hk : ∀ (f1 : T4 AV) (s1 : St) (a' : Act) (w' : World) (ρ1 : Ren), SR ρ1 s1 w' → AR P ρ1 N f1 s1 a' → QOf P ρ1 w' N (g f1 s1) Q → K a' w') : QOf P ρ w N r (Exit.then K Q) := by
  cases r with
  | ok f1 s1 =>
    intro a' w' hp
    obtain ⟨ρ1, e1, e2, e3, e4⟩ := hp
    refine hk f1 s1 a' w' ρ1 e3 e4 ?_
    exact QOf.shift (r := g f1 s1) h e1 e2
  | exit id f s => exact h
  | ret f s => exact h
  | bad _ => exact h

theorem QOf.block {P : Program} {ρ : Ren} {w : World} {N : Nat} {r : Res} {id : Nat} {Q : Exit → Act → World → Prop}
    (h : QOf P ρ w N (Res.rec (motive := fun _ => Res) Res.ok (fun id' f s => bif_ (Nat.beq id' id) (.ok f s) (.exit id' f s)) Res.ret Res.bad r) Q) : QOf P ρ w N r (Exit.inBlock id Q) := by
  cases r with
  | ok f1 s1 => exact h
  | exit id' f s =>
    intro a' w' hp
    unfold Exit.inBlock
    by_cases hid : id' = id
    · subst hid
      dsimp only
      rw [if_pos rfl]
      have e : Nat.beq id' id' = true := Nat.beq_refl id'
      dsimp only at h
      rw [e] at h
      exact h a' w' hp
    · dsimp only
      rw [if_neg hid]
      have e : Nat.beq id' id = false := by
        cases hb : Nat.beq id' id with
        | false => rfl
        | true => exact absurd (Nat.eq_of_beq_eq_true hb) hid
      dsimp only at h
      rw [e] at h
      exact h a' w' hp
  | ret f s => exact h
  | bad _ => exact h

theorem loopN_wp {P : Program} {N : Nat} {c : Code} {body : T4 AV → St → Res} {Q : Exit → Act → World → Prop}
    (hb : ∀ (R : Exit → Act → World → Prop) (ρ : Ren) (s : St) (f : T4 AV) (a : Act) (w : World), SR ρ s w → AR P ρ N f s a → QOf P ρ w N (body f s) R → c.wp P R a w) :
    ∀ (n : Nat) (ρ : Ren) (s : St) (f : T4 AV) (a : Act) (w : World), SR ρ s w → AR P ρ N f s a → QOf P ρ w N (loopN body n f s) Q → Code.rounds P c Q n a w
  | 0, ρ, s, f, a, w, h, hf, hq => hq.elim
  | n + 1, ρ, s, f, a, w, h, hf, hq => by
    rw [rounds_succ]
    refine hb _ ρ s f a w h hf ?_
    refine QOf.seq (g := loopN body n) hq fun f1 s1 a' w' ρ1 h1 h2 h3 => ?_
    exact loopN_wp hb n ρ1 s1 f1 a' w' h1 h2 h3


/-- what a piece of code comes to is told -/
def Sound (P : Program) (N : Nat) (g : T4 AV → St → Res) (c : Code) : Prop :=
  ∀ (Q : Exit → Act → World → Prop) (ρ : Ren) (s : St) (f : T4 AV) (a : Act) (w : World), SR ρ s w → AR P ρ N f s a → QOf P ρ w N (g f s) Q → c.wp P Q a w

theorem execG_wp {P : Program} {N : Nat} {env : Env} (henv : EnvOK P env) (hmix : P.follows .mixedOrders = true) {lp : Code → (T4 AV → St → Res) → T4 AV → St → Res} (hlp : ∀ b g, Sound P N g b → Sound P N (lp b g) (.loop b)) (c : Code) : Sound P N (execG lp P N env c) c := by
  induction c with
  | skip => exact fun Q ρ s f a w h hf hq => wp_skip (hq a w (Post.here h hf))
  | region id ops draw =>
    intro Q ρ s f a w h hf hq
    cases draw with
    | false =>
      refine wp_region ?_
      have := execL_wp henv ops.toList 0 (by simp) ρ s f a w h hf hq
      rwa [show List.range ops.size = List.range' 0 ops.toList.length by simp [List.range_eq_range']]
    | true =>
      have hq' : QOf P ρ w N (bif_ (drawOk P (lateOf P ops)) (execC P N env (lateOf P ops) (planOf P (lateOf P ops)) f s []) (.bad ["draw"])) Q := hq
      cases hd : drawOk P (lateOf P ops) with
      | false => rw [hd] at hq'; exact hq'.elim
      | true => rw [hd] at hq'; exact late_wp henv hmix hd h hf hq'
  | seq x y ihx ihy =>
    intro Q ρ s f a w h hf hq
    refine wp_seq (ihx _ ρ s f a w h hf ?_)
    exact QOf.seq (g := execG lp P N env y) hq fun f1 s1 a' w' ρ1 h1 h2 h3 => ihy Q ρ1 s1 f1 a' w' h1 h2 h3
  | cond x y z ihy ihz =>
    intro Q ρ s f a w h hf hq
    change QOf P ρ w N (OB.rec (motive := fun _ => Res) (execG lp P N env y f s) (execG lp P N env z f s) (.bad ["cond"]) (.bad ["cond"]) (asB (evO f x))) Q at hq
    have hv := hf.fr.op x
    cases hb : asB (evO f x) with
    | t =>
      rw [hb] at hq
      rw [asB_t hb] at hv
      exact wp_cond_true hv.b_inv (ihy Q ρ s f a w h hf hq)
    | f =>
      rw [hb] at hq
      rw [asB_f hb] at hv
      exact wp_cond_false hv.b_inv (ihz Q ρ s f a w h hf hq)
    | u => rw [hb] at hq; exact hq.elim
    | no => rw [hb] at hq; exact hq.elim
  | block id x ih => exact fun Q ρ s f a w h hf hq => wp_block (ih _ ρ s f a w h hf (QOf.block hq))
  | loop x ih => exact fun Q ρ s f a w h hf hq => hlp x _ ih Q ρ s f a w h hf hq
  | rangeFunc f params assign body ih1 ih2 => exact fun Q ρ s f a w h hf hq => hq.elim
  | exit id => exact fun Q ρ s f a w h hf hq => wp_exit (hq a w (Post.here h hf))
  | scope body ih => exact fun Q ρ s f a w h hf hq => hq.elim
  | label l => exact fun Q ρ s f a w h hf hq => wp_label (hq a w (Post.here h hf))
  | goto l => exact fun Q ρ s f a w h hf hq => hq.elim
  | ret => exact fun Q ρ s f a w h hf hq => wp_ret (hq a w (Post.here h hf))
  | refuse why => exact fun Q ρ s f a w h hf hq => hq.elim

theorem loopN_sound {P : Program} {N : Nat} (lf : Nat) (b : Code) (g : T4 AV → St → Res) (h : Sound P N g b) : Sound P N (loopN g lf) (.loop b) :=
  fun Q ρ s f a w h1 h2 hq => wp_loop_rounds lf (loopN_wp h lf ρ s f a w h1 h2 hq)

theorem exec0_wp {P : Program} {N : Nat} {env : Env} (henv : EnvOK P env) (hmix : P.follows .mixedOrders = true) (lf : Nat) (c : Code) : Sound P N (exec0 P N env lf c) c :=
  execG_wp henv hmix (fun b g h => loopN_sound lf b g h) c

end Go.Eng
