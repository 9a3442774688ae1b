/-
  Each abstract operation is true of the model's, calls among them.
-/
import Derived.Test.YtomcadipdacanaaGreatDoorEngJ4
import Derived.Orders
namespace Go.Eng
open Go
set_option linter.unusedVariables false

theorem isByte_run {P : Program} {e : TypeId} (h : isByte P e = true) : P.underlying e = some (.int .u8) := by
  unfold isByte at h
  split at h
  · assumption
  · cases h

/-- calls as they are told are true -/
def EnvOK (P : Program) (env : Env) : Prop := ∀ g args s v s', env g args s = .ret v s' → ∀ (ρ : Ren) (w : World) (cargs : Array Value), SR ρ s w → VRs ρ args cargs.toList →
  Calls P g cargs w fun e w' => ∃ cv, e = .returned cv ∧ Post ρ w s' w' fun ρ' => VR ρ' v cv

/-- the operands of an operation are what the frame tells -/
def OpRel (ρ : Ren) (f : T4 AV) (ev : Operand → Value) (o : Op) : Prop := ∀ x ∈ o.operands.toList, VR ρ (evO f x) (ev x)

theorem VRs.map {ρ : Ren} {f : T4 AV} {ev : Operand → Value} : ∀ {l : List Operand}, (∀ x ∈ l, VR ρ (evO f x) (ev x)) → VRs ρ (evL f l) (l.map ev)
  | [], _ => .nil
  | x :: l, h => .cons (h x (by simp)) (VRs.map fun y hy => h y (by simp [hy]))

theorem PRs.map {ρ : Ren} {f : T4 AV} {ev : Operand → Value} : ∀ {l : List (Nat × Operand)}, (∀ x ∈ l, VR ρ (evO f x.2) (ev x.2)) → PRs ρ (l.map fun x => (x.1, evO f x.2)) (l.map fun x => (x.1, ev x.2))
  | [], _ => .nil
  | (i, x) :: l, h => .cons (h (i, x) (by simp)) (PRs.map fun y hy => h y (by simp [hy]))

/-- an answer of an operation, in the frame -/
def Upon (P : Program) (ρ : Ren) (w : World) (o : Oper) (a : Act) (v : AV) (s' : St) : Prop :=
  ∀ (next : Act → World → Prop) (Q : Exit → Act → World → Prop), (∀ cv w', Post ρ w s' w' (fun ρ' => VR ρ' v cv) → next (a.put o.dst cv) w') → o.upon P a next Q ((execOp a.eval o).run P w)

theorem upon_val {P : Program} {ρ : Ren} {w : World} {o : Oper} {a : Act} {v : AV} {s' : St} {sem : Sem Value} {r : OR} (he : execOp a.eval o = (do pure (.value (← sem)))) (hs : Sim P ρ w sem r) (hr : r = .val v s') : Upon P ρ w o a v s' := by
  intro next Q hn
  obtain ⟨cv, w', h1, h2⟩ := hs v s' hr
  rw [he]
  simp only [Sem.run_bind, h1, Result.andThen_ok, Sem.run_pure]
  exact hn cv w' h2

theorem upon_unit {P : Program} {ρ : Ren} {w : World} {o : Oper} {a : Act} {v : AV} {s' : St} {sem : Sem Unit} {r : OR} (he : execOp a.eval o = (do sem; pure .skip)) (hs : SimU P ρ w sem r) (hr : r = .val v s') : Upon P ρ w o a v s' := by
  intro next Q hn
  obtain ⟨rfl, w', h1, h2⟩ := hs v s' hr
  rw [he]
  simp only [Sem.run_bind, h1, Result.andThen_ok, Sem.run_pure]
  exact hn undef w' (h2.imp fun _ _ _ => .c _)

theorem upon_pure {P : Program} {ρ : Ren} {s : St} {w : World} {o : Oper} {a : Act} {v : AV} {cv : Value} (h : SR ρ s w) (he : (execOp a.eval o).run P w = .ok (.value cv) w) (hv : VR ρ v cv) : Upon P ρ w o a v s := by
  intro next Q hn
  rw [he]
  exact hn cv w (Post.here h hv)

theorem enters_some {P : Program} {g : FuncId} (h : enters P g = true) : ∀ args w, (callFunc g args).run P w = .ok (.enter g args) w := by
  unfold enters at h
  cases hf : P.funcs[g]? with
  | none => rw [hf] at h; cases h
  | some fn =>
    rw [hf] at h
    rw [Bool.and_eq_true, Bool.not_eq_true'] at h
    intro args w
    have h2 : fn.body.isNone = false := by
      have := h.2
      cases hb : fn.body <;> simp_all
    simp only [callFunc, Sem.run_bind, run_program, Result.andThen_ok, hf, h.1, h2, Bool.false_eq_true, if_false, Sem.run_pure]

theorem upon_call {P : Program} {env : Env} (henv : EnvOK P env) {ρ : Ren} {s : St} {w : World} {o : Oper} {a : Act} {v : AV} {s' : St} {g : FuncId} {args : List AV} {cargs : Array Value} (h : SR ρ s w) (hargs : VRs ρ args cargs.toList)
    (he : (execOp a.eval o).run P w = (callFunc g cargs).run P w) (hr : aCallF P env g args s = .val v s') : Upon P ρ w o a v s' := by
  intro next Q hn
  rcases bif2_inv hr with ⟨hc, hr⟩ | ⟨_, hr⟩
  · obtain ⟨s1, hret, rfl⟩ : ∃ s1, env g args s = .ret v s1 ∧ s' = ⟨s1.heap, s1.next, s.ds, s.raw⟩ := by
      cases hx : env g args s with
      | ret v1 s1 => rw [hx] at hr; cases hr; exact ⟨s1, rfl, rfl⟩
      | no w1 => rw [hx] at hr; cases hr
    rw [he, enters_some hc, Oper.upon_enter]
    refine (henv g args s v s1 hret ρ w cargs h hargs).mono ?_
    rintro e w' ⟨cv, rfl, ρ', p1, p2, p3, p4⟩
    exact hn cv w' ⟨ρ', p1, p2, h.call p1 p2 p3 rfl rfl rfl, p4⟩
  · obtain ⟨cv, w', e1, e2⟩ := aExt_sim h g hargs hr
    rw [he, e1]
    exact hn cv w' e2

/-- a call put off, as the model keeps it -/
theorem defer_upon {P : Program} {env : Env} {ρ : Ren} {s : St} {w : World} {o : Oper} {a : Act} {f : T4 AV} {c : Call} (ho : o.op = .defer c) (hops : OpRel ρ f a.eval o.op) {v : AV} {s' : St}
    (hr : OpB.rec (motive := fun _ => OR) (fun g => g P env o.type f s) (deferBox c) = .val v s') :
    v = uv ∧ ∃ g args d cargs, s' = ⟨s.heap, s.next, (g, args) :: s.ds, s.raw⟩ ∧ (execOp a.eval o).run P w = .ok (.defer d) w ∧ (∃ fv cap, d.target = .fn fv cap) ∧
      (∀ w, (invoke d.target d.args).run P w = .ok (.enter g cargs) w) ∧ VRs ρ args cargs.toList := by
  have hargs : ∀ x ∈ c.args.toList, VR ρ (evO f x) (a.eval x) := by
    intro x hx
    refine hops x ?_
    rw [ho]
    simp only [Op.operands, Call.operands, Array.toList_append, List.mem_append]
    exact .inr hx
  unfold deferBox at hr
  split at hr
  · rename_i x hcal
    have hx : VR ρ (evO f x) (a.eval x) := by
      refine hops x ?_
      rw [ho]
      simp only [Op.operands, Call.operands, hcal, Array.toList_append, List.mem_append]
      exact .inl (by simp)
    change deferV (evL f c.args.toList) P s (evO f x) = .val v s' at hr
    unfold deferV at hr
    split at hr
    · rename_i g first captured hclo
      rw [forceL_eq] at hr
      obtain ⟨he, hr⟩ := bif_inv hr
      cases hr
      rw [hclo] at hx
      obtain ⟨fs, cs, hev, hf, hc⟩ : ∃ fs cs, a.eval x = .func (.func g) ⟨fs⟩ ⟨cs⟩ ∧ VRs ρ first fs ∧ VRs ρ captured cs := by
        cases hx' : a.eval x with
        | func fn a1 a2 =>
          rw [hx'] at hx
          cases hx with
          | clo hf hc => exact ⟨_, _, rfl, hf, hc⟩
        | _ => rw [hx'] at hx; cases hx
      refine ⟨rfl, g, _, { target := .fn (.func g) ⟨cs⟩, args := ⟨fs⟩ ++ c.args.map a.eval }, (⟨fs⟩ ++ c.args.map a.eval) ++ ⟨cs⟩, rfl, ?_, ⟨_, _, rfl⟩, fun w => ?_, ?_⟩
      · have hex : execOp a.eval o = (do pure (.defer (← resolve a.eval c o.type))) := by unfold execOp; rw [ho]
        rw [hex]
        simp only [resolve, hcal, hev, Deferred.ofValue, Sem.run_bind, Sem.run_pure, Result.andThen_ok]
      · simp only [invoke]
        exact enters_some he _ w
      · simp only [Array.toList_append, Array.toList_map, List.append_assoc]
        exact hf.append ((VRs.map hargs).append hc)
    · cases hr
  · cases hr

theorem aUn_sim {P : Program} {ρ : Ren} {s : St} {w : World} (h : SR ρ s w) (op : UnOp) (a : AV) (ca : Value) (ha : VR ρ a ca) : Sim P ρ w (Op.unary op ca) (aUn P op s a) := by
  intro v s' hr
  unfold aUn at hr
  split at hr
  · obtain ⟨rfl, rfl⟩ := valB_inv hr
    rw [ha.b_inv]
    exact ⟨_, w, rfl, Post.here h (.b _)⟩
  · obtain ⟨rfl, rfl⟩ := wrapK_inv hr
    rw [ha.i_inv]
    exact ⟨_, w, rfl, Post.here h (.i _ _)⟩
  · rw [ha.i_inv]; exact aGen_sim h _ v s' hr
  · rw [ha.c_inv]; exact aGen_sim h _ v s' hr
  · cases hr

theorem convG_sim {P : Program} {ρ : Ren} {s : St} {w : World} (h : SR ρ s w) (src dst : TypeId) (a : AV) (ca : Value) (ha : VR ρ a ca) : Sim P ρ w (convert src dst ca) (convG P src dst a s) := by
  intro v s' hr
  unfold convG at hr
  split at hr
  · rw [ha.i_inv]; exact aGen_sim h _ v s' hr
  · rw [ha.c_inv]; exact aGen_sim h _ v s' hr
  · rw [ha.s_inv]; exact aGen_sim h _ v s' hr
  · cases hr

theorem aConv_sim {P : Program} {ρ : Ren} {s : St} {w : World} (h : SR ρ s w) (src dst : TypeId) (a : AV) (ca : Value) (ha : VR ρ a ca) : Sim P ρ w (convert src dst ca) (aConv P src dst a s) := by
  intro v s' hr
  unfold aConv convOf at hr
  split at hr
  · rename_i k0 k h1 h2
    obtain ⟨k', n, rfl, hr1⟩ := OI_inv hr
    obtain ⟨rfl, rfl⟩ := wrapK_inv hr1
    rw [ha.i_inv]
    refine ⟨_, w, ?_, Post.here h (.i _ _)⟩
    simp only [convert, Sem.run_bind, run_underlying' h1, run_underlying' h2, Result.andThen_ok, Conv.intToInt, Sem.run_pure]
  · exact convG_sim h src dst a ca ha v s' hr
  · exact convG_sim h src dst a ca ha v s' hr
  · exact convG_sim h src dst a ca ha v s' hr
  · exact convG_sim h src dst a ca ha v s' hr
  · exact convG_sim h src dst a ca ha v s' hr
  · rename_i t h1 h2
    cases hc : hasCells P t with
    | false => rw [hc] at hr; cases hr
    | true => rw [hc] at hr; exact convUp_sim h src dst t h1 h2 hc a ca ha v s' hr
  · rename_i u h1 h2
    cases hc : hasCells P u with
    | false => rw [hc] at hr; cases hr
    | true => rw [hc] at hr; exact convPtr_sim h src dst u h1 h2 hc a ca ha v s' hr
  · rename_i e h1 h2
    cases hc : isByte P e with
    | false => rw [hc] at hr; cases hr
    | true => rw [hc] at hr; exact convBytes_sim h src dst e h1 h2 (isByte_run hc) a ca ha v s' hr
  · rename_i e h1 h2
    cases hc : isByte P e with
    | false => rw [hc] at hr; cases hr
    | true => rw [hc] at hr; exact convStr_sim h src dst e h1 (isByte_run hc) h2 a ca ha v s' hr
  · cases hr

theorem aExtract_sim {P : Program} {ρ : Ren} {s : St} {w : World} (h : SR ρ s w) (a : AV) (ca : Value) (i : Nat) (ha : VR ρ a ca) : Sim P ρ w (Instr.extract ca i) (aExtract a i s) := by
  intro v s' hr
  obtain ⟨l, hl, hr1⟩ := Opt_inv hr
  obtain ⟨cs, rfl, hc⟩ := tupL_tup ha hl
  obtain ⟨hi, rfl⟩ := optV_inv hr1
  obtain ⟨cv, c1, c2⟩ := hc.get i hi
  rw [Array.getElem?_toList] at c1
  refine ⟨cv, w, ?_, Post.here h c2⟩
  simp only [Instr.extract, c1, Sem.run_pure]

theorem ifaceOk_run {P : Program} {t : TypeId} (h : ifaceOk P t = true) (v : Value) (w : World) : (Instr.makeInterface t v).run P w = .ok (.iface t v) w := by
  unfold ifaceOk at h
  cases hu : P.underlying t with
  | none => rw [hu] at h; cases h
  | some d =>
    rw [hu] at h
    cases d <;> first | (cases h; done) | simp [Instr.makeInterface, run_underlying' hu]

theorem ovr_map {ρ : Ren} {f : T4 AV} {ev : Operand → Value} (x : Option Operand) (h : ∀ y, x = some y → VR ρ (evO f y) (ev y)) : OVR ρ (x.map (evO f)) (x.map ev) := by
  cases x with
  | none => exact .none
  | some y => exact .some (h y rfl)

theorem lenArgs {c : Call} {x : Operand} (h : c.args.toList = [x]) (ev : Operand → Value) : c.args.map ev = #[ev x] := by
  apply Array.toList_inj.1; rw [Array.toList_map, h]; rfl
theorem twoArgs {c : Call} {x y : Operand} (h : c.args.toList = [x, y]) (ev : Operand → Value) : c.args.map ev = #[ev x, ev y] := by
  apply Array.toList_inj.1; rw [Array.toList_map, h]; rfl

theorem callBox_upon {P : Program} {env : Env} (henv : EnvOK P env) {ρ : Ren} {s : St} {w : World} {o : Oper} {a : Act} {f : T4 AV} {c : Call} (ho : o.op = .call c) (h : SR ρ s w) (hops : OpRel ρ f a.eval o.op) {v : AV} {s' : St}
    (hr : OpB.rec (motive := fun _ => OR) (fun g => g P env o.type f s) (callBox c) = .val v s') : Upon P ρ w o a v s' := by
  have hargs : ∀ x ∈ c.args.toList, VR ρ (evO f x) (a.eval x) := by
    intro x hx
    refine hops x ?_
    rw [ho]
    simp only [Op.operands, Call.operands, Array.toList_append, List.mem_append]
    exact .inr hx
  have hex : execOp a.eval o = (do let d ← resolve a.eval c o.type; invoke d.target d.args) := by unfold execOp; rw [ho]
  unfold callBox at hr
  split at hr
  · -- a function by its name
    rename_i g hcal
    dsimp only at hr
    rw [forceL_eq] at hr
    refine upon_call henv (g := g) (cargs := c.args.map a.eval) h (by rw [Array.toList_map]; exact VRs.map hargs) ?_ hr
    rw [hex]
    simp only [resolve, hcal, Act.eval, Deferred.ofValue, Sem.run_bind, Sem.run_pure, Result.andThen_ok, invoke, Array.empty_append, Array.append_empty]
  · -- a function value
    rename_i x hno hcal
    have hx : VR ρ (evO f x) (a.eval x) := by
      refine hops x ?_
      rw [ho]
      simp only [Op.operands, Call.operands, hcal, Array.toList_append, List.mem_append]
      exact .inl (by simp)
    change callVal (evL f c.args.toList) P env s (evO f x) = .val v s' at hr
    unfold callVal at hr
    split at hr
    · rename_i g first captured hclo
      rw [forceL_eq] at hr
      rw [hclo] at hx
      obtain ⟨fs, cs, hev, hf, hc⟩ : ∃ fs cs, a.eval x = .func (.func g) ⟨fs⟩ ⟨cs⟩ ∧ VRs ρ first fs ∧ VRs ρ captured cs := by
        cases hx' : a.eval x with
        | func fn a1 a2 =>
          rw [hx'] at hx
          cases hx with
          | clo hf hc => exact ⟨_, _, rfl, hf, hc⟩
        | _ => rw [hx'] at hx; cases hx
      refine upon_call henv (g := g) (cargs := (⟨fs⟩ ++ c.args.map a.eval) ++ ⟨cs⟩) h ?_ ?_ hr
      · simp only [Array.toList_append, Array.toList_map, List.append_assoc]
        exact hf.append ((VRs.map hargs).append hc)
      · rw [hex]
        simp only [resolve, hcal, hev, Deferred.ofValue, Sem.run_bind, Sem.run_pure, Result.andThen_ok, invoke]
    · cases hr
  · -- len
    rename_i hcal
    split at hr
    · rename_i x hx
      have hv := hargs x (by rw [hx]; simp)
      refine upon_val (sem := Builtin.len_ c.argTypes o.type #[a.eval x]) ?_ (aLen_sim h c.argTypes o.type _ _ hv) hr
      rw [hex]
      unfold resolve
      rw [hcal]
      simp only [pure_bind, invoke, builtin, lenArgs hx]
    · cases hr
  · -- append
    rename_i hcal
    split at hr
    · rename_i x y hxy hsz
      have hv := hargs x (by rw [hxy]; simp)
      have hv' := hargs y (by rw [hxy]; simp)
      refine upon_val (sem := Builtin.append_ c.argTypes o.type #[a.eval x, a.eval y]) ?_ (aAppend_sim h c.argTypes (beq hsz) o.type _ _ _ _ hv hv') hr
      rw [hex]
      unfold resolve
      rw [hcal]
      simp only [pure_bind, invoke, builtin, twoArgs hxy]
    · cases hr
  · -- min
    rename_i hcal
    change minmax c Builtin.min_ P env o.type f s = .val v s' at hr
    unfold minmax at hr
    cases ha : allV (evL f c.args.toList) with
    | none => rw [ha] at hr; cases hr
    | some vs =>
      rw [ha] at hr
      have hvs := allV_eq ha (VRs.map hargs)
      refine upon_val (sem := Builtin.min_ c.argTypes o.type ⟨vs⟩) ?_ (aGen_sim h _) hr
      rw [hex]
      unfold resolve
      rw [hcal]
      have : c.args.map a.eval = ⟨vs⟩ := by apply Array.toList_inj.1; rw [Array.toList_map, hvs]
      simp only [pure_bind, invoke, builtin, this]
  · -- max
    rename_i hcal
    change minmax c Builtin.max_ P env o.type f s = .val v s' at hr
    unfold minmax at hr
    cases ha : allV (evL f c.args.toList) with
    | none => rw [ha] at hr; cases hr
    | some vs =>
      rw [ha] at hr
      have hvs := allV_eq ha (VRs.map hargs)
      refine upon_val (sem := Builtin.max_ c.argTypes o.type ⟨vs⟩) ?_ (aGen_sim h _) hr
      rw [hex]
      unfold resolve
      rw [hcal]
      have : c.args.map a.eval = ⟨vs⟩ := by apply Array.toList_inj.1; rw [Array.toList_map, hvs]
      simp only [pure_bind, invoke, builtin, this]
  · -- cap
    rename_i hcal
    split at hr
    · rename_i x hx
      have hv := hargs x (by rw [hx]; simp)
      refine upon_val (sem := Builtin.cap_ c.argTypes o.type #[a.eval x]) ?_ (aCap_sim h c.argTypes o.type _ _ hv) hr
      rw [hex]
      unfold resolve
      rw [hcal]
      simp only [pure_bind, invoke, builtin, lenArgs hx]
    · cases hr
  · -- copy
    rename_i hcal
    split at hr
    · rename_i x y hxy
      have hv := hargs x (by rw [hxy]; simp)
      have hv' := hargs y (by rw [hxy]; simp)
      refine upon_val (sem := Builtin.copy_ c.argTypes o.type #[a.eval x, a.eval y]) ?_ (aCopy_sim h c.argTypes o.type _ _ _ _ hv hv') hr
      rw [hex]
      unfold resolve
      rw [hcal]
      simp only [pure_bind, invoke, builtin, twoArgs hxy]
    · cases hr
  · -- delete
    rename_i hcal
    split at hr
    · rename_i x y hxy
      have hv := hargs x (by rw [hxy]; simp)
      have hv' := hargs y (by rw [hxy]; simp)
      refine upon_val (sem := Builtin.delete_ c.argTypes o.type #[a.eval x, a.eval y]) ?_ (aDelete_sim h c.argTypes o.type _ _ _ _ hv hv') hr
      rw [hex]
      unfold resolve
      rw [hcal]
      simp only [pure_bind, invoke, builtin, twoArgs hxy]
    · cases hr
  · -- unsafe.SliceData
    rename_i hcal
    split at hr
    · rename_i x hx
      have hv := hargs x (by rw [hx]; simp)
      refine upon_val (sem := Builtin.unsafeSliceData_ c.argTypes o.type #[a.eval x]) ?_ (aSliceData_sim h c.argTypes o.type _ _ hv) hr
      rw [hex]
      unfold resolve
      rw [hcal]
      simp only [pure_bind, invoke, builtin, lenArgs hx]
    · cases hr
  · -- unsafe.String
    rename_i hcal
    split at hr
    · rename_i x y hxy
      have hv := hargs x (by rw [hxy]; simp)
      have hv' := hargs y (by rw [hxy]; simp)
      refine upon_val (sem := Builtin.unsafeString_ c.argTypes o.type #[a.eval x, a.eval y]) ?_ (aUnsafeString_sim h c.argTypes o.type _ _ _ _ hv hv') hr
      rw [hex]
      unfold resolve
      rw [hcal]
      simp only [pure_bind, invoke, builtin, twoArgs hxy]
    · cases hr
  · cases hr

set_option maxHeartbeats 1600000 in
theorem aop_upon {P : Program} {env : Env} (henv : EnvOK P env) {ρ : Ren} {s : St} {w : World} {o : Oper} {a : Act} {f : T4 AV} (hnd : ∀ c, o.op ≠ .defer c) (h : SR ρ s w) (hops : OpRel ρ f a.eval o.op) {v : AV} {s' : St}
    (hr : OpB.rec (motive := fun _ => OR) (fun g => g P env o.type f s) (aop o.op) = .val v s') : Upon P ρ w o a v s' := by
  obtain ⟨dst, op, ty, pos, after, guard⟩ := o
  cases op <;> (unfold aop at hr; dsimp only at hr hops)
  case move x => cases hr; exact upon_pure h rfl (hops x (by simp [Op.operands]))
  case assign x => cases hr; exact upon_pure h rfl (hops x (by simp [Op.operands]))
  case pick c x y =>
    have hc := hops c (by simp [Op.operands])
    change pickV f x y s (evO f c) = .val v s' at hr
    unfold pickV at hr
    cases hb : asB (evO f c) with
    | t =>
      rw [hb] at hr; cases hr
      rw [asB_t hb] at hc
      refine upon_pure h ?_ (hops x (by simp [Op.operands]))
      simp only [execOp, hc.b_inv, asBool, Sem.run_bind, Sem.run_pure, Result.andThen_ok, if_true]
    | f =>
      rw [hb] at hr; cases hr
      rw [asB_f hb] at hc
      refine upon_pure h ?_ (hops y (by simp [Op.operands]))
      simp only [execOp, hc.b_inv, asBool, Sem.run_bind, Sem.run_pure, Result.andThen_ok, Bool.false_eq_true, if_false]
    | u => rw [hb] at hr; cases hr
    | no => rw [hb] at hr; cases hr
  case alloc el => exact upon_val (sem := Instr.alloc el true (.tuple #[])) rfl (opAlloc_sim h el) hr
  case box el x => exact upon_val (sem := Instr.box el (a.eval x)) rfl (opBox_sim h el _ _ (hops x (by simp [Op.operands]))) hr
  case build t parts =>
    refine upon_val (sem := Instr.build t (parts.map fun (i, x) => (i, a.eval x))) rfl (aBuild_sim h t _ _ ?_) hr
    rw [Array.toList_map]
    exact PRs.map fun x hx => hops x.2 (by simp only [Op.operands]; exact List.mem_map_of_mem hx)
  case buildSlice t len parts =>
    refine upon_val (sem := Instr.buildSlice t len (parts.map fun (i, x) => (i, a.eval x))) rfl (aBuildSlice_sim h t len _ _ ?_) hr
    rw [Array.toList_map]
    exact PRs.map fun x hx => hops x.2 (by simp only [Op.operands]; exact List.mem_map_of_mem hx)
  case load t x => exact upon_val (sem := Instr.loadAt t (a.eval x)) rfl (aLoad_sim h t _ _ (hops x (by simp [Op.operands]))) hr
  case store t x y => exact upon_unit (sem := Instr.storeAt t (a.eval x) (a.eval y)) rfl (aStore_sim h t _ _ _ _ (hops x (by simp [Op.operands])) (hops y (by simp [Op.operands]))) hr
  case nilCheck x =>
    have hx := hops x (by simp [Op.operands])
    rcases OP_inv2 hr with ⟨hd, i, he, hr⟩ | hr
    rotate_left
    · obtain ⟨b, i, he, hr⟩ := RP_inv hr
      cases hr
      rw [he] at hx
      have hev := hx.c_val
      refine upon_pure (cv := .pointer (some ⟨b, i, none⟩)) h ?_ (.c _)
      simp only [execOp, hev]; rfl
    cases hr
    rw [he] at hx
    obtain ⟨l, _, _, _, _, _, hev⟩ := hx.ptr_inv
    refine upon_pure (cv := .pointer (some (l.at_ i))) h ?_ (by rw [← hev]; exact hx)
    simp only [execOp, hev]; rfl
  case binOp op t x y yt =>
    obtain ⟨g, hg, hok⟩ := binBox_ok P op
    change BB.rec (motive := fun _ => OR) (fun g => g P (isLit x y) t (evO f x) (evO f y) s) (binBox op) = .val v s' at hr
    rw [hg] at hr
    exact upon_val (sem := binSem op t x y (a.eval x) (a.eval y)) rfl (hok ρ s w t x y _ _ _ _ h (hops x (by simp [Op.operands])) (hops y (by simp [Op.operands]))) hr
  case unOp op t x => exact upon_val (sem := Op.unary op (a.eval x)) rfl (aUn_sim h op _ _ (hops x (by simp [Op.operands]))) hr
  case convert src dst x => exact upon_val (sem := convert src dst (a.eval x)) rfl (aConv_sim h src dst _ _ (hops x (by simp [Op.operands]))) hr
  case makeInterface t x =>
    obtain ⟨hi, hr⟩ := bif_inv hr
    cases hr
    refine upon_pure h ?_ (.ifc (hops x (by simp [Op.operands])))
    simp only [execOp, Sem.run_bind, ifaceOk_run hi, Result.andThen_ok, Sem.run_pure]
  case makeFunc fn first captured =>
    change (forceL (evL f first.toList) fun l => forceL (evL f captured.toList) fun m => OR.val (.clo fn l m) s) = .val v s' at hr
    rw [forceL_eq, forceL_eq] at hr
    cases hr
    refine upon_pure (cv := .func fn (first.map a.eval) (captured.map a.eval)) h ?_ ?_
    · simp only [execOp, Instr.makeFunc, Sem.run_bind, Sem.run_pure, Result.andThen_ok]
    · have e1 : first.map a.eval = ⟨first.toList.map a.eval⟩ := by apply Array.toList_inj.1; rw [Array.toList_map]
      have e2 : captured.map a.eval = ⟨captured.toList.map a.eval⟩ := by apply Array.toList_inj.1; rw [Array.toList_map]
      rw [e1, e2]
      exact .clo (VRs.map fun x hx => hops x (by simp only [Op.operands, Array.toList_append, List.mem_append]; exact .inl hx)) (VRs.map fun x hx => hops x (by simp only [Op.operands, Array.toList_append, List.mem_append]; exact .inr hx))
  case makeSlice t l c => exact upon_val (sem := Instr.makeSlice t (a.eval l) (a.eval c)) rfl (aMakeSlice_sim h t _ _ _ _ (hops l (by simp [Op.operands])) (hops c (by simp [Op.operands]))) hr
  case slice t x lo hi mx =>
    refine upon_val (sem := Instr.sliceAt t (a.eval x) (lo.map a.eval) (hi.map a.eval) (mx.map a.eval)) rfl (aSlice_sim h t _ _ _ _ _ _ _ _ (hops x (by simp [Op.operands])) (ovr_map lo ?_) (ovr_map hi ?_) (ovr_map mx ?_)) hr
    · rintro y rfl; exact hops y (by simp [Op.operands])
    · rintro y rfl; exact hops y (by simp [Op.operands])
    · rintro y rfl; exact hops y (by simp [Op.operands])
  case fieldAddr t x i => exact upon_val (sem := Instr.fieldAt t (a.eval x) i) rfl (aFieldAddr_sim h t _ _ i (hops x (by simp [Op.operands]))) hr
  case field t x i => exact upon_val (sem := Instr.field t (a.eval x) i) rfl (aField_sim h t _ _ i (hops x (by simp [Op.operands]))) hr
  case indexAddr t x ix => exact upon_val (sem := Instr.indexAt t (a.eval x) (a.eval ix)) rfl (aIndexAddr_sim h t _ _ _ _ (hops x (by simp [Op.operands])) (hops ix (by simp [Op.operands]))) hr
  case index t x ix => exact upon_val (sem := Instr.index t (a.eval x) (a.eval ix)) rfl (aIndex_sim h t _ _ _ _ (hops x (by simp [Op.operands])) (hops ix (by simp [Op.operands]))) hr
  case extract t ix => exact upon_val (sem := Instr.extract (a.eval t) ix) rfl (aExtract_sim h _ _ ix (hops t (by simp [Op.operands]))) hr
  case call c => exact callBox_upon henv rfl h hops hr
  case defer c => exact absurd rfl (hnd c)
  case range t x => exact upon_val (sem := Instr.range t (a.eval x)) rfl (aRange_sim h t _ _ (hops x (by simp [Op.operands]))) hr
  case next x b =>
    obtain ⟨rfl, hr⟩ := bif_inv hr
    exact upon_val (sem := Instr.next (a.eval x) true ty) rfl (aNext_sim h ty _ _ (hops x (by simp [Op.operands]))) hr
  case entry x => exact upon_val (sem := Instr.entry (a.eval x)) rfl (aEntry_sim h _ _ (hops x (by simp [Op.operands]))) hr
  case makeMap t r =>
    refine upon_val (sem := Instr.makeMap t (r.map a.eval)) rfl (aMakeMap_sim h t _ _ (ovr_map r ?_)) hr
    rintro y rfl; exact hops y (by simp [Op.operands])
  case lookup t x ix ok => exact upon_val (sem := Instr.lookup t (a.eval x) (a.eval ix) ok) rfl (aLookup_sim h t _ _ _ _ ok (hops x (by simp [Op.operands])) (hops ix (by simp [Op.operands]))) hr
  case mapUpdate t m k x => exact upon_unit (sem := Instr.mapUpdate t (a.eval m) (a.eval k) (a.eval x)) rfl (aMapUpd_sim h t _ _ _ _ _ _ (hops m (by simp [Op.operands])) (hops k (by simp [Op.operands])) (hops x (by simp [Op.operands]))) hr
  case insert t m k x => exact upon_unit (sem := Instr.mapUpdate t (a.eval m) (a.eval k) (a.eval x)) rfl (aMapUpd_sim h t _ _ _ _ _ _ (hops m (by simp [Op.operands])) (hops k (by simp [Op.operands])) (hops x (by simp [Op.operands]))) hr
  case mapEntry t m k => exact upon_val (sem := Instr.mapEntry t (a.eval m) (a.eval k)) rfl (aMapEntry_sim h t _ _ _ _ (hops m (by simp [Op.operands])) (hops k (by simp [Op.operands]))) hr
  case entryStore t m st x => exact upon_unit (sem := Instr.entryStore t (a.eval m) (a.eval st) (a.eval x)) rfl (aEntryStore_sim h t _ _ _ _ _ _ (hops m (by simp [Op.operands])) (hops st (by simp [Op.operands])) (hops x (by simp [Op.operands]))) hr
  case typeAssert x xt t ok => exact upon_val (sem := Instr.typeAssert (a.eval x) xt t ok) rfl (aTypeAssert_sim h _ _ xt t ok (hops x (by simp [Op.operands]))) hr
  all_goals cases hr

end Go.Eng
