/-
  A text ranged over, a map's iterator made: each abstract step is the model's.
-/
import Derived.Test.YtomcadipdacanaaGreatDoorEngI
namespace Go.Eng
open Go
set_option linter.unusedVariables false

theorem newOb_eq (ob : AOb) (v : AV) (s : St) : newOb ob v s = .val v ⟨s.heap.put s.next ob, s.next + 1, s.ds, s.raw⟩ := by
  unfold newOb; rw [T4.setK_eq, forceN_eq]; rfl
theorem newIter_eq (l : List UInt8) (s : St) : newIter l s = .val (.it s.next) ⟨s.heap.put s.next (.iter l 0), s.next + 1, s.ds, s.raw⟩ := newOb_eq _ _ _

theorem isStr_run {P : Program} {t : TypeId} (h : isStr P t = true) : P.underlying t = some .string := by
  unfold isStr at h
  split at h
  · assumption
  · cases h
theorem isMap_run {P : Program} {t : TypeId} (h : isMap P t = true) : ∃ k e, P.underlying t = some (.map k e) := by
  unfold isMap at h
  split at h
  · rename_i k e hm; exact ⟨k, e, hm⟩
  · cases h

theorem asM_some {a : AV} {m : Nat} (h : asM a = .some m) : a = .mp m := by
  unfold asM at h; split at h
  · cases h; rfl
  · cases h
  · cases h
theorem asM_nil {a : AV} (h : asM a = .nil) : a = .c (.map none) := by
  unfold asM at h; split at h
  · cases h
  · rfl
  · cases h
theorem OM_inv {F : Nat → OR} {G : OR} {w : List Ev} {a : AV} {v : AV} {s : St} (h : OM.rec (motive := fun _ => OR) F G (.no w) (asM a) = .val v s) : (∃ m, a = .mp m ∧ F m = .val v s) ∨ (a = .c (.map none) ∧ G = .val v s) := by
  cases ha : asM a with
  | some m => rw [ha] at h; exact .inl ⟨m, asM_some ha, h⟩
  | nil => rw [ha] at h; exact .inr ⟨asM_nil ha, h⟩
  | none => rw [ha] at h; cases h
theorem mapAt_some {s : St} {m : Nat} {kd : Option IntKind} {l : List (AV × AV)} {clk : Nat} (h : mapAt s m = .some kd l clk) : s.heap.at_ m = some (.map kd l clk) := by
  unfold mapAt at h
  cases ho : s.heap.at_ m with
  | some o => rw [ho] at h; cases o <;> cases h; rfl
  | none => rw [ho] at h; cases h
theorem MB_inv {F : Option IntKind → List (AV × AV) → Nat → OR} {w : List Ev} {t : St} {m : Nat} {v : AV} {s : St} (h : MB.rec (motive := fun _ => OR) F (.no w) (mapAt t m) = .val v s) :
    ∃ kd l clk, t.heap.at_ m = some (.map kd l clk) ∧ F kd l clk = .val v s := by
  cases hb : mapAt t m with
  | some kd l clk => rw [hb] at h; exact ⟨kd, l, clk, mapAt_some hb, h⟩
  | none => rw [hb] at h; cases h
theorem run_getOb {P : Program} {w : World} {b : Nat} {o : Obj} (h : w.heap[b]? = some o) (hc : ∀ c e f, o ≠ .cells c e f) : (getObj b).run P w = .ok o w := by
  unfold getObj Sem.run
  rw [h]
  cases o <;> first | rfl | (exact absurd rfl (hc _ _ _))
theorem run_setOb {P : Program} {w : World} {b : Nat} {o : Obj} (h : w.heap[b]? = some o) (hc : ∀ c e f, o ≠ .cells c e f) (o' : Obj) : (setObj b o').run P w = .ok () { w with heap := w.heap.setIfInBounds b o' } := by
  unfold setObj Sem.run
  rw [h]
  cases o <;> first | rfl | (exact absurd rfl (hc _ _ _))

theorem aRange_sim {P : Program} {ρ : Ren} {s : St} {w : World} (h : SR ρ s w) (t : TypeId) (a : AV) (ca : Value) (ha : VR ρ a ca) : Sim P ρ w (Instr.range t ca) (aRange P t a s) := by
  intro v s' hr
  rcases bif2_inv hr with ⟨ht, hr⟩ | ⟨_, hr⟩
  · cases hx : asT a with
    | none => rw [hx] at hr; cases hr
    | some l =>
      rw [hx] at hr
      change newIter l s = .val v s' at hr
      rw [newIter_eq] at hr
      cases hr
      rw [asT_some hx] at ha
      obtain ⟨ρ', r1, r2, r3, r4⟩ := h.newOb (.iter l 0) (.stringIter ⟨⟨l⟩⟩ 0) rfl rfl
      refine ⟨.pointer (some ⟨w.heap.size, 0, none⟩), w.alloc (.stringIter ⟨⟨l⟩⟩ 0), ?_, ρ', r2, r3, r4, .it r1⟩
      have hv : ca = .string ⟨⟨l⟩⟩ := ha.s_inv
      subst hv
      simp only [Instr.range, Sem.run_bind, run_underlying' (isStr_run ht), Result.andThen_ok, Sem.run_pure]
      rfl
  · obtain ⟨ht, hr⟩ := bif_inv hr
    obtain ⟨k, e, hm⟩ := isMap_run ht
    rcases OM_inv hr with ⟨m, rfl, hr⟩ | ⟨_, hr⟩
    · obtain ⟨kd, l, clk, hb, hr⟩ := MB_inv hr
      rw [newOb_eq] at hr
      cases hr
      cases ha with
      | mp hmm =>
        obtain ⟨b, o, b1, b2, es, rfl, b4⟩ := h.objs _ _ hb rfl
        obtain rfl := Option.some.inj (hmm.symm.trans b1)
        obtain ⟨ρ', r1, r2, r3, r4⟩ := h.newOb (.mit m clk) (.mapIter (some _) clk #[] clk) rfl ⟨_, rfl, hmm⟩
        refine ⟨.pointer (some ⟨w.heap.size, 0, none⟩), _, ?_, ρ', r2, r3, r4, .it r1⟩
        simp only [Instr.range, Sem.run_bind, run_underlying' hm, Result.andThen_ok, run_getOb b2 (fun _ _ _ x => by cases x), Sem.run_pure]
        rfl
    · cases hr

theorem iterAt_some {s : St} {m : Nat} {l : List UInt8} {pos : Nat} (h : iterAt s m = .some l pos) : s.heap.at_ m = some (.iter l pos) := by
  unfold iterAt at h
  cases ho : s.heap.at_ m with
  | some o => rw [ho] at h; cases o <;> cases h; rfl
  | none => rw [ho] at h; cases h

theorem aNext_sim {P : Program} {ρ : Ren} {s : St} {w : World} (h : SR ρ s w) (ty : TypeId) (a : AV) (ca : Value) (ha : VR ρ a ca) : Sim P ρ w (Instr.next ca true ty) (aNext a s) := by
  intro v s' hr
  unfold aNext at hr
  cases ha with
  | it hm =>
    rename_i m b
    change next1 m s (iterAt s m) = .val v s' at hr
    unfold next1 at hr
    cases hi : iterAt s m with
    | none => rw [hi] at hr; cases hr
    | some l pos =>
      rw [hi] at hr
      have hat := iterAt_some hi
      obtain ⟨b', o, b1, b2, b3⟩ := h.objs m _ hat rfl
      obtain rfl : b = b' := Option.some.inj (hm.symm.trans b1)
      cases b3
      have hget : (getObj b).run P w = .ok (.stringIter ⟨⟨l⟩⟩ pos) w := run_getOb b2 (fun _ _ _ x => by cases x)
      have hsz : (⟨⟨l⟩⟩ : ByteArray).size = l.length := rfl
      change bif_ (R := OR) (Nat.blt pos l.length) _ _ = OR.val v s' at hr
      cases hlt : Nat.blt pos l.length with
      | false =>
        rw [hlt] at hr
        cases hr
        have hn : ¬ pos < l.length := fun x => by have := Nat.ble_eq_true_of_le x; rw [show Nat.blt pos l.length = Nat.ble (pos + 1) l.length from rfl, this] at hlt; cases hlt
        refine ⟨.tuple #[.bool false], w, ?_, Post.here h (.tup (.cons (.b _) .nil))⟩
        simp only [Instr.next, Sem.run_bind, hget, Result.andThen_ok, hsz, if_neg hn, Sem.run_pure]
      | true =>
        rw [hlt] at hr
        change next2 _ _ _ _ _ _ = .val v s' at hr
        unfold next2 at hr
        rw [forceN_eq, forceN_eq, T4.setK_eq] at hr
        cases hr
        have hp : pos < l.length := blt hlt
        obtain ⟨k1, k2⟩ := h.setOb hat hm (.iter l (pos + (Utf8.decode ⟨⟨l⟩⟩ pos).2)) (.stringIter ⟨⟨l⟩⟩ (pos + (Utf8.decode ⟨⟨l⟩⟩ pos).2)) rfl rfl
        refine ⟨.tuple #[.bool true, goInt pos, .int .i32 (Utf8.decode ⟨⟨l⟩⟩ pos).1], _, ?_, ρ, Ext.refl w ρ, k1, k2, .tup (.cons (.b _) (.cons (.i _ _) (.cons (.i _ _) .nil)))⟩
        have hset := run_setOb (P := P) b2 (fun _ _ _ x => by cases x)
        simp only [Instr.next, Sem.run_bind, hget, Result.andThen_ok, hsz, if_pos hp, hset, Sem.run_pure]
  | _ => cases hr

end Go.Eng
