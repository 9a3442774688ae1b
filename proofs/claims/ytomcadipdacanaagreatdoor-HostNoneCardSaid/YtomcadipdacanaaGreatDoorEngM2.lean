/-
  No operation touches what is told of memory that lies apart.
-/
import Derived.Test.YtomcadipdacanaaGreatDoorEngM
namespace Go.Eng
open Go
set_option linter.unusedVariables false

theorem defer_raw {P : Program} {env : Env} {ty : TypeId} {f : T4 AV} {c : Call} {s s' : St} {v : AV} (hr : OpB.rec (motive := fun _ => OR) (fun g => g P env ty f s) (deferBox c) = .val v s') : s'.raw = s.raw := by
  unfold deferBox at hr
  split at hr
  · rename_i x hcal
    change deferV (evL f c.args.toList) P s (evO f x) = .val v s' at hr
    unfold deferV at hr
    split at hr
    · rw [forceL_eq] at hr
      obtain ⟨_, hr⟩ := bif_inv hr
      cases hr; rfl
    · cases hr
  · cases hr

theorem aStore_raw {P : Program} {t : TypeId} {a x v : AV} {s s' : St} (hr : aStore P t a x s = .val v s') : s'.raw = s.raw := by
  obtain ⟨hd, i, _, hr⟩ := OP_inv hr
  obtain ⟨el, n, cs, lo, hi, _, hr⟩ := VB_inv hr
  obtain ⟨k, _, hr⟩ := Opt_inv hr
  obtain ⟨_, hr⟩ := bif_inv hr
  obtain ⟨_, hr⟩ := bif_inv hr
  obtain ⟨_, hr⟩ := bif_inv hr
  obtain ⟨_, hr⟩ := bif_inv hr
  obtain ⟨_, hr⟩ := bif_inv hr
  unfold store2 at hr
  rw [putLK_eq, stPut_eq] at hr
  cases hr; rfl

theorem append0_raw {a : AV} {v : AV} {s s' : St} {e sz bytes m : Nat} {news : List AV} (hr : append0 (asS a) s e sz bytes m news = .val v s') : s'.raw = s.raw := by
  obtain ⟨_, hr⟩ := bif_inv hr
  rcases OS_inv hr with ⟨hd, off, len, z, rfl, hr⟩ | ⟨rfl, hr⟩
  · cases m with
    | zero => cases hr; rfl
    | succ k =>
      obtain ⟨_, _, _, _, _, _, _, _, _, _, _, _, _, _, _, rfl⟩ := append1_inv hr
      rfl
  · cases m with
    | zero => cases hr; rfl
    | succ k =>
      obtain ⟨_, hr⟩ := bif_inv hr
      obtain ⟨_, hr⟩ := bif_inv hr
      obtain ⟨_, _, _, _, rfl⟩ := aNewRow_inv hr
      rfl
theorem aAppend_raw {a x v : AV} {s s' : St} {t : AT} (hr : aAppend a x s t = .val v s') : s'.raw = s.raw := by
  unfold aAppend at hr
  cases t with
  | no => cases hr
  | tx e =>
    obtain ⟨l, _, hr⟩ := Opt_inv hr
    rw [forceN_eq, forceL_eq] at hr
    exact append0_raw hr
  | sl e sz bytes =>
    dsimp only at hr
    cases hsc : sliceCells sz s (asS x) with
    | none => rw [hsc] at hr; cases hr
    | some m news =>
      rw [hsc] at hr
      exact append0_raw hr

theorem aExt_raw {P : Program} {args : List AV} {x : XF} {v : AV} {s s' : St} (hr : aExt P args s x = .val v s') : s'.raw = s.raw := by
  unfold aExt at hr
  cases x with
  | no => cases hr
  | mk k fn =>
    dsimp only at hr
    cases k with
    | same =>
      dsimp only at hr
      split at hr
      · cases hr; rfl
      · cases hr
    | noZero =>
      change noZeroV P fn args s = .val v s' at hr
      unfold noZeroV at hr
      split at hr
      · cases hz : noZeroT P fn with
        | no => rw [hz] at hr; cases hr
        | some e =>
          rw [hz] at hr
          obtain ⟨k, n, _, hr⟩ := OI_inv hr
          obtain ⟨_, hr⟩ := bif_inv hr
          cases n with
          | negSucc m => cases hr
          | ofNat n =>
            obtain ⟨_, hr⟩ := bif_inv (show noZero1 e n s = .val v s' from hr)
            rw [stNew_eq] at hr
            cases hr; rfl
      · cases hr
    | pure e =>
      change pureV P e args s = .val v s' at hr
      unfold pureV at hr
      split at hr
      · rw [((pure_aGen _ _) s v s' hr).1]
      · cases hr
    | no => cases hr

theorem aCallF_raw {P : Program} {env : Env} {g : FuncId} {args : List AV} {v : AV} {s s' : St} (hr : aCallF P env g args s = .val v s') : s'.raw = s.raw := by
  rcases bif2_inv hr with ⟨_, hr⟩ | ⟨_, hr⟩
  · cases hx : env g args s with
    | ret v1 s1 => rw [hx] at hr; cases hr; rfl
    | no w1 => rw [hx] at hr; cases hr
  · exact aExt_raw hr

theorem aCopy_raw {P : Program} {t : Option TypeId} {a x v : AV} {s s' : St} (hr : aCopy a x s (copyOf P t) = .val v s') : s'.raw = s.raw := by
  obtain ⟨_, e, i, _, _, _, hr⟩ := KT_inv hr
  cases hsc : sliceCells i.size s (asS x) with
  | none => rw [hsc] at hr; cases hr
  | some m news =>
    rw [hsc] at hr
    rcases OS_inv hr with ⟨hd, off, len, z, _, hr⟩ | ⟨_, hr⟩
    · obtain ⟨_, hr⟩ := bif_inv hr
      rw [forceN_eq] at hr
      rcases bif2_inv hr with ⟨_, hr⟩ | ⟨_, hr⟩
      · cases hr; rfl
      · rw [forceL_eq] at hr
        unfold copy2 at hr
        cases hst : store1 hd off (news.take (Nat.min m len * i.size)) (some (Nat.min m len * i.size)) s (blkAt s hd.A) with
        | no w1 => rw [hst] at hr; cases hr
        | val v1 s1 =>
          rw [hst] at hr
          cases hr
          obtain ⟨el, n, cs, lo, hi, _, hst⟩ := VB_inv hst
          obtain ⟨_, hst⟩ := bif_inv hst
          obtain ⟨_, hst⟩ := bif_inv hst
          obtain ⟨_, hst⟩ := bif_inv hst
          obtain ⟨_, hst⟩ := bif_inv hst
          obtain ⟨_, hst⟩ := bif_inv hst
          unfold store2 at hst
          rw [putLK_eq, stPut_eq] at hst
          cases hst; rfl
    · cases hr; rfl

theorem aMakeMap_raw {P : Program} {t : TypeId} {r : Option AV} {v : AV} {s s' : St} (hr : aMakeMap P t r s = .val v s') : s'.raw = s.raw := by
  obtain ⟨_, hr⟩ := bif_inv hr
  obtain ⟨_, hr⟩ := bif_inv hr
  rw [newOb_eq] at hr
  cases hr; rfl
theorem aMapUpd_raw {P : Program} {t : TypeId} {a b x v : AV} {s s' : St} (hr : aMapUpd P t a b x s = .val v s') : s'.raw = s.raw := by
  obtain ⟨_, m, X, rfl, _⟩ := aMapUpd_inv hr
  rfl
theorem aMapEntry_raw {P : Program} {t : TypeId} {a b v : AV} {s s' : St} (hr : aMapEntry P t a b s = .val v s') : s'.raw = s.raw := by
  obtain ⟨kd, kt, et, _, _, hr⟩ := MT_inv hr
  obtain ⟨_, hr⟩ := bif_inv hr
  rcases OM_inv hr with ⟨m, _, hr⟩ | ⟨_, hr⟩
  · obtain ⟨kd', l, clk, _, hr⟩ := MB_inv hr
    obtain ⟨_, hr⟩ := bif_inv hr
    unfold entry1 at hr
    cases hf : findL b l with
    | none =>
      rw [hf] at hr
      obtain ⟨z, _, hr⟩ := Opt_inv hr
      rw [forceN_eq, entryNew_eq] at hr
      cases hr; rfl
    | some v0 =>
      rw [hf] at hr
      change entryNew m kd' (updL b v0 l) clk b v0 s = .val v s' at hr
      rw [entryNew_eq] at hr
      cases hr; rfl
  · cases hr
theorem aEntryStore_raw {a st x v : AV} {s s' : St} (hr : aEntryStore a st x s = .val v s') : s'.raw = s.raw := by
  rcases OM_inv hr with ⟨m, _, hr⟩ | ⟨_, hr⟩
  · obtain ⟨kd, l, clk, k, id, _, hr⟩ := EB_inv hr
    unfold stpN at hr
    split at hr
    · obtain ⟨_, hr⟩ := bif_inv hr
      rw [setMap_eq] at hr
      cases hr; rfl
    · cases hr
  · cases hr
theorem aDelete_raw {P : Program} {t : Option TypeId} {a b v : AV} {s s' : St} (hr : aDelete P t a b s = .val v s') : s'.raw = s.raw := by
  obtain ⟨t, _, hr⟩ := Opt_inv hr
  obtain ⟨kd, kt, et, _, _, hr⟩ := MT_inv hr
  obtain ⟨_, hr⟩ := bif_inv hr
  rcases OM_inv hr with ⟨m, _, hr⟩ | ⟨_, hr⟩
  · obtain ⟨kd', l, clk, _, hr⟩ := MB_inv hr
    obtain ⟨_, hr⟩ := bif_inv hr
    rw [setMap_eq] at hr
    cases hr; rfl
  · cases hr; rfl

theorem aUnsafeString_raw {P : Program} {t : Option TypeId} {a x v : AV} {s s' : St} (hr : aUnsafeString P t a x s = .val v s') : s'.raw = s.raw := by
  obtain ⟨_, u, _, _, hr⟩ := PT_inv hr
  obtain ⟨k, n, rfl, hr⟩ := OI_inv hr
  obtain ⟨_, hr⟩ := bif_inv hr
  cases n with
  | negSucc m => cases hr
  | ofNat n =>
    change unsafeStr0 P u a n s = .val v s' at hr
    unfold unsafeStr0 at hr
    split at hr
    · obtain ⟨_, hr⟩ := bif_inv hr
      cases hr; rfl
    · rcases bif2_inv hr with ⟨_, hr⟩ | ⟨_, hr⟩
      · cases hr; rfl
      · obtain ⟨_, hr⟩ := bif_inv hr
        obtain ⟨el, m, cs, lo, hi, _, hr⟩ := VB_inv hr
        obtain ⟨_, hr⟩ := bif_inv hr
        obtain ⟨_, hr⟩ := bif_inv hr
        obtain ⟨_, hr⟩ := bif_inv hr
        obtain ⟨_, hr⟩ := bif_inv hr
        obtain ⟨as, _, hr⟩ := Opt_inv hr
        obtain ⟨tx, _, hr⟩ := Opt_inv hr
        unfold frozen1 at hr
        rw [forceL_eq, T4.setK_eq] at hr
        cases hr; rfl
    · cases hr

theorem aNext_raw {a v : AV} {s s' : St} (hr : aNext a s = .val v s') : s'.raw = s.raw := by
  unfold aNext at hr
  cases hm : itN a with
  | none => rw [hm] at hr; cases hr
  | some m =>
    rw [hm] at hr
    change next1 m s (iterAt s m) = .val v s' at hr
    unfold next1 at hr
    cases hi : iterAt s m with
    | none => rw [hi] at hr; cases hr
    | some l pos =>
      rw [hi] at hr
      change bif_ (R := OR) (Nat.blt pos l.length) _ _ = OR.val v s' at hr
      cases hlt : Nat.blt pos l.length with
      | false => rw [hlt] at hr; cases hr; rfl
      | true =>
        rw [hlt] at hr
        change next2 _ _ _ _ _ _ = .val v s' at hr
        unfold next2 at hr
        rw [forceN_eq, forceN_eq, T4.setK_eq] at hr
        cases hr; rfl

/-- no operation touches what lies apart -/
theorem ans_raw {P : Program} {env : Env} {o : Oper} {f : T4 AV} {s s' : St} {v : AV} (hr : ans P env o f s = .val v s') : s'.raw = s.raw := by
  by_cases h0 : cls P o.op = 0
  · rw [(ans_pure P env o f h0 s v s' hr).1]
  by_cases h1 : cls P o.op = 1
  · rw [(ans_read h1 hr).1]
  by_cases h2 : cls P o.op = 2
  · obtain ⟨ob, rfl⟩ := ans_new h2 hr
    rfl
  obtain ⟨dst, op, ty, pos, after, guard⟩ := o
  unfold ans at hr
  cases op <;> (unfold aop at hr; dsimp only at h0 h1 h2 hr)
  case convert src dst x =>
    exfalso
    have hc : clsC P src dst = 0 ∨ clsC P src dst = 1 ∨ clsC P src dst = 2 := by unfold clsC; split <;> simp
    rcases hc with hc | hc | hc
    · exact h0 hc
    · exact h1 hc
    · exact h2 hc
  case store t x y => exact aStore_raw hr
  case makeMap t r => exact absurd rfl h2
  case mapUpdate t m k x => exact aMapUpd_raw hr
  case entry x => rw [(aEntry_inv hr).1]
  case insert t m k x => exact aMapUpd_raw hr
  case mapEntry t m k => exact aMapEntry_raw hr
  case entryStore t m st x => exact aEntryStore_raw hr
  case defer c => exact defer_raw hr
  case range t x =>
    rcases bif2_inv hr with ⟨_, hr⟩ | ⟨_, hr⟩
    · obtain ⟨l, _, hr⟩ := Opt_inv hr
      rw [newIter_eq] at hr
      cases hr; rfl
    · obtain ⟨_, hr⟩ := bif_inv hr
      rcases OM_inv hr with ⟨m, _, hr⟩ | ⟨_, hr⟩
      · obtain ⟨kd, l, clk, _, hr⟩ := MB_inv hr
        rw [newOb_eq] at hr
        cases hr; rfl
      · cases hr
  case next x b =>
    obtain ⟨_, hr⟩ := bif_inv hr
    exact aNext_raw hr
  case call c =>
    unfold callBox at hr
    split at hr
    · dsimp only at hr
      rw [forceL_eq] at hr
      exact aCallF_raw hr
    · rename_i x _ hcal
      change callVal (evL f c.args.toList) P env s (evO f x) = .val v s' at hr
      unfold callVal at hr
      split at hr
      · rw [forceL_eq] at hr; exact aCallF_raw hr
      · cases hr
    · rename_i hcal
      split at hr
      · rw [(read_aLen _ _ s v s' hr).1]
      · cases hr
    · split at hr
      · exact aAppend_raw hr
      · cases hr
    · rw [(pure_minmax P env ty c Builtin.min_ f s v s' hr).1]
    · rw [(pure_minmax P env ty c Builtin.max_ f s v s' hr).1]
    · split at hr
      · rw [(pure_aCap _ _ s v s' hr).1]
      · cases hr
    · split at hr
      · exact aCopy_raw hr
      · cases hr
    · split at hr
      · exact aDelete_raw hr
      · cases hr
    · split at hr
      · rw [(pure_aSliceData _ s v s' hr).1]
      · cases hr
    · split at hr
      · exact aUnsafeString_raw hr
      · cases hr
    · cases hr
  all_goals first | (cases hr; done) | exact absurd rfl h0 | exact absurd rfl h1 | exact absurd rfl h2

end Go.Eng
