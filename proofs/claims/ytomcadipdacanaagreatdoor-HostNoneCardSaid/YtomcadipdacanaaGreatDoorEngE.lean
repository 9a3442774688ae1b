/-
  The abstract operations are true of the model's: memory, parts, numbers.
-/
import Derived.Test.YtomcadipdacanaaGreatDoorEngD
import Derived.Laws.Strings
namespace Go.Eng
open Go
set_option linter.unusedVariables false

theorem pureRun_run {α : Type} (P : Program) : ∀ (s : Sem α) (a : α), pureRun P s = some a → ∀ w, s.run P w = .ok a w
  | .pure b, a, h, w => by simp [pureRun] at h; subst h; rfl
  | .program k, a, h, w => pureRun_run P (k P) a h w
  | .mark _ k, a, h, w => pureRun_run P k a h w
  | .load .., a, h, w => by simp [pureRun] at h
  | .store .., a, h, w => by simp [pureRun] at h
  | .new .., a, h, w => by simp [pureRun] at h
  | .shape .., a, h, w => by simp [pureRun] at h
  | .freeze .., a, h, w => by simp [pureRun] at h
  | .frozen .., a, h, w => by simp [pureRun] at h
  | .getObj .., a, h, w => by simp [pureRun] at h
  | .setObj .., a, h, w => by simp [pureRun] at h
  | .choose .., a, h, w => by simp [pureRun] at h
  | .sys .., a, h, w => by simp [pureRun] at h
  | .halt .., a, h, w => by simp [pureRun] at h

/-! ## what an answer tells of the way to it -/

theorem bif_inv {c : Bool} {x : OR} {w : List Ev} {v : AV} {s : St} (h : bif_ c x (.no w) = .val v s) : c = true ∧ x = .val v s := by
  cases c with
  | true => exact ⟨rfl, h⟩
  | false => cases h
theorem bif2_inv {c : Bool} {x y : OR} {v : AV} {s : St} (h : bif_ c x y = .val v s) : (c = true ∧ x = .val v s) ∨ (c = false ∧ y = .val v s) := by
  cases c with
  | true => exact .inl ⟨rfl, h⟩
  | false => exact .inr ⟨rfl, h⟩

theorem bif_t {R : Type} {c : Bool} {x y : R} (h : c = true) : bif_ c x y = x := by subst h; rfl
theorem bif_f {R : Type} {c : Bool} {x y : R} (h : c = false) : bif_ c x y = y := by subst h; rfl
theorem ble {a b : Nat} (h : Nat.ble a b = true) : a ≤ b := Nat.le_of_ble_eq_true h
theorem blt {a b : Nat} (h : Nat.blt a b = true) : a < b := Nat.le_of_ble_eq_true h
theorem beq {a b : Nat} (h : Nat.beq a b = true) : a = b := Nat.eq_of_beq_eq_true h

theorem OP_inv {F : Hd → Nat → OR} {w : List Ev} {a : AV} {v : AV} {s : St} (h : OP.rec (motive := fun _ => OR) F (.no w) (asP a) = .val v s) : ∃ hd i, a = .ptr hd i ∧ F hd i = .val v s := by
  cases ha : asP a with
  | some hd i => rw [ha] at h; exact ⟨hd, i, asP_some ha, h⟩
  | none => rw [ha] at h; cases h
theorem OP_inv2 {F : Hd → Nat → OR} {G : OR} {a : AV} {v : AV} {s : St} (h : OP.rec (motive := fun _ => OR) F G (asP a) = .val v s) : (∃ hd i, a = .ptr hd i ∧ F hd i = .val v s) ∨ G = .val v s := by
  cases ha : asP a with
  | some hd i => rw [ha] at h; exact .inl ⟨hd, i, asP_some ha, h⟩
  | none => rw [ha] at h; exact .inr h
theorem RP_inv {F : Nat → Nat → OR} {w : List Ev} {a : AV} {v : AV} {s : St} (h : RP.rec (motive := fun _ => OR) F (.no w) (asR a) = .val v s) : ∃ b i, a = .c (.pointer (some ⟨b, i, none⟩)) ∧ F b i = .val v s := by
  cases ha : asR a with
  | some b i => rw [ha] at h; exact ⟨b, i, asR_some ha, h⟩
  | none => rw [ha] at h; cases h
theorem RW_inv {F : Nat → Nat → Nat → Nat → OR} {w : List Ev} {a : AV} {v : AV} {s : St} (h : RW.rec (motive := fun _ => OR) F (.no w) (asRS a) = .val v s) : ∃ b o len cap, a = .c (.slice (some ⟨b, o, none⟩) len cap) ∧ F b o len cap = .val v s := by
  cases ha : asRS a with
  | some b o len cap => rw [ha] at h; exact ⟨b, o, len, cap, asRS_some ha, h⟩
  | none => rw [ha] at h; cases h
theorem VR.c_val {ρ : Ren} {v cv : Value} (h : VR ρ (.c v) cv) : cv = v := by cases h; rfl
theorem raw_add (b i j : Nat) : (⟨b, i, none⟩ : Addr).add j = ⟨b, i + j, none⟩ := by
  unfold Addr.add
  by_cases hj : j = 0
  · subst hj; rw [if_pos rfl]; rfl
  · rw [if_neg hj]
theorem OI_inv {F : IntKind → Int → OR} {w : List Ev} {a : AV} {v : AV} {s : St} (h : OI.rec (motive := fun _ => OR) F (.no w) (asI a) = .val v s) : ∃ k n, a = .i k n ∧ F k n = .val v s := by
  cases ha : asI a with
  | some k n => rw [ha] at h; exact ⟨k, n, asI_some ha, h⟩
  | none => rw [ha] at h; cases h
theorem asN_some {a : AV} {n : Nat} (h : asN a = .some n) : ∃ k, a = .i k (.ofNat n) := by
  unfold asN at h
  cases ha : asI a with
  | some k m =>
    rw [ha] at h
    cases m with
    | ofNat m => change ON.some m = _ at h; cases h; exact ⟨k, asI_some ha⟩
    | negSucc m => cases h
  | none => rw [ha] at h; cases h
theorem ON_inv {F : Nat → OR} {w : List Ev} {a : AV} {v : AV} {s : St} (h : ON.rec (motive := fun _ => OR) F (.no w) (asN a) = .val v s) : ∃ k n, a = .i k (.ofNat n) ∧ F n = .val v s := by
  cases ha : asN a with
  | some n => rw [ha] at h; obtain ⟨k, hk⟩ := asN_some ha; exact ⟨k, n, hk, h⟩
  | none => rw [ha] at h; cases h
theorem blkAt_some {s : St} {A : Nat} {el : TypeId} {n : Nat} {cs : T4 AV} {lo hi : Nat} (h : blkAt s A = .some el n cs lo hi) : s.heap.at_ A = some (.blk el n cs lo hi) := by
  unfold blkAt at h
  cases ho : s.heap.at_ A with
  | some o => rw [ho] at h; cases o <;> cases h; rfl
  | none => rw [ho] at h; cases h
theorem VB_inv {F : TypeId → Nat → T4 AV → Nat → Nat → OR} {w : List Ev} {t : St} {A : Nat} {v : AV} {s : St} (h : VB.rec (motive := fun _ => OR) F (.no w) (blkAt t A) = .val v s) :
    ∃ el n cs lo hi, t.heap.at_ A = some (.blk el n cs lo hi) ∧ F el n cs lo hi = .val v s := by
  cases hb : blkAt t A with
  | some el n cs lo hi => rw [hb] at h; exact ⟨el, n, cs, lo, hi, blkAt_some hb, h⟩
  | none => rw [hb] at h; cases h
theorem Opt_inv {α : Type} {F : α → OR} {w : List Ev} {o : Option α} {v : AV} {s : St} (h : Option.rec (motive := fun _ => OR) (.no w) F o = .val v s) : ∃ a, o = some a ∧ F a = .val v s := by
  cases o with
  | some a => exact ⟨a, rfl, h⟩
  | none => cases h
theorem TS_inv {F : OR} {G : Nat → OR} {w : List Ev} {t : TS} {v : AV} {s : St} (h : TS.rec (motive := fun _ => OR) F G (.no w) t = .val v s) : (t = .one ∧ F = .val v s) ∨ ∃ k, t = .many k ∧ G k = .val v s := by
  cases t with
  | one => exact .inl ⟨rfl, h⟩
  | many k => exact .inr ⟨k, rfl, h⟩
  | no => cases h

/-- an answer of the abstract operation is one of the model's -/
def Sim (P : Program) (ρ : Ren) (w : World) (sem : Sem Value) (r : OR) : Prop :=
  ∀ v s', r = .val v s' → ∃ cv w', sem.run P w = .ok cv w' ∧ Post ρ w s' w' fun ρ' => VR ρ' v cv
/-- likewise, of one that tells nothing -/
def SimU (P : Program) (ρ : Ren) (w : World) (sem : Sem Unit) (r : OR) : Prop :=
  ∀ v s', r = .val v s' → v = uv ∧ ∃ w', sem.run P w = .ok () w' ∧ Post ρ w s' w' fun _ => True

/-! ## types -/

theorem tySize_one {P : Program} {t : TypeId} (h : tySize P t = .one) : (∀ w, (isAgg t).run P w = .ok false w) ∧ ∃ i, P.info? t = some i ∧ i.size = 1 := by
  unfold tySize at h
  cases hd : P.underlying t with
  | none => rw [hd] at h; cases h
  | some d =>
    cases hi : P.info? t with
    | none => rw [hd, hi] at h; cases h
    | some i =>
      rw [hd, hi] at h
      have key : (match d with | .struct _ | .array _ _ => false | _ => true) = true ∧ i.size = 1 := by
        cases d <;> first | (cases h; done) | (dsimp only at h ⊢; cases hc : Nat.beq i.size 1 with
          | true => exact ⟨rfl, beq hc⟩
          | false => rw [hc] at h; cases h)
      refine ⟨fun w => ?_, i, rfl, key.2⟩
      have k1 := key.1
      unfold isAgg underlying
      simp only [Sem.run_bind, run_program, Result.andThen_ok, hd, Sem.run_pure]
      cases d <;> first | rfl | (simp at k1)
theorem tySize_many {P : Program} {t : TypeId} {k : Nat} (h : tySize P t = .many k) : (∀ w, (isAgg t).run P w = .ok true w) ∧ ∃ i, P.info? t = some i ∧ i.size = k := by
  unfold tySize at h
  cases hd : P.underlying t with
  | none => rw [hd] at h; cases h
  | some d =>
    cases hi : P.info? t with
    | none => rw [hd, hi] at h; cases h
    | some i =>
      rw [hd, hi] at h
      have key : (match d with | .struct _ | .array _ _ => true | _ => false) = true ∧ i.size = k := by
        cases d <;> dsimp only at h ⊢ <;> first | (cases h; exact ⟨rfl, rfl⟩) | (cases hc : Nat.beq i.size 1 with
          | true => rw [hc] at h; cases h
          | false => rw [hc] at h; cases h)
      refine ⟨fun w => ?_, i, rfl, key.2⟩
      have k1 := key.1
      unfold isAgg underlying
      simp only [Sem.run_bind, run_program, Result.andThen_ok, hd, Sem.run_pure]
      cases d <;> first | rfl | (simp at k1)

theorem run_sizeOf' {P : Program} {t : TypeId} {i : TypeInfo} (h : P.info? t = some i) (w : World) : (sizeOf t).run P w = .ok i.size w := by
  unfold sizeOf typeInfo
  simp [h]
theorem run_typeInfo' {P : Program} {t : TypeId} {i : TypeInfo} (h : P.info? t = some i) (w : World) : (typeInfo t).run P w = .ok i w := by
  unfold typeInfo
  simp [h]
theorem run_underlying' {P : Program} {t : TypeId} {d : TypeDesc} (h : P.underlying t = some d) (w : World) : (underlying t).run P w = .ok d w := by
  unfold underlying
  simp [h]
theorem run_zeroValue' {P : Program} {t : TypeId} {i : TypeInfo} {z : Value} (h : P.info? t = some i) (hz : i.zero = some z) (w : World) : (zeroValue t).run P w = .ok z w := by
  unfold zeroValue
  simp [run_typeInfo' h, hz]

/-! ## loads -/

theorem readL_at (cs : T4 AV) : ∀ (n i : Nat) (l : List AV), readL cs n i = some l → l.length = n ∧ ∀ j, j < n → cs.at_ (i + j) = l[j]?
  | 0, i, l, h => by cases h; exact ⟨rfl, fun j hj => absurd hj (Nat.not_lt_zero j)⟩
  | n + 1, i, l, h => by
    change Option.rec (motive := fun _ => Option (List AV)) none (fun a => forceN (Nat.succ i) fun j => Option.rec (motive := fun _ => Option (List AV)) none (fun l => some (a :: l)) (readL cs n j)) (cs.at_ i) = some l at h
    cases ha : cs.at_ i with
    | none => rw [ha] at h; cases h
    | some a =>
      rw [ha] at h
      simp only [forceN_eq] at h
      cases hr : readL cs n (Nat.succ i) with
      | none => rw [hr] at h; cases h
      | some r =>
        rw [hr] at h
        cases h
        obtain ⟨h1, h2⟩ := readL_at cs n (Nat.succ i) r hr
        refine ⟨by simp [h1], fun j hj => ?_⟩
        cases j with
        | zero => simpa using ha
        | succ j =>
          have := h2 j (by omega)
          rw [show i + (j + 1) = Nat.succ i + j by omega, this]; simp

theorem locAt_add (l : Loc) (i j : Nat) (h : l.start ≤ i) : (l.at_ i).add j = l.at_ (i + j) := by
  unfold Loc.at_ Addr.add
  by_cases hj : j = 0
  · subst hj; rw [if_pos rfl]; rfl
  · rw [if_neg hj]; simp only [Addr.mk.injEq, true_and, and_true]; omega

theorem VR.ptr_inv {ρ : Ren} {h : Hd} {i : Nat} {v : Value} (hv : VR ρ (.ptr h i) v) : ∃ l, ρ.blk h.A h.e = some l ∧ l.stop = h.stop ∧ l.fz = h.fz ∧ l.start ≤ i ∧ i < h.stop ∧ v = .pointer (some (l.at_ i)) := by
  cases hv with
  | ptr hl hs hf h0 h1 => exact ⟨_, hl, hs, hf, h0, h1, rfl⟩

/-- what is read of a block by a list of cells -/
theorem LocOK.reads {ρ : Ren} {l : Loc} {el : TypeId} {cs : T4 AV} {w : World} (h : LocOK ρ l el cs w) (i n : Nat) (h0 : l.start ≤ i) (h1 : i + n ≤ l.stop) (as : List AV) (hr : readL cs n i = some as) :
    ∃ vs : List Value, vs.length = n ∧ VRs ρ as vs ∧ ∀ j v, vs[j]? = some v → w.cell? ((l.at_ i).add j) = some v := by
  obtain ⟨hlen, hat⟩ := readL_at cs n i as hr
  have key : ∀ m, m ≤ n → ∃ vs : List Value, vs.length = m ∧ VRs ρ (as.take m) vs ∧ ∀ j v, vs[j]? = some v → w.cell? ((l.at_ i).add j) = some v := by
    intro m
    induction m with
    | zero => exact fun _ => ⟨[], rfl, by simpa using .nil, fun j v hv => by simp at hv⟩
    | succ m ih =>
      intro hm
      obtain ⟨vs, a1, a2, a3⟩ := ih (by omega)
      obtain ⟨a, v, b1, b2, b3⟩ := row_read h (i + m) (by omega) (by omega)
      rw [hat m (by omega)] at b1
      refine ⟨vs ++ [v], by simp [a1], ?_, ?_⟩
      · rw [List.take_add_one, b1]; exact a2.append (.cons b3 .nil)
      · intro j x hx
        by_cases hj : j < m
        · rw [List.getElem?_append_left (by omega)] at hx; exact a3 j x hx
        · rw [List.getElem?_append_right (by omega)] at hx
          have : j = m := by
            rw [List.getElem?_singleton] at hx; split at hx
            · omega
            · cases hx
          subst this
          simp [a1] at hx
          subst hx
          rw [locAt_add l i j h0]; exact b2
  obtain ⟨vs, a1, a2, a3⟩ := key n (Nat.le_refl n)
  rw [List.take_of_length_le (by omega)] at a2
  exact ⟨vs, a1, a2, a3⟩

/-- cells that lie apart, read -/
theorem SR.readR {ρ : Ren} {s : St} {w : World} (h : SR ρ s w) {b : Nat} : ∀ (n i : Nat) (as : List AV), readR s.raw b n i = some as →
    ∃ vs : List Value, vs.length = n ∧ VRs ρ as vs ∧ ∀ j v, vs[j]? = some v → w.cell? ((⟨b, i, none⟩ : Addr).add j) = some v
  | 0, i, as, hr => by cases hr; exact ⟨[], rfl, .nil, fun j v hv => by simp at hv⟩
  | n + 1, i, as, hr => by
    unfold Eng.readR at hr
    cases hx : s.raw b i with
    | none => rw [hx] at hr; cases hr
    | some x =>
      rw [hx] at hr
      dsimp only at hr
      cases hl : Eng.readR s.raw b n (i + 1) with
      | none => rw [hl] at hr; cases hr
      | some l =>
        rw [hl] at hr
        cases hr
        obtain ⟨vs, a1, a2, a3⟩ := h.readR n (i + 1) l hl
        refine ⟨x :: vs, by simp [a1], .cons (.of ρ x) a2, fun j v hv => ?_⟩
        cases j with
        | zero =>
          simp at hv; subst hv
          rw [raw_add]; exact (h.raws b i x hx).2
        | succ j =>
          simp at hv
          have := a3 j v hv
          rw [raw_add] at this ⊢
          rw [show i + (j + 1) = i + 1 + j by omega]; exact this

theorem loadR_inv {P : Program} {ρ : Ren} {s : St} {w : World} (h : SR ρ s w) {t : TypeId} {a v : AV} {s' : St} (hr : loadR P t s (asR a) = .val v s') :
    s' = s ∧ ∃ b i cv, a = .c (.pointer (some ⟨b, i, none⟩)) ∧ (loadVar t ⟨b, i, none⟩).run P w = .ok cv w ∧ VR ρ v cv := by
  obtain ⟨b, i, rfl, hr⟩ := RP_inv hr
  rcases TS_inv hr with ⟨ht, hr⟩ | ⟨k, ht, hr⟩
  · obtain ⟨x, hx, hr⟩ := Opt_inv hr
    cases hr
    cases hc : s.raw b i with
    | none => rw [hc] at hx; cases hx
    | some c =>
      rw [hc] at hx; cases hx
      obtain ⟨t1, inf, t2, t3⟩ := tySize_one ht
      refine ⟨rfl, b, i, c, rfl, ?_, .of ρ c⟩
      simp [loadVar, t1, (h.raws b i c hc).2]
  · obtain ⟨as, hx, hr⟩ := Opt_inv hr
    cases hr
    obtain ⟨t1, inf, t2, t3⟩ := tySize_many ht
    obtain ⟨vs, c1, c2, c3⟩ := h.readR k i as hx
    refine ⟨rfl, b, i, .agg ⟨vs⟩, rfl, ?_, .agg c2⟩
    have hrun := run_loadCells_list (P := P) w ⟨b, i, none⟩ vs c3
    simp only [loadVar, Sem.run_bind, Result.andThen_ok, t1, run_sizeOf' t2, t3, if_true]
    rw [c1] at hrun
    rw [hrun]; rfl

theorem aLoad_sim {P : Program} {ρ : Ren} {s : St} {w : World} (h : SR ρ s w) (t : TypeId) (a : AV) (ca : Value) (ha : VR ρ a ca) : Sim P ρ w (Instr.loadAt t ca) (aLoad P t a s) := by
  intro v s' hr
  rcases OP_inv2 hr with ⟨hd, i, rfl, hr⟩ | hr
  rotate_left
  · obtain ⟨rfl, b, i, cv, rfl, h1, h2⟩ := loadR_inv h hr
    refine ⟨cv, w, ?_, Post.here h h2⟩
    rw [ha.c_val]
    simp only [Instr.loadAt, Instr.sureAddr, Sem.run_bind, Sem.run_pure, Result.andThen_ok]
    exact h1
  obtain ⟨l, hl, hs, hf, h0, h1, rfl⟩ := ha.ptr_inv
  obtain ⟨el, n, cs, lo, hi, hb, hr⟩ := VB_inv hr
  obtain ⟨hlo, hr⟩ := bif_inv hr
  have he := h.top _ _ _ hl _ _ _ _ _ hb
  obtain ⟨l', b1, b2, b3, hok⟩ := h.blks _ _ _ _ _ _ hb hd.e (ble hlo) he
  obtain rfl : l = l' := Option.some.inj (hl.symm.trans b1)
  rcases TS_inv hr with ⟨ht, hr⟩ | ⟨k, ht, hr⟩
  · obtain ⟨x, hx, hr⟩ := Opt_inv hr
    cases hr
    obtain ⟨a, cv, c1, c2, c3⟩ := row_read hok i h0 (by omega)
    rw [hx] at c1; cases c1
    obtain ⟨t1, inf, t2, t3⟩ := tySize_one ht
    refine ⟨cv, w, ?_, Post.here h c3⟩
    simp [Instr.loadAt, Instr.sureAddr, loadVar, t1, c2]
  · obtain ⟨hk, hr⟩ := bif_inv hr
    obtain ⟨as, hx, hr⟩ := Opt_inv hr
    cases hr
    obtain ⟨t1, inf, t2, t3⟩ := tySize_many ht
    obtain ⟨vs, c1, c2, c3⟩ := hok.reads i k h0 (by have := ble hk; omega) as hx
    refine ⟨.agg ⟨vs⟩, w, ?_, Post.here h (.agg c2)⟩
    have hrun := run_loadCells_list (P := P) w (l.at_ i) vs c3
    simp only [Instr.loadAt, Instr.sureAddr, loadVar, Sem.run_bind, Sem.run_pure, Result.andThen_ok, t1, run_sizeOf' t2, t3, if_true]
    rw [c1] at hrun
    rw [hrun]; rfl

end Go.Eng
