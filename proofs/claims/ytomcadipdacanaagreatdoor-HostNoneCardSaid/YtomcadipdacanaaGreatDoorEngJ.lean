/-
  The abstract operations are true of the model's: ==, the operations of two operands, of one, conversions.
-/
import Derived.Test.YtomcadipdacanaaGreatDoorEngI2
namespace Go.Eng
open Go
set_option linter.unusedVariables false

/-- two cells of different blocks of ours are not one -/
theorem run_sameAddr_ne {P : Program} {w : World} {a b : Addr} (hne : a.block ≠ b.block) {c d : Array Value} {e f : TypeId} {fr fr' : Nat × Nat} (ha : w.heap[a.block]? = some (.cells c e fr)) (hb : w.heap[b.block]? = some (.cells d f fr')) (hcs : c.size ≠ 0) (hds : d.size ≠ 0) (hz : fr = (0, 0) ∨ fr' = (0, 0)) :
    (sameAddr a b).run P w = .ok false w := by
  obtain ⟨k, hk⟩ : ∃ k, c.size = k + 1 := ⟨c.size - 1, by omega⟩
  obtain ⟨k', hk'⟩ : ∃ k', d.size = k' + 1 := ⟨d.size - 1, by omega⟩
  have s1 : w.shape? a.block = some (e, k + 1) := by simp [World.shape?, ha, hk]
  have s2 : w.shape? b.block = some (f, k' + 1) := by simp [World.shape?, hb, hk']
  have hbe : (a.block == b.block) = false := by simpa using hne
  have key : ∀ x : Addr, ∀ c : Array Value, ∀ e, w.heap[x.block]? = some (.cells c e (0, 0)) → w.frozen? x = false ∧ ∀ o, w.frozen? ⟨x.block, o, none⟩ = false := fun x c e hx => ⟨by simp [World.frozen?, hx], fun o => by simp [World.frozen?, hx]⟩
  unfold sameAddr noView mayBeOne stringish viewAt
  rcases hz with rfl | rfl
  · obtain ⟨f1, f2⟩ := key a c e ha
    cases g1 : w.frozen? b <;> cases g2 : w.frozen? { block := b.block, off := k' + 1 } <;> simp [hbe, f1, f2, s1, s2, g1, g2]
  · obtain ⟨f1, f2⟩ := key b d f hb
    cases g1 : w.frozen? a <;> cases g2 : w.frozen? { block := a.block, off := k + 1 } <;> simp [hbe, f1, f2, s1, s2, g1, g2]

theorem run_sameAddr_eq {P : Program} {w : World} {a b : Addr} (he : a.block = b.block) : (sameAddr a b).run P w = .ok (a == b) w := by
  unfold sameAddr
  simp [he]

theorem VR.c_inv {ρ : Ren} {v v' : Value} (h : VR ρ (.c v) v') : v' = v := by cases h; rfl
theorem VR.i_inv {ρ : Ren} {k : IntKind} {n : Int} {v : Value} (h : VR ρ (.i k n) v) : v = .int k n := by cases h; rfl
theorem VR.b_inv {ρ : Ren} {b : Bool} {v : Value} (h : VR ρ (.b b) v) : v = .bool b := by cases h; rfl
theorem VR.sl_form {ρ : Ren} {h : Hd} {off len sz : Nat} {v : Value} (hv : VR ρ (.sl h off len sz) v) : ∃ a cap, v = .slice (some a) len cap := by
  cases hv with
  | sl => exact ⟨_, _, rfl⟩
  | sl0 => exact ⟨_, _, rfl⟩

theorem run_ptr_eq {P : Program} {ρ : Ren} {s : St} {w : World} (h : SR ρ s w) {hd hd' : Hd} {i i' : Nat} {cx cy : Value} (hx : VR ρ (.ptr hd i) cx) (hy : VR ρ (.ptr hd' i') cy) {b : Bool}
    (hb : (bif Nat.beq hd.A hd'.A then (bif Nat.beq hd.e hd'.e then some (Nat.beq i i') else none) else (bif hd.fz && hd'.fz then none else some false)) = some b) :
    ∃ a a', cx = .pointer (some a) ∧ cy = .pointer (some a') ∧ (sameAddr a a').run P w = .ok b w := by
  obtain ⟨l, hl, hs, hf, h0, h1, rfl⟩ := hx.ptr_inv
  obtain ⟨l', hl', hs', hf', h0', h1', rfl⟩ := hy.ptr_inv
  refine ⟨_, _, rfl, rfl, ?_⟩
  cases hA : Nat.beq hd.A hd'.A with
  | false =>
    rw [hA] at hb
    dsimp only [cond_false] at hb
    have hne : hd.A ≠ hd'.A := fun e => by rw [e, Nat.beq_refl] at hA; cases hA
    obtain ⟨c, el, fr, r1, r2, r3, r4⟩ := h.rows _ _ _ hl
    obtain ⟨c', el', fr', q1, q2, q3, q4⟩ := h.rows _ _ _ hl'
    cases hz : (hd.fz && hd'.fz) with
    | true => rw [hz] at hb; cases hb
    | false =>
      rw [hz] at hb
      cases hb
      refine run_sameAddr_ne (fun e => hne (h.inj _ _ _ _ _ _ hl hl' e)) r1 q1 (by omega) (by omega) ?_
      rw [Bool.and_eq_false_iff] at hz
      rcases hz with hz | hz
      · exact .inl (r2 (by rw [hf, hz]))
      · exact .inr (q2 (by rw [hf', hz]))
  | true =>
    rw [hA] at hb
    dsimp only [cond_true] at hb
    cases hE : Nat.beq hd.e hd'.e with
    | false => rw [hE] at hb; cases hb
    | true =>
      rw [hE] at hb
      cases hb
      rw [beq hA, beq hE] at hl
      obtain rfl : l = l' := Option.some.inj (hl.symm.trans hl')
      rw [run_sameAddr_eq (a := l.at_ i) (b := l.at_ i') rfl]
      congr 1
      rw [Bool.eq_iff_iff, beq_iff_eq]
      constructor
      · intro e; injection e with e1 e2 e3; rw [Nat.beq_eq]; omega
      · intro e; have := beq e; subst this; rfl

theorem eqPtr_run {P : Program} {ρ : Ren} {s : St} {w : World} (h : SR ρ s w) (d : Nat) (t el : TypeId) (hu : P.underlying t = some (.pointer el)) (x y : AV) (b : Bool) (cx cy : Value) (hx : VR ρ x cx) (hy : VR ρ y cy) (he : eqPtr P el x y = some b) : (Op.equalIn (d + 1) t cx cy).run P w = .ok b w := by
  unfold eqPtr at he
  split at he
  · cases he; rw [hx.c_inv, hy.c_inv]; simp [Op.equalIn, run_underlying' hu]
  · cases he; obtain ⟨l, _, _, _, _, _, rfl⟩ := hx.ptr_inv; rw [hy.c_inv]; simp [Op.equalIn, run_underlying' hu]
  · cases he; obtain ⟨l, _, _, _, _, _, rfl⟩ := hy.ptr_inv; rw [hx.c_inv]; simp [Op.equalIn, run_underlying' hu]
  · rename_i hd i hd' i'
    cases hi : P.info? el with
    | none => rw [hi] at he; cases he
    | some inf =>
      rw [hi] at he
      dsimp only at he
      cases hz : Nat.ble 1 inf.size with
      | false => rw [hz] at he; cases he
      | true =>
        rw [hz] at he
        obtain ⟨a, a', rfl, rfl, hr⟩ := run_ptr_eq (P := P) h hx hy he
        have hz := ble hz
        have hne : inf.size ≠ 0 := by omega
        simp [Op.equalIn, run_underlying' hu, run_sizeOf' hi, hne, hr]
  · cases he

theorem aEq_run {P : Program} {ρ : Ren} {s : St} {w : World} (h : SR ρ s w) : ∀ (d : Nat) (t : TypeId) (x y : AV) (b : Bool) (cx cy : Value), VR ρ x cx → VR ρ y cy → aEq P d t x y = some b → (Op.equalIn d t cx cy).run P w = .ok b w
  | 0, t, x, y, b, cx, cy, hx, hy, he => by cases he
  | d + 1, t, x, y, b, cx, cy, hx, hy, he => by
    have ih := aEq_run h (P := P) d
    change aEq1 P (aEq P d) t x y = some b at he
    unfold aEq1 at he
    cases hu : P.underlying t with
    | none => rw [hu] at he; cases he
    | some desc =>
      rw [hu] at he
      cases desc with
      | struct fs =>
        dsimp only at he
        cases hst : P.stoodInHeld t with
        | true => rw [hst] at he; cases he
        | false =>
          rw [hst] at he
          dsimp only [cond_false] at he
          cases h1 : aggL x with
          | none => rw [h1] at he; cases he
          | some l =>
            cases h2 : aggL y with
            | none => rw [h1, h2] at he; cases he
            | some m =>
              rw [h1, h2] at he
              dsimp only at he
              obtain ⟨xs, rfl, hl⟩ := aggL_agg hx h1
              obtain ⟨ys, rfl, hm⟩ := aggL_agg hy h2
              have hf : P.fieldsOf t = fs := by unfold Program.fieldsOf; rw [hu]
              have hr := run_equalIn_struct (P := P) w d t xs ys (by rw [hf]; exact hu) hst
              rw [hr, hf]
              exact run_eqFs w d (aEq P d) ih l m xs ys hl hm fs.toList b he
      | array n e =>
        dsimp only at he
        cases h1 : aggL x with
        | none => rw [h1] at he; cases he
        | some l =>
          cases h2 : aggL y with
          | none => rw [h1, h2] at he; cases he
          | some m =>
            cases hi : P.info? e with
            | none => rw [h1, h2, hi] at he; cases he
            | some inf =>
              rw [h1, h2, hi] at he
              dsimp only at he
              obtain ⟨xs, rfl, hl⟩ := aggL_agg hx h1
              obtain ⟨ys, rfl, hm⟩ := aggL_agg hy h2
              have hr := run_eqEl w d (aEq P d) ih e l m xs ys hl hm inf.size n 0 b he
              simp only [Op.equalIn, Sem.run_bind, run_underlying' hu, Result.andThen_ok, run_sizeOf' hi, Std.Legacy.Range.forIn_eq_forIn_range', Std.Legacy.Range.size, Nat.sub_zero, Nat.add_one_sub_one, Nat.div_one]
              rw [hr]
              cases b <;> rfl
      | string =>
        dsimp only at he
        unfold eqSt at he
        split at he
        · cases he; rw [hx.s_inv, hy.s_inv, run_equalIn_string w d t _ _ hu, bEq_iff, toList_mk, toList_mk]
        · cases he
      | int k =>
        dsimp only at he
        unfold eqIn at he
        split at he
        · rename_i k1 a k2 c
          cases hk : kEq k1 k2 with
          | false => rw [hk] at he; cases he
          | true =>
            rw [hk] at he
            cases he
            obtain rfl := kEq_eq hk
            rw [hx.i_inv, hy.i_inv, run_equalIn_int w d t k1 k _ _ hu, ieq_iff]
        · cases he
      | bool =>
        dsimp only at he
        unfold eqBo at he
        split at he
        · cases he; rw [hx.b_inv, hy.b_inv, run_equalIn_bool w d t _ _ hu]
        · cases he
      | float k =>
        dsimp only at he
        unfold eqFl at he
        split at he
        · cases he; rw [hx.c_inv, hy.c_inv]; simp [Op.equalIn, run_underlying' hu]
        · cases he
      | pointer el => exact eqPtr_run h d t el hu x y b cx cy hx hy he
      | slice e =>
        dsimp only at he
        unfold eqSl at he
        split at he
        · cases he; rw [hx.c_inv, hy.c_inv]; simp [Op.equalIn, run_underlying' hu]
        · cases he; obtain ⟨a, cap, rfl⟩ := hx.sl_form; rw [hy.c_inv]; simp [Op.equalIn, run_underlying' hu]
        · cases he; obtain ⟨a, cap, rfl⟩ := hy.sl_form; rw [hx.c_inv]; simp [Op.equalIn, run_underlying' hu]
        · cases he; rw [hx.c_inv, hy.c_inv]; simp [Op.equalIn, run_underlying' hu]
        · cases he; rw [hx.c_inv, hy.c_inv]; simp [Op.equalIn, run_underlying' hu]
        · cases he
      | func a b c =>
        dsimp only at he
        unfold eqFn at he
        split at he
        · cases he; rw [hx.c_inv, hy.c_inv]; simp [Op.equalIn, run_underlying' hu]
        · cases he; rw [hy.c_inv]; cases hx; simp [Op.equalIn, run_underlying' hu]
        · cases he; rw [hx.c_inv]; cases hy; simp [Op.equalIn, run_underlying' hu]
        · cases he
      | map k e =>
        dsimp only at he
        unfold eqMp at he
        split at he
        · cases he; rw [hx.c_inv, hy.c_inv]; simp [Op.equalIn, run_underlying' hu]
        · cases he; rw [hy.c_inv]; cases hx; simp [Op.equalIn, run_underlying' hu]
        · cases he; rw [hx.c_inv]; cases hy; simp [Op.equalIn, run_underlying' hu]
        · cases he
      | interface ms =>
        dsimp only at he
        unfold eqIf at he
        split at he
        · cases he; rw [hy.c_inv]; cases hx; simp [Op.equalIn, run_underlying' hu]
        · cases he; rw [hx.c_inv]; cases hy; simp [Op.equalIn, run_underlying' hu]
        · cases he
      | _ => cases he

theorem aggL_some_form {ρ : Ren} {a : AV} {v : Value} (h : VR ρ a v) (hu : isU a = false) {xs : Array Value} (hv : v = .agg xs) : ∃ l, aggL a = some l := by
  subst hv
  cases h with
  | u => cases hu
  | c => exact ⟨_, rfl⟩
  | agg => exact ⟨_, rfl⟩

theorem nilIface_form {ρ : Ren} {a : AV} (h : VR ρ a .nilIface) (hu : isU a = false) : a = .c .nilIface := by cases h <;> first | rfl | cases hu
theorem byType_u {a : AV} (h : byType a = true) : isU a = false := by cases a <;> first | rfl | cases h

theorem binOp_eq {ρ : Ren} {a : AV} {ca cb : Value} (ha : VR ρ a ca) (hbt : byType a = true) (hs : ∀ l, a ≠ .s l) (t : TypeId) :
    binOp .eql t ca cb = (do pure (.bool (← Op.equal t ca cb))) ∧ binOp .neq t ca cb = (do pure (.bool (!(← Op.equal t ca cb)))) := by
  have h1 : ∀ k n, ca ≠ .int k n := by
    rintro k n rfl; cases ha <;> cases hbt
  have h2 : ∀ k n, ca ≠ .float k n := by
    rintro k n rfl; cases ha <;> cases hbt
  have h3 : ∀ k n m, ca ≠ .complex k n m := by
    rintro k n m rfl; cases ha <;> cases hbt
  have h4 : ∀ b, ca ≠ .string b := by
    rintro b rfl
    cases ha with
    | s l => exact hs l rfl
    | c => cases hbt
    | u => cases hbt
    | tx => cases hbt
  cases ca <;> first | (exact absurd rfl (h1 _ _)) | (exact absurd rfl (h2 _ _)) | (exact absurd rfl (h3 _ _ _)) | (exact absurd rfl (h4 _)) | exact ⟨rfl, rfl⟩ | (cases cb <;> exact ⟨rfl, rfl⟩)

/-- == of values that are told, with its guard -/
theorem eqV_run {P : Program} {ρ : Ren} {s : St} {w : World} (h : SR ρ s w) {t : TypeId} {a b : AV} {ca cb : Value} {r : Bool} (ha : VR ρ a ca) (hb : VR ρ b cb) (x y : Operand) (he : eqV P (isLit x y) t a b = some r) :
    (binSem .eql t x y ca cb).run P w = .ok (.bool r) w ∧ (binSem .neq t x y ca cb).run P w = .ok (.bool (!r)) w := by
  unfold eqV at he
  cases hn : bothNil a b with
  | true =>
    rw [hn] at he
    obtain ⟨rfl, rfl⟩ : a = .c .nilIface ∧ b = .c .nilIface := by
      unfold bothNil at hn; split at hn
      · exact ⟨rfl, rfl⟩
      · cases hn
    obtain rfl := ha.c_inv
    obtain rfl := hb.c_inv
    cases hl : isLit x y with
    | false => rw [hl] at he; cases he
    | true =>
      rw [hl] at he
      cases hi : isIface P t with
      | false => rw [hi] at he; cases he
      | true =>
        rw [hi] at he; cases he
        unfold isIface at hi
        cases hu : P.underlying t with
        | none => rw [hu] at hi; cases hi
        | some d =>
          rw [hu] at hi
          cases d <;> first | (cases hi; done) | skip
          have guard : ∀ op, (eqGuard op t x y .nilIface .nilIface).run P w = .ok () w := by
            intro op
            unfold eqGuard
            unfold isLit at hl
            cases op <;> first | rfl | (
              simp only [Bool.not_true, Bool.false_eq_true, if_false]
              cases x <;> cases y <;> first | rfl | (cases hl))
          have e1 : (Op.equal t .nilIface .nilIface).run P w = .ok true w := by
            have e0 : ∀ d, (Op.equalIn (d + 1) t .nilIface .nilIface).run P w = .ok true w := by intro d; simp [Op.equalIn, run_underlying' hu]
            exact e0 9999
          have e2 : binOp .eql t .nilIface .nilIface = (do pure (.bool (← Op.equal t .nilIface .nilIface))) := rfl
          have e3 : binOp .neq t .nilIface .nilIface = (do pure (.bool (!(← Op.equal t .nilIface .nilIface)))) := rfl
          refine ⟨?_, ?_⟩
          · unfold binSem; rw [Sem.run_bind, guard, e2]; simp [e1]
          · unfold binSem; rw [Sem.run_bind, guard, e3]; simp [e1]
  | false =>
    rw [hn] at he
    change bif_ (byType a) (bif_ (isU b) none (bif_ (needGuard P t a) none (aEq P Op.maxDepth t a b))) none = some r at he
    cases hbt : byType a with
    | false => rw [hbt] at he; cases he
    | true =>
    rw [hbt] at he
    change bif_ (isU b) none (bif_ (needGuard P t a) none (aEq P Op.maxDepth t a b)) = some r at he
    cases hub : isU b with
    | true => rw [hub] at he; cases he
    | false =>
    rw [hub] at he
    change bif_ (needGuard P t a) none (aEq P Op.maxDepth t a b) = some r at he
    cases hg : needGuard P t a with
    | true => rw [hg] at he; cases he
    | false =>
      rw [hg] at he
      change aEq P Op.maxDepth t a b = some r at he
      have heq := aEq_run h Op.maxDepth t a b r ca cb ha hb he
      have guard : ∀ op, (eqGuard op t x y ca cb).run P w = .ok () w := by
        intro op
        by_cases hagg : ∃ xs ys, ca = .agg xs ∧ cb = .agg ys
        · obtain ⟨xs, ys, rfl, rfl⟩ := hagg
          obtain ⟨l, hl⟩ := aggL_some_form ha (byType_u hbt) rfl
          unfold needGuard at hg
          rw [hl] at hg
          exact run_eqGuard_agg w op t x y xs ys hg
        · by_cases hnil : ca = .nilIface ∧ cb = .nilIface
          · obtain ⟨rfl, rfl⟩ := hnil
            obtain rfl := nilIface_form ha (byType_u hbt)
            obtain rfl := nilIface_form hb hub
            cases hn
          · exact run_eqGuard_free op t x y ca cb w ⟨fun e1 e2 => hnil ⟨e1, e2⟩, fun xs ys e1 e2 => hagg ⟨xs, ys, e1, e2⟩⟩
      by_cases hs : ∃ l, a = .s l
      · obtain ⟨l, rfl⟩ := hs
        change aEq1 P (aEq P 9999) t (.s l) b = some r at he
        obtain ⟨m, rfl, rfl⟩ : ∃ m, b = .s m ∧ r = bEq l m := by
          unfold aEq1 at he
          cases hu : P.underlying t with
          | none => rw [hu] at he; cases he
          | some d =>
            rw [hu] at he
            cases d <;> dsimp only at he <;> first | (cases he; done) | (cases hst : P.stoodInHeld t <;> rw [hst] at he <;> cases he; done) | skip
            cases b <;> first | (cases he; done) | exact ⟨_, rfl, (Option.some.inj he).symm⟩
        rw [ha.s_inv, hb.s_inv]
        refine ⟨?_, ?_⟩
        · rw [binSem_run (guardFree_string _ _)]
          simp only [binOp, Op.stringOp, toList_mk, Sem.run_pure, bEq_iff]
        · rw [binSem_run (guardFree_string _ _)]
          simp only [binOp, Op.stringOp, toList_mk, Sem.run_pure, bEq_iff]
      · obtain ⟨e2, e3⟩ := binOp_eq (cb := cb) ha hbt (fun l e => hs ⟨l, e⟩) t
        refine ⟨?_, ?_⟩
        · unfold binSem; rw [Sem.run_bind, guard, e2]; simp [Op.equal, heq]
        · unfold binSem; rw [Sem.run_bind, guard, e3]; simp [Op.equal, heq]

/-! ## the operations of two operands -/

theorem nile (a b : Int) : (!ile b a) = decide (a < b) := by
  rw [ile_iff]
  by_cases h : b ≤ a
  · have : ¬ a < b := by omega
    simp [h, this]
  · have : a < b := by omega
    simp [h, this]

theorem as2_ii {a b : AV} {k : IntKind} {m n : Int} (h : as2 a b = .ii k m n) : a = .i k m ∧ b = .i k n := by
  unfold as2 at h
  cases h1 : asI a with
  | none => rw [h1] at h; cases h
  | some k1 m1 =>
    rw [h1] at h
    cases h2 : asI b with
    | none => rw [h2] at h; cases h
    | some k2 n2 =>
      rw [h2] at h
      change bif_ (kEq k1 k2) (O2.ii k1 m1 n2) .no = .ii k m n at h
      cases hk : kEq k1 k2 with
      | false => rw [hk] at h; cases h
      | true =>
        rw [hk] at h; cases h
        obtain rfl := kEq_eq hk
        exact ⟨asI_some h1, asI_some h2⟩

theorem bin2_inv {g : IntKind → Int → Int → St → OR} {slow : BF} {P : Program} {lit : Bool} {t : TypeId} {a b : AV} {s s' : St} {v : AV} (h : bin2 g slow P lit t a b s = .val v s') :
    (∃ k m n, a = .i k m ∧ b = .i k n ∧ g k m n s = .val v s') ∨ (slow P lit t a b s = .val v s') := by
  unfold bin2 at h
  cases h2 : as2 a b with
  | ii k m n => rw [h2] at h; obtain ⟨rfl, rfl⟩ := as2_ii h2; exact .inl ⟨k, m, n, rfl, rfl, h⟩
  | no => rw [h2] at h; exact .inr h

/-- what is to be shown of an operation of two operands -/
def BinOk (P : Program) (op : BinOp) (g : BF) : Prop := ∀ (ρ : Ren) (s : St) (w : World) (t : TypeId) (x y : Operand) (a b : AV) (ca cb : Value), SR ρ s w → VR ρ a ca → VR ρ b cb → Sim P ρ w (binSem op t x y ca cb) (g P (isLit x y) t a b s)

theorem bin2_ok {P : Program} {op : BinOp} {g : IntKind → Int → Int → St → OR} {slow : BF} (hslow : BinOk P op slow)
    (hg : ∀ k m n s v s', g k m n s = .val v s' → ∃ cv, s' = s ∧ v = ofV cv ∧ ∀ t w, (binOp op t (.int k m) (.int k n)).run P w = .ok cv w) : BinOk P op (bin2 g slow) := by
  intro ρ s w t x y a b ca cb h ha hb v s' hr
  rcases bin2_inv hr with ⟨k, m, n, rfl, rfl, hr1⟩ | hr1
  · obtain ⟨cv, rfl, rfl, hrun⟩ := hg k m n s v s' hr1
    rw [ha.i_inv, hb.i_inv, binSem_run (guardFree_int _ _ _ _)]
    exact ⟨cv, w, hrun t w, Post.here h (.of ρ cv)⟩
  · exact hslow ρ s w t x y a b ca cb h ha hb v s' hr1

theorem slowGen_ok (P : Program) (op : BinOp) : BinOk P op (slowGen op) := by
  intro ρ s w t x y a b ca cb h ha hb v s' hr
  unfold slowGen at hr
  split at hr
  · rw [ha.c_inv, hb.c_inv]
    obtain ⟨cv, w', h1, h2⟩ := aGen_sim h _ v s' hr
    exact ⟨cv, w', by rw [binSem_run (guardFree_float _ _ _ _)]; exact h1, h2⟩
  · cases hr
theorem slowRem_ok (P : Program) : BinOk P .rem slowRem := by
  intro ρ s w t x y a b ca cb h ha hb v s' hr
  unfold slowRem at hr
  split at hr
  · rename_i n j k m
    obtain ⟨hc, hr⟩ := bif_inv hr
    cases hr
    simp only [Bool.and_eq_true] at hc
    obtain ⟨c1, c2, c3⟩ := hc
    obtain rfl := kEq_eq c1
    obtain rfl : m = Int.ofNat n := by rw [ieq_iff] at c2; simpa using c2
    have c3 := ble c3
    rw [hb.i_inv]
    cases ha with
    | tm hk =>
      rename_i k
      refine ⟨.int .i64 j, w, ?_, Post.here h (.i _ _)⟩
      rw [binSem_run (guardFree_int _ _ _ _)]
      have hy : ¬ (Int.ofNat n = 0) := by simp; omega
      have e : k.tmod (Int.ofNat n) = j := hk
      simp only [binOp, ne_eq, not_true, if_false, Op.intDiv, hy, e, Sem.run_pure]
  · exact slowGen_ok P .rem ρ s w t x y _ _ ca cb h ha hb v s' hr
theorem slowInt_ok (P : Program) (op : BinOp) : BinOk P op (slowInt op) := by
  intro ρ s w t x y a b ca cb h ha hb v s' hr
  unfold slowInt at hr
  split at hr
  · rw [ha.i_inv, hb.i_inv]
    obtain ⟨cv, w', h1, h2⟩ := aGen_sim h _ v s' hr
    exact ⟨cv, w', by rw [binSem_run (guardFree_int _ _ _ _)]; exact h1, h2⟩
  · rw [ha.c_inv, hb.c_inv]
    obtain ⟨cv, w', h1, h2⟩ := aGen_sim h _ v s' hr
    exact ⟨cv, w', by rw [binSem_run (guardFree_float _ _ _ _)]; exact h1, h2⟩
  · cases hr

theorem mk_append (l m : List UInt8) : (⟨⟨l⟩⟩ : ByteArray) ++ ⟨⟨m⟩⟩ = ⟨⟨l ++ m⟩⟩ := by
  apply ByteArray.ext
  rw [ByteArray.data_append]
  simp

theorem slowAdd_ok (P : Program) : BinOk P .add slowAdd := by
  intro ρ s w t x y a b ca cb h ha hb v s' hr
  unfold slowAdd at hr
  cases h1 : asT a with
  | none => rw [h1] at hr; exact slowGen_ok P .add ρ s w t x y a b ca cb h ha hb v s' hr
  | some l =>
    rw [h1] at hr
    obtain ⟨m, h2, hr1⟩ := Opt_inv hr
    obtain rfl := asT_some h1
    obtain rfl := asT_some h2
    unfold addT at hr1
    rw [forceL_eq] at hr1
    obtain ⟨hl, hr2⟩ := bif_inv hr1
    cases hr2
    rw [ha.s_inv, hb.s_inv, binSem_run (guardFree_string _ _)]
    refine ⟨.string ⟨⟨l ++ m⟩⟩, w, ?_, Post.here h (.s _)⟩
    have hl := ble hl
    have hmax : IntKind.i64.max = 9223372036854775807 := by decide
    have hsz : ¬ ((((⟨⟨l⟩⟩ : ByteArray).size + (⟨⟨m⟩⟩ : ByteArray).size : Nat) : Int) > IntKind.i64.max) := by
      rw [hmax]
      have e1 : (⟨⟨l⟩⟩ : ByteArray).size = l.length := rfl
      have e2 : (⟨⟨m⟩⟩ : ByteArray).size = m.length := rfl
      rw [e1, e2]; rw [List.length_append] at hl; omega
    simp only [binOp, Op.stringOp, hsz, if_false, Sem.run_pure, mk_append]

theorem slowCmp_ok (P : Program) (op : BinOp) (g : List UInt8 → List UInt8 → Bool) (hg : ∀ l m t w, (binOp op t (.string ⟨⟨l⟩⟩) (.string ⟨⟨m⟩⟩)).run P w = .ok (.bool (g l m)) w) : BinOk P op (slowCmp op g) := by
  intro ρ s w t x y a b ca cb h ha hb v s' hr
  unfold slowCmp at hr
  cases h1 : asT a with
  | none => rw [h1] at hr; exact slowGen_ok P op ρ s w t x y a b ca cb h ha hb v s' hr
  | some l =>
    rw [h1] at hr
    obtain ⟨m, h2, hr1⟩ := Opt_inv hr
    obtain rfl := asT_some h1
    obtain rfl := asT_some h2
    obtain ⟨rfl, rfl⟩ := valB_inv hr1
    rw [ha.s_inv, hb.s_inv, binSem_run (guardFree_string _ _)]
    exact ⟨_, w, hg l m t w, Post.here h (.b _)⟩

theorem slowEq_ok (P : Program) : BinOk P .eql slowEq := by
  intro ρ s w t x y a b ca cb h ha hb v s' hr
  unfold slowEq at hr
  split at hr
  · rw [ha.c_inv, hb.c_inv]
    obtain ⟨cv, w', h1, h2⟩ := aGen_sim h _ v s' hr
    exact ⟨cv, w', by rw [binSem_run (guardFree_float _ _ _ _)]; exact h1, h2⟩
  · obtain ⟨r, he, hr⟩ := Opt_inv hr
    obtain ⟨rfl, rfl⟩ := valB_inv hr
    exact ⟨_, w, (eqV_run h ha hb x y he).1, Post.here h (.b _)⟩
theorem slowNe_ok (P : Program) : BinOk P .neq slowNe := by
  intro ρ s w t x y a b ca cb h ha hb v s' hr
  unfold slowNe at hr
  split at hr
  · rw [ha.c_inv, hb.c_inv]
    obtain ⟨cv, w', h1, h2⟩ := aGen_sim h _ v s' hr
    exact ⟨cv, w', by rw [binSem_run (guardFree_float _ _ _ _)]; exact h1, h2⟩
  · obtain ⟨r, he, hr⟩ := Opt_inv hr
    obtain ⟨rfl, rfl⟩ := valB_inv hr
    exact ⟨_, w, (eqV_run h ha hb x y he).2, Post.here h (.b _)⟩

theorem bytesLess_eq (l m : List UInt8) : (!Op.bytesLess m l) = (Op.bytesLess l m || (l == m)) := by
  induction l generalizing m with
  | nil => cases m <;> rfl
  | cons a l ih =>
    cases m with
    | nil => rfl
    | cons b m =>
      rw [show Op.bytesLess (a :: l) (b :: m) = (decide (a < b) || (a == b && Op.bytesLess l m)) from rfl, show Op.bytesLess (b :: m) (a :: l) = (decide (b < a) || (b == a && Op.bytesLess m l)) from rfl, List.cons_beq_cons]
      by_cases h1 : a < b
      · have h2 : ¬ b < a := fun h => by rw [UInt8.lt_iff_toNat_lt] at h h1; omega
        have h3 : (b == a) = false := by rw [beq_eq_false_iff_ne]; rintro rfl; rw [UInt8.lt_iff_toNat_lt] at h1; omega
        simp [h1, h2, h3]
      · by_cases h2 : b < a
        · have h3 : (a == b) = false := by rw [beq_eq_false_iff_ne]; rintro rfl; exact h1 h2
          simp [h1, h2, h3]
        · have h3 : a = b := by
            apply UInt8.toNat_inj.1
            rw [UInt8.lt_iff_toNat_lt] at h1 h2; omega
          subst h3
          simp [h1, ih m]

theorem binBox_ok (P : Program) (op : BinOp) : ∃ g, binBox op = .mk g ∧ BinOk P op g := by
  cases op with
  | add => exact ⟨_, rfl, bin2_ok (slowAdd_ok P) fun k m n s v s' h => by
      obtain ⟨rfl, rfl⟩ := wrapK_inv h
      exact ⟨.int k (k.wrap (m + n)), rfl, by rw [iadd_eq]; rfl, fun t w => by simp [binOp, Op.intArith]⟩⟩
  | sub => exact ⟨_, rfl, bin2_ok (slowGen_ok P .sub) fun k m n s v s' h => by
      obtain ⟨rfl, rfl⟩ := wrapK_inv h
      exact ⟨.int k (k.wrap (m - n)), rfl, by rw [isub_eq]; rfl, fun t w => by simp [binOp, Op.intArith]⟩⟩
  | mul => exact ⟨_, rfl, bin2_ok (slowGen_ok P .mul) fun k m n s v s' h => by
      obtain ⟨rfl, rfl⟩ := wrapK_inv h
      exact ⟨.int k (k.wrap (m * n)), rfl, rfl, fun t w => by simp [binOp, Op.intArith]⟩⟩
  | quo => exact ⟨_, rfl, bin2_ok (slowGen_ok P .quo) fun k m n s v s' h => by
      cases m with
      | negSucc => cases h
      | ofNat x =>
        cases n with
        | negSucc => cases h
        | ofNat y =>
          obtain ⟨h1, h⟩ := bif_inv h
          obtain ⟨rfl, rfl⟩ := wrapK_inv h
          have h1 := ble h1
          refine ⟨.int k (k.wrap (.ofNat (x / y))), rfl, rfl, fun t w => ?_⟩
          have hy : ¬ (Int.ofNat y = 0) := by simp; omega
          have e : (Int.ofNat x).tdiv (Int.ofNat y) = Int.ofNat (x / y) := rfl
          simp only [binOp, ne_eq, not_true, if_false, Op.intDiv, hy, e, Sem.run_pure]⟩
  | rem => exact ⟨_, rfl, bin2_ok (slowRem_ok P) fun k m n s v s' h => by
      cases m with
      | negSucc => cases h
      | ofNat x =>
        cases n with
        | negSucc => cases h
        | ofNat y =>
          obtain ⟨h1, h⟩ := bif_inv h
          rw [forceN_eq] at h
          cases h
          have h1 := ble h1
          refine ⟨.int k (.ofNat (x % y)), rfl, rfl, fun t w => ?_⟩
          have hy : ¬ (Int.ofNat y = 0) := by simp; omega
          have e : (Int.ofNat x).tmod (Int.ofNat y) = Int.ofNat (x % y) := rfl
          simp only [binOp, ne_eq, not_true, if_false, Op.intDiv, hy, e, Sem.run_pure]⟩
  | eql => exact ⟨_, rfl, bin2_ok (slowEq_ok P) fun k m n s v s' h => by
      obtain ⟨rfl, rfl⟩ := valB_inv h
      exact ⟨.bool (m == n), rfl, by rw [ieq_iff]; rfl, fun t w => by simp [binOp, Op.intCmp]⟩⟩
  | neq => exact ⟨_, rfl, bin2_ok (slowNe_ok P) fun k m n s v s' h => by
      obtain ⟨rfl, rfl⟩ := valB_inv h
      exact ⟨.bool (m != n), rfl, by rw [ieq_iff]; rfl, fun t w => by simp [binOp, Op.intCmp]⟩⟩
  | lss => exact ⟨_, rfl, bin2_ok (slowCmp_ok P .lss bLt fun l m t w => by simp only [binOp, Op.stringOp, toList_mk, Sem.run_pure, bLt_eq]) fun k m n s v s' h => by
      obtain ⟨rfl, rfl⟩ := valB_inv h
      refine ⟨.bool (decide (m < n)), rfl, ?_, fun t w => by simp [binOp, Op.intCmp]⟩
      rw [nile]; rfl⟩
  | leq => exact ⟨_, rfl, bin2_ok (slowCmp_ok P .leq (fun a b => !bLt b a) fun l m t w => by simp only [binOp, Op.stringOp, toList_mk, Sem.run_pure, bLt_eq, bytesLess_eq]) fun k m n s v s' h => by
      obtain ⟨rfl, rfl⟩ := valB_inv h
      exact ⟨.bool (decide (m ≤ n)), rfl, by rw [ile_iff]; rfl, fun t w => by simp [binOp, Op.intCmp]⟩⟩
  | gtr => exact ⟨_, rfl, bin2_ok (slowCmp_ok P .gtr (fun a b => bLt b a) fun l m t w => by
      simp only [binOp, Op.stringOp, toList_mk, Sem.run_pure, bLt_eq, ← bytesLess_eq, Bool.not_not]) fun k m n s v s' h => by
      obtain ⟨rfl, rfl⟩ := valB_inv h
      refine ⟨.bool (decide (m > n)), rfl, ?_, fun t w => by simp [binOp, Op.intCmp]⟩
      rw [nile]; rfl⟩
  | geq => exact ⟨_, rfl, bin2_ok (slowCmp_ok P .geq (fun a b => !bLt a b) fun l m t w => by simp only [binOp, Op.stringOp, toList_mk, Sem.run_pure, bLt_eq]) fun k m n s v s' h => by
      obtain ⟨rfl, rfl⟩ := valB_inv h
      exact ⟨.bool (decide (m ≥ n)), rfl, by rw [ile_iff]; rfl, fun t w => by simp [binOp, Op.intCmp]⟩⟩
  | and => exact ⟨_, rfl, slowInt_ok P .and⟩
  | or => exact ⟨_, rfl, slowInt_ok P .or⟩
  | xor => exact ⟨_, rfl, slowInt_ok P .xor⟩
  | shl => exact ⟨_, rfl, slowInt_ok P .shl⟩
  | shr => exact ⟨_, rfl, slowInt_ok P .shr⟩
  | andNot => exact ⟨_, rfl, slowInt_ok P .andNot⟩

end Go.Eng
