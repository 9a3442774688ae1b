/-
  The abstract operations are true of the model's: numbers, comparisons.
-/
import Derived.Test.YtomcadipdacanaaGreatDoorEngH
import Derived.Laws.StructEq
namespace Go.Eng
open Go
set_option linter.unusedVariables false

theorem fitsK_wrap (k : IntKind) (n : Int) (h : fitsK k n = true) : k.wrap n = n := by
  cases n with
  | ofNat m =>
    cases k <;> unfold fitsK at h <;> dsimp only at h <;> first | (cases h; done) | (have := blt h; unfold IntKind.wrap IntKind.bits IntKind.signed; simp; omega)
  | negSucc m =>
    cases k <;> unfold fitsK at h <;> dsimp only at h <;> first | (cases h; done) | (have := blt h; unfold IntKind.wrap IntKind.bits IntKind.signed; simp [Int.negSucc_eq]; omega)

theorem wrapK_inv {k : IntKind} {n : Int} {s s' : St} {v : AV} (h : wrapK k n s = .val v s') : v = .i k (k.wrap n) ∧ s' = s := by
  unfold wrapK at h
  rw [forceI_eq, forceI_eq] at h
  cases hf : fitsK k n with
  | true => rw [hf] at h; cases h; exact ⟨by rw [fitsK_wrap k n hf], rfl⟩
  | false => rw [hf] at h; cases h; exact ⟨rfl, rfl⟩

theorem valB_inv {b : Bool} {s s' : St} {v : AV} (h : valB b s = .val v s') : v = .b b ∧ s' = s := by
  cases b <;> (cases h; exact ⟨rfl, rfl⟩)

theorem iadd_eq (a b : Int) : iadd a b = a + b := by cases a <;> cases b <;> rfl
theorem isub_eq (a b : Int) : isub a b = a - b := by
  cases a with
  | negSucc x => rfl
  | ofNat x =>
    cases b with
    | negSucc y => rfl
    | ofNat y =>
      change bif_ (Nat.ble y x) (Int.ofNat (x - y)) (Int.negSucc (y - x - 1)) = _
      cases h : Nat.ble y x with
      | true => have := ble h; show Int.ofNat (x - y) = _; simp; omega
      | false =>
        have : ¬ y ≤ x := fun hh => by rw [Nat.ble_eq_true_of_le hh] at h; cases h
        show Int.negSucc (y - x - 1) = _; rw [Int.negSucc_eq]; simp; omega
theorem ile_iff (a b : Int) : ile a b = decide (a ≤ b) := by
  rw [Bool.eq_iff_iff, decide_eq_true_iff]
  cases a with
  | ofNat x => cases b with
    | ofNat y => show Nat.ble x y = true ↔ _; rw [Nat.ble_eq]; simp
    | negSucc y => show false = true ↔ _; simp [Int.negSucc_eq]; omega
  | negSucc x => cases b with
    | ofNat y => show true = true ↔ _; simp [Int.negSucc_eq]; omega
    | negSucc y => show Nat.ble y x = true ↔ _; rw [Nat.ble_eq]; simp [Int.negSucc_eq]
theorem ieq_iff (a b : Int) : ieq a b = (a == b) := by
  rw [Bool.eq_iff_iff, beq_iff_eq]
  cases a with
  | ofNat x => cases b with
    | ofNat y => show Nat.beq x y = true ↔ _; rw [Nat.beq_eq]; simp; omega
    | negSucc y => show false = true ↔ _; simp
  | negSucc x => cases b with
    | ofNat y => show false = true ↔ _; simp
    | negSucc y => show Nat.beq x y = true ↔ _; rw [Nat.beq_eq]; simp

theorem kEq_eq {j k : IntKind} (h : kEq j k = true) : j = k := by
  have := beq h
  cases j <;> cases k <;> first | rfl | (exact absurd this (by decide))

theorem bEq_iff : ∀ (l m : List UInt8), bEq l m = (l == m)
  | [], [] => rfl
  | [], _ :: _ => rfl
  | _ :: _, [] => rfl
  | a :: l, b :: m => by
    change bif_ (Nat.beq a.toNat b.toNat) (bEq l m) false = _
    rw [bEq_iff l m, List.cons_beq_cons]
    cases h : Nat.beq a.toNat b.toNat with
    | true =>
      have : a = b := UInt8.toNat_inj.1 (beq h)
      subst this
      show (l == m) = _; simp
    | false =>
      have : (a == b) = false := by
        rw [beq_eq_false_iff_ne]; intro e; subst e
        rw [Nat.beq_refl] at h; cases h
      rw [this]; rfl
theorem bLt_eq : ∀ (l m : List UInt8), bLt l m = Op.bytesLess l m
  | [], [] => rfl
  | [], _ :: _ => rfl
  | _ :: _, [] => rfl
  | a :: l, b :: m => by
    change bif_ (Nat.blt a.toNat b.toNat) true (bif_ (Nat.beq a.toNat b.toNat) (bLt l m) false) = Op.bytesLess (a :: l) (b :: m)
    rw [bLt_eq l m]
    rw [show Op.bytesLess (a :: l) (b :: m) = (decide (a < b) || (a == b && Op.bytesLess l m)) from rfl]
    by_cases h1 : a < b
    · have : Nat.blt a.toNat b.toNat = true := Nat.ble_eq_true_of_le (UInt8.lt_iff_toNat_lt.1 h1)
      rw [this]; simp [h1]; rfl
    · have : Nat.blt a.toNat b.toNat = false := by
        cases hh : Nat.blt a.toNat b.toNat with
        | false => rfl
        | true => exact absurd (UInt8.lt_iff_toNat_lt.2 (blt hh)) h1
      rw [this]
      by_cases h2 : a = b
      · subst h2; simp [h1, Nat.beq_refl]; rfl
      · have : Nat.beq a.toNat b.toNat = false := by
          cases hh : Nat.beq a.toNat b.toNat with
          | false => rfl
          | true => exact absurd (UInt8.toNat_inj.1 (beq hh)) h2
        have hb : (a == b) = false := by simpa using h2
        rw [this, hb]; simp [h1]; rfl

/-- the operation with its guard, as it is run -/
def binSem (op : BinOp) (t : TypeId) (x y : Operand) (a b : Value) : Sem Value := do eqGuard op t x y a b; binOp op t a b

def guardFree (a b : Value) : Prop := (a = .nilIface → b ≠ .nilIface) ∧ (∀ xs ys, a = .agg xs → b ≠ .agg ys)

theorem run_eqGuard_free {P : Program} (op : BinOp) (t : TypeId) (x y : Operand) (a b : Value) (w : World) (h : guardFree a b) : (eqGuard op t x y a b).run P w = .ok () w := by
  unfold eqGuard
  cases op <;> first | rfl | (
    simp only [Bool.not_true, Bool.false_eq_true, if_false]
    cases a <;> first | rfl | (cases b <;> first | rfl | (exact absurd rfl (h.1 rfl)) | (exact absurd rfl (h.2 _ _ rfl))))

theorem binSem_run {P : Program} {op : BinOp} {t : TypeId} {x y : Operand} {a b : Value} {w : World} (h : guardFree a b) : (binSem op t x y a b).run P w = (binOp op t a b).run P w := by
  unfold binSem
  rw [Sem.run_bind, run_eqGuard_free op t x y a b w h]; rfl

theorem guardFree_int (k k' : IntKind) (m n : Int) : guardFree (.int k m) (.int k' n) := ⟨fun h => (by cases h), fun _ _ h => (by cases h)⟩
theorem guardFree_float (k k' : FloatKind) (m n : Nat) : guardFree (.float k m) (.float k' n) := ⟨fun h => (by cases h), fun _ _ h => (by cases h)⟩
theorem guardFree_string (m n : ByteArray) : guardFree (.string m) (.string n) := ⟨fun h => (by cases h), fun _ _ h => (by cases h)⟩

theorem aGen_inv {P : Program} {sem : Sem Value} {s s' : St} {v : AV} (h : aGen P sem s = .val v s') : ∃ cv, v = ofV cv ∧ s' = s ∧ ∀ w, sem.run P w = .ok cv w := by
  unfold aGen at h
  cases hp : pureRun P sem with
  | none => rw [hp] at h; cases h
  | some cv => rw [hp] at h; cases h; exact ⟨cv, rfl, rfl, pureRun_run P sem cv hp⟩

theorem aGen_sim {P : Program} {ρ : Ren} {s : St} {w : World} (h : SR ρ s w) (sem : Sem Value) : Sim P ρ w sem (aGen P sem s) := by
  intro v s' hr
  obtain ⟨cv, rfl, rfl, hrun⟩ := aGen_inv hr
  exact ⟨cv, w, hrun w, Post.here h (.of ρ cv)⟩

/-! ## equality -/

theorem run_eqFs {P : Program} {ρ : Ren} (w : World) (d : Nat) (ih : TypeId → AV → AV → Option Bool)
    (hih : ∀ t x y b cx cy, VR ρ x cx → VR ρ y cy → ih t x y = some b → (Op.equalIn d t cx cy).run P w = .ok b w) (l m : List AV) (xs ys : Array Value) (hl : VRs ρ l xs.toList) (hm : VRs ρ m ys.toList) :
    ∀ (fs : List Field) (b : Bool), eqFs P ih l m fs = some b → (Op.eqFields d xs ys fs).run P w = .ok b w
  | [], b, h => by cases h; rfl
  | f :: r, b, h => by
    unfold eqFs at h
    unfold Op.eqFields
    cases hn : (f.name == "_") with
    | true =>
      rw [hn] at h
      have : f.name = "_" := by simpa using hn
      rw [if_neg (by simp [this])]
      exact run_eqFs w d ih hih l m xs ys hl hm r b h
    | false =>
      rw [hn] at h
      dsimp only [cond_false] at h
      have : f.name ≠ "_" := by simpa using hn
      rw [if_pos this]
      cases h1 : partL P f.type l f.offset with
      | none => rw [h1] at h; cases h
      | some a =>
        cases h2 : partL P f.type m f.offset with
        | none => rw [h1, h2] at h; cases h
        | some c =>
          rw [h1, h2] at h
          dsimp only at h
          obtain ⟨va, p1, p2⟩ := partL_part hl h1 w
          obtain ⟨vc, q1, q2⟩ := partL_part hm h2 w
          cases h3 : ih f.type a c with
          | none => rw [h3] at h; cases h
          | some e =>
            rw [h3] at h
            have hq := hih _ _ _ _ _ _ p2 q2 h3
            simp only [Sem.run_bind, p1, q1, hq, Result.andThen_ok, Sem.run_ite]
            cases e with
            | true => simp only [Bool.not_true, Bool.false_eq_true, if_false]; exact run_eqFs w d ih hih l m xs ys hl hm r b h
            | false => cases h; rfl

theorem run_eqEl {P : Program} {ρ : Ren} (w : World) (d : Nat) (ih : TypeId → AV → AV → Option Bool)
    (hih : ∀ t x y b cx cy, VR ρ x cx → VR ρ y cy → ih t x y = some b → (Op.equalIn d t cx cy).run P w = .ok b w) (e : TypeId) (l m : List AV) (xs ys : Array Value) (hl : VRs ρ l xs.toList) (hm : VRs ρ m ys.toList) (sz : Nat) :
    ∀ (n i : Nat) (b : Bool), eqEl P ih e l m sz n i = some b →
      (forIn (List.range' i n) ((none, ()) : Option Bool × PUnit) (fun j (r : Option Bool × PUnit) => (do
        if (!(← Op.equalIn d e (← part e xs (j * sz)) (← part e ys (j * sz)))) = true then pure (.done (some false, ())) else pure (.yield (none, ())) : Sem (ForInStep (Option Bool × PUnit))))).run P w =
      .ok (if b then (none, ()) else (some false, ())) w
  | 0, i, b, h => by cases h; rfl
  | n + 1, i, b, h => by
    unfold eqEl at h
    cases h1 : partL P e l (i * sz) with
    | none => rw [h1] at h; cases h
    | some a =>
      cases h2 : partL P e m (i * sz) with
      | none => rw [h1, h2] at h; cases h
      | some c =>
        rw [h1, h2] at h
        dsimp only at h
        obtain ⟨va, p1, p2⟩ := partL_part hl h1 w
        obtain ⟨vc, q1, q2⟩ := partL_part hm h2 w
        cases h3 : ih e a c with
        | none => rw [h3] at h; cases h
        | some r =>
          rw [h3] at h
          have hq := hih _ _ _ _ _ _ p2 q2 h3
          rw [List.range'_succ, List.forIn_cons]
          simp only [Sem.run_bind, p1, q1, hq, Result.andThen_ok, Sem.run_ite]
          cases r with
          | true => simp only [Bool.not_true, Bool.false_eq_true, if_false, Sem.run_pure, Result.andThen_ok]; exact run_eqEl w d ih hih e l m xs ys hl hm sz n (i + 1) b h
          | false => cases h; simp

theorem toList_mk (l : List UInt8) : (⟨⟨l⟩⟩ : ByteArray).toList = l := ByteArray.toList_eq _

theorem addr_ne {ρ : Ren} {s : St} {w : World} (h : SR ρ s w) {A e A' e' : Nat} {l l' : Loc} (hl : ρ.blk A e = some l) (hl' : ρ.blk A' e' = some l') (hne : A ≠ A') : l.blk ≠ l'.blk := fun hb => hne (h.inj _ _ _ _ _ _ hl hl' hb)

end Go.Eng
