/-
  A region that draws its order: what the abstract interpreter tells in the text's order is told in each order that the region's edges allow.
-/
import Derived.Test.YtiamlopedkoifaaEngO
namespace Go.Eng
open Go
set_option linter.unusedVariables false

theorem size_of {ops : Array Oper} {i : Nat} {o : Oper} (ho : ops.toList[i]? = some o) : i < ops.size := by
  rcases Nat.lt_or_ge i ops.size with h | h
  · exact h
  · rw [List.getElem?_eq_none (by simpa using h)] at ho; cases ho
theorem op_at {ops : Array Oper} {i : Nat} (h : i < ops.size) : ∃ o, ops.toList[i]? = some o := ⟨_, List.getElem?_eq_getElem (by simpa using h)⟩

section
variable {P : Program} {N : Nat} {env : Env} {ops : Array Oper} {fs : Nat → T4 AV} {ss : Nat → St}

theorem Run.flat (hr : Run P N env ops ops.size fs ss) {p : Nat} : ∀ q, p ≤ q → q ≤ ops.size → (∀ (k : Nat) (o : Oper), p ≤ k → k < q → ops.toList[k]? = some o → cls o.op < 2) → ss q = ss p
  | 0, h, _, _ => by rw [Nat.le_zero.1 h]
  | q + 1, h, hq, hc => by
    rcases Nat.lt_or_ge q p with hlt | hge
    · rw [show q + 1 = p by omega]
    · obtain ⟨o, ho⟩ := op_at (ops := ops) (i := q) (by omega)
      rw [stepOp_still (hr.step q o hq ho) (hc q o hge (Nat.lt_succ_self q) ho)]
      exact Run.flat hr q hge (by omega) fun k o h1 h2 => hc k o h1 (by omega)

theorem Run.rise (hr : Run P N env ops ops.size fs ss) {p : Nat} : ∀ q, p ≤ q → q ≤ ops.size → (∀ (k : Nat) (o : Oper), p ≤ k → k < q → ops.toList[k]? = some o → cls o.op < 3) → (∀ k, k ≤ q → Fresh (ss k)) → Grows (ss p) (ss q)
  | 0, h, _, _, _ => by rw [Nat.le_zero.1 h]; exact .refl _
  | q + 1, h, hq, hc, hf => by
    rcases Nat.lt_or_ge q p with hlt | hge
    · rw [show q + 1 = p by omega]; exact .refl _
    · obtain ⟨o, ho⟩ := op_at (ops := ops) (i := q) (by omega)
      exact (Run.rise hr q hge (by omega) (fun k o h1 h2 => hc k o h1 (by omega)) fun k hk => hf k (by omega)).trans
        (stepOp_grows (hr.step q o hq ho) (hc q o hge (Nat.lt_succ_self q) ho) (hf q (by omega)))

theorem Run.laid (hr : Run P N env ops ops.size fs ss) {i : Nat} {o : Oper} (ho : ops.toList[i]? = some o) : ∃ v, Laid o.dst v (fs i) (fs (i + 1)) := by
  have hi : i < ops.size := by
    rcases Nat.lt_or_ge i ops.size with h | h
    · exact h
    · rw [List.getElem?_eq_none (by simpa using h)] at ho; cases ho
  obtain ⟨fX', v, _, h, _⟩ := stepOp_move (hr.step i o hi ho) (fun t _ => rfl) (.inl ⟨rfl, rfl⟩)
  exact ⟨v, h⟩

/-- a slot that nobody lays stays -/
theorem Run.none (hr : Run P N env ops ops.size fs ss) {t p : Nat} : ∀ i, p ≤ i → i ≤ ops.size → (∀ (j : Nat) (o : Oper), p ≤ j → j < i → ops.toList[j]? = some o → o.dst ≠ some t) → evP (fs i) (pathOf t) = evP (fs p) (pathOf t)
  | 0, h, _, _ => by rw [Nat.le_zero.1 h]
  | i + 1, h, hi, hn => by
    rcases Nat.lt_or_ge i p with hlt | hge
    · rw [show i + 1 = p by omega]
    · obtain ⟨o, ho⟩ := op_at (ops := ops) (i := i) (by omega)
      obtain ⟨v, hl⟩ := hr.laid ho
      rw [hl t, if_neg (hn i o hge (Nat.lt_succ_self i) ho)]
      exact Run.none hr i hge (by omega) fun j o h1 h2 => hn j o h1 (by omega)

/-- a slot that is laid once stays behind it -/
theorem Run.once (hr : Run P N env ops ops.size fs ss) (hd : DrawOK ops) {t j : Nat} {o : Oper} (ho : ops.toList[j]? = some o) (ht : o.dst = some t) {i : Nat} (hji : j < i) (hi : i ≤ ops.size) :
    evP (fs i) (pathOf t) = evP (fs ops.size) (pathOf t) := by
  have hn : ∀ i, j < i → i ≤ ops.size → evP (fs i) (pathOf t) = evP (fs (j + 1)) (pathOf t) := fun i h1 h2 =>
    hr.none i h1 h2 fun k p hk _ hp he => by
      have := hd.dsts k j p o t hp ho he ht
      omega
  rw [hn i hji hi, hn ops.size (by omega) (Nat.le_refl _)]
end

theorem waits_le {ops : Array Oper} (hd : DrawOK ops) {j : Nat} : ∀ i, i < ops.size → Waits ops i j → j < i := by
  intro i
  induction i using Nat.strongRecOn with
  | _ i ih =>
    intro hi h
    obtain ⟨o, ho⟩ := op_at hi
    obtain ⟨e, e1, e2, e3⟩ := waits_edge ho h (hd.edges i o ho)
    have hlt : e.on < i := by
      have := List.all_eq_true.1 (hd.edges i o ho) e e1
      rw [e2] at this
      exact blt (by simpa using this)
    rcases e3 with rfl | e3
    · exact hlt
    · exact Nat.lt_trans (ih e.on hlt (by omega) e3) hlt

/-- what is listed has behind it what it waits for -/
def Closed (ops : Array Oper) (listed : Array Bool) : Prop := ∀ (i : Nat) (o : Oper), ops.toList[i]? = some o → listed.getD i false = true → ∀ e ∈ o.after, Region.binds .any e = true → listed.getD e.on false = true

theorem closed_waits {ops : Array Oper} (hd : DrawOK ops) {listed : Array Bool} (hc : Closed ops listed) {j : Nat} : ∀ i, i < ops.size → listed.getD i false = true → Waits ops i j → listed.getD j false = true := by
  intro i
  induction i using Nat.strongRecOn with
  | _ i ih =>
    intro hi hl h
    obtain ⟨o, ho⟩ := op_at hi
    obtain ⟨e, e1, e2, e3⟩ := waits_edge ho h (hd.edges i o ho)
    have hlt : e.on < i := by
      have := List.all_eq_true.1 (hd.edges i o ho) e e1
      rw [e2] at this
      exact blt (by simpa using this)
    have hon := hc i o ho hl e (by simpa using e1) e2
    rcases e3 with rfl | e3
    · exact hon
    · exact ih e.on hlt (by omega) hon e3

theorem ready_waits {ops : Array Oper} (hd : DrawOK ops) {listed : Array Bool} (hc : Closed ops listed) {i j : Nat} {o : Oper} (ho : ops.toList[i]? = some o) (hr : ∀ e ∈ o.after, Region.binds .any e = true → listed.getD e.on false = true) (h : Waits ops i j) : listed.getD j false = true := by
  obtain ⟨e, e1, e2, e3⟩ := waits_edge ho h (hd.edges i o ho)
  have hlt : e.on < i := by
    have := List.all_eq_true.1 (hd.edges i o ho) e e1
    rw [e2] at this
    exact blt (by simpa using this)
  have hon := hr e (by simpa using e1) e2
  rcases e3 with rfl | e3
  · exact hon
  · exact closed_waits hd hc e.on (Nat.lt_trans hlt (size_of ho)) hon e3

theorem pair_ww {a b : Nat} (ha : 2 ≤ a) (hb : 2 ≤ b) : pairOk a b = false := by
  match a, b, ha, hb with
  | 2, 2, _, _ => rfl
  | 2, b + 3, _, _ => rfl
  | a + 3, 2, _, _ => rfl
  | a + 3, b + 3, _, _ => rfl
theorem pair_wr {a : Nat} (ha : 2 ≤ a) : pairOk a 1 = false := by
  match a, ha with
  | 2, _ => rfl
  | a + 3, _ => rfl
theorem pair_rw {b : Nat} (hb : 3 ≤ b) : pairOk 1 b = false := by
  match b, hb with
  | b + 3, _ => rfl

/-- how things stand between two steps -/
structure Mid (ops : Array Oper) (N : Nat) (fs : Nat → T4 AV) (ss : Nat → St) (listed : Array Bool) (ρ : Ren) (w : World) (p : Nat) (fX : T4 AV) (tmps : Array Value) : Prop where
  size : listed.size = ops.size
  closed : Closed ops listed
  upto : p ≤ ops.size
  done : ∀ (i : Nat) (o : Oper), ops.toList[i]? = some o → 2 ≤ cls o.op → (listed.getD i false = true ↔ i < p)
  sr : SR ρ (ss p) w
  frame : FR ρ N fX tmps
  new : ∀ (t j : Nat) (o : Oper), ops.toList[j]? = some o → listed.getD j false = true → o.dst = some t → evP fX (pathOf t) = evP (fs ops.size) (pathOf t)
  old : ∀ t : Nat, (∀ (j : Nat) (o : Oper), ops.toList[j]? = some o → listed.getD j false = true → o.dst ≠ some t) → evP fX (pathOf t) = evP (fs 0) (pathOf t)
  fresh : ∀ q, q ≤ p → Fresh (ss q)

theorem getD_set {listed : Array Bool} {i j : Nat} (hi : i < listed.size) : (listed.setIfInBounds i true).getD j false = true ↔ j = i ∨ listed.getD j false = true := by
  by_cases h : j = i
  · subst h
    simp [hi]
  · rw [getD_set_ne false (Ne.symm h)]
    simp [h]

theorem Mid.sees {P : Program} {env : Env} {ops : Array Oper} {N : Nat} {fs : Nat → T4 AV} {ss : Nat → St} (hr : Run P N env ops ops.size fs ss) (hd : DrawOK ops) {listed : Array Bool} {ρ : Ren} {w : World} {p : Nat} {fX : T4 AV} {tmps : Array Value}
    (h : Mid ops N fs ss listed ρ w p fX tmps) {i : Nat} {o : Oper} (ho : ops.toList[i]? = some o) (hw : ∀ j, Waits ops i j → listed.getD j false = true) : Sees ops o fX (fs i) := by
  intro t ht
  by_cases hx : ∃ (j : Nat) (q : Oper), ops.toList[j]? = some q ∧ q.dst = some t
  · obtain ⟨j, q, hq, hqt⟩ := hx
    have hwt := hd.writers j i q o t hq ho hqt ht
    rw [h.new t j q hq (hw j hwt) hqt, hr.once hd hq hqt (waits_le hd i (size_of ho) hwt) (Nat.le_of_lt (size_of ho))]
  · have hn : ∀ (j : Nat) (q : Oper), ops.toList[j]? = some q → q.dst ≠ some t := fun j q hq e => hx ⟨j, q, hq, e⟩
    rw [h.old t fun j q hq _ => hn j q hq, hr.none i (Nat.zero_le i) (Nat.le_of_lt (size_of ho)) fun j q _ _ hq => hn j q hq]

/-- the next state's place and what memory does -/
theorem Mid.place {P : Program} {env : Env} {ops : Array Oper} {N : Nat} {fs : Nat → T4 AV} {ss : Nat → St} (hr : Run P N env ops ops.size fs ss) (hd : DrawOK ops) {listed : Array Bool} {ρ : Ren} {w : World} {p : Nat} {fX : T4 AV} {tmps : Array Value}
    (h : Mid ops N fs ss listed ρ w p fX tmps) {i : Nat} {o : Oper} (ho : ops.toList[i]? = some o) (hl : listed.getD i false = false) (hw : ∀ j, Waits ops i j → listed.getD j false = true) :
    (2 ≤ cls o.op ∧ p ≤ i ∧ ss i = ss p ∧ (∀ (k : Nat) (q : Oper), p ≤ k → k < i → ops.toList[k]? = some q → cls q.op < 2)) ∨
    (cls o.op < 2 ∧ ((ss p = ss i ∧ ss p = ss (i + 1)) ∨ (cls o.op = 0 ∨ (cls o.op = 1 ∧ Grows (ss i) (ss p))))) := by
  have hi := size_of ho
  rcases Nat.lt_or_ge (cls o.op) 2 with hc | hc
  · refine .inr ⟨hc, ?_⟩
    rcases Nat.lt_or_ge (cls o.op) 1 with h0 | h1
    · exact .inr (.inl (by omega))
    · have hc1 : cls o.op = 1 := by omega
      rcases Nat.lt_or_ge i p with hip | hip
      · refine .inr (.inr ⟨hc1, ?_⟩)
        refine hr.rise p (Nat.le_of_lt hip) h.upto (fun k q hk1 hk2 hq => ?_) h.fresh
        rcases Nat.lt_or_ge (cls q.op) 3 with h3 | h3
        · exact h3
        · exfalso
          have hki : i < k := by
            rcases Nat.lt_or_ge i k with x | x
            · exact x
            · have : k = i := by omega
              subst this
              rw [ho] at hq; cases hq; omega
          rcases hd.pairs i k o q hki ho hq with x | x
          · have := closed_waits hd h.closed k (size_of hq) ((h.done k q hq (by omega)).2 hk2) x
            rw [hl] at this; cases this
          · rw [hc1, pair_rw h3] at x; cases x
      · left
        have hflat : ss i = ss p := hr.flat i hip (Nat.le_of_lt hi) fun k q hk1 hk2 hq => by
          rcases Nat.lt_or_ge (cls q.op) 2 with h2 | h2
          · exact h2
          · exfalso
            rcases hd.pairs k i q o hk2 hq ho with x | x
            · have := (h.done k q hq h2).1 (hw k x); omega
            · rw [hc1, pair_wr h2] at x; cases x
        exact ⟨hflat.symm, by rw [stepOp_still (hr.step i o hi ho) hc]; exact hflat.symm⟩
  · have hpi : p ≤ i := by
      rcases Nat.lt_or_ge i p with x | x
      · have := (h.done i o ho hc).2 x
        rw [hl] at this; cases this
      · exact x
    have hq2 : ∀ (k : Nat) (q : Oper), p ≤ k → k < i → ops.toList[k]? = some q → cls q.op < 2 := fun k q hk1 hk2 hq => by
      rcases Nat.lt_or_ge (cls q.op) 2 with h2 | h2
      · exact h2
      · exfalso
        rcases hd.pairs k i q o hk2 hq ho with x | x
        · have := (h.done k q hq h2).1 (hw k x); omega
        · rw [pair_ww h2 hc] at x; cases x
    exact .inl ⟨hc, hpi, hr.flat i hpi (Nat.le_of_lt hi) hq2, hq2⟩

theorem Mid.step {P : Program} {env : Env} (henv : EnvOK P env) {ops : Array Oper} {N : Nat} {fs : Nat → T4 AV} {ss : Nat → St} (hr : Run P N env ops ops.size fs ss) (hd : DrawOK ops) {listed : Array Bool} {ρ : Ren} {w : World} {p : Nat} {fX : T4 AV} {a : Act}
    (h : Mid ops N fs ss listed ρ w p fX a.tmps) {i : Nat} {o : Oper} (ho : ops.toList[i]? = some o) (hl : listed.getD i false = false) (ha : ∀ e ∈ o.after, Region.binds .any e = true → listed.getD e.on false = true) {Q : Exit → Act → World → Prop} {K : Act → World → Prop}
    (hk : ∀ a' w' ρ' p' fX', a'.defers = a.defers → Ext w ρ ρ' → Keeps ρ w w' → Mid ops N fs ss (listed.setIfInBounds i true) ρ' w' p' fX' a'.tmps → K a' w') : wpOp P ops Q i K a w := by
  have hi := size_of ho
  have hil : i < listed.size := by rw [h.size]; exact hi
  have hw : ∀ j, Waits ops i j → listed.getD j false = true := fun j => ready_waits hd h.closed ho ha
  have hs := h.sees hr hd ho hw
  have hst := hr.step i o hi ho
  have ho' : ops[i]? = some o := by rw [← Array.getElem?_toList]; exact ho
  have closed' : Closed ops (listed.setIfInBounds i true) := by
    intro k q hq hlk e he hb
    rw [getD_set hil] at hlk ⊢
    right
    rcases hlk with rfl | hlk
    · rw [ho] at hq; cases hq; exact ha e he hb
    · exact h.closed k q hq hlk e he hb
  have frames : ∀ v fX', Laid o.dst v (fs i) (fs (i + 1)) → Laid o.dst v fX fX' →
      (∀ (t j : Nat) (q : Oper), ops.toList[j]? = some q → (listed.setIfInBounds i true).getD j false = true → q.dst = some t → evP fX' (pathOf t) = evP (fs ops.size) (pathOf t)) ∧
      (∀ t : Nat, (∀ (j : Nat) (q : Oper), ops.toList[j]? = some q → (listed.setIfInBounds i true).getD j false = true → q.dst ≠ some t) → evP fX' (pathOf t) = evP (fs 0) (pathOf t)) := by
    intro v fX' l1 l2
    refine ⟨fun t j q hq hlj hqt => ?_, fun t hn => ?_⟩
    · rw [l2 t]
      by_cases hdt : o.dst = some t
      · rw [if_pos hdt]
        have := hr.once hd ho hdt (Nat.lt_succ_self i) hi
        rw [← this, l1 t, if_pos hdt]
      · rw [if_neg hdt]
        rw [getD_set hil] at hlj
        rcases hlj with rfl | hlj
        · rw [ho] at hq; cases hq; exact absurd hqt hdt
        · exact h.new t j q hq hlj hqt
    · rw [l2 t, if_neg (hn i o ho ((getD_set hil).2 (.inl rfl)))]
      exact h.old t fun j q hq hlj => hn j q hq ((getD_set hil).2 (.inr hlj))
  rcases h.place hr hd ho hl hw with ⟨hc, hpi, hflat, hq2⟩ | ⟨hc, hm⟩
  · obtain ⟨fX', v, m1, m2, m3⟩ := stepOp_move (sX := ss p) (sX' := ss (i + 1)) hst hs (.inl ⟨hflat.symm, rfl⟩)
    refine wpOp_step henv ho' h.sr h.frame m1 fun a' w' hd' hp => ?_
    obtain ⟨ρ', e1, e2, e3, e4⟩ := hp
    obtain ⟨n1, n2⟩ := frames v fX' m2 m3
    refine hk a' w' ρ' (i + 1) fX' hd' e1 e2 ⟨by simp [h.size], closed', hi, fun k q hq hck => ?_, e3, e4, n1, n2, fun q hq => ?_⟩
    · rw [getD_set hil, h.done k q hq hck]
      constructor
      · rintro (rfl | x) <;> omega
      · intro hk'
        rcases Nat.lt_or_ge k p with x | x
        · exact .inr x
        · left
          rcases Nat.lt_or_ge k i with y | y
          · have := hq2 k q x y hq; omega
          · omega
    · rcases Nat.lt_or_ge q (i + 1) with x | x
      · rcases Nat.lt_or_ge p q with y | y
        · rw [hr.flat q (Nat.le_of_lt y) (by omega) fun k z k1 k2 => hq2 k z k1 (by omega)]
          exact h.fresh p (Nat.le_refl p)
        · exact h.fresh q y
      · have : q = i + 1 := by omega
        subst this
        exact e3.fresh
  · obtain ⟨fX', v, m1, m2, m3⟩ := stepOp_move (sX := ss p) (sX' := ss p) hst hs (by
      rcases hm with ⟨x, y⟩ | x
      · exact .inl ⟨x, y⟩
      · exact .inr ⟨rfl, x⟩)
    refine wpOp_step henv ho' h.sr h.frame m1 fun a' w' hd' hp => ?_
    obtain ⟨ρ', e1, e2, e3, e4⟩ := hp
    obtain ⟨n1, n2⟩ := frames v fX' m2 m3
    refine hk a' w' ρ' p fX' hd' e1 e2 ⟨by simp [h.size], closed', h.upto, fun k q hq hck => ?_, e3, e4, n1, n2, h.fresh⟩
    rw [getD_set hil, h.done k q hq hck]
    constructor
    · rintro (rfl | x)
      · rw [ho] at hq; cases hq; omega
      · exact x
    · exact .inr

theorem all_listed {ops : Array Oper} (hd : DrawOK ops) {listed : Array Bool} (hsz : listed.size = ops.size) (hr : Region.ready .any ops listed = []) : ∀ i, i < ops.size → listed.getD i false = true := by
  intro i
  induction i using Nat.strongRecOn with
  | _ i ih =>
    intro hi
    obtain ⟨o, ho⟩ := op_at hi
    cases hl : listed.getD i false with
    | true => rfl
    | false =>
      exfalso
      have : i ∈ Region.ready .any ops listed := by
        rw [mem_ready]
        refine ⟨?_, o, by rw [← Array.getElem?_toList]; exact ho, fun e he hb => ?_⟩
        · have hil : i < listed.size := by omega
          simp [hil] at hl ⊢
          exact hl
        · have := List.all_eq_true.1 (hd.edges i o ho) e (by simpa using he)
          rw [hb] at this
          exact ih e.on (blt (by simpa using this)) (Nat.lt_trans (blt (by simpa using this)) hi)
      rw [hr] at this
      cases this

theorem Mid.end_ {P : Program} {env : Env} {ops : Array Oper} {N : Nat} {fs : Nat → T4 AV} {ss : Nat → St} (hr : Run P N env ops ops.size fs ss) (hd : DrawOK ops) {listed : Array Bool} {ρ : Ren} {w : World} {p : Nat} {fX : T4 AV} {tmps : Array Value}
    (h : Mid ops N fs ss listed ρ w p fX tmps) (hall : ∀ i, i < ops.size → listed.getD i false = true) : SR ρ (ss ops.size) w ∧ FR ρ N (fs ops.size) tmps := by
  have hs : ss ops.size = ss p := hr.flat ops.size h.upto (Nat.le_refl _) fun k q hk1 hk2 hq => by
    rcases Nat.lt_or_ge (cls q.op) 2 with x | x
    · exact x
    · have := (h.done k q hq x).1 (hall k hk2); omega
  refine ⟨by rw [hs]; exact h.sr, h.frame.size, fun t => ?_⟩
  have : evP (fs ops.size) (pathOf t) = evP fX (pathOf t) := by
    by_cases hx : ∃ (j : Nat) (q : Oper), ops.toList[j]? = some q ∧ q.dst = some t
    · obtain ⟨j, q, hq, hqt⟩ := hx
      exact (h.new t j q hq (hall j (size_of hq)) hqt).symm
    · have hn : ∀ (j : Nat) (q : Oper), ops.toList[j]? = some q → q.dst ≠ some t := fun j q hq e => hx ⟨j, q, hq, e⟩
      rw [h.old t fun j q hq _ => hn j q hq, hr.none ops.size (Nat.zero_le _) (Nat.le_refl _) fun j q _ _ hq => hn j q hq]
  rw [this]
  exact h.frame.at_ t

theorem Mid.any {P : Program} {env : Env} (henv : EnvOK P env) {ops : Array Oper} {N : Nat} {fs : Nat → T4 AV} {ss : Nat → St} (hr : Run P N env ops ops.size fs ss) (hd : DrawOK ops) {Q : Exit → Act → World → Prop} :
    ∀ (fuel : Nat) (listed : Array Bool) (ρ : Ren) (a : Act) (w : World) (p : Nat) (fX : T4 AV), listed.toList.count false ≤ fuel → Mid ops N fs ss listed ρ w p fX a.tmps →
    (∀ a' w', a'.defers = a.defers → Post ρ w (ss ops.size) w' (fun ρ' => FR ρ' N (fs ops.size) a'.tmps) → Q .normal a' w') → wpAny P .any ops Q fuel listed a w
  | 0, listed, ρ, a, w, p, fX, hc, h, hq => by
    have hall : ∀ i, i < ops.size → listed.getD i false = true := by
      intro i hi
      have hil : i < listed.size := by rw [h.size]; exact hi
      have h0 : List.count false listed.toList = 0 := by omega
      rw [List.count_eq_zero] at h0
      cases hl : listed.getD i false with
      | true => rfl
      | false =>
        exfalso
        apply h0
        simp [hil] at hl
        rw [← hl]
        simp
    refine ⟨?_, ?_⟩
    · cases hrd : Region.ready .any ops listed with
      | nil => rfl
      | cons x xs =>
        exfalso
        have hx : x ∈ Region.ready .any ops listed := by rw [hrd]; exact List.mem_cons_self
        rw [mem_ready] at hx
        obtain ⟨h1, o, ho, _⟩ := hx
        have hlt : x < ops.size := (Array.getElem?_eq_some_iff.1 ho).1
        have := hall x hlt
        have hil : x < listed.size := by rw [h.size]; exact hlt
        simp [hil] at h1 this
        rw [h1] at this; cases this
    · obtain ⟨e1, e2⟩ := h.end_ hr hd hall
      exact hq a w rfl (Post.here e1 e2)
  | fuel + 1, listed, ρ, a, w, p, fX, hc, h, hq => by
    refine ⟨fun hrd => ?_, fun i hi => ?_⟩
    · obtain ⟨e1, e2⟩ := h.end_ hr hd (all_listed hd h.size hrd)
      exact hq a w rfl (Post.here e1 e2)
    · rw [mem_ready] at hi
      obtain ⟨h1, o, ho, ha⟩ := hi
      have hlt : i < ops.size := (Array.getElem?_eq_some_iff.1 ho).1
      have hil : i < listed.size := by rw [h.size]; exact hlt
      have hl : listed.getD i false = false := by
        simp [hil] at h1 ⊢
        exact h1
      refine h.step henv hr hd (by rw [Array.getElem?_toList]; exact ho) hl ha fun a' w' ρ' p' fX' hd' he hkp hm => ?_
      refine Mid.any henv hr hd fuel _ ρ' a' w' p' fX' ?_ hm fun a'' w'' hd'' hp => ?_
      · rw [Array.toList_setIfInBounds, List.count_set (by simpa using hil)]
        simp [hil] at h1
        have hcp : 0 < List.count false listed.toList := List.count_pos_iff.2 (by rw [← h1]; simp)
        have e1 : (listed.toList[i]'(by simpa using hil) == false) = true := by simp [h1]
        rw [e1]
        show List.count false listed.toList - 1 + 0 ≤ fuel
        omega
      · exact hq a'' w'' (hd''.trans hd') (hp.then he hkp)

theorem draw_wp {P : Program} {env : Env} (henv : EnvOK P env) (hmix : P.follows .mixedOrders = true) {id : Nat} {ops : Array Oper} {N : Nat} (hd : drawOk ops = true) {Q : Exit → Act → World → Prop} {ρ : Ren} {s : St} {f : T4 AV} {a : Act} {w : World}
    (h : SR ρ s w) (hf : FR ρ N f a.tmps) (hq : QOf ρ w N a.defers (execL P N env ops ops.toList f s) Q) : (Code.region id ops true).wp P Q a w := by
  refine wp_region_any hmix ?_
  rcases execL_run ops.toList f s with ⟨x, hb⟩ | ⟨fs, ss, h1, h2, h3, h4⟩
  · rw [hb] at hq; exact hq.elim
  · rw [h3] at hq
    have hr : Run P N env ops ops.size fs ss := ⟨fun i o _ ho => h4 i o ho⟩
    refine Mid.any henv hr (drawOk_ok hd) ops.size _ ρ a _ 0 f ?_ ⟨by simp, ?_, Nat.zero_le _, ?_, by rw [h2]; exact h.drawn _, hf, ?_, ?_, ?_⟩ fun a' w' hd' hp => ?_
    · refine Nat.le_trans List.count_le_length ?_
      simp
    · intro i o ho hl
      exfalso
      simp [size_of ho] at hl
    · intro i o ho hc
      simp [size_of ho]
    · intro t j o ho hl
      exfalso
      simp [size_of ho] at hl
    · intro t _; rw [h1]
    · intro q hq'
      rw [Nat.le_zero.1 hq', h2]
      exact h.fresh
    · refine hq a' w' hd' ?_
      have e : ops.toList.length = ops.size := by simp
      rw [e]
      exact hp.then (Ext.refl w ρ) (Keeps.drawn ρ w _)

end Go.Eng
