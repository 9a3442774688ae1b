/-
  An operation of a drawn region moved behind others in the list: the orders that the region's edges allow are the same.
-/
import Derived.Test.YtomcadipdacanaaGreatDoorEngP
namespace Go.Eng
open Go
set_option linter.unusedVariables false

theorem ble_f {a b : Nat} (h : b < a) : Nat.ble a b = false := by
  cases hx : Nat.ble a b with
  | false => rfl
  | true => have := Nat.le_of_ble_eq_true hx; omega
theorem blt_f {a b : Nat} (h : b ≤ a) : Nat.blt a b = false := ble_f (Nat.lt_succ_of_le h)
theorem beq_f {a b : Nat} (h : a ≠ b) : Nat.beq a b = false := by
  cases hx : Nat.beq a b with
  | false => rfl
  | true => exact absurd (Nat.eq_of_beq_eq_true hx) h
theorem moveIx_lo {m K i : Nat} (h : i < m) : moveIx m K i = i := by
  unfold moveIx
  rw [show Nat.blt i m = true from Nat.ble_eq_true_of_le h]; rfl
theorem moveIx_at (m K : Nat) : moveIx m K m = K := by
  unfold moveIx
  rw [blt_f (Nat.le_refl m), show Nat.beq m m = true from Nat.beq_refl m]; rfl
theorem moveIx_mid {m K i : Nat} (h : m < i) (h' : i ≤ K) : moveIx m K i = i - 1 := by
  unfold moveIx
  rw [blt_f (Nat.le_of_lt h), beq_f (by omega), show Nat.ble i K = true from Nat.ble_eq_true_of_le h']; rfl
theorem moveIx_hi {m K i : Nat} (h : K < i) (hm : m ≤ K) : moveIx m K i = i := by
  unfold moveIx
  rw [blt_f (by omega), beq_f (by omega), ble_f h]; rfl
theorem moveIx_cases (m K i : Nat) (hm : m ≤ K) : (i < m ∧ moveIx m K i = i) ∨ (i = m ∧ moveIx m K i = K) ∨ (m < i ∧ i ≤ K ∧ moveIx m K i = i - 1) ∨ (K < i ∧ moveIx m K i = i) := by
  rcases Nat.lt_or_ge i m with h | h
  · exact .inl ⟨h, moveIx_lo h⟩
  · rcases Nat.lt_or_ge m i with h1 | h1
    · rcases Nat.lt_or_ge K i with h2 | h2
      · exact .inr (.inr (.inr ⟨h2, moveIx_hi h2 hm⟩))
      · exact .inr (.inr (.inl ⟨h1, h2, moveIx_mid h1 h2⟩))
    · obtain rfl : i = m := by omega
      exact .inr (.inl ⟨rfl, moveIx_at _ _⟩)
theorem moveIx_inj {m K i j : Nat} (hm : m ≤ K) (h : moveIx m K i = moveIx m K j) : i = j := by
  rcases moveIx_cases m K i hm with ⟨a, b⟩ | ⟨a, b⟩ | ⟨a, a', b⟩ | ⟨a, b⟩ <;> rcases moveIx_cases m K j hm with ⟨c, d⟩ | ⟨c, d⟩ | ⟨c, c', d⟩ | ⟨c, d⟩ <;> omega
theorem moveIx_lt {m K i n : Nat} (hm : m ≤ K) (hK : K < n) : moveIx m K i < n ↔ i < n := by
  rcases moveIx_cases m K i hm with ⟨a, b⟩ | ⟨a, b⟩ | ⟨a, a', b⟩ | ⟨a, b⟩ <;> omega
theorem moveIx_onto {m K n : Nat} (hm : m ≤ K) (j : Nat) : ∃ i, moveIx m K i = j := by
  rcases Nat.lt_or_ge j m with h | h
  · exact ⟨j, moveIx_lo h⟩
  · rcases Nat.lt_or_ge j K with h1 | h1
    · exact ⟨j + 1, by rw [moveIx_mid (by omega) (by omega)]; rfl⟩
    · rcases Nat.lt_or_ge K j with h2 | h2
      · exact ⟨j, moveIx_hi h2 hm⟩
      · obtain rfl : j = K := by omega
        exact ⟨m, moveIx_at _ _⟩

theorem moveL_get {m K : Nat} (l : List Oper) (hm : m ≤ K) (hK : K < l.length) (i : Nat) : (moveL m K l)[moveIx m K i]? = (l[i]?).map (renO m K) := by
  unfold moveL
  rw [List.getElem?_map]
  congr 1
  have e1 : (l.take m).length = m := by rw [List.length_take]; omega
  have e2 : ((l.drop (m + 1)).take (K - m)).length = K - m := by rw [List.length_take, List.length_drop]; omega
  have e3 : ((l.drop m).take 1).length = 1 := by rw [List.length_take, List.length_drop]; omega
  rcases moveIx_cases m K i hm with ⟨a, b⟩ | ⟨a, b⟩ | ⟨a, a', b⟩ | ⟨a, b⟩
  · rw [b, List.getElem?_append_left (by omega), List.getElem?_take, if_pos a]
  · rw [b, a, List.getElem?_append_right (by omega), List.getElem?_append_left (by rw [List.length_append, e1, e2, e3]; omega), List.getElem?_append_right (by omega), e1, e2, Nat.sub_self, List.getElem?_take, if_pos (by omega), List.getElem?_drop, Nat.add_zero]
  · rw [b, List.getElem?_append_right (by omega), List.getElem?_append_left (by rw [List.length_append, e1, e2, e3]; omega), List.getElem?_append_left (by omega), e1, List.getElem?_take, if_pos (by omega), List.getElem?_drop]
    congr 1; omega
  · rw [b, List.getElem?_append_right (by omega), List.getElem?_append_right (by rw [List.length_append, e1, e2, e3]; omega), List.length_append, e1, e2, e3, List.getElem?_drop]
    congr 1; omega
theorem moveL_length {m K : Nat} (l : List Oper) (hm : m ≤ K) (hK : K < l.length) : (moveL m K l).length = l.length := by
  unfold moveL
  simp only [List.length_map, List.length_append, List.length_take, List.length_drop]
  omega

theorem yielded_move {m K : Nat} {ops ops' : Array Oper} (hg : ∀ i : Nat, ops'[moveIx m K i]? = (ops[i]?).map (renO m K)) (tmps : Array Value) (j : Nat) : yielded ops' tmps (moveIx m K j) = yielded ops tmps j := by
  unfold yielded
  rw [hg]
  cases ops[j]? <;> rfl

theorem wanted_move {m K : Nat} {ops ops' : Array Oper} (hg : ∀ i : Nat, ops'[moveIx m K i]? = (ops[i]?).map (renO m K)) (tmps : Array Value) (o : Oper) : Region.wanted (renO m K o) (yielded ops' tmps) = Region.wanted o (yielded ops tmps) := by
  obtain ⟨dst, op, ty, pos, after, guard⟩ := o
  unfold Region.wanted renO
  cases guard with
  | none => rfl
  | some x =>
    obtain ⟨j, b⟩ := x
    simp only [Option.map_some]
    rw [yielded_move hg]

theorem wpOp_move {P : Program} {m K : Nat} {ops ops' : Array Oper} (hg : ∀ i : Nat, ops'[moveIx m K i]? = (ops[i]?).map (renO m K)) {Q : Exit → Act → World → Prop} {i : Nat} {N : Act → World → Prop} {a : Act} {w : World} (h : wpOp P ops' Q (moveIx m K i) N a w) : wpOp P ops Q i N a w := by
  unfold wpOp at h ⊢
  rw [hg] at h
  cases ho : ops[i]? with
  | none => rw [ho] at h; exact h
  | some o =>
    rw [ho] at h
    dsimp only [Option.map_some] at h ⊢
    rw [wanted_move hg] at h
    exact h

theorem any_move {P : Program} {m K : Nat} (hm : m ≤ K) {ops ops' : Array Oper} (hK : K < ops.size) (hsz : ops'.size = ops.size) (hg : ∀ i : Nat, ops'[moveIx m K i]? = (ops[i]?).map (renO m K)) {Q : Exit → Act → World → Prop} :
    ∀ (fuel : Nat) (listed listed' : Array Bool) (a : Act) (w : World), listed'.size = ops.size → listed.size = ops.size → (∀ (i : Nat) (d : Bool), listed'.getD (moveIx m K i) d = listed.getD i d) → wpAny P .any ops' Q fuel listed' a w → wpAny P .any ops Q fuel listed a w := by
  have hready : ∀ (listed listed' : Array Bool), (∀ (i : Nat) (d : Bool), listed'.getD (moveIx m K i) d = listed.getD i d) → ∀ i, moveIx m K i ∈ Region.ready .any ops' listed' ↔ i ∈ Region.ready .any ops listed := by
    intro listed listed' hl i
    rw [mem_ready, mem_ready, hl, hg]
    refine and_congr Iff.rfl ?_
    cases ho : ops[i]? with
    | none => simp
    | some o =>
      simp only [Option.map_some, Option.some.injEq, exists_eq_left']
      constructor
      · intro h e he hb
        rw [← hl]
        exact h (renE m K e) (by unfold renO; exact Array.mem_map_of_mem he) hb
      · intro h e he hb
        unfold renO at he
        obtain ⟨e0, h0, rfl⟩ := Array.mem_map.1 he
        show listed'.getD (moveIx m K e0.on) false = true
        rw [hl]
        exact h e0 h0 hb
  intro fuel
  induction fuel with
  | zero =>
    intro listed listed' a w hs' hs hl h
    refine ⟨?_, h.2⟩
    refine List.eq_nil_iff_forall_not_mem.2 fun i hi => ?_
    have := (hready listed listed' hl i).2 hi
    rw [h.1] at this; cases this
  | succ fuel ih =>
    intro listed listed' a w hs' hs hl h
    refine ⟨fun hn => h.1 (List.eq_nil_iff_forall_not_mem.2 fun j hj => ?_), fun i hi => ?_⟩
    · obtain ⟨i, rfl⟩ := moveIx_onto (n := 0) hm j
      have := (hready listed listed' hl i).1 hj
      rw [hn] at this; cases this
    · have hx := wpOp_move hg (h.2 _ ((hready listed listed' hl i).2 hi))
      refine wpOp_mono (fun a' w' hq => ih _ _ a' w' (by simpa using hs') (by simpa using hs) (fun j d => ?_) hq) hx
      have hi0 : i < ops.size := by
        obtain ⟨_, o, ho, _⟩ := mem_ready.1 hi
        exact (Array.getElem?_eq_some_iff.1 ho).1
      by_cases hj : j = i
      · subst hj
        have h1 : moveIx m K j < listed'.size := by rw [hs']; exact (moveIx_lt hm hK).2 hi0
        simp only [Array.getD_eq_getD_getElem?]
        rw [Array.getElem?_setIfInBounds_self_of_lt h1, Array.getElem?_setIfInBounds_self_of_lt (by omega)]
      · rw [getD_set_ne d (fun e => hj (moveIx_inj hm e).symm), getD_set_ne d (fun e => hj e.symm)]
        exact hl j d

theorem lateOf_any {P : Program} {ops : Array Oper} {Q : Exit → Act → World → Prop} {a : Act} {w : World} (h : wpAny P .any (lateOf P ops) Q (lateOf P ops).size (Array.replicate (lateOf P ops).size false) a w) : wpAny P .any ops Q ops.size (Array.replicate ops.size false) a w := by
  unfold lateOf at h
  cases hl : lateF P ops (masks ops) 0 ops.toList with
  | none => rw [hl] at h; exact h
  | some x =>
    obtain ⟨m, K⟩ := x
    rw [hl] at h
    dsimp only at h
    cases hb : (Nat.blt m K && Nat.blt K ops.size) with
    | false => rw [hb] at h; exact h
    | true =>
      rw [hb] at h
      rw [Bool.and_eq_true] at hb
      have h1 := blt hb.1
      have h2 := blt hb.2
      have hlen := moveL_length ops.toList (Nat.le_of_lt h1) (by simpa using h2)
      have hsz : (moveL m K ops.toList).toArray.size = ops.size := by rw [List.size_toArray, hlen]; simp
      dsimp only [cond_true] at h
      rw [hsz] at h
      refine any_move (Nat.le_of_lt h1) h2 hsz (fun i => ?_) ops.size _ _ a w (by simp) (by simp) (fun i d => ?_) h
      · rw [List.getElem?_toArray, moveL_get ops.toList (Nat.le_of_lt h1) (by simpa using h2)]; simp
      · simp only [Array.getD_eq_getD_getElem?, Array.getElem?_replicate]
        by_cases hi : i < ops.size
        · rw [if_pos hi, if_pos ((moveIx_lt (Nat.le_of_lt h1) h2).2 hi)]
        · rw [if_neg hi, if_neg (fun x => hi ((moveIx_lt (Nat.le_of_lt h1) h2).1 x))]

theorem lateF_none {P : Program} {ops : Array Oper} {ms : List Nat} : ∀ (l : List Oper) (m : Nat), (∀ o ∈ l, isMM o = false) → lateF P ops ms m l = none
  | [], m, _ => rfl
  | o :: r, m, h => by
    unfold lateF
    rw [h o List.mem_cons_self]
    exact lateF_none r (m + 1) fun x hx => h x (List.mem_cons_of_mem _ hx)
theorem lateOf_none {P : Program} {ops : Array Oper} (h : ∀ o ∈ ops.toList, isMM o = false) : lateOf P ops = ops := by
  unfold lateOf
  rw [lateF_none _ _ h]

theorem late_wp {P : Program} {env : Env} (henv : EnvOK P env) (hmix : P.follows .mixedOrders = true) {id : Nat} {ops : Array Oper} {N : Nat} (hd : drawOk P (lateOf P ops) = true) {Q : Exit → Act → World → Prop} {ρ : Ren} {s : St} {f : T4 AV} {a : Act} {w : World}
    (h : SR ρ s w) (hf : AR P ρ N f s a) (hq : QOf P ρ w N (execC P N env (lateOf P ops) (planOf P (lateOf P ops)) f s []) Q) : (Code.region id ops true).wp P Q a w :=
  wp_region_any hmix (lateOf_any (draw_any henv hmix hd h hf hq))

end Go.Eng
