/-
  A region that draws its order: what the abstract interpreter tells in the text's order is told in each order that the region's edges allow.
-/
import Derived.Test.YtomcadipdacanaaGreatDoorEngL
namespace Go.Eng
open Go
set_option linter.unusedVariables false

/-! ## what drawOk says -/

theorem maskOf_bit (acc : List Nat) : ∀ (l : List Edge) (j : Nat), (maskOf acc l).testBit j = true → ∃ e ∈ l, Region.binds .any e = true ∧ (j = e.on ∨ (acc.getD e.on 0).testBit j = true)
  | [], j, h => by simp [maskOf] at h
  | e :: r, j, h => by
    unfold maskOf at h
    cases hb : Region.binds .any e with
    | false =>
      rw [hb] at h
      obtain ⟨e', h1, h2⟩ := maskOf_bit acc r j h
      exact ⟨e', List.mem_cons_of_mem _ h1, h2⟩
    | true =>
      rw [hb] at h
      change (((2 ^ e.on) ||| (acc.getD e.on 0)) ||| (maskOf acc r)).testBit j = true at h
      rw [Nat.testBit_or, Nat.testBit_or, Bool.or_eq_true, Bool.or_eq_true] at h
      rcases h with (h | h) | h
      · refine ⟨e, List.mem_cons_self, hb, .inl ?_⟩
        rw [Nat.testBit_two_pow] at h
        simpa using (of_decide_eq_true h).symm
      · exact ⟨e, List.mem_cons_self, hb, .inr h⟩
      · obtain ⟨e', h1, h2⟩ := maskOf_bit acc r j h
        exact ⟨e', List.mem_cons_of_mem _ h1, h2⟩

theorem masksF_length : ∀ (l : List Oper) (acc : List Nat), (masksF acc l).length = acc.length + l.length
  | [], acc => rfl
  | o :: r, acc => by rw [masksF, masksF_length r]; simp; omega

theorem masksF_get : ∀ (l : List Oper) (acc : List Nat), (∀ i, i < acc.length → (masksF acc l).getD i 0 = acc.getD i 0) ∧
    ∀ i o, l[i]? = some o → ∃ acc', acc'.length = acc.length + i ∧ (∀ k, k < acc'.length → acc'.getD k 0 = (masksF acc l).getD k 0) ∧ (masksF acc l).getD (acc.length + i) 0 = maskOf acc' o.after.toList
  | [], acc => ⟨fun i h => rfl, fun i o h => by simp at h⟩
  | o :: r, acc => by
    obtain ⟨h1, h2⟩ := masksF_get r (acc ++ [maskOf acc o.after.toList])
    have h1' : ∀ i, i < acc.length → (masksF acc (o :: r)).getD i 0 = acc.getD i 0 := by
      intro i hi
      rw [masksF, h1 i (by simp; omega), List.getD_eq_getElem?_getD, List.getElem?_append_left hi, ← List.getD_eq_getElem?_getD]
    refine ⟨h1', fun i p hp => ?_⟩
    cases i with
    | zero =>
      simp at hp; subst hp
      refine ⟨acc, rfl, fun k hk => (h1' k hk).symm, ?_⟩
      rw [masksF, Nat.add_zero, h1 acc.length (by simp)]
      simp
    | succ i =>
      obtain ⟨acc', a1, a2, a3⟩ := h2 i p (by simpa using hp)
      refine ⟨acc', by rw [a1]; simp; omega, a2, ?_⟩
      rw [masksF]
      have e : acc.length + (i + 1) = (acc ++ [maskOf acc o.after.toList]).length + i := by simp; omega
      rw [e]; exact a3

/-- whom an operation waits for -/
def Waits (ops : Array Oper) (i j : Nat) : Prop := ((masks ops).getD i 0).testBit j = true

theorem waits_edge {ops : Array Oper} {i j : Nat} {o : Oper} (ho : ops.toList[i]? = some o) (h : Waits ops i j) (hed : edgesOk i o = true) : ∃ e ∈ o.after.toList, Region.binds .any e = true ∧ (j = e.on ∨ Waits ops e.on j) := by
  obtain ⟨_, h2⟩ := masksF_get ops.toList []
  obtain ⟨acc', a1, a2, a3⟩ := h2 i o ho
  unfold Waits masks at h
  rw [show i = ([] : List Nat).length + i by simp, a3] at h
  obtain ⟨e, e1, e2, e3⟩ := maskOf_bit acc' _ j h
  refine ⟨e, e1, e2, e3.imp id fun hb => ?_⟩
  have hlt : e.on < i := by
    unfold edgesOk at hed
    have := List.all_eq_true.1 hed e e1
    rw [e2] at this
    exact blt (by simpa using this)
  unfold Waits masks
  rw [← a2 e.on (by rw [a1]; simpa using hlt)]
  exact hb

theorem rowOk_get {P : Program} (ops : Array Oper) (ms : List Nat) (m cj j : Nat) (p : Oper) : ∀ (l : List Oper) (k i : Nat) (o : Oper), rowOk P ops ms m cj j p k l = true → l[i]? = some o → m.testBit (k + i) = true ∨ pairOk2 (cls P o.op) cj = true ∨ swapOk P ops m (k + i) j o p = true ∨ newOk P ops ms (k + i) j o p = true
  | [], k, i, o, h, ho => by simp at ho
  | q :: r, k, 0, o, h, ho => by
    simp at ho; subst ho
    unfold rowOk at h
    rw [Bool.and_eq_true, Bool.or_eq_true, Bool.or_eq_true, Bool.or_eq_true] at h
    simpa using h.1
  | q :: r, k, i + 1, o, h, ho => by
    unfold rowOk at h
    rw [Bool.and_eq_true] at h
    have := rowOk_get ops ms m cj j p r (k + 1) i o h.2 (by simpa using ho)
    rw [show k + 1 + i = k + (i + 1) by omega] at this
    exact this

theorem writersOk_get (ms : List Nat) (j cj m : Nat) (ts : List Tmp) : ∀ (l : List Oper) (k i : Nat) (o : Oper) (d : Nat), writersOk ms j cj m ts k l = true → l[i]? = some o → o.dst = some d → d ∈ ts → m.testBit (k + i) = true ∨ (cj = 0 ∧ (ms.getD (k + i) 0).testBit j = true)
  | [], k, i, o, d, h, ho, hd, ht => by simp at ho
  | p :: r, k, 0, o, d, h, ho, hd, ht => by
    simp at ho; subst ho
    unfold writersOk at h
    rw [hd, Bool.and_eq_true] at h
    have := h.1
    dsimp only at this
    rw [Bool.or_eq_true, Bool.or_eq_true, Bool.and_eq_true] at this
    rcases this with x | x | ⟨x, y⟩
    · simp [ht] at x
    · left; simpa using x
    · right; exact ⟨Nat.eq_of_beq_eq_true x, by simpa using y⟩
  | p :: r, k, i + 1, o, d, h, ho, hd, ht => by
    unfold writersOk at h
    rw [Bool.and_eq_true] at h
    have := writersOk_get ms j cj m ts r (k + 1) i o d h.2 (by simpa using ho) hd ht
    rw [show k + 1 + i = k + (i + 1) by omega] at this
    exact this

theorem restOk_get {P : Program} (m i : Nat) : ∀ (l : List Oper) (n k : Nat) (o : Oper), restOk P m i n l = true → l[k]? = some o → n + k ≠ i → cls P o.op ≠ 0 → m.testBit (n + k) = true
  | [], n, k, o, h, ho, _, _ => by simp at ho
  | p :: r, n, 0, o, h, ho, hne, hc => by
    simp at ho; subst ho
    unfold restOk at h
    rw [Bool.and_eq_true, Bool.or_eq_true, Bool.or_eq_true] at h
    rcases h.1 with x | x | x
    · exact absurd (Nat.eq_of_beq_eq_true x) (by simpa using hne)
    · exact absurd (Nat.eq_of_beq_eq_true x) hc
    · simpa using x
  | p :: r, n, k + 1, o, h, ho, hne, hc => by
    unfold restOk at h
    rw [Bool.and_eq_true] at h
    have := restOk_get m i r (n + 1) k o h.2 (by simpa using ho) (by omega) hc
    rw [show n + 1 + k = n + (k + 1) by omega] at this
    exact this

/-- two stores that may go either way, the second one the region's last operation -/
structure Swap (P : Program) (ops : Array Oper) (i j : Nat) (o p : Oper) : Prop where
  last : j + 1 = ops.size
  st1 : isSt o = true
  st2 : isSt p = true
  rest : ∀ (k : Nat) (q : Oper), k < j → k ≠ i → ops.toList[k]? = some q → cls P q.op ≠ 0 → Waits ops j k

theorem swapOk_ok {P : Program} {ops : Array Oper} {i j : Nat} {o p : Oper} (h : swapOk P ops ((masks ops).getD j 0) i j o p = true) : Swap P ops i j o p := by
  unfold swapOk at h
  rw [Bool.and_eq_true, Bool.and_eq_true, Bool.and_eq_true] at h
  refine ⟨Nat.eq_of_beq_eq_true h.1, h.2.1.1, h.2.1.2, fun k q hk hne hq hc => ?_⟩
  have := restOk_get _ i _ 0 k q h.2.2 (by rw [List.getElem?_take, if_pos hk]; exact hq) (by omega) hc
  rwa [Nat.zero_add] at this

theorem dstsOk_get : ∀ (l : List Oper) (i j : Nat) (o p : Oper) (d : Nat), dstsOk l = true → l[i]? = some o → l[j]? = some p → o.dst = some d → p.dst = some d → i = j
  | [], i, j, o, p, d, h, ho, hp, _, _ => by simp at ho
  | q :: r, 0, 0, o, p, d, h, ho, hp, _, _ => rfl
  | q :: r, 0, j + 1, o, p, d, h, ho, hp, h1, h2 => by
    exfalso
    simp at ho hp; subst ho
    unfold dstsOk at h
    rw [h1, Bool.and_eq_true] at h
    have := List.all_eq_true.1 h.1 p (List.mem_of_getElem? hp)
    simp [h2] at this
  | q :: r, i + 1, 0, o, p, d, h, ho, hp, h1, h2 => by
    exfalso
    simp at ho hp; subst hp
    unfold dstsOk at h
    rw [h2, Bool.and_eq_true] at h
    have := List.all_eq_true.1 h.1 o (List.mem_of_getElem? ho)
    simp [h1] at this
  | q :: r, i + 1, j + 1, o, p, d, h, ho, hp, h1, h2 => by
    unfold dstsOk at h
    rw [Bool.and_eq_true] at h
    rw [dstsOk_get r i j o p d h.2 (by simpa using ho) (by simpa using hp) h1 h2]

theorem restOk_of {P : Program} (m i : Nat) : ∀ (l : List Oper) (n : Nat), (∀ (k : Nat) (o : Oper), l[k]? = some o → n + k ≠ i → cls P o.op ≠ 0 → m.testBit (n + k) = true) → restOk P m i n l = true
  | [], n, _ => rfl
  | p :: r, n, h => by
    unfold restOk
    rw [Bool.and_eq_true, Bool.or_eq_true, Bool.or_eq_true]
    refine ⟨?_, restOk_of m i r (n + 1) fun k o ho hne hc => ?_⟩
    · by_cases h1 : n = i
      · left; rw [h1]; exact Nat.beq_refl i
      · by_cases h2 : cls P p.op = 0
        · right; left; rw [h2]; rfl
        · right; right
          have := h 0 p rfl (by omega) h2
          simpa using this
    · have := h (k + 1) o (by simpa using ho) (by omega) hc
      rw [show n + 1 + k = n + (k + 1) by omega]
      exact this
theorem swap_ok {P : Program} {ops : Array Oper} {i j : Nat} {o p : Oper} (h : Swap P ops i j o p) : swapOk P ops ((masks ops).getD j 0) i j o p = true := by
  unfold swapOk
  rw [Bool.and_eq_true, Bool.and_eq_true, Bool.and_eq_true]
  refine ⟨by rw [h.last]; exact Nat.beq_refl _, ⟨h.st1, h.st2⟩, restOk_of _ i _ 0 fun k q hq hne hc => ?_⟩
  rw [Nat.zero_add] at hne ⊢
  rw [List.getElem?_take] at hq
  split at hq
  · rename_i hk
    exact h.rest k q hk hne hq hc
  · cases hq

/-- new memory ahead of a change -/
structure New (P : Program) (ops : Array Oper) (k e : Nat) (o p : Oper) : Prop where
  bs : isBs p = true
  nst : isSt o = false
  ix : e = newIxF P ops (masks ops) 0 ops.toList
  follow : ∀ i, Waits ops i e → Waits ops i k

theorem followOk_get (k e : Nat) : ∀ (l : List Nat) (i : Nat), followOk k e l = true → (l.getD i 0).testBit e = true → (l.getD i 0).testBit k = true
  | [], i, _, h => by simp at h
  | m :: r, 0, h, hi => by
    unfold followOk at h
    rw [Bool.and_eq_true, Bool.or_eq_true] at h
    simp only [List.getD_cons_zero] at hi ⊢
    rcases h.1 with x | x
    · rw [hi] at x; cases x
    · exact x
  | m :: r, i + 1, h, hi => by
    unfold followOk at h
    rw [Bool.and_eq_true] at h
    simp only [List.getD_cons_succ] at hi ⊢
    exact followOk_get k e r i h.2 hi
theorem newOk_ok {P : Program} {ops : Array Oper} {k e : Nat} {o p : Oper} (h : newOk P ops (masks ops) k e o p = true) : New P ops k e o p := by
  unfold newOk at h
  rw [Bool.and_eq_true, Bool.and_eq_true, Bool.and_eq_true, Bool.not_eq_true'] at h
  exact ⟨h.1.1, h.1.2, Nat.eq_of_beq_eq_true h.2.1, fun i hi => followOk_get k e _ i h.2.2 hi⟩

structure DrawOK (P : Program) (ops : Array Oper) : Prop where
  edges : ∀ (i : Nat) (o : Oper), ops.toList[i]? = some o → edgesOk i o = true
  pairs : ∀ (i j : Nat) (o p : Oper), i < j → ops.toList[i]? = some o → ops.toList[j]? = some p → Waits ops j i ∨ pairOk2 (cls P o.op) (cls P p.op) = true ∨ Swap P ops i j o p ∨ New P ops i j o p
  writers : ∀ (i j : Nat) (o p : Oper) (d : Tmp), ops.toList[i]? = some o → ops.toList[j]? = some p → o.dst = some d → d ∈ looks ops p → Waits ops j i ∨ (cls P p.op = 0 ∧ Waits ops i j)
  dsts : ∀ (i j : Nat) (o p : Oper) (d : Tmp), ops.toList[i]? = some o → ops.toList[j]? = some p → o.dst = some d → p.dst = some d → i = j

theorem drawRows_get {P : Program} {ops : Array Oper} (ms : List Nat) : ∀ (l : List Oper) (k i : Nat) (o : Oper), drawRows P ops ms k l = true → l[i]? = some o →
    edgesOk (k + i) o = true ∧ rowOk P ops ms (ms.getD (k + i) 0) (cls P o.op) (k + i) o 0 (ops.toList.take (k + i)) = true ∧ writersOk ms (k + i) (cls P o.op) (ms.getD (k + i) 0) (looks ops o) 0 ops.toList = true
  | [], k, i, o, h, ho => by simp at ho
  | p :: r, k, 0, o, h, ho => by
    simp at ho; subst ho
    unfold drawRows at h
    simp only [Bool.and_eq_true] at h
    exact ⟨h.1.1, h.1.2.1, h.1.2.2⟩
  | p :: r, k, i + 1, o, h, ho => by
    unfold drawRows at h
    rw [Bool.and_eq_true] at h
    have := drawRows_get ms r (k + 1) i o h.2 (by simpa using ho)
    rw [show k + 1 + i = k + (i + 1) by omega] at this
    exact this

theorem drawOk_ok {P : Program} {ops : Array Oper} (h : drawOk P ops = true) : DrawOK P ops := by
  unfold drawOk at h
  rw [Bool.and_eq_true] at h
  have rows := fun i o ho => drawRows_get (ops := ops) (masks ops) ops.toList 0 i o h.2 ho
  refine ⟨fun i o ho => ?_, fun i j o p hij ho hp => ?_, fun i j o p d ho hp hd ht => ?_, fun i j o p d ho hp h1 h2 => dstsOk_get _ i j o p d h.1 ho hp h1 h2⟩
  · have := (rows i o ho).1; rwa [Nat.zero_add] at this
  · have := (rows j p hp).2.1
    rw [Nat.zero_add] at this
    have := rowOk_get ops _ _ _ _ _ _ 0 i o this (by rw [List.getElem?_take, if_pos hij]; exact ho)
    rw [Nat.zero_add] at this
    exact this.imp id (.imp id (.imp swapOk_ok newOk_ok))
  · have := (rows j p hp).2.2
    rw [Nat.zero_add] at this
    have := writersOk_get _ _ _ _ _ _ 0 i o d this ho hd ht
    rw [Nat.zero_add] at this
    exact this

end Go.Eng
