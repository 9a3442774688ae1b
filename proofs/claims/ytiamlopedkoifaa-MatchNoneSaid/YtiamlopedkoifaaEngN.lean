/-
  A region that draws its order: what the abstract interpreter tells in the text's order is told in each order that the region's edges allow.
-/
import Derived.Test.YtiamlopedkoifaaEngM
namespace Go.Eng
open Go
set_option linter.unusedVariables false

/-! ## what drawOk says -/

theorem maskOf_bit (acc : List Nat) : ∀ (l : List Edge) (j : Nat), (maskOf acc l).testBit j = true → ∃ e ∈ l, Region.binds .any e = true ∧ (j = e.on ∨ (acc.getD e.on 0).testBit j = true)
  | [], j, h => by simp [maskOf] at h
  | e :: r, j, h => by
    unfold maskOf at h
    cases hb : Region.binds .any e with
    | false =>
      rw [hb] at h
      obtain ⟨e', h1, h2⟩ := maskOf_bit acc r j h
      exact ⟨e', List.mem_cons_of_mem _ h1, h2⟩
    | true =>
      rw [hb] at h
      change (((2 ^ e.on) ||| (acc.getD e.on 0)) ||| (maskOf acc r)).testBit j = true at h
      rw [Nat.testBit_or, Nat.testBit_or, Bool.or_eq_true, Bool.or_eq_true] at h
      rcases h with (h | h) | h
      · refine ⟨e, List.mem_cons_self, hb, .inl ?_⟩
        rw [Nat.testBit_two_pow] at h
        simpa using (of_decide_eq_true h).symm
      · exact ⟨e, List.mem_cons_self, hb, .inr h⟩
      · obtain ⟨e', h1, h2⟩ := maskOf_bit acc r j h
        exact ⟨e', List.mem_cons_of_mem _ h1, h2⟩

theorem masksF_length : ∀ (l : List Oper) (acc : List Nat), (masksF acc l).length = acc.length + l.length
  | [], acc => rfl
  | o :: r, acc => by rw [masksF, masksF_length r]; simp; omega

theorem masksF_get : ∀ (l : List Oper) (acc : List Nat), (∀ i, i < acc.length → (masksF acc l).getD i 0 = acc.getD i 0) ∧
    ∀ i o, l[i]? = some o → ∃ acc', acc'.length = acc.length + i ∧ (∀ k, k < acc'.length → acc'.getD k 0 = (masksF acc l).getD k 0) ∧ (masksF acc l).getD (acc.length + i) 0 = maskOf acc' o.after.toList
  | [], acc => ⟨fun i h => rfl, fun i o h => by simp at h⟩
  | o :: r, acc => by
    obtain ⟨h1, h2⟩ := masksF_get r (acc ++ [maskOf acc o.after.toList])
    have h1' : ∀ i, i < acc.length → (masksF acc (o :: r)).getD i 0 = acc.getD i 0 := by
      intro i hi
      rw [masksF, h1 i (by simp; omega), List.getD_eq_getElem?_getD, List.getElem?_append_left hi, ← List.getD_eq_getElem?_getD]
    refine ⟨h1', fun i p hp => ?_⟩
    cases i with
    | zero =>
      simp at hp; subst hp
      refine ⟨acc, rfl, fun k hk => (h1' k hk).symm, ?_⟩
      rw [masksF, Nat.add_zero, h1 acc.length (by simp)]
      simp
    | succ i =>
      obtain ⟨acc', a1, a2, a3⟩ := h2 i p (by simpa using hp)
      refine ⟨acc', by rw [a1]; simp; omega, a2, ?_⟩
      rw [masksF]
      have e : acc.length + (i + 1) = (acc ++ [maskOf acc o.after.toList]).length + i := by simp; omega
      rw [e]; exact a3

/-- whom an operation waits for -/
def Waits (ops : Array Oper) (i j : Nat) : Prop := ((masks ops).getD i 0).testBit j = true

theorem waits_edge {ops : Array Oper} {i j : Nat} {o : Oper} (ho : ops.toList[i]? = some o) (h : Waits ops i j) (hed : edgesOk i o = true) : ∃ e ∈ o.after.toList, Region.binds .any e = true ∧ (j = e.on ∨ Waits ops e.on j) := by
  obtain ⟨_, h2⟩ := masksF_get ops.toList []
  obtain ⟨acc', a1, a2, a3⟩ := h2 i o ho
  unfold Waits masks at h
  rw [show i = ([] : List Nat).length + i by simp, a3] at h
  obtain ⟨e, e1, e2, e3⟩ := maskOf_bit acc' _ j h
  refine ⟨e, e1, e2, e3.imp id fun hb => ?_⟩
  have hlt : e.on < i := by
    unfold edgesOk at hed
    have := List.all_eq_true.1 hed e e1
    rw [e2] at this
    exact blt (by simpa using this)
  unfold Waits masks
  rw [← a2 e.on (by rw [a1]; simpa using hlt)]
  exact hb

theorem rowOk_get (ops : Array Oper) (m cj : Nat) : ∀ (l : List Oper) (k i : Nat) (o : Oper), rowOk ops m cj k l = true → l[i]? = some o → m.testBit (k + i) = true ∨ pairOk (cls o.op) cj = true
  | [], k, i, o, h, ho => by simp at ho
  | p :: r, k, 0, o, h, ho => by
    simp at ho; subst ho
    unfold rowOk at h
    rw [Bool.and_eq_true, Bool.or_eq_true] at h
    simpa using h.1
  | p :: r, k, i + 1, o, h, ho => by
    unfold rowOk at h
    rw [Bool.and_eq_true] at h
    have := rowOk_get ops m cj r (k + 1) i o h.2 (by simpa using ho)
    rw [show k + 1 + i = k + (i + 1) by omega] at this
    exact this

theorem writersOk_get (m : Nat) (ts : List Tmp) : ∀ (l : List Oper) (k i : Nat) (o : Oper) (d : Nat), writersOk m ts k l = true → l[i]? = some o → o.dst = some d → d ∈ ts → m.testBit (k + i) = true
  | [], k, i, o, d, h, ho, hd, ht => by simp at ho
  | p :: r, k, 0, o, d, h, ho, hd, ht => by
    simp at ho; subst ho
    unfold writersOk at h
    rw [hd, Bool.and_eq_true] at h
    have := h.1
    dsimp only at this
    rw [Bool.or_eq_true] at this
    rcases this with x | x
    · simp [ht] at x
    · simpa using x
  | p :: r, k, i + 1, o, d, h, ho, hd, ht => by
    unfold writersOk at h
    rw [Bool.and_eq_true] at h
    have := writersOk_get m ts r (k + 1) i o d h.2 (by simpa using ho) hd ht
    rw [show k + 1 + i = k + (i + 1) by omega] at this
    exact this

theorem dstsOk_get : ∀ (l : List Oper) (i j : Nat) (o p : Oper) (d : Nat), dstsOk l = true → l[i]? = some o → l[j]? = some p → o.dst = some d → p.dst = some d → i = j
  | [], i, j, o, p, d, h, ho, hp, _, _ => by simp at ho
  | q :: r, 0, 0, o, p, d, h, ho, hp, _, _ => rfl
  | q :: r, 0, j + 1, o, p, d, h, ho, hp, h1, h2 => by
    exfalso
    simp at ho hp; subst ho
    unfold dstsOk at h
    rw [h1, Bool.and_eq_true] at h
    have := List.all_eq_true.1 h.1 p (List.mem_of_getElem? hp)
    simp [h2] at this
  | q :: r, i + 1, 0, o, p, d, h, ho, hp, h1, h2 => by
    exfalso
    simp at ho hp; subst hp
    unfold dstsOk at h
    rw [h2, Bool.and_eq_true] at h
    have := List.all_eq_true.1 h.1 o (List.mem_of_getElem? ho)
    simp [h1] at this
  | q :: r, i + 1, j + 1, o, p, d, h, ho, hp, h1, h2 => by
    unfold dstsOk at h
    rw [Bool.and_eq_true] at h
    rw [dstsOk_get r i j o p d h.2 (by simpa using ho) (by simpa using hp) h1 h2]

structure DrawOK (ops : Array Oper) : Prop where
  edges : ∀ (i : Nat) (o : Oper), ops.toList[i]? = some o → edgesOk i o = true
  pairs : ∀ (i j : Nat) (o p : Oper), i < j → ops.toList[i]? = some o → ops.toList[j]? = some p → Waits ops j i ∨ pairOk (cls o.op) (cls p.op) = true
  writers : ∀ (i j : Nat) (o p : Oper) (d : Tmp), ops.toList[i]? = some o → ops.toList[j]? = some p → o.dst = some d → d ∈ looks ops p → Waits ops j i
  dsts : ∀ (i j : Nat) (o p : Oper) (d : Tmp), ops.toList[i]? = some o → ops.toList[j]? = some p → o.dst = some d → p.dst = some d → i = j

theorem drawRows_get {ops : Array Oper} (ms : List Nat) : ∀ (l : List Oper) (k i : Nat) (o : Oper), drawRows ops ms k l = true → l[i]? = some o →
    edgesOk (k + i) o = true ∧ rowOk ops (ms.getD (k + i) 0) (cls o.op) 0 (ops.toList.take (k + i)) = true ∧ writersOk (ms.getD (k + i) 0) (looks ops o) 0 ops.toList = true
  | [], k, i, o, h, ho => by simp at ho
  | p :: r, k, 0, o, h, ho => by
    simp at ho; subst ho
    unfold drawRows at h
    simp only [Bool.and_eq_true] at h
    exact ⟨h.1.1, h.1.2.1, h.1.2.2⟩
  | p :: r, k, i + 1, o, h, ho => by
    unfold drawRows at h
    rw [Bool.and_eq_true] at h
    have := drawRows_get ms r (k + 1) i o h.2 (by simpa using ho)
    rw [show k + 1 + i = k + (i + 1) by omega] at this
    exact this

theorem drawOk_ok {ops : Array Oper} (h : drawOk ops = true) : DrawOK ops := by
  unfold drawOk at h
  rw [Bool.and_eq_true] at h
  have rows := fun i o ho => drawRows_get (ops := ops) (masks ops) ops.toList 0 i o h.2 ho
  refine ⟨fun i o ho => ?_, fun i j o p hij ho hp => ?_, fun i j o p d ho hp hd ht => ?_, fun i j o p d ho hp h1 h2 => dstsOk_get _ i j o p d h.1 ho hp h1 h2⟩
  · have := (rows i o ho).1; rwa [Nat.zero_add] at this
  · have := (rows j p hp).2.1
    rw [Nat.zero_add] at this
    have := rowOk_get ops _ _ _ 0 i o this (by rw [List.getElem?_take, if_pos hij]; exact ho)
    rw [Nat.zero_add] at this
    exact this
  · have := (rows j p hp).2.2
    rw [Nat.zero_add] at this
    have := writersOk_get _ _ _ 0 i o d this ho hd ht
    rw [Nat.zero_add] at this
    exact this

end Go.Eng
