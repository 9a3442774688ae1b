/-
  Objects that are no rows of cells (iterators, maps): made and set; a block that is touched no more.
-/
import Derived.Test.YtomcadipdacanaaGreatDoorEngC
namespace Go.Eng
open Go
set_option linter.unusedVariables false

/-- the renaming with one object more -/
def Ren.withObj (ρ : Ren) (m b : Nat) : Ren := { blk := ρ.blk, obj := fun m' => if m' = m then some b else ρ.obj m', gh := ρ.gh, st := ρ.st }

theorem SR.newOb {ρ : Ren} {s : St} {w : World} (h : SR ρ s w) (ob : AOb) (o : Obj) (hob : isOb ob = true) (hok : ObOK ρ ob o) :
    ∃ ρ', ρ'.obj s.next = some w.heap.size ∧ Ext w ρ ρ' ∧ Keeps ρ w (w.alloc o) ∧ SR ρ' ⟨s.heap.put s.next ob, s.next + 1, s.ds, s.raw⟩ (w.alloc o) := by
  have hobj : ∀ m b, (ρ.withObj s.next w.heap.size).obj m = some b → (m = s.next ∧ b = w.heap.size) ∨ (m ≠ s.next ∧ ρ.obj m = some b) := by
    intro m b hm
    change (if m = s.next then some w.heap.size else ρ.obj m) = some b at hm
    by_cases he : m = s.next
    · rw [if_pos he] at hm; cases hm; exact .inl ⟨he, rfl⟩
    · rw [if_neg he] at hm; exact .inr ⟨he, hm⟩
  have hself : (ρ.withObj s.next w.heap.size).obj s.next = some w.heap.size := if_pos rfl
  have hkeep : ∀ m b, ρ.obj m = some b → (ρ.withObj s.next w.heap.size).obj m = some b := by
    intro m b hm
    show (if m = s.next then some w.heap.size else ρ.obj m) = some b
    rw [if_neg (by have := (h.objdom _ _ hm).1; omega)]
    exact hm
  have hle : ρ.le (ρ.withObj s.next w.heap.size) := ⟨⟨fun _ _ _ x => x, hkeep, fun _ _ x => x⟩, fun _ _ x => x⟩
  have hold : ∀ b, b < w.heap.size → (w.alloc o).heap[b]? = w.heap[b]? := fun b hb => heap_alloc_old w _ b hb
  have hkeeps : Keeps ρ w (w.alloc o) := ⟨by rw [size_alloc]; exact Nat.le_succ _, rfl, rfl, rfl, fun b hb _ => hold b hb⟩
  have hext : Ext w ρ (ρ.withObj s.next w.heap.size) := by
    refine ⟨hle, ?_⟩
    intro b hb
    refine Classical.byContradiction fun hn => hb ⟨fun A e l' hl he => ?_, fun m hm => ?_⟩
    · have hf : ρ.free b := Classical.byContradiction fun x => hn (.inl x)
      exact hf.1 A e l' hl he
    · have hf : ρ.free b := Classical.byContradiction fun x => hn (.inl x)
      have hlt : ¬ w.heap.size ≤ b := fun x => hn (.inr x)
      rcases hobj m b hm with ⟨_, rfl⟩ | ⟨_, x⟩
      · exact hlt (Nat.le_refl _)
      · exact hf.2 m x
  refine ⟨ρ.withObj s.next w.heap.size, hself, hext, hkeeps, ?_⟩
  · constructor
    · intro A el n cs lo hi hat e h0 h1
      change (s.heap.put s.next _).at_ A = _ at hat
      rw [T4.at_put] at hat
      by_cases hA : A = s.next
      · rw [if_pos hA] at hat; cases hat; cases hob
      · rw [if_neg hA] at hat
        obtain ⟨l', a1, a2, a3, a4⟩ := h.blks A el n cs lo hi hat e h0 h1
        exact ⟨l', a1, a2, a3, a4.mono hle (hold _ (h.dom _ _ _ a1).2)⟩
    · intro A e l' hl
      exact ⟨Nat.lt_succ_of_lt (h.dom _ _ _ hl).1, by rw [size_alloc]; exact Nat.lt_succ_of_lt (h.dom _ _ _ hl).2⟩
    · intro A e l' hl el n cs lo hi hat
      change (s.heap.put s.next _).at_ A = _ at hat
      rw [T4.at_put, if_neg (by have := (h.dom _ _ _ hl).1; omega)] at hat
      exact h.top _ _ _ hl _ _ _ _ _ hat
    · exact h.inj
    · intro m b hm
      rcases hobj m b hm with ⟨rfl, rfl⟩ | ⟨_, x⟩
      · exact ⟨Nat.lt_succ_self _, by rw [size_alloc]; exact Nat.lt_succ_self _⟩
      · exact ⟨Nat.lt_succ_of_lt (h.objdom _ _ x).1, by rw [size_alloc]; exact Nat.lt_succ_of_lt (h.objdom _ _ x).2⟩
    · intro m b m' hm hm'
      rcases hobj m b hm with ⟨rfl, rfl⟩ | ⟨_, x⟩
      · rcases hobj m' _ hm' with ⟨rfl, _⟩ | ⟨_, y⟩
        · rfl
        · exact absurd (h.objdom _ _ y).2 (Nat.lt_irrefl _)
      · rcases hobj m' _ hm' with ⟨rfl, rfl⟩ | ⟨_, y⟩
        · exact absurd (h.objdom _ _ x).2 (Nat.lt_irrefl _)
        · exact h.objinj _ _ _ x y
    · intro A e l' m b hl hm hb
      rcases hobj m b hm with ⟨rfl, rfl⟩ | ⟨_, x⟩
      · have := (h.dom _ _ _ hl).2; omega
      · exact h.sep _ _ _ _ _ hl x hb
    · intro A hA
      have hA' : s.next + 1 ≤ A := hA
      show (s.heap.put s.next _).at_ A = none
      rw [T4.at_put, if_neg (by omega)]
      exact h.fresh A (by omega)
    · exact h.same
    · intro A e l' hl
      rw [hold _ (h.dom _ _ _ hl).2]
      exact h.rows _ _ _ hl
    · intro m ob' hat hob'
      change (s.heap.put s.next _).at_ m = _ at hat
      rw [T4.at_put] at hat
      by_cases hm : m = s.next
      · rw [if_pos hm] at hat
        cases hat
        subst hm
        exact ⟨_, o, hself, heap_alloc_new w _, hok.mono hle⟩
      · rw [if_neg hm] at hat
        obtain ⟨b, o', b1, b2, b3⟩ := h.objs m ob' hat hob'
        exact ⟨b, o', hkeep _ _ b1, by rw [hold _ (h.objdom _ _ b1).2]; exact b2, b3.mono hle⟩
    · exact h.zero
    · exact fun i n hi => Nat.lt_succ_of_lt (h.stdom i n hi)
    · exact h.rawStep hext hkeeps rfl

/-- an object set anew -/
theorem SR.setOb {ρ : Ren} {s : St} {w : World} (h : SR ρ s w) {m b : Nat} {ob0 : AOb} (hm : s.heap.at_ m = some ob0) (hb : ρ.obj m = some b) (ob : AOb) (o : Obj) (hob : isOb ob = true) (hok : ObOK ρ ob o) :
    Keeps ρ w { w with heap := w.heap.setIfInBounds b o } ∧ SR ρ ⟨s.heap.put m ob, s.next, s.ds, s.raw⟩ { w with heap := w.heap.setIfInBounds b o } := by
  have hlt := (h.objdom _ _ hb).2
  have hne : ∀ b', b' ≠ b → (w.heap.setIfInBounds b o)[b']? = w.heap[b']? := fun b' x => Array.getElem?_setIfInBounds_ne (fun e => x e.symm)
  have hkeeps : Keeps ρ w { w with heap := w.heap.setIfInBounds b o } := ⟨by simp, rfl, rfl, rfl, fun b' _ hf => hne b' fun e => hf.2 m (e ▸ hb)⟩
  refine ⟨hkeeps, ?_⟩
  have hblk : ∀ A e l', ρ.blk A e = some l' → (w.heap.setIfInBounds b o)[l'.blk]? = w.heap[l'.blk]? := fun A e l' hl => hne _ (h.sep _ _ _ _ _ hl hb)
  constructor
  · intro A el n cs lo hi hat e h0 h1
    change (s.heap.put m _).at_ A = _ at hat
    rw [T4.at_put] at hat
    by_cases hA : A = m
    · rw [if_pos hA] at hat; cases hat; cases hob
    · rw [if_neg hA] at hat
      obtain ⟨l', a1, a2, a3, a4⟩ := h.blks A el n cs lo hi hat e h0 h1
      exact ⟨l', a1, a2, a3, a4.mono ρ.le_refl (hblk _ _ _ a1)⟩
  · intro A e l' hl
    exact ⟨(h.dom _ _ _ hl).1, by simpa using (h.dom _ _ _ hl).2⟩
  · intro A e l' hl el n cs lo hi hat
    change (s.heap.put m _).at_ A = _ at hat
    rw [T4.at_put] at hat
    by_cases hA : A = m
    · rw [if_pos hA] at hat; cases hat; cases hob
    · rw [if_neg hA] at hat
      exact h.top _ _ _ hl _ _ _ _ _ hat
  · exact h.inj
  · intro m' b' hm'
    exact ⟨(h.objdom _ _ hm').1, by simpa using (h.objdom _ _ hm').2⟩
  · exact h.objinj
  · exact h.sep
  · intro A hA
    show (s.heap.put m _).at_ A = none
    rw [T4.at_put, if_neg (by have := (h.objdom _ _ hb).1; have hA' : s.next ≤ A := hA; omega)]
    exact h.fresh A hA
  · exact h.same
  · intro A e l' hl
    obtain ⟨c, el, fr, hc, hz⟩ := h.rows _ _ _ hl
    exact ⟨c, el, fr, (hblk _ _ _ hl).trans hc, hz⟩
  · intro m' ob' hat hob'
    change (s.heap.put m _).at_ m' = _ at hat
    rw [T4.at_put] at hat
    by_cases hA : m' = m
    · rw [if_pos hA] at hat
      cases hat
      subst hA
      exact ⟨b, o, hb, by show (w.heap.setIfInBounds b _)[b]? = _; rw [Array.getElem?_setIfInBounds_self_of_lt hlt], hok⟩
    · rw [if_neg hA] at hat
      obtain ⟨b', o', b1, b2, b3⟩ := h.objs m' ob' hat hob'
      exact ⟨b', o', b1, (hne b' fun e => hA (h.objinj m' b m (e ▸ b1) hb)).trans b2, b3⟩
  · exact h.zero
  · exact h.stdom
  · exact h.rawStep (Ext.refl w ρ) hkeeps rfl

theorem freeze_size (w : World) (a : Addr) (n : Nat) : (w.freeze a n).heap.size = w.heap.size := by
  unfold World.freeze; split
  · rfl
  · simp
theorem freeze_other (w : World) (a : Addr) (n b : Nat) (h : b ≠ a.block) : (w.freeze a n).heap[b]? = w.heap[b]? := by
  unfold World.freeze; split
  · rfl
  · simp only [Array.getElem?_modify]
    rw [if_neg (fun e => h e.symm)]
theorem freeze_cells (w : World) (a : Addr) (n : Nat) (c : Array Value) (el : TypeId) (fr : Nat × Nat) (h : w.heap[a.block]? = some (.cells c el fr)) :
    ∃ fr', (w.freeze a n).heap[a.block]? = some (.cells c el fr') := by
  unfold World.freeze; split
  · exact ⟨fr, h⟩
  · simp only [Array.getElem?_modify, if_true, h, Option.map_some]
    exact ⟨_, rfl⟩

/-- bytes that a text shares from here on: the block is touched no more -/
theorem SR.kill {ρ : Ren} {s : St} {w : World} (h : SR ρ s w) {A e : Nat} {l : Loc} (hl : ρ.blk A e = some l) (hfz : l.fz = true) (a : Addr) (ha : a.block = l.blk) (n : Nat) :
    Keeps ρ w (w.freeze a n) ∧ SR ρ ⟨s.heap.put A .dead, s.next, s.ds, s.raw⟩ (w.freeze a n) := by
  have hother : ∀ b, b ≠ l.blk → (w.freeze a n).heap[b]? = w.heap[b]? := fun b hb => freeze_other w a n b (by rw [ha]; exact hb)
  have hk : Keeps ρ w (w.freeze a n) := by
    refine ⟨by rw [freeze_size]; exact Nat.le_refl _, ?_, ?_, ?_, fun b _ hf => hother b fun e => hf.1 _ _ _ hl e.symm⟩ <;> (unfold World.freeze; split <;> rfl)
  refine ⟨hk, ?_⟩
  constructor
  · intro A' el n' cs lo hi hat e' h0 h1
    change (s.heap.put A _).at_ A' = _ at hat
    rw [T4.at_put] at hat
    by_cases hA : A' = A
    · rw [if_pos hA] at hat; cases hat
    · rw [if_neg hA] at hat
      obtain ⟨l', a1, a2, a3, a4⟩ := h.blks A' el n' cs lo hi hat e' h0 h1
      exact ⟨l', a1, a2, a3, a4.mono ρ.le_refl (hother _ fun e => hA (h.inj _ _ _ _ _ _ a1 hl e))⟩
  · intro A' e' l' hl'
    exact ⟨(h.dom _ _ _ hl').1, by rw [freeze_size]; exact (h.dom _ _ _ hl').2⟩
  · intro A' e' l' hl' el n' cs lo hi hat
    change (s.heap.put A _).at_ A' = _ at hat
    rw [T4.at_put] at hat
    by_cases hA : A' = A
    · rw [if_pos hA] at hat; cases hat
    · rw [if_neg hA] at hat
      exact h.top _ _ _ hl' _ _ _ _ _ hat
  · exact h.inj
  · intro m' b' hm'
    exact ⟨(h.objdom _ _ hm').1, by rw [freeze_size]; exact (h.objdom _ _ hm').2⟩
  · exact h.objinj
  · exact h.sep
  · intro A' hA'
    have hA'' : s.next ≤ A' := hA'
    show (s.heap.put A _).at_ A' = none
    rw [T4.at_put, if_neg (by have := (h.dom _ _ _ hl).1; omega)]
    exact h.fresh A' hA''
  · exact h.same
  · intro A' e' l' hl'
    obtain ⟨c, el, fr, hc, hz, hsz⟩ := h.rows _ _ _ hl'
    by_cases hb : l'.blk = l.blk
    · obtain ⟨fr', hfr⟩ := freeze_cells w a n c el fr (by rw [ha, ← hb]; exact hc)
      refine ⟨c, el, fr', by rw [hb, ← ha]; exact hfr, fun hz' => ?_, hsz⟩
      have hAA := h.inj _ _ _ _ _ _ hl' hl hb
      subst hAA
      rw [(h.same _ _ _ _ _ hl' hl hb).2.2, hfz] at hz'
      cases hz'
    · exact ⟨c, el, fr, (hother _ hb).trans hc, hz, hsz⟩
  · intro m' ob' hat hob'
    change (s.heap.put A _).at_ m' = _ at hat
    rw [T4.at_put] at hat
    by_cases hA : m' = A
    · rw [if_pos hA] at hat; cases hat; cases hob'
    · rw [if_neg hA] at hat
      obtain ⟨b', o', b1, b2, b3⟩ := h.objs m' ob' hat hob'
      exact ⟨b', o', b1, (hother _ fun e => h.sep _ _ _ _ _ hl b1 e.symm).trans b2, b3⟩
  · exact h.zero
  · exact h.stdom
  · exact h.rawStep (Ext.refl w ρ) hk rfl

end Go.Eng
