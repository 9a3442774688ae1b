/-
  What becomes of the relation between abstract heap and world, where one abstract block is made, written, appended to.
-/
import Derived.Test.YtomcadipdacanaaGreatDoorEngB
import Derived.Laws.Append
import Derived.Laws.AppendOwn
import Derived.Laws.CopyRow
namespace Go.Eng
open Go

theorem thawed0 (c : Array Value) : Thawed c (0, 0) := fun i _ h => Nat.not_lt_zero i h.2
theorem Thawed.resize {c c' : Array Value} {fr : Nat × Nat} (h : Thawed c fr) (hs : c'.size = c.size) : Thawed c' fr := fun i hi => h i (by omega)

theorem LocOK.mono {ρ ρ' : Ren} {l : Loc} {el : TypeId} {cs : T4 AV} {w w' : World} (hle : ρ.le ρ') (hw : w'.heap[l.blk]? = w.heap[l.blk]?) (h : LocOK ρ l el cs w) : LocOK ρ' l el cs w' := by
  obtain ⟨c, fr, h1, h2, h3, h4, h5, h6⟩ := h
  refine ⟨c, fr, hw.trans h1, h2, h3, h4, h5, fun i hi hj => ?_⟩
  obtain ⟨a, v, x, y, z⟩ := h6 i hi hj
  exact ⟨a, v, x, y, z.mono hle⟩

structure SameOut (w w' : World) : Prop where
  os : w'.os = w.os
  output : w'.output = w.output
  tape : w'.tape = w.tape

theorem SR.step {ρ ρ' : Ren} {s s' : St} {w w' : World} (h : SR ρ s w) (A : Nat) (el : TypeId) (n : Nat) (cs : T4 AV) (lo hi : Nat)
    (hle : ρ.le ρ') (hs' : s'.heap = s.heap.put A (.blk el n cs lo hi)) (hraw : s'.raw = s.raw) (hnext : s.next ≤ s'.next) (hA : A < s'.next) (hobj : ρ'.obj = ρ.obj) (hst : ρ'.st = ρ.st)
    (hsize : w.heap.size ≤ w'.heap.size) (hout : SameOut w w')
    (hold : ∀ b, b < w.heap.size → (∀ e l, ρ.blk A e = some l → l.blk ≠ b) → w'.heap[b]? = w.heap[b]?)
    (hnew : ∀ A' e l, ρ'.blk A' e = some l → ρ.blk A' e = some l ∨ (A' = A ∧ l.blk < w'.heap.size ∧ ((∃ e0 l0, ρ.blk A e0 = some l0 ∧ l0.blk = l.blk) ∨ w.heap.size ≤ l.blk)))
    (htop : ∀ e l, ρ'.blk A e = some l → e ≤ hi)
    (hsame : ∀ e l e' l', ρ'.blk A e = some l → ρ'.blk A e' = some l' → l.blk = l'.blk → l.base = l'.base ∧ l.start = l'.start ∧ l.fz = l'.fz)
    (hrows : ∀ e l, ρ'.blk A e = some l → ∃ c el fr, w'.heap[l.blk]? = some (.cells c el fr) ∧ (l.fz = false → fr = (0, 0)) ∧ c.size = l.size ∧ l.base + (l.stop - l.start) ≤ l.size)
    (hzero : ∀ l, ρ'.blk A 0 = some l → l.base = 0 ∧ l.start = 0)
    (hblk : ∀ e, lo ≤ e → e ≤ hi → ∃ l, ρ'.blk A e = some l ∧ l.stop ≤ n ∧ (e = hi → l.stop = n) ∧ LocOK ρ' l el cs w') :
    Ext w ρ ρ' ∧ Keeps ρ w w' ∧ SR ρ' s' w' := by
  have hext : Ext w ρ ρ' := by
    refine ⟨hle, ?_⟩
    intro b hb
    refine Classical.byContradiction fun hn => hb ⟨fun A' e l hl => ?_, fun m hm => ?_⟩
    · have hfree : ρ.free b := Classical.byContradiction fun x => hn (.inl x)
      have hlt : ¬ w.heap.size ≤ b := fun x => hn (.inr x)
      rcases hnew A' e l hl with x | ⟨rfl, _, ⟨e0, l0, x, y⟩ | x⟩
      · exact hfree.1 _ _ _ x
      · exact y ▸ hfree.1 _ _ _ x
      · intro y; omega
    · have hfree : ρ.free b := Classical.byContradiction fun x => hn (.inl x)
      exact hfree.2 m (hobj ▸ hm)
  have hkeeps : Keeps ρ w w' := ⟨hsize, hout.os, hout.output, hout.tape, fun b hb hf => hold b hb (fun e l hl => hf.1 A e l hl)⟩
  refine ⟨hext, hkeeps, ?_⟩
  · have holdA : ∀ A' e l, A' ≠ A → ρ.blk A' e = some l → w'.heap[l.blk]? = w.heap[l.blk]? := fun A' e l hne hl =>
      hold l.blk (h.dom _ _ _ hl).2 (fun e' l' hl' hb => hne (h.inj _ _ _ _ _ _ hl hl' hb.symm))
    constructor
    · intro A' el' n' cs' lo' hi' hat e h0 h1
      rw [hs', T4.at_put] at hat
      by_cases hAA : A' = A
      · subst hAA; rw [if_pos rfl] at hat; cases hat; exact hblk e h0 h1
      · rw [if_neg hAA] at hat
        obtain ⟨l, a1, a2, a3, a4⟩ := h.blks A' el' n' cs' lo' hi' hat e h0 h1
        exact ⟨l, hle.1.1 _ _ _ a1, a2, a3, a4.mono hle (holdA A' e l hAA a1)⟩
    · intro A' e l hl
      rcases hnew A' e l hl with x | ⟨rfl, x, _⟩
      · exact ⟨Nat.lt_of_lt_of_le (h.dom _ _ _ x).1 hnext, Nat.lt_of_lt_of_le (h.dom _ _ _ x).2 hsize⟩
      · exact ⟨hA, x⟩
    · intro A' e l hl el' n' cs' lo' hi' hat
      rw [hs', T4.at_put] at hat
      by_cases hAA : A' = A
      · subst hAA; rw [if_pos rfl] at hat; cases hat; exact htop e l hl
      · rw [if_neg hAA] at hat
        rcases hnew A' e l hl with x | ⟨x, _⟩
        · exact h.top _ _ _ x _ _ _ _ _ hat
        · exact absurd x hAA
    · intro A1 e1 l1 A2 e2 l2 h1 h2 hb
      rcases hnew A1 e1 l1 h1 with x | ⟨rfl, x1, x⟩
      · rcases hnew A2 e2 l2 h2 with y | ⟨rfl, y1, ⟨e0, l0, y2, y3⟩ | y2⟩
        · exact h.inj _ _ _ _ _ _ x y hb
        · exact h.inj _ _ _ _ _ _ x y2 (hb.trans y3.symm)
        · exact absurd (h.dom _ _ _ x).2 (by omega)
      · rcases hnew A2 e2 l2 h2 with y | ⟨rfl, _, _⟩
        · rcases x with ⟨e0, l0, x2, x3⟩ | x2
          · exact h.inj _ _ _ _ _ _ x2 y (x3.trans hb)
          · exact absurd (h.dom _ _ _ y).2 (by omega)
        · rfl
    · intro m b hm
      rw [hobj] at hm
      exact ⟨Nat.lt_of_lt_of_le (h.objdom _ _ hm).1 hnext, Nat.lt_of_lt_of_le (h.objdom _ _ hm).2 hsize⟩
    · intro m b m' hm hm'
      rw [hobj] at hm hm'
      exact h.objinj _ _ _ hm hm'
    · intro A' e l m b hl hm hb
      rw [hobj] at hm
      rcases hnew A' e l hl with x | ⟨rfl, x1, ⟨e0, l0, y2, y3⟩ | y2⟩
      · exact h.sep _ _ _ _ _ x hm hb
      · exact h.sep _ _ _ _ _ y2 hm (y3.trans hb)
      · exact absurd (h.objdom _ _ hm).2 (by omega)
    · intro A' hA'
      rw [hs', T4.at_put, if_neg (by omega)]
      exact h.fresh A' (by omega)
    · intro A1 e1 l1 e2 l2 h1 h2 hb
      by_cases hAA : A1 = A
      · subst hAA; exact hsame _ _ _ _ h1 h2 hb
      · rcases hnew A1 e1 l1 h1 with x | ⟨x, _⟩
        · rcases hnew A1 e2 l2 h2 with y | ⟨y, _⟩
          · exact h.same _ _ _ _ _ x y hb
          · exact absurd y hAA
        · exact absurd x hAA
    · intro A1 e1 l1 h1
      by_cases hAA : A1 = A
      · subst hAA; exact hrows _ _ h1
      · rcases hnew A1 e1 l1 h1 with x | ⟨x, _⟩
        · rw [holdA A1 e1 l1 hAA x]; exact h.rows _ _ _ x
        · exact absurd x hAA
    · intro m ob hat hob
      rw [hs', T4.at_put] at hat
      by_cases hmA : m = A
      · subst hmA; rw [if_pos rfl] at hat; cases hat; cases hob
      · rw [if_neg hmA] at hat
        obtain ⟨b, o, b1, b2, b3⟩ := h.objs m ob hat hob
        exact ⟨b, o, by rw [hobj]; exact b1, by rw [hold b (h.objdom _ _ b1).2 (fun e l hl hb => h.sep _ _ _ _ _ hl b1 hb)]; exact b2, b3.mono hle⟩
    · intro A' l hl
      rcases hnew A' 0 l hl with x | ⟨rfl, _⟩
      · exact h.zero _ _ x
      · exact hzero l hl
    · intro i n hi
      rw [hst] at hi
      exact Nat.lt_of_lt_of_le (h.stdom i n hi) hnext
    · exact h.rawStep hext hkeeps hraw

/-- a list laid from a number on -/
noncomputable def putL {α : Type} : List α → T4 α → Nat → T4 α
  | [], t, _ => t
  | a :: r, t, i => putL r (t.put i a) (i + 1)

theorem at_putL {α : Type} : ∀ (l : List α) (t : T4 α) (i j : Nat), (putL l t i).at_ j = if i ≤ j ∧ j < i + l.length then l[j - i]? else t.at_ j
  | [], t, i, j => by rw [if_neg (by simp)]; rfl
  | a :: r, t, i, j => by
    rw [putL, at_putL r _ (i + 1) j, T4.at_put]
    by_cases hj : j = i
    · subst hj
      rw [if_neg (by omega), if_pos rfl, if_pos (by simp), Nat.sub_self]; rfl
    · by_cases h : i + 1 ≤ j ∧ j < i + 1 + r.length
      · rw [if_pos h, if_pos (by simp; omega)]
        obtain ⟨k, rfl⟩ : ∃ k, j = i + 1 + k := ⟨j - (i + 1), by omega⟩
        have e1 : i + 1 + k - (i + 1) = k := by omega
        have e2 : i + 1 + k - i = k + 1 := by omega
        rw [e1, e2]; simp
      · rw [if_neg h, if_neg hj, if_neg (by simp; omega)]

/-- the renaming with one block's epoch more -/
def Ren.with (ρ : Ren) (A e : Nat) (l : Loc) : Ren := { blk := fun A' e' => if A' = A ∧ e' = e then some l else ρ.blk A' e', obj := ρ.obj, gh := ρ.gh, st := ρ.st }

theorem Ren.le_with {ρ : Ren} {A e : Nat} {l : Loc} (h : ρ.blk A e = none) : ρ.le (ρ.with A e l) := by
  refine ⟨⟨fun A' e' l' hl => ?_, fun _ _ h => h, fun _ _ h => h⟩, fun _ _ h => h⟩
  have hne : ¬ (A' = A ∧ e' = e) := fun ⟨x, y⟩ => by subst x; subst y; rw [h] at hl; cases hl
  show (if A' = A ∧ e' = e then some l else ρ.blk A' e') = some l'
  rw [if_neg hne]; exact hl
theorem Ren.with_self {ρ : Ren} {A e : Nat} {l : Loc} : (ρ.with A e l).blk A e = some l := if_pos ⟨rfl, rfl⟩
theorem Ren.with_inv {ρ : Ren} {A e : Nat} {l : Loc} {A' e' : Nat} {l' : Loc} (h : (ρ.with A e l).blk A' e' = some l') : ρ.blk A' e' = some l' ∨ (A' = A ∧ e' = e ∧ l' = l) := by
  by_cases hne : A' = A ∧ e' = e
  · right
    have : some l = some l' := (if_pos hne).symm.trans h
    exact ⟨hne.1, hne.2, (Option.some.inj this).symm⟩
  · left
    exact (if_neg hne).symm.trans h

/-- a new block -/
noncomputable def St.new (s : St) (el : TypeId) (cells : List AV) : St := ⟨s.heap.put s.next (.blk el cells.length (putL cells .e 0) 0 0), s.next + 1, s.ds, s.raw⟩

/-- something new -/
noncomputable def St.newO (s : St) (ob : AOb) : St := ⟨s.heap.put s.next ob, s.next + 1, s.ds, s.raw⟩
theorem St.new_newO (s : St) (el : TypeId) (cells : List AV) : s.new el cells = s.newO (.blk el cells.length (putL cells .e 0) 0 0) := rfl

theorem size_alloc (w : World) (o : Obj) : (w.alloc o).heap.size = w.heap.size + 1 := Array.size_push ..

theorem SR.none_new {ρ : Ren} {s : St} {w : World} (h : SR ρ s w) (e : Nat) : ρ.blk s.next e = none := by
  cases hb : ρ.blk s.next e with
  | none => rfl
  | some l => exact absurd (h.dom _ _ _ hb).1 (Nat.lt_irrefl _)

theorem SR.alloc {ρ : Ren} {s : St} {w : World} (h : SR ρ s w) (el : TypeId) (cells : List AV) (vs : Array Value) (fz : Bool) (fr : Nat × Nat) (hth : Thawed vs fr) (hfr : fz = false → fr = (0, 0)) (hlen : cells.length ≤ vs.size)
    (hc : VRs ρ cells (vs.toList.take cells.length)) :
    ∃ ρ', ρ'.blk s.next 0 = some ⟨w.heap.size, 0, 0, cells.length, vs.size, fz⟩ ∧ Ext w ρ ρ' ∧ Keeps ρ w (w.alloc (.cells vs el fr)) ∧ SR ρ' (s.new el cells) (w.alloc (.cells vs el fr)) := by
  refine ⟨ρ.with s.next 0 ⟨w.heap.size, 0, 0, cells.length, vs.size, fz⟩, Ren.with_self, ?_⟩
  have hle : ρ.le (ρ.with s.next 0 ⟨w.heap.size, 0, 0, cells.length, vs.size, fz⟩) := Ren.le_with (h.none_new 0)
  refine h.step (s' := s.new el cells) (w' := w.alloc (.cells vs el fr)) s.next el cells.length (putL cells .e 0) 0 0 hle rfl rfl (Nat.le_succ _) (Nat.lt_succ_self _) rfl rfl (by rw [size_alloc]; exact Nat.le_succ _) ⟨rfl, rfl, rfl⟩ ?_ ?_ ?_ ?_ ?_ ?_ ?_
  · intro b hb _
    exact heap_alloc_old w _ b hb
  · intro A' e l hl
    rcases Ren.with_inv hl with x | ⟨rfl, rfl, rfl⟩
    · exact .inl x
    · exact .inr ⟨rfl, by rw [size_alloc]; exact Nat.lt_succ_self _, .inr (Nat.le_refl _)⟩
  · intro e l hl
    rcases Ren.with_inv hl with x | ⟨_, rfl, _⟩
    · rw [h.none_new] at x; cases x
    · exact Nat.le_refl _
  · intro e l e' l' h1 h2 _
    rcases Ren.with_inv h1 with x | ⟨_, _, rfl⟩
    · rw [h.none_new] at x; cases x
    · rcases Ren.with_inv h2 with x | ⟨_, _, rfl⟩
      · rw [h.none_new] at x; cases x
      · exact ⟨rfl, rfl, rfl⟩
  · intro e l h1
    rcases Ren.with_inv h1 with x | ⟨_, _, rfl⟩
    · rw [h.none_new] at x; cases x
    · exact ⟨vs, el, fr, heap_alloc_new w _, hfr, rfl, by show 0 + (cells.length - 0) ≤ vs.size; omega⟩
  · intro l hl
    rcases Ren.with_inv hl with x | ⟨_, _, rfl⟩
    · rw [h.none_new] at x; cases x
    · exact ⟨rfl, rfl⟩
  · intro e _ he
    obtain rfl : e = 0 := by omega
    refine ⟨_, Ren.with_self, Nat.le_refl _, fun _ => rfl, vs, fr, heap_alloc_new w _, hth, rfl, Nat.zero_le _, by simpa using hlen, ?_⟩
    intro i _ hi
    have hi' : i < cells.length := hi
    obtain ⟨v, h1, h2⟩ := hc.get i (a := cells[i]) (by simp [hi'])
    refine ⟨cells[i], v, ?_, ?_, h2.mono hle⟩
    · rw [at_putL, if_pos (by omega)]; simp [hi']
    · rw [List.getElem?_take, if_pos hi'] at h1
      simpa using h1

/-- more memory, the rest as it was -/
theorem SR.more {ρ : Ren} {s : St} {w w' : World} (h : SR ρ s w) (hsz : w.heap.size ≤ w'.heap.size) (hold : ∀ b, b < w.heap.size → w'.heap[b]? = w.heap[b]?) : SR ρ s w' where
  blks := fun A el n cs lo hi hat e h0 h1 => by
    obtain ⟨l, a1, a2, a3, a4⟩ := h.blks A el n cs lo hi hat e h0 h1
    exact ⟨l, a1, a2, a3, a4.mono ρ.le_refl (hold _ (h.dom _ _ _ a1).2)⟩
  dom := fun A e l hl => ⟨(h.dom _ _ _ hl).1, Nat.lt_of_lt_of_le (h.dom _ _ _ hl).2 hsz⟩
  top := h.top
  inj := h.inj
  objdom := fun m b hm => ⟨(h.objdom _ _ hm).1, Nat.lt_of_lt_of_le (h.objdom _ _ hm).2 hsz⟩
  objinj := h.objinj
  sep := h.sep
  fresh := h.fresh
  same := h.same
  rows := fun A e l hl => by rw [hold _ (h.dom _ _ _ hl).2]; exact h.rows _ _ _ hl
  objs := fun m ob hat hob => by
    obtain ⟨b, o, b1, b2, b3⟩ := h.objs m ob hat hob
    exact ⟨b, o, b1, by rw [hold _ (h.objdom _ _ b1).2]; exact b2, b3⟩
  zero := h.zero
  stdom := h.stdom
  raws := fun b i v hb => by
    obtain ⟨hf, hc⟩ := h.raws b i v hb
    exact ⟨hf, (cell_same (hold b (lt_of_cell hc))).trans hc⟩

/-- a call's memory, with what lies apart as it was told -/
theorem SR.call {ρ ρ' : Ren} {s s1 s' : St} {w w' : World} (h : SR ρ s w) (he : Ext w ρ ρ') (hk : Keeps ρ w w') (h1 : SR ρ' s1 w') (e1 : s'.heap = s1.heap) (e2 : s'.next = s1.next) (e3 : s'.raw = s.raw) : SR ρ' s' w' where
  blks := by rw [e1]; exact h1.blks
  dom := by rw [e2]; exact h1.dom
  top := by rw [e1]; exact h1.top
  inj := h1.inj
  objdom := by rw [e2]; exact h1.objdom
  objinj := h1.objinj
  sep := h1.sep
  fresh := by rw [e1, e2]; exact h1.fresh
  same := h1.same
  rows := h1.rows
  objs := by rw [e1]; exact h1.objs
  zero := h1.zero
  stdom := by rw [e2]; exact h1.stdom
  raws := h.rawStep he hk e3

/-- a block that lies in the world, told of from here on -/
theorem SR.adopt {ρ : Ren} {s : St} {w : World} (h : SR ρ s w) (el : TypeId) (cells : List AV) (vs : Array Value) (b : Nat) (fz : Bool) (hb : b < w.heap.size) (hf : ρ.free b) (hh : w.heap[b]? = some (.cells vs el (0, 0))) (hlen : cells.length = vs.size) (hc : VRs ρ cells vs.toList) (hnr : ∀ i, s.raw b i = none) :
    ∃ ρ', ρ'.blk s.next 0 = some ⟨b, 0, 0, cells.length, vs.size, fz⟩ ∧ ρ.le ρ' ∧ (∀ c, ¬ ρ'.free c → ¬ ρ.free c ∨ c = b) ∧ SR ρ' (s.new el cells) w := by
  have hle : ρ.le (ρ.with s.next 0 ⟨b, 0, 0, cells.length, vs.size, fz⟩) := Ren.le_with (h.none_new 0)
  have hold : ∀ A e l, (ρ.with s.next 0 ⟨b, 0, 0, cells.length, vs.size, fz⟩).blk A e = some l → ρ.blk A e = some l ∨ (A = s.next ∧ e = 0 ∧ l = ⟨b, 0, 0, cells.length, vs.size, fz⟩) := fun A e l hl => Ren.with_inv hl
  refine ⟨_, Ren.with_self, hle, fun c hc => ?_, ?_⟩
  · refine Classical.byContradiction fun hn => hc ⟨fun A e l hl hk => ?_, fun m hm => ?_⟩
    · have hfc : ρ.free c := Classical.byContradiction fun x => hn (.inl x)
      rcases hold _ _ _ hl with x | ⟨_, _, rfl⟩
      · exact hfc.1 _ _ _ x hk
      · exact hn (.inr hk.symm)
    · have hfc : ρ.free c := Classical.byContradiction fun x => hn (.inl x)
      exact hfc.2 m hm
  · constructor
    · intro A el' n cs lo hi hat e h0 h1
      change (s.heap.put s.next _).at_ A = _ at hat
      rw [T4.at_put] at hat
      by_cases hA : A = s.next
      · rw [if_pos hA] at hat
        cases hat
        obtain rfl : e = 0 := by omega
        subst hA
        refine ⟨_, Ren.with_self, Nat.le_refl _, fun _ => rfl, vs, (0, 0), hh, thawed0 _, rfl, Nat.zero_le _, by show 0 + (cells.length - 0) ≤ vs.size; omega, ?_⟩
        intro i _ hi
        have hi' : i < cells.length := hi
        obtain ⟨v, g1, g2⟩ := hc.get i (a := cells[i]) (by simp [hi'])
        refine ⟨cells[i], v, ?_, ?_, g2.mono hle⟩
        · rw [at_putL, if_pos (by omega)]; simp [hi']
        · simpa using g1
      · rw [if_neg hA] at hat
        obtain ⟨l, a1, a2, a3, a4⟩ := h.blks A el' n cs lo hi hat e h0 h1
        exact ⟨l, hle.1.1 _ _ _ a1, a2, a3, a4.mono hle rfl⟩
    · intro A e l hl
      rcases hold _ _ _ hl with x | ⟨rfl, _, rfl⟩
      · exact ⟨Nat.lt_succ_of_lt (h.dom _ _ _ x).1, (h.dom _ _ _ x).2⟩
      · exact ⟨Nat.lt_succ_self _, hb⟩
    · intro A e l hl el' n cs lo hi hat
      change (s.heap.put s.next _).at_ A = _ at hat
      rw [T4.at_put] at hat
      rcases hold _ _ _ hl with x | ⟨rfl, rfl, rfl⟩
      · rw [if_neg (by have := (h.dom _ _ _ x).1; omega)] at hat
        exact h.top _ _ _ x _ _ _ _ _ hat
      · exact Nat.zero_le _
    · intro A e l A' e' l' h1 h2 hbb
      rcases hold _ _ _ h1 with x | ⟨rfl, _, rfl⟩ <;> rcases hold _ _ _ h2 with y | ⟨rfl, _, rfl⟩
      · exact h.inj _ _ _ _ _ _ x y hbb
      · exact absurd hbb (hf.1 _ _ _ x)
      · exact absurd hbb.symm (hf.1 _ _ _ y)
      · rfl
    · intro m c hm
      exact ⟨Nat.lt_succ_of_lt (h.objdom _ _ hm).1, (h.objdom _ _ hm).2⟩
    · exact h.objinj
    · intro A e l m c hl hm hbb
      rcases hold _ _ _ hl with x | ⟨_, _, rfl⟩
      · exact h.sep _ _ _ _ _ x hm hbb
      · have hm' : ρ.obj m = some c := hm
        exact hf.2 m (by rw [hm']; exact congrArg some hbb.symm)
    · intro A hA
      have hA' : s.next + 1 ≤ A := hA
      show (s.heap.put s.next _).at_ A = none
      rw [T4.at_put, if_neg (by omega)]
      exact h.fresh A (by omega)
    · intro A e l e' l' h1 h2 hbb
      rcases hold _ _ _ h1 with x | ⟨rfl, _, rfl⟩ <;> rcases hold _ _ _ h2 with y | ⟨hq, _, rfl⟩
      · exact h.same _ _ _ _ _ x y hbb
      · exact absurd hbb (hf.1 _ _ _ x)
      · exact absurd hbb.symm (hf.1 _ _ _ y)
      · exact ⟨rfl, rfl, rfl⟩
    · intro A e l hl
      rcases hold _ _ _ hl with x | ⟨_, _, rfl⟩
      · exact h.rows _ _ _ x
      · exact ⟨vs, el, (0, 0), hh, fun _ => rfl, rfl, by show 0 + (cells.length - 0) ≤ vs.size; omega⟩
    · intro m ob hat hob
      change (s.heap.put s.next _).at_ m = _ at hat
      rw [T4.at_put] at hat
      by_cases hm : m = s.next
      · rw [if_pos hm] at hat; cases hat; cases hob
      · rw [if_neg hm] at hat
        obtain ⟨c, o, b1, b2, b3⟩ := h.objs m ob hat hob
        exact ⟨c, o, b1, b2, b3.mono hle⟩
    · intro A l hl
      rcases hold _ _ _ hl with x | ⟨_, _, rfl⟩
      · exact h.zero _ _ x
      · exact ⟨rfl, rfl⟩
    · exact fun i n hi => Nat.lt_succ_of_lt (h.stdom i n hi)
    · intro b' i v hb'
      obtain ⟨hf', hc'⟩ := h.raws b' i v hb'
      refine ⟨⟨fun A e l hl hk => ?_, hf'.2⟩, hc'⟩
      rcases hold _ _ _ hl with x | ⟨_, _, rfl⟩
      · exact hf'.1 _ _ _ x hk
      · have hk' : b = b' := hk
        subst hk'
        have : s.raw b i = some v := hb'
        rw [hnr] at this; cases this

/-- a block's cells, a list of them put from a place on, in the world -/
theorem row_read {ρ : Ren} {l : Loc} {el : TypeId} {cs : T4 AV} {w : World} (h : LocOK ρ l el cs w) (i : Nat) (h0 : l.start ≤ i) (h1 : i < l.stop) :
    ∃ a v, cs.at_ i = some a ∧ w.cell? (l.at_ i) = some v ∧ VR ρ a v := by
  obtain ⟨c, fr, a1, _, a2, a3, a4, a5⟩ := h
  obtain ⟨a, v, b1, b2, b3⟩ := a5 i h0 h1
  exact ⟨a, v, b1, by simp [World.cell?, Loc.at_, a1, b2], b3⟩

theorem row_thawed {ρ : Ren} {l : Loc} {el : TypeId} {cs : T4 AV} {w : World} (h : LocOK ρ l el cs w) (b : Addr) (hb : b.block = l.blk) (ho : b.off < l.size) : w.frozen? b = false := by
  obtain ⟨c, fr, a1, a2, a3, _⟩ := h
  have := a2 b.off (by omega)
  simp [World.frozen?, hb, a1]
  omega

theorem setRow_get (w : World) (g : Nat) (cs : Array Value) (c : Array Value) (el : TypeId) (fr : Nat × Nat) (h : w.heap[g]? = some (.cells c el fr)) : (w.setRow g cs).heap[g]? = some (.cells cs el fr) := setRow_heap w g c cs el fr h

theorem heap_setRow_size (w : World) (g : Nat) (cs : Array Value) : (w.setRow g cs).heap.size = w.heap.size := by simp [World.setRow]

/-- cells stored one behind the other, none of them frozen -/
theorem run_storeCells_fr {P : Program} (g o : Nat) (t : TypeId) (fr : Nat × Nat) : ∀ (vs : List Value) (i : Nat) (cur : Array Value) (w : World), w.heap[g]? = some (.cells cur t fr) → Thawed cur fr → o + i + vs.length ≤ cur.size → (∀ v ∈ vs, v.oneCell' = true) →
    (storeCells ⟨g, o, none⟩ vs i).run P w = .ok () (w.setRow g (cur.toList.take (o + i) ++ vs ++ cur.toList.drop (o + i + vs.length)).toArray)
  | [], i, cur, w, hg, _, _, _ => by
    simp only [storeCells, List.append_nil, List.length_nil, Nat.add_zero, List.take_append_drop, Array.toArray_toList]
    rw [setRow_self w g cur t fr hg]
    rfl
  | v :: rest, i, cur, w, hg, hth, hl, h1 => by
    have hi : o + i < cur.size := by simp at hl; omega
    have hadd : (⟨g, o, none⟩ : Addr).add i = ⟨g, o + i, none⟩ := by unfold Addr.add; split <;> simp_all
    have hcell : w.cell? ⟨g, o + i, none⟩ = some cur[o + i] := by simp [World.cell?, hg, hi]
    have hfro : w.frozen? ⟨g, o + i, none⟩ = false := by
      have := hth (o + i) hi
      obtain ⟨lo, hi'⟩ := fr
      simp only [World.frozen?, hg, Bool.and_eq_false_iff, decide_eq_false_iff_not]
      simp only at this
      omega
    have hst : (store ((⟨g, o, none⟩ : Addr).add i) v).run P w = .ok () (w.setRow g (cur.setIfInBounds (o + i) v)) := by
      rw [hadd, run_store P w _ v _ (h1 v (by simp)), hcell]
      simp [hfro, setCell_eq_setRow w g (o + i) cur t fr v hg]
    have ih := run_storeCells_fr (P := P) g o t fr rest (i + 1) (cur.setIfInBounds (o + i) v) (w.setRow g (cur.setIfInBounds (o + i) v)) (setRow_heap w g cur _ t _ hg) (hth.resize (by simp)) (by simp at hl ⊢; omega) (fun x hx => h1 x (by simp [hx]))
    simp only [storeCells, Sem.run_bind, hst, Result.andThen_ok, ih, setRow_setRow]
    congr 3
    have e := list_seg_step cur.toList (o + i) v rest (by simp at hl ⊢; omega)
    simpa [Array.toList_setIfInBounds, Nat.add_assoc] using e

/-- cells written through a block's newest epoch -/
theorem SR.write {ρ : Ren} {s : St} {w : World} (h : SR ρ s w) {A : Nat} {el : TypeId} {n : Nat} {cs : T4 AV} {lo hi : Nat} (hA : s.heap.at_ A = some (.blk el n cs lo hi)) (hlh : lo ≤ hi)
    {l : Loc} (hl : ρ.blk A hi = some l) (i : Nat) (h0 : l.start ≤ i) (as : List AV) (vs : List Value) (hv : VRs ρ as vs) (h1 : i + as.length ≤ n) (c : Array Value)
    (fr : Nat × Nat) (hc : w.heap[l.blk]? = some (.cells c el fr)) (s' : St) (hs' : s'.heap = s.heap.put A (.blk el n (putL as cs i) hi hi)) (hn' : s'.next = s.next) (hr' : s'.raw = s.raw) :
    let w' := w.setRow l.blk (c.toList.take (l.base + (i - l.start)) ++ vs ++ c.toList.drop (l.base + (i - l.start) + vs.length)).toArray
    Ext w ρ ρ ∧ Keeps ρ w w' ∧ SR ρ s' w' := by
  intro w'
  have hvl := hv.length
  have hAn : A < s.next := by
    refine Classical.byContradiction fun hn => ?_
    rw [h.fresh A (by omega)] at hA; cases hA
  obtain ⟨l', b1, b2, b3, c', fr', d1, dth, d2, d3, d4, d5⟩ := h.blks A el n cs lo hi hA hi hlh (Nat.le_refl _)
  obtain rfl : l = l' := Option.some.inj (hl.symm.trans b1)
  obtain ⟨rfl, rfl⟩ : c = c' ∧ fr = fr' := by rw [hc] at d1; injection d1 with d1; injection d1 with d1 _ d2; exact ⟨d1, d2⟩
  have hst : l.stop = n := b3 rfl
  have hlen : (c.toList.take (l.base + (i - l.start)) ++ vs ++ c.toList.drop (l.base + (i - l.start) + vs.length)).length = c.size := by
    simp only [List.length_append, List.length_take, List.length_drop, Array.length_toList]
    omega
  refine h.step (w' := w') A el n (putL as cs i) hi hi ρ.le_refl hs' hr' (by omega) (by omega) rfl rfl (by show _ ≤ (w.setRow _ _).heap.size; rw [heap_setRow_size]; exact Nat.le_refl _) ⟨rfl, rfl, rfl⟩ ?_ (fun _ _ _ x => .inl x) ?_ ?_ ?_ (fun l hl => h.zero _ _ hl) ?_
  · intro b hb hne
    exact setRow_other w l.blk b _ (fun e => hne hi l hl e.symm)
  · intro e l' hl'
    exact h.top _ _ _ hl' _ _ _ _ _ hA
  · intro e1 l1 e2 l2 h1 h2 hb
    exact h.same _ _ _ _ _ h1 h2 hb
  · intro e1 l1 h1
    by_cases hbk : l1.blk = l.blk
    · obtain ⟨c2, el2, fr2, q1, q2, q3, q4⟩ := h.rows _ _ _ h1
      rw [hbk, hc] at q1; injection q1 with q1; injection q1 with q0 _ q1
      rw [hbk]; exact ⟨_, el, fr, setRow_get w l.blk _ c el fr hc, fun hz => by rw [q1]; exact q2 hz, by simp only [List.size_toArray]; rw [hlen, ← q3, q0], q4⟩
    · rw [setRow_other w l.blk l1.blk _ hbk]; exact h.rows _ _ _ h1
  · intro e he he'
    obtain rfl : e = hi := by omega
    refine ⟨l, hl, b2, fun _ => hst, _, fr, setRow_get w l.blk _ c el fr hc, dth.resize (by simp only [List.size_toArray]; exact hlen), by simp only [List.size_toArray]; rw [hlen, d2], d3, d4, ?_⟩
    intro j hj0 hj1
    obtain ⟨a, v, e1, e2, e3⟩ := d5 j hj0 hj1
    rw [at_putL]
    by_cases hj : i ≤ j ∧ j < i + as.length
    · rw [if_pos hj]
      have hlt : j - i < as.length := by omega
      obtain ⟨v', f1, f2⟩ := hv.get (j - i) (a := as[j - i]) (by simp [hlt])
      refine ⟨as[j - i], v', by simp [hlt], ?_, f2⟩
      rw [List.getElem?_toArray, List.append_assoc, List.getElem?_append_right (by simp; omega)]
      have e4 : l.base + (j - l.start) - (c.toList.take (l.base + (i - l.start))).length = j - i := by
        simp only [List.length_take, Array.length_toList]; omega
      rw [e4, List.getElem?_append_left (by omega)]
      exact f1
    · rw [if_neg hj]
      refine ⟨a, v, e1, ?_, e3⟩
      rw [List.getElem?_toArray]
      by_cases hji : j < i
      · rw [List.append_assoc, List.getElem?_append_left (by simp; omega), List.getElem?_take, if_pos (by omega)]
        simpa using e2
      · have : i + as.length ≤ j := by omega
        rw [List.getElem?_append_right (by simp; omega), List.getElem?_drop]
        have e4 : l.base + (i - l.start) + vs.length + (l.base + (j - l.start) - (List.take (l.base + (i - l.start)) c.toList ++ vs).length) = l.base + (j - l.start) := by
          simp only [List.length_append, List.length_take, Array.length_toList]; omega
        rw [e4]
        simpa using e2

theorem SR.top_none {ρ : Ren} {s : St} {w : World} (h : SR ρ s w) {A : Nat} {el : TypeId} {n : Nat} {cs : T4 AV} {lo hi : Nat} (hA : s.heap.at_ A = some (.blk el n cs lo hi)) : ρ.blk A (hi + 1) = none := by
  cases hb : ρ.blk A (hi + 1) with
  | none => rfl
  | some l => exact absurd (h.top _ _ _ hb _ _ _ _ _ hA) (by omega)

theorem SR.lt_next {ρ : Ren} {s : St} {w : World} (h : SR ρ s w) {A : Nat} {o : AOb} (hA : s.heap.at_ A = some o) : A < s.next := by
  refine Classical.byContradiction fun hn => ?_
  rw [h.fresh A (by omega)] at hA; cases hA

/-- cells put behind a slice, where there is room -/
theorem SR.appendIn {ρ : Ren} {s : St} {w : World} (h : SR ρ s w) {A : Nat} {el : TypeId} {n : Nat} {cs : T4 AV} {lo hi e : Nat} (hA : s.heap.at_ A = some (.blk el n cs lo hi)) (he0 : lo ≤ e) (he1 : e ≤ hi)
    {l : Loc} (hl : ρ.blk A e = some l) (p : Nat) (h0 : l.start ≤ p) (hp : p ≤ l.stop) (as : List AV) (vs : List Value) (hv : VRs ρ as vs) (c : Array Value)
    (fr : Nat × Nat) (hc : w.heap[l.blk]? = some (.cells c el fr)) (hroom : l.base + (p - l.start) + as.length ≤ l.size) (lo' : Nat) (hlo : lo' = hi + 1 ∨ (lo ≤ lo' ∧ e = hi ∧ p = n))
    (s' : St) (hs' : s'.heap = s.heap.put A (.blk el (p + as.length) (putL as cs p) lo' (hi + 1))) (hn' : s'.next = s.next) (hr' : s'.raw = s.raw) :
    let w' := w.setRow l.blk (c.toList.take (l.base + (p - l.start)) ++ vs ++ c.toList.drop (l.base + (p - l.start) + vs.length)).toArray
    let l' : Loc := { l with stop := p + as.length }
    ∃ ρ', ρ'.blk A (hi + 1) = some l' ∧ Ext w ρ ρ' ∧ Keeps ρ w w' ∧ SR ρ' s' w' := by
  intro w' l'
  have hvl := hv.length
  have hAn := h.lt_next hA
  have hle : ρ.le (ρ.with A (hi + 1) l') := Ren.le_with (h.top_none hA)
  obtain ⟨l0, b1, b2, b3, c', fr', d1, dth, d2, d3, d4, d5⟩ := h.blks A el n cs lo hi hA e he0 he1
  obtain rfl : l = l0 := Option.some.inj (hl.symm.trans b1)
  obtain ⟨rfl, rfl⟩ : c = c' ∧ fr = fr' := by rw [hc] at d1; injection d1 with d1; injection d1 with d1 _ d2; exact ⟨d1, d2⟩
  have hlen : (c.toList.take (l.base + (p - l.start)) ++ vs ++ c.toList.drop (l.base + (p - l.start) + vs.length)).length = c.size := by
    simp only [List.length_append, List.length_take, List.length_drop, Array.length_toList]
    omega
  -- the cells ahead of the new ones
  have hkeep : ∀ k, k < l.base + (p - l.start) → (c.toList.take (l.base + (p - l.start)) ++ vs ++ c.toList.drop (l.base + (p - l.start) + vs.length)).toArray[k]? = c[k]? := by
    intro k hk
    rw [List.getElem?_toArray, List.append_assoc, List.getElem?_append_left (by simp; omega), List.getElem?_take, if_pos hk]
    simp
  have hput : ∀ k, k < as.length → (c.toList.take (l.base + (p - l.start)) ++ vs ++ c.toList.drop (l.base + (p - l.start) + vs.length)).toArray[l.base + (p - l.start) + k]? = vs[k]? := by
    intro k hk
    rw [List.getElem?_toArray, List.append_assoc, List.getElem?_append_right (by simp; omega)]
    have e4 : l.base + (p - l.start) + k - (c.toList.take (l.base + (p - l.start))).length = k := by
      simp only [List.length_take, Array.length_toList]; omega
    rw [e4, List.getElem?_append_left (by omega)]
  refine ⟨ρ.with A (hi + 1) l', Ren.with_self, ?_⟩
  refine h.step (w' := w') A el (p + as.length) (putL as cs p) lo' (hi + 1) hle hs' hr' (by omega) (by omega) rfl rfl (by show _ ≤ (w.setRow _ _).heap.size; rw [heap_setRow_size]; exact Nat.le_refl _) ⟨rfl, rfl, rfl⟩ ?_ ?_ ?_ ?_ ?_ ?_ ?_
  · intro b hb hne
    exact setRow_other w l.blk b _ (fun e1 => hne e l hl e1.symm)
  · intro A' e' x hx
    rcases Ren.with_inv hx with y | ⟨rfl, rfl, rfl⟩
    · exact .inl y
    · refine .inr ⟨rfl, ?_, .inl ⟨e, l, hl, rfl⟩⟩
      show l.blk < (w.setRow _ _).heap.size
      rw [heap_setRow_size]; exact (h.dom _ _ _ hl).2
  · intro e' x hx
    rcases Ren.with_inv hx with y | ⟨_, rfl, _⟩
    · exact Nat.le_succ_of_le (h.top _ _ _ y _ _ _ _ _ hA)
    · exact Nat.le_refl _
  · intro e1 l1 e2 l2 h1 h2 hb
    rcases Ren.with_inv h1 with x | ⟨_, _, rfl⟩ <;> rcases Ren.with_inv h2 with y | ⟨_, _, rfl⟩
    · exact h.same _ _ _ _ _ x y hb
    · exact h.same A e1 l1 e l x hl hb
    · exact h.same A e l e2 l2 hl y hb
    · exact ⟨rfl, rfl, rfl⟩
  · intro e1 l1 h1
    have main : ∀ e0 l0, ρ.blk A e0 = some l0 → ∃ c' el' fr', w'.heap[l0.blk]? = some (.cells c' el' fr') ∧ (l0.fz = false → fr' = (0, 0)) ∧ c'.size = l0.size ∧ l0.base + (l0.stop - l0.start) ≤ l0.size := by
      intro e0 l0 x
      by_cases hbk : l0.blk = l.blk
      · obtain ⟨c2, el2, fr2, q1, q2, q3, q4⟩ := h.rows _ _ _ x
        rw [hbk, hc] at q1; injection q1 with q1; injection q1 with q0 _ q1
        rw [hbk]; exact ⟨_, el, fr, setRow_get w l.blk _ c el fr hc, fun hz => by rw [q1]; exact q2 hz, by simp only [List.size_toArray]; rw [hlen, ← q3, q0], q4⟩
      · rw [show w'.heap[l0.blk]? = w.heap[l0.blk]? from setRow_other w l.blk l0.blk _ hbk]; exact h.rows _ _ _ x
    rcases Ren.with_inv h1 with x | ⟨_, _, rfl⟩
    · exact main _ _ x
    · obtain ⟨c2, el2, fr2, q1, q2, q3, _⟩ := main _ _ hl
      exact ⟨c2, el2, fr2, q1, q2, q3, by show l.base + (p + as.length - l.start) ≤ l.size; omega⟩
  · intro l2 hl2
    rcases Ren.with_inv hl2 with x | ⟨_, x, _⟩
    · exact h.zero _ _ x
    · omega
  · intro e' he' he''
    by_cases heq : e' = hi + 1
    · subst heq
      refine ⟨l', Ren.with_self, Nat.le_refl _, fun _ => rfl, _, fr, setRow_get w l.blk _ c el fr hc, dth.resize (by simp only [List.size_toArray]; exact hlen), by simp only [List.size_toArray]; rw [hlen, d2], by show l.start ≤ p + as.length; omega, by show l.base + (p + as.length - l.start) ≤ l.size; omega, ?_⟩
      intro j hj0 hj1
      have hj0' : l.start ≤ j := hj0
      have hj1' : j < p + as.length := hj1
      rw [at_putL]
      by_cases hj : p ≤ j
      · rw [if_pos ⟨hj, hj1'⟩]
        have hlt : j - p < as.length := by omega
        obtain ⟨v', f1, f2⟩ := hv.get (j - p) (a := as[j - p]) (by simp [hlt])
        refine ⟨as[j - p], v', by simp [hlt], ?_, f2.mono hle⟩
        have := hput (j - p) hlt
        rw [f1] at this
        have e5 : l.base + (p - l.start) + (j - p) = l.base + (j - l.start) := by omega
        rw [e5] at this
        exact this
      · rw [if_neg (by omega)]
        obtain ⟨a, v, e1, e2, e3⟩ := d5 j hj0' (by omega)
        refine ⟨a, v, e1, ?_, e3.mono hle⟩
        exact (hkeep (l.base + (j - l.start)) (by omega)).trans e2
    · rcases hlo with rfl | ⟨x1, rfl, rfl⟩
      · omega
      · obtain ⟨l2, g1, g2, g3, g4⟩ := h.blks A el p cs lo e hA e' (by omega) (by omega)
        refine ⟨l2, hle.1.1 _ _ _ g1, by omega, fun x => absurd x heq, ?_⟩
        obtain ⟨c2, fr2, k1, kth, k2, k3, k4, k5⟩ := g4
        by_cases hbk : l2.blk = l.blk
        · obtain ⟨y1, y2, _⟩ := h.same _ _ _ _ _ g1 hl hbk
          obtain rfl : c = c2 := by rw [hbk, hc] at k1; injection k1 with k1; injection k1
          refine ⟨_, fr, by rw [hbk]; exact setRow_get w l.blk _ c el fr hc, dth.resize (by simp only [List.size_toArray]; exact hlen), by simp only [List.size_toArray]; rw [hlen, k2], k3, k4, ?_⟩
          intro j hj0 hj1
          obtain ⟨a, v, e1, e2, e3⟩ := k5 j hj0 hj1
          rw [at_putL, if_neg (by omega)]
          refine ⟨a, v, e1, (hkeep _ ?_).trans e2, e3.mono hle⟩
          rw [y1, y2]; rw [y2] at hj0; omega
        · refine ⟨c2, fr2, (setRow_other w l.blk l2.blk _ hbk).trans k1, kth, k2, k3, k4, ?_⟩
          intro j hj0 hj1
          obtain ⟨a, v, e1, e2, e3⟩ := k5 j hj0 hj1
          rw [at_putL, if_neg (by omega)]
          exact ⟨a, v, e1, e2, e3.mono hle⟩

/-- cells put behind a slice, into a new block -/
theorem SR.appendNew {ρ : Ren} {s : St} {w : World} (h : SR ρ s w) {A : Nat} {el : TypeId} {n : Nat} {cs : T4 AV} {lo hi e : Nat} (hA : s.heap.at_ A = some (.blk el n cs lo hi)) (he1 : e ≤ hi)
    {l : Loc} (hl : ρ.blk A e = some l) (off p : Nat) (hop : off ≤ p) (as : List AV) (vs olds : List Value) (hv : VRs ρ as vs) (row : Array Value)
    (holds : olds.length = p - off) (hold' : ∀ i, off ≤ i → i < p → ∃ a v, cs.at_ i = some a ∧ olds[i - off]? = some v ∧ VR ρ a v)
    (hrow : ∀ k, k < p - off + as.length → row[k]? = (olds ++ vs)[k]?) (hrs : p - off + as.length ≤ row.size) (d : Nat) (fz : Bool) (lo' : Nat) (hlo : lo' = hi + 1 ∨ (lo ≤ lo' ∧ e = hi ∧ p = n))
    (s' : St) (hs' : s'.heap = s.heap.put A (.blk el (p + as.length) (putL as cs p) lo' (hi + 1))) (hn' : s'.next = s.next) (hr' : s'.raw = s.raw) :
    let w' := ({ w with drawn := d } : World).alloc (.cells row el)
    let l' : Loc := ⟨w.heap.size, 0, off, p + as.length, row.size, fz⟩
    ∃ ρ', ρ'.blk A (hi + 1) = some l' ∧ Ext w ρ ρ' ∧ Keeps ρ w w' ∧ SR ρ' s' w' := by
  intro w' l'
  have hvl := hv.length
  have hAn := h.lt_next hA
  have hle : ρ.le (ρ.with A (hi + 1) l') := Ren.le_with (h.top_none hA)
  have hsz : w'.heap.size = w.heap.size + 1 := size_alloc _ _
  have hother : ∀ b, b < w.heap.size → w'.heap[b]? = w.heap[b]? := fun b hb => heap_alloc_old ({ w with drawn := d } : World) _ b hb
  refine ⟨ρ.with A (hi + 1) l', Ren.with_self, ?_⟩
  refine h.step (w' := w') A el (p + as.length) (putL as cs p) lo' (hi + 1) hle hs' hr' (by omega) (by omega) rfl rfl (by omega) ⟨rfl, rfl, rfl⟩ ?_ ?_ ?_ ?_ ?_ ?_ ?_
  · intro b hb _
    exact hother b hb
  · intro A' e' x hx
    rcases Ren.with_inv hx with y | ⟨rfl, rfl, rfl⟩
    · exact .inl y
    · exact .inr ⟨rfl, by show w.heap.size < w'.heap.size; omega, .inr (Nat.le_refl _)⟩
  · intro e' x hx
    rcases Ren.with_inv hx with y | ⟨_, rfl, _⟩
    · exact Nat.le_succ_of_le (h.top _ _ _ y _ _ _ _ _ hA)
    · exact Nat.le_refl _
  · intro e1 l1 e2 l2 h1 h2 hb
    rcases Ren.with_inv h1 with x | ⟨_, _, rfl⟩ <;> rcases Ren.with_inv h2 with y | ⟨_, _, rfl⟩
    · exact h.same _ _ _ _ _ x y hb
    · exact absurd (h.dom _ _ _ x).2 (by rw [hb]; exact Nat.lt_irrefl _)
    · exact absurd (h.dom _ _ _ y).2 (by rw [← hb]; exact Nat.lt_irrefl _)
    · exact ⟨rfl, rfl, rfl⟩
  · intro e1 l1 h1
    rcases Ren.with_inv h1 with x | ⟨_, _, rfl⟩
    · rw [hother _ (h.dom _ _ _ x).2]; exact h.rows _ _ _ x
    · exact ⟨row, el, (0, 0), heap_alloc_new ({ w with drawn := d } : World) _, fun _ => rfl, rfl, by show 0 + (p + as.length - off) ≤ row.size; omega⟩
  · intro l2 hl2
    rcases Ren.with_inv hl2 with x | ⟨_, x, _⟩
    · exact h.zero _ _ x
    · omega
  · intro e' he' he''
    by_cases heq : e' = hi + 1
    · subst heq
      refine ⟨l', Ren.with_self, Nat.le_refl _, fun _ => rfl, row, (0, 0), heap_alloc_new ({ w with drawn := d } : World) _, thawed0 _, rfl, by show off ≤ p + as.length; omega, by show 0 + (p + as.length - off) ≤ row.size; omega, ?_⟩
      intro j hj0 hj1
      have hj0' : off ≤ j := hj0
      have hj1' : j < p + as.length := hj1
      show ∃ a v, _ ∧ row[0 + (j - off)]? = some v ∧ _
      rw [Nat.zero_add, hrow _ (by omega), at_putL]
      by_cases hj : p ≤ j
      · rw [if_pos ⟨hj, hj1'⟩]
        have hlt : j - p < as.length := by omega
        obtain ⟨v', f1, f2⟩ := hv.get (j - p) (a := as[j - p]) (by simp [hlt])
        refine ⟨as[j - p], v', by simp [hlt], ?_, f2.mono hle⟩
        rw [List.getElem?_append_right (by omega), holds]
        have e5 : j - off - (p - off) = j - p := by omega
        rw [e5]; exact f1
      · rw [if_neg (by omega)]
        obtain ⟨a, v, e1, e2, e3⟩ := hold' j hj0' (by omega)
        exact ⟨a, v, e1, by rw [List.getElem?_append_left (by omega)]; exact e2, e3.mono hle⟩
    · rcases hlo with rfl | ⟨x1, rfl, rfl⟩
      · omega
      · obtain ⟨l2, g1, g2, g3, g4⟩ := h.blks A el p cs lo e hA e' (by omega) (by omega)
        refine ⟨l2, hle.1.1 _ _ _ g1, by omega, fun x => absurd x heq, ?_⟩
        obtain ⟨c2, fr2, k1, kth, k2, k3, k4, k5⟩ := g4
        refine ⟨c2, fr2, (hother _ (h.dom _ _ _ g1).2).trans k1, kth, k2, k3, k4, ?_⟩
        intro j hj0 hj1
        obtain ⟨a, v, e1, e2, e3⟩ := k5 j hj0 hj1
        rw [at_putL, if_neg (by omega)]
        exact ⟨a, v, e1, e2, e3.mono hle⟩

end Go.Eng
