/-
  A region that draws its order: what the abstract interpreter tells in the text's order is told in each order that the region's edges allow.
-/
import Derived.Test.YtomcadipdacanaaGreatDoorEngO
namespace Go.Eng
open Go
set_option linter.unusedVariables false

theorem size_of {ops : Array Oper} {i : Nat} {o : Oper} (ho : ops.toList[i]? = some o) : i < ops.size := by
  rcases Nat.lt_or_ge i ops.size with h | h
  · exact h
  · rw [List.getElem?_eq_none (by simpa using h)] at ho; cases ho
theorem op_at {ops : Array Oper} {i : Nat} (h : i < ops.size) : ∃ o, ops.toList[i]? = some o := ⟨_, List.getElem?_eq_getElem (by simpa using h)⟩

section
variable {P : Program} {N : Nat} {env : Env} {ops : Array Oper} {fs : Nat → T4 AV} {ss : Nat → St}

theorem Run.flat (hr : Run P N env ops ops.size fs ss) {p : Nat} : ∀ q, p ≤ q → q ≤ ops.size → (∀ (k : Nat) (o : Oper), p ≤ k → k < q → ops.toList[k]? = some o → cls P o.op < 2) → ss q = ss p
  | 0, h, _, _ => by rw [Nat.le_zero.1 h]
  | q + 1, h, hq, hc => by
    rcases Nat.lt_or_ge q p with hlt | hge
    · rw [show q + 1 = p by omega]
    · obtain ⟨o, ho⟩ := op_at (ops := ops) (i := q) (by omega)
      rw [stepOp_still (hr.step q o hq ho) (hc q o hge (Nat.lt_succ_self q) ho)]
      exact Run.flat hr q hge (by omega) fun k o h1 h2 => hc k o h1 (by omega)

theorem Run.raw (hr : Run P N env ops ops.size fs ss) : ∀ q, q ≤ ops.size → (ss q).raw = (ss 0).raw
  | 0, _ => rfl
  | q + 1, hq => by
    obtain ⟨o, ho⟩ := op_at (ops := ops) (i := q) (by omega)
    rw [stepOp_raw (hr.step q o hq ho)]
    exact Run.raw hr q (by omega)
theorem Run.rise (hr : Run P N env ops ops.size fs ss) {p : Nat} : ∀ q, p ≤ q → q ≤ ops.size → (∀ (k : Nat) (o : Oper), p ≤ k → k < q → ops.toList[k]? = some o → cls P o.op < 3) → (∀ k, k ≤ q → Fresh (ss k)) → Grows (ss p) (ss q)
  | 0, h, _, _, _ => by rw [Nat.le_zero.1 h]; exact .refl _
  | q + 1, h, hq, hc, hf => by
    rcases Nat.lt_or_ge q p with hlt | hge
    · rw [show q + 1 = p by omega]; exact .refl _
    · obtain ⟨o, ho⟩ := op_at (ops := ops) (i := q) (by omega)
      exact (Run.rise hr q hge (by omega) (fun k o h1 h2 => hc k o h1 (by omega)) fun k hk => hf k (by omega)).trans
        (stepOp_grows (hr.step q o hq ho) (hc q o hge (Nat.lt_succ_self q) ho) (hf q (by omega)))

theorem Run.laid (hr : Run P N env ops ops.size fs ss) {i : Nat} {o : Oper} (ho : ops.toList[i]? = some o) : ∃ v, Laid o.dst v (fs i) (fs (i + 1)) := by
  have hi : i < ops.size := by
    rcases Nat.lt_or_ge i ops.size with h | h
    · exact h
    · rw [List.getElem?_eq_none (by simpa using h)] at ho; cases ho
  obtain ⟨fX', v, _, h, _⟩ := stepOp_move (hr.step i o hi ho) (fun t _ => rfl) (.inl ⟨rfl, rfl⟩)
  exact ⟨v, h⟩

/-- a slot that nobody lays stays -/
theorem Run.none (hr : Run P N env ops ops.size fs ss) {t p : Nat} : ∀ i, p ≤ i → i ≤ ops.size → (∀ (j : Nat) (o : Oper), p ≤ j → j < i → ops.toList[j]? = some o → o.dst ≠ some t) → evP (fs i) (pathOf t) = evP (fs p) (pathOf t)
  | 0, h, _, _ => by rw [Nat.le_zero.1 h]
  | i + 1, h, hi, hn => by
    rcases Nat.lt_or_ge i p with hlt | hge
    · rw [show i + 1 = p by omega]
    · obtain ⟨o, ho⟩ := op_at (ops := ops) (i := i) (by omega)
      obtain ⟨v, hl⟩ := hr.laid ho
      rw [hl t, if_neg (hn i o hge (Nat.lt_succ_self i) ho)]
      exact Run.none hr i hge (by omega) fun j o h1 h2 => hn j o h1 (by omega)

/-- a slot that is laid once stays behind it -/
theorem Run.once (hr : Run P N env ops ops.size fs ss) (hd : DrawOK P ops) {t j : Nat} {o : Oper} (ho : ops.toList[j]? = some o) (ht : o.dst = some t) {i : Nat} (hji : j < i) (hi : i ≤ ops.size) :
    evP (fs i) (pathOf t) = evP (fs ops.size) (pathOf t) := by
  have hn : ∀ i, j < i → i ≤ ops.size → evP (fs i) (pathOf t) = evP (fs (j + 1)) (pathOf t) := fun i h1 h2 =>
    hr.none i h1 h2 fun k p hk _ hp he => by
      have := hd.dsts k j p o t hp ho he ht
      omega
  rw [hn i hji hi, hn ops.size (by omega) (Nat.le_refl _)]
end

theorem waits_le {P : Program} {ops : Array Oper} (hd : DrawOK P ops) {j : Nat} : ∀ i, i < ops.size → Waits ops i j → j < i := by
  intro i
  induction i using Nat.strongRecOn with
  | _ i ih =>
    intro hi h
    obtain ⟨o, ho⟩ := op_at hi
    obtain ⟨e, e1, e2, e3⟩ := waits_edge ho h (hd.edges i o ho)
    have hlt : e.on < i := by
      have := List.all_eq_true.1 (hd.edges i o ho) e e1
      rw [e2] at this
      exact blt (by simpa using this)
    rcases e3 with rfl | e3
    · exact hlt
    · exact Nat.lt_trans (ih e.on hlt (by omega) e3) hlt

/-- what is listed has behind it what it waits for -/
def Closed (ops : Array Oper) (listed : Array Bool) : Prop := ∀ (i : Nat) (o : Oper), ops.toList[i]? = some o → listed.getD i false = true → ∀ e ∈ o.after, Region.binds .any e = true → listed.getD e.on false = true

theorem closed_waits {P : Program} {ops : Array Oper} (hd : DrawOK P ops) {listed : Array Bool} (hc : Closed ops listed) {j : Nat} : ∀ i, i < ops.size → listed.getD i false = true → Waits ops i j → listed.getD j false = true := by
  intro i
  induction i using Nat.strongRecOn with
  | _ i ih =>
    intro hi hl h
    obtain ⟨o, ho⟩ := op_at hi
    obtain ⟨e, e1, e2, e3⟩ := waits_edge ho h (hd.edges i o ho)
    have hlt : e.on < i := by
      have := List.all_eq_true.1 (hd.edges i o ho) e e1
      rw [e2] at this
      exact blt (by simpa using this)
    have hon := hc i o ho hl e (by simpa using e1) e2
    rcases e3 with rfl | e3
    · exact hon
    · exact ih e.on hlt (by omega) hon e3

theorem ready_waits {P : Program} {ops : Array Oper} (hd : DrawOK P ops) {listed : Array Bool} (hc : Closed ops listed) {i j : Nat} {o : Oper} (ho : ops.toList[i]? = some o) (hr : ∀ e ∈ o.after, Region.binds .any e = true → listed.getD e.on false = true) (h : Waits ops i j) : listed.getD j false = true := by
  obtain ⟨e, e1, e2, e3⟩ := waits_edge ho h (hd.edges i o ho)
  have hlt : e.on < i := by
    have := List.all_eq_true.1 (hd.edges i o ho) e e1
    rw [e2] at this
    exact blt (by simpa using this)
  have hon := hr e (by simpa using e1) e2
  rcases e3 with rfl | e3
  · exact hon
  · exact closed_waits hd hc e.on (Nat.lt_trans hlt (size_of ho)) hon e3

theorem pair_ww {a b : Nat} (ha : 2 ≤ a) (hb : 2 ≤ b) : pairOk2 a b = false := by
  match a, b, ha, hb with
  | 2, 2, _, _ => rfl
  | 2, b + 3, _, _ => rfl
  | 3, 2, _, _ => rfl
  | 3, b + 3, _, _ => rfl
  | a + 4, 2, _, _ => rfl
  | a + 4, b + 3, _, _ => rfl
theorem cls_le (P : Program) (o : Op) : cls P o ≤ 3 := by
  unfold cls
  split
  all_goals first | decide | (unfold clsC; split <;> decide) | (split <;> first | decide | (unfold clsL; split <;> decide))

/-- a read that is asked again: it answers the same as long as nobody who waits for it has changed memory -/
theorem Run.asks {P : Program} {N : Nat} {env : Env} {ops : Array Oper} {fs : Nat → T4 AV} {ss : Nat → St} (hr : Run P N env ops ops.size fs ss) (hd : DrawOK P ops) {i : Nat} {o : Oper} (ho : ops.toList[i]? = some o) (hc : cls P o.op = 1) (hwt : wantB ops o (fs i) = true) {v : AV}
    (hv : ans P env o (fs i) (ss i) = .val v (ss (i + 1))) : ∀ p, i < p → p ≤ ops.size → (∀ (k : Nat) (q : Oper), i < k → k < p → ops.toList[k]? = some q → 2 ≤ cls P q.op → ¬ Waits ops k i) → (∀ q, q ≤ p → Fresh (ss q)) →
    ans P env o (fs i) (ss p) = .val v (ss p)
  | 0, h, _, _, _ => by omega
  | p + 1, h, hp, hw, hf => by
    by_cases hpi : p = i
    · subst hpi
      have := (ans_read hc hv).1
      rw [this] at hv ⊢
      exact hv
    · have hip : i < p := by omega
      have ih := Run.asks hr hd ho hc hwt hv p hip (by omega) (fun k q h1 h2 => hw k q h1 (by omega)) fun q hq => hf q (by omega)
      obtain ⟨q, hq⟩ := op_at (ops := ops) (i := p) (by omega)
      rcases Nat.lt_or_ge (cls P q.op) 3 with h3 | h3
      · exact (ans_read hc ih).2 _ (stepOp_grows (hr.step p q (by omega) hq) h3 (hf p (by omega)))
      · have h3' : cls P q.op = 3 := Nat.le_antisymm (cls_le P _) h3
        have ha := hr.asked p i o q hip ho hq hc h3' (hw p q hip (Nat.lt_succ_self p) hq (by omega))
        have hsee : Sees ops o (fs (p + 1)) (fs i) := by
          intro t ht
          refine hr.none (p + 1) (by omega) hp fun j z hj1 hj2 hz he => ?_
          rcases hd.writers j i z o t hz ho he ht with hwt | ⟨h0, _⟩
          · have := waits_le hd i (size_of ho) hwt
            omega
          · rw [hc] at h0; cases h0
        obtain ⟨d, v1, hdst, h1, h2⟩ := again_inv hc (by rw [wantB_sees hsee]; exact hwt) ha
        rw [ans_congr (sees_op hsee)] at h1
        have hslot : evP (fs (p + 1)) (pathOf d) = v := by
          rw [hr.once hd ho hdst (by omega) hp, ← hr.once hd ho hdst (Nat.lt_succ_self i) (size_of ho)]
          exact stepOp_slot (hr.step i o (size_of ho) ho) hwt hdst hv
        rw [h1, h2, hslot]

/-- a read that was asked at the elder states: it answers the same at each of them -/
theorem Run.backs {P : Program} {N : Nat} {env : Env} {ops : Array Oper} {fs : Nat → T4 AV} {ss : Nat → St} (hr : Run P N env ops ops.size fs ss) {i : Nat} {o : Oper} (ho : ops.toList[i]? = some o) (hc : cls P o.op = 1) (hwt : wantB ops o (fs i) = true) {v : AV}
    (hv : ans P env o (fs i) (ss i) = .val v (ss (i + 1))) : ∀ (d p : Nat), p + d = i → (∀ (k : Nat) (q : Oper), p ≤ k → k < i → ops.toList[k]? = some q → 2 ≤ cls P q.op → ¬ Waits ops i k) → ans P env o (fs i) (ss p) = .val v (ss p)
  | 0, p, hp, _ => by
    have : p = i := by omega
    subst this
    have := (ans_read hc hv).1
    rw [this] at hv
    exact hv
  | d + 1, p, hp, hw => by
    have hpi : p < i := by omega
    obtain ⟨q, hq⟩ := op_at (ops := ops) (i := p) (by have := size_of ho; omega)
    rcases Nat.lt_or_ge (cls P q.op) 2 with h2 | h2
    · have ih := Run.backs hr ho hc hwt hv d (p + 1) (by omega) fun k z h1 => hw k z (by omega)
      rw [stepOp_still (hr.step p q (size_of hq) hq) h2] at ih
      exact ih
    · have hb := hr.back p i q o hpi hq ho h2 hc (hw p q (Nat.le_refl p) hpi hq h2)
      unfold askB at hb
      split at hb
      · rename_i dd hd
        rw [bif_t hwt] at hb
        change OR.rec (motive := fun _ => Bool) (fun v _ => avEq v (evP (fs (i + 1)) (pathOf dd))) (fun _ => false) (ans P env o (fs i) (ss p)) = true at hb
        cases hx : ans P env o (fs i) (ss p) with
        | no w => rw [hx] at hb; cases hb
        | val v1 s1 =>
          rw [hx] at hb
          have h1 := (ans_read hc hx).1
          have h3 := avEq_eq hb
          rw [stepOp_slot (hr.step i o (size_of ho) ho) hwt hd hv] at h3
          rw [h1, h3]
      · cases hb

theorem isBs_inv {o : Oper} (h : isBs o = true) : (∃ t len parts, o.op = .buildSlice t len parts) ∨ (∃ t, o.op = .makeMap t none) := by
  unfold isBs at h
  split at h
  · rename_i t len parts d h1 h2 h3; exact .inl ⟨t, len, parts, h1⟩
  · rename_i t d h1 h2 h3; exact .inr ⟨t, h1⟩
  · cases h
theorem isBs_at {o : Oper} (h : isBs o = true) : o.guard = none ∧ ∃ d, o.dst = some d := by
  unfold isBs at h
  split at h
  · rename_i t len parts d h1 h2 h3; exact ⟨h2, d, h3⟩
  · rename_i t d h1 h2 h3; exact ⟨h2, d, h3⟩
  · cases h
theorem isSt_inv {o : Oper} (h : isSt o = true) : ∃ t a x, o.op = .store t a x ∧ o.guard = none ∧ o.dst = none := by
  unfold isSt at h
  split at h
  · rename_i t a x h1 h2 h3; exact ⟨t, a, x, h1, h2, h3⟩
  · cases h
theorem isBs_cls {P : Program} {o : Oper} (h : isBs o = true) : cls P o.op = 2 := by
  rcases isBs_inv h with ⟨t, len, parts, h1⟩ | ⟨t, h1⟩ <;> (rw [h1]; rfl)
theorem isSt_cls {P : Program} {o : Oper} (h : isSt o = true) : cls P o.op = 3 := by
  obtain ⟨t, a, x, h1, _, _⟩ := isSt_inv h
  rw [h1]; rfl

/-! ## two stores -/

theorem aStore_inv {P : Program} {t : TypeId} {hd : Hd} {i : Nat} {x v : AV} {s s' : St} (hr : aStore P t (.ptr hd i) x s = .val v s') : v = uv ∧ ∃ o o', s.heap.at_ hd.A = some o ∧ s' = ⟨s.heap.put hd.A o', s.next, s.ds, s.raw⟩ ∧
    ∀ s2 : St, s2.heap.at_ hd.A = some o → aStore P t (.ptr hd i) x s2 = .val uv ⟨s2.heap.put hd.A o', s2.next, s2.ds, s2.raw⟩ := by
  obtain ⟨el, n, cs, lo, hi, hb, hr⟩ := VB_inv (show VB.rec (motive := fun _ => OR) _ (.no _) (blkAt s hd.A) = .val v s' from hr)
  obtain ⟨k, hk, hr⟩ := Opt_inv hr
  obtain ⟨e1, hr⟩ := bif_inv hr
  obtain ⟨e2, hr⟩ := bif_inv hr
  obtain ⟨e3, hr⟩ := bif_inv hr
  obtain ⟨e4, hr⟩ := bif_inv hr
  obtain ⟨e5, hr⟩ := bif_inv hr
  unfold store2 at hr
  rw [putLK_eq, stPut_eq] at hr
  cases hr
  refine ⟨rfl, _, _, hb, rfl, fun s2 h2 => ?_⟩
  show store1 hd i (cellsL x) (cellsOf P t) s2 (blkAt s2 hd.A) = _
  rw [blkAt_of h2, hk]
  show bif_ (Nat.beq hd.e hi) _ _ = _
  rw [bif_t e1, bif_t e2, bif_t e3, bif_t e4, bif_t e5]
  unfold store2
  rw [putLK_eq, stPut_eq]

theorem stores_comm {P : Program} {t t' : TypeId} {h h' : Hd} {i i' : Nat} {x x' v v' : AV} {s s1 s2 : St} (hr : aStore P t (.ptr h i) x s = .val v s1) (hr' : aStore P t' (.ptr h' i') x' s1 = .val v' s2) (hne : h.A ≠ h'.A) :
    ∃ sb, aStore P t' (.ptr h' i') x' s = .val uv sb ∧ aStore P t (.ptr h i) x sb = .val uv s2 ∧ sb.ds = s.ds := by
  obtain ⟨_, o, o', a1, rfl, a3⟩ := aStore_inv hr
  obtain ⟨_, q, q', b1, rfl, b3⟩ := aStore_inv hr'
  have b1' : s.heap.at_ h'.A = some q := by
    have : (s.heap.put h.A o').at_ h'.A = some q := b1
    rwa [T4.at_put_ne _ _ _ _ (fun e => hne e.symm)] at this
  refine ⟨⟨s.heap.put h'.A q', s.next, s.ds, s.raw⟩, b3 s b1', ?_, rfl⟩
  rw [a3 ⟨s.heap.put h'.A q', s.next, s.ds, s.raw⟩ (by show (s.heap.put h'.A q').at_ h.A = some o; rw [T4.at_put_ne _ _ _ _ hne]; exact a1)]
  show OR.val uv ⟨(s.heap.put h'.A q').put h.A o', s.next, s.ds, s.raw⟩ = OR.val uv ⟨(s.heap.put h.A o').put h'.A q', s.next, s.ds, s.raw⟩
  rw [T4.put_comm _ _ _ _ _ hne]

/-- a store's step -/
theorem stepOp_store {P : Program} {N : Nat} {env : Env} {ops : Array Oper} {o : Oper} {t : TypeId} {a x : Operand} (h1 : o.op = .store t a x) (h2 : o.guard = none) (h3 : o.dst = none) {f : T4 AV} {s : St} :
    stepOp P N env ops o f s = OR.rec (motive := fun _ => Res) (fun _ s => .ok f s) (fun w => .bad (o.pos :: w)) (aStore P t (evO f a) (evO f x) s) := by
  have hgb : guardB ops o = .none := by unfold guardB; rw [h2]
  unfold stepOp
  rw [hgb]
  show runOp P N env o f s = _
  unfold runOp
  rw [h1, h3]
  show OR.rec (motive := fun _ => Res) (fun v s => fin N none v f s) _ (aStore P t (evO f a) (evO f x) s) = _
  cases aStore P t (evO f a) (evO f x) s <;> rfl

/-! ## new memory ahead of its turn -/

/-- what was made, as it is told and as it lies -/
def Made (ρ : Ren) (A : Nat) (ob : AOb) (av : AV) (cv : Value) (b : Nat) (wo : Obj) : Prop :=
  (∃ (el : TypeId) (cells : List AV) (vs : Array Value) (len sz : Nat) (fz : Bool), ob = .blk el cells.length (putL cells .e 0) 0 0 ∧ av = .sl ⟨A, 0, cells.length, fz⟩ 0 len sz ∧ cv = .slice (some ⟨b, 0, none⟩) len len ∧ 0 < sz ∧ len * sz = cells.length ∧ vs.size = len * sz ∧
    wo = .cells vs el (0, 0) ∧ VRs ρ cells vs.toList) ∨
  (∃ kd, ob = .map kd [] 0 ∧ av = .mp A ∧ cv = .map (some b) ∧ wo = .map #[] 0)
theorem Made.mono {ρ ρ' : Ren} {A : Nat} {ob : AOb} {av : AV} {cv : Value} {b : Nat} {wo : Obj} (h : Made ρ A ob av cv b wo) (hle : ρ.le ρ') : Made ρ' A ob av cv b wo := by
  rcases h with ⟨el, cells, vs, len, sz, fz, h1, h2, h3, h4, h5, h6, h7, h8⟩ | h
  · exact .inl ⟨el, cells, vs, len, sz, fz, h1, h2, h3, h4, h5, h6, h7, h8.mono hle⟩
  · exact .inr h

/-- a map that lies in the world, told of from here on -/
theorem SR.adoptMap {ρ : Ren} {s : St} {w : World} (h : SR ρ s w) (kd : Option IntKind) (b : Nat) (hb : b < w.heap.size) (hf : ρ.free b) (hh : w.heap[b]? = some (.map #[] 0)) :
    ∃ ρ', ρ'.obj s.next = some b ∧ ρ.le ρ' ∧ (∀ c, ¬ ρ'.free c → ¬ ρ.free c ∨ c = b) ∧ SR ρ' (s.newO (.map kd [] 0)) w := by
  have hobj : ∀ m c, (ρ.withObj s.next b).obj m = some c → (m = s.next ∧ c = b) ∨ (m ≠ s.next ∧ ρ.obj m = some c) := by
    intro m c hm
    change (if m = s.next then some b else ρ.obj m) = some c at hm
    by_cases he : m = s.next
    · rw [if_pos he] at hm; cases hm; exact .inl ⟨he, rfl⟩
    · rw [if_neg he] at hm; exact .inr ⟨he, hm⟩
  have hself : (ρ.withObj s.next b).obj s.next = some b := if_pos rfl
  have hkeep : ∀ m c, ρ.obj m = some c → (ρ.withObj s.next b).obj m = some c := by
    intro m c hm
    show (if m = s.next then some b else ρ.obj m) = some c
    rw [if_neg (by have := (h.objdom _ _ hm).1; omega)]
    exact hm
  have hle : ρ.le (ρ.withObj s.next b) := ⟨⟨fun _ _ _ x => x, hkeep, fun _ _ x => x⟩, fun _ _ x => x⟩
  refine ⟨ρ.withObj s.next b, hself, hle, fun c hc => ?_, ?_⟩
  · refine Classical.byContradiction fun hn => hc ⟨fun A e l hl hk => ?_, fun m hm => ?_⟩
    · have hfc : ρ.free c := Classical.byContradiction fun x => hn (.inl x)
      exact hfc.1 _ _ _ hl hk
    · have hfc : ρ.free c := Classical.byContradiction fun x => hn (.inl x)
      rcases hobj m c hm with ⟨_, rfl⟩ | ⟨_, x⟩
      · exact hn (.inr rfl)
      · exact hfc.2 m x
  · constructor
    · intro A el n cs lo hi hat e h0 h1
      change (s.heap.put s.next _).at_ A = _ at hat
      rw [T4.at_put] at hat
      by_cases hA : A = s.next
      · rw [if_pos hA] at hat; cases hat
      · rw [if_neg hA] at hat
        obtain ⟨l', a1, a2, a3, a4⟩ := h.blks A el n cs lo hi hat e h0 h1
        exact ⟨l', a1, a2, a3, a4.mono hle rfl⟩
    · intro A e l' hl
      exact ⟨Nat.lt_succ_of_lt (h.dom _ _ _ hl).1, (h.dom _ _ _ hl).2⟩
    · intro A e l' hl el n cs lo hi hat
      change (s.heap.put s.next _).at_ A = _ at hat
      rw [T4.at_put, if_neg (by have := (h.dom _ _ _ hl).1; omega)] at hat
      exact h.top _ _ _ hl _ _ _ _ _ hat
    · exact h.inj
    · intro m c hm
      rcases hobj m c hm with ⟨rfl, rfl⟩ | ⟨_, x⟩
      · exact ⟨Nat.lt_succ_self _, hb⟩
      · exact ⟨Nat.lt_succ_of_lt (h.objdom _ _ x).1, (h.objdom _ _ x).2⟩
    · intro m c m' hm hm'
      rcases hobj m c hm with ⟨rfl, rfl⟩ | ⟨_, x⟩
      · rcases hobj m' _ hm' with ⟨rfl, _⟩ | ⟨_, y⟩
        · rfl
        · exact absurd y (hf.2 m')
      · rcases hobj m' _ hm' with ⟨rfl, rfl⟩ | ⟨_, y⟩
        · exact absurd x (hf.2 m)
        · exact h.objinj _ _ _ x y
    · intro A e l' m c hl hm hk
      rcases hobj m c hm with ⟨rfl, rfl⟩ | ⟨_, x⟩
      · exact hf.1 _ _ _ hl hk
      · exact h.sep _ _ _ _ _ hl x hk
    · intro A hA
      have hA' : s.next + 1 ≤ A := hA
      show (s.heap.put s.next _).at_ A = none
      rw [T4.at_put, if_neg (by omega)]
      exact h.fresh A (by omega)
    · exact h.same
    · exact h.rows
    · intro m ob' hat hob'
      change (s.heap.put s.next _).at_ m = _ at hat
      rw [T4.at_put] at hat
      by_cases hm : m = s.next
      · rw [if_pos hm] at hat
        cases hat
        subst hm
        exact ⟨_, _, hself, hh, #[], rfl, ⟨rfl, fun k v hm => (by cases hm), fun e he => (by cases he), MapKept.stamped_empty 0, .nil⟩⟩
      · rw [if_neg hm] at hat
        obtain ⟨c, o', b1, b2, b3⟩ := h.objs m ob' hat hob'
        exact ⟨c, o', hkeep _ _ b1, b2, b3.mono hle⟩
    · exact h.zero
    · exact fun i n hi => Nat.lt_succ_of_lt (h.stdom i n hi)
    · intro b' i v hb'
      obtain ⟨hf', hc'⟩ := h.raws b' i v hb'
      refine ⟨⟨hf'.1, fun m hm => ?_⟩, hc'⟩
      rcases hobj m b' hm with ⟨_, rfl⟩ | ⟨_, x⟩
      · simp [World.cell?, hh] at hc'
      · exact hf'.2 m x

theorem SR.adoptO {ρ : Ren} {s : St} {w : World} (h : SR ρ s w) {ob : AOb} {av : AV} {cv : Value} {b : Nat} {wo : Obj} (hm : Made ρ s.next ob av cv b wo) (hb : b < w.heap.size) (hf : ρ.free b) (hh : w.heap[b]? = some wo) (hnr : ∀ i, s.raw b i = none) :
    ∃ ρ', VR ρ' av cv ∧ ρ.le ρ' ∧ (∀ c, ¬ ρ'.free c → ¬ ρ.free c ∨ c = b) ∧ SR ρ' (s.newO ob) w := by
  rcases hm with ⟨el, cells, vs, len, sz, fz, rfl, rfl, rfl, h4, h5, h6, rfl, h8⟩ | ⟨kd, rfl, rfl, rfl, rfl⟩
  · obtain ⟨ρ', r1, r2, r3, r4⟩ := h.adopt el cells vs b fz hb hf hh (by omega) h8 hnr
    exact ⟨ρ', VR.sl (l := ⟨b, 0, 0, cells.length, vs.size, fz⟩) r1 rfl rfl (Nat.le_refl _) (by show 0 + len * sz ≤ cells.length; omega) h4 (Nat.le_refl _) (by show 0 + (0 - 0) + len * sz ≤ vs.size; omega), r2, r3, r4⟩
  · obtain ⟨ρ', r1, r2, r3, r4⟩ := h.adoptMap kd b hb hf hh
    exact ⟨ρ', .mp r1, r2, r3, r4⟩

/-- a block that was made ahead of its turn: nobody has touched it -/
def Pd (P : Program) (ops : Array Oper) (fs : Nat → T4 AV) (ss : Nat → St) (base : Nat) (ρ : Ren) (w : World) (e : Nat) (t : Tmp) (cv : Value) : Prop :=
  ∃ (o : Oper) (b : Nat) (ob : AOb) (av : AV) (wo : Obj), ops.toList[e]? = some o ∧ o.dst = some t ∧ cls P o.op = 2 ∧ ss (e + 1) = (ss e).newO ob ∧ evP (fs (e + 1)) (pathOf t) = av ∧ Made ρ (ss e).next ob av cv b wo ∧
    b < w.heap.size ∧ base ≤ b ∧ ρ.free b ∧ w.heap[b]? = some wo ∧ ∀ q, q ≤ ops.size → ∀ i, (ss q).raw b i = none

theorem Pd.step {P : Program} {ops : Array Oper} {fs : Nat → T4 AV} {ss : Nat → St} {base : Nat} {ρ ρ' : Ren} {w w' : World} {e : Nat} {t : Tmp} {cv : Value} (h : Pd P ops fs ss base ρ w e t cv) (he : Ext w ρ ρ') (hk : Keeps ρ w w') : Pd P ops fs ss base ρ' w' e t cv := by
  obtain ⟨o, b, ob, av, wo, h1, h2, h3, h4, h5, h6, h10, h11, h12, h13, h15⟩ := h
  refine ⟨o, b, ob, av, wo, h1, h2, h3, h4, h5, h6.mono he.le, Nat.lt_of_lt_of_le h10 hk.size, h11, ?_, (hk.old b h10 h12).trans h13, h15⟩
  refine Classical.byContradiction fun hn => ?_
  rcases he.new b hn with x | x
  · exact x h12
  · omega

/-- how things stand between two steps -/
structure Mid (P : Program) (ops : Array Oper) (N : Nat) (fs : Nat → T4 AV) (ss : Nat → St) (w0 : World) (ρ0 : Ren) (listed : Array Bool) (ρ : Ren) (w : World) (p : Nat) (pe : Option (Nat × Tmp × Value)) (fX : T4 AV) (a : Act) : Prop where
  size : listed.size = ops.size
  closed : Closed ops listed
  upto : p ≤ ops.size
  done : ∀ (i : Nat) (o : Oper), ops.toList[i]? = some o → 2 ≤ cls P o.op → (listed.getD i false = true ↔ i < p ∨ ∃ t cv, pe = some (i, t, cv))
  pend : ∀ e t cv, pe = some (e, t, cv) → Pd P ops fs ss w0.heap.size ρ w e t cv ∧ evP fX (pathOf t) = .c cv ∧ ∃ (k : Nat) (q z : Oper), p ≤ k ∧ k < e ∧ ops.toList[k]? = some q ∧ ops.toList[e]? = some z ∧ 2 ≤ cls P q.op ∧ ¬ Waits ops e k ∧ New P ops k e q z
  ext : Ext w0 ρ0 ρ
  kp : Keeps ρ0 w0 w
  sr : SR ρ (ss p) w
  frame : AR P ρ N fX (ss p) a
  new : ∀ (t j : Nat) (o : Oper), ops.toList[j]? = some o → listed.getD j false = true → o.dst = some t → (∀ t' cv, pe ≠ some (j, t', cv)) → evP fX (pathOf t) = evP (fs ops.size) (pathOf t)
  old : ∀ t : Nat, (∀ (j : Nat) (o : Oper), ops.toList[j]? = some o → listed.getD j false = true → o.dst ≠ some t) → evP fX (pathOf t) = evP (fs 0) (pathOf t)
  fresh : ∀ q, q ≤ p → Fresh (ss q)

theorem getD_set {listed : Array Bool} {i j : Nat} (hi : i < listed.size) : (listed.setIfInBounds i true).getD j false = true ↔ j = i ∨ listed.getD j false = true := by
  by_cases h : j = i
  · subst h
    simp [hi]
  · rw [getD_set_ne false (Ne.symm h)]
    simp [h]


/-- the change ahead of a block made ahead of its turn is not done yet -/
theorem Mid.behind {P : Program} {env : Env} {ops : Array Oper} {N : Nat} {fs : Nat → T4 AV} {ss : Nat → St} {w0 : World} {ρ0 : Ren} {listed : Array Bool} {ρ : Ren} {w : World} {p : Nat} {pe : Option (Nat × Tmp × Value)} {fX : T4 AV} {a : Act}
    (h : Mid P ops N fs ss w0 ρ0 listed ρ w p pe fX a) {e : Nat} {t : Tmp} {cv : Value} (hp : pe = some (e, t, cv)) : ∃ (k : Nat) (q z : Oper), p ≤ k ∧ k < e ∧ ops.toList[k]? = some q ∧ ops.toList[e]? = some z ∧ 2 ≤ cls P q.op ∧ listed.getD k false = false ∧ New P ops k e q z := by
  obtain ⟨_, _, k, q, z, h1, h2, h3, h4, h5, h6, h7⟩ := h.pend e t cv hp
  refine ⟨k, q, z, h1, h2, h3, h4, h5, ?_, h7⟩
  cases hl : listed.getD k false with
  | false => rfl
  | true =>
    exfalso
    rcases (h.done k q h3 h5).1 hl with x | ⟨t', cv', x⟩
    · omega
    · rw [hp] at x; cases x; omega
/-- whoever waits for a block made ahead of its turn is not ready -/
theorem Mid.not_pend {P : Program} {env : Env} {ops : Array Oper} {N : Nat} {fs : Nat → T4 AV} {ss : Nat → St} {w0 : World} {ρ0 : Ren} {listed : Array Bool} {ρ : Ren} {w : World} {p : Nat} {pe : Option (Nat × Tmp × Value)} {fX : T4 AV} {a : Act}
    (h : Mid P ops N fs ss w0 ρ0 listed ρ w p pe fX a) {i e : Nat} {t : Tmp} {cv : Value} (hp : pe = some (e, t, cv)) (hw : ∀ j, Waits ops i j → listed.getD j false = true) : ¬ Waits ops i e := by
  obtain ⟨k, q, z, _, _, _, _, _, hl, hN⟩ := h.behind (env := env) hp
  intro hwe
  rw [hw k (hN.follow i hwe)] at hl
  cases hl

theorem Mid.sees {P : Program} {env : Env} {ops : Array Oper} {N : Nat} {fs : Nat → T4 AV} {ss : Nat → St} (hr : Run P N env ops ops.size fs ss) (hd : DrawOK P ops) {w0 : World} {ρ0 : Ren} {listed : Array Bool} {ρ : Ren} {w : World} {p : Nat} {pe : Option (Nat × Tmp × Value)} {fX : T4 AV} {a : Act}
    (h : Mid P ops N fs ss w0 ρ0 listed ρ w p pe fX a) {i : Nat} {o : Oper} (ho : ops.toList[i]? = some o) (hl : listed.getD i false = false) (hw : ∀ j, Waits ops i j → listed.getD j false = true) : Sees ops o fX (fs i) := by
  intro t ht
  by_cases hx : ∃ (j : Nat) (q : Oper), ops.toList[j]? = some q ∧ q.dst = some t
  · obtain ⟨j, q, hq, hqt⟩ := hx
    rcases hd.writers j i q o t hq ho hqt ht with hwt | ⟨_, hwt⟩
    · rw [h.new t j q hq (hw j hwt) hqt (fun t' cv e => h.not_pend (env := env) e hw hwt), hr.once hd hq hqt (waits_le hd i (size_of ho) hwt) (Nat.le_of_lt (size_of ho))]
    · have hij := waits_le hd j (size_of hq) hwt
      rw [h.old t fun j' q' hq' hlj e => ?_, hr.none i (Nat.zero_le i) (Nat.le_of_lt (size_of ho)) fun j' q' _ hj' hq' e => ?_]
      · have := hd.dsts j' j q' q t hq' hq e hqt
        omega
      · have := hd.dsts j' j q' q t hq' hq e hqt
        subst this
        have := closed_waits hd h.closed j' (size_of hq) hlj hwt
        rw [hl] at this; cases this
  · have hn : ∀ (j : Nat) (q : Oper), ops.toList[j]? = some q → q.dst ≠ some t := fun j q hq e => hx ⟨j, q, hq, e⟩
    rw [h.old t fun j q hq _ => hn j q hq, hr.none i (Nat.zero_le i) (Nat.le_of_lt (size_of ho)) fun j q _ _ hq => hn j q hq]

/-- a quiet operation's or a read's place -/
theorem Mid.quiet {P : Program} {env : Env} {ops : Array Oper} {N : Nat} {fs : Nat → T4 AV} {ss : Nat → St} (hr : Run P N env ops ops.size fs ss) (hd : DrawOK P ops) {w0 : World} {ρ0 : Ren} {listed : Array Bool} {ρ : Ren} {w : World} {p : Nat} {pe : Option (Nat × Tmp × Value)} {fX : T4 AV} {a : Act}
    (h : Mid P ops N fs ss w0 ρ0 listed ρ w p pe fX a) {i : Nat} {o : Oper} (ho : ops.toList[i]? = some o) (hl : listed.getD i false = false) (hw : ∀ j, Waits ops i j → listed.getD j false = true) (hc : cls P o.op < 2) :
    ss (i + 1) = ss i ∧ (wantB ops o (fs i) = true → ∀ v, ans P env o (fs i) (ss i) = .val v (ss (i + 1)) → ans P env o (fs i) (ss p) = .val v (ss p)) := by
  have hi := size_of ho
  have hst := stepOp_still (hr.step i o hi ho) hc
  rcases Nat.lt_or_ge (cls P o.op) 1 with h0 | h1
  · exact ⟨hst, fun _ v hv => (ans_pure P env o (fs i) (by omega) _ _ _ hv).2 (ss p)⟩
  · have hc1 : cls P o.op = 1 := by omega
    rcases Nat.lt_or_ge i p with hip | hip
    · refine ⟨hst, fun hwt' v hv => hr.asks hd ho hc1 hwt' hv p hip h.upto (fun k q hk1 hk2 hq hck hwt => ?_) h.fresh⟩
      have := closed_waits hd h.closed k (size_of hq) ((h.done k q hq hck).2 (.inl hk2)) hwt
      rw [hl] at this; cases this
    · refine ⟨hst, fun hwt' v hv => hr.backs ho hc1 hwt' hv (i - p) p (by omega) fun k q hk1 hk2 hq hck hwt => ?_⟩
      rcases (h.done k q hq hck).1 (hw k hwt) with x | ⟨t, cv, x⟩
      · omega
      · exact h.not_pend (env := env) x hw hwt

/-- a change's place: its turn has come, or it goes ahead of it -/
theorem Mid.place {P : Program} {env : Env} {ops : Array Oper} {N : Nat} {fs : Nat → T4 AV} {ss : Nat → St} (hr : Run P N env ops ops.size fs ss) (hd : DrawOK P ops) {w0 : World} {ρ0 : Ren} {listed : Array Bool} {ρ : Ren} {w : World} {p : Nat} {pe : Option (Nat × Tmp × Value)} {fX : T4 AV} {a : Act}
    (h : Mid P ops N fs ss w0 ρ0 listed ρ w p pe fX a) {i : Nat} {o : Oper} (ho : ops.toList[i]? = some o) (hl : listed.getD i false = false) (hw : ∀ j, Waits ops i j → listed.getD j false = true) (hc : 2 ≤ cls P o.op) :
    p ≤ i ∧ ((∀ (k : Nat) (q : Oper), p ≤ k → k < i → ops.toList[k]? = some q → cls P q.op < 2) ∨
      (∃ (k : Nat) (q : Oper), p ≤ k ∧ k < i ∧ ops.toList[k]? = some q ∧ 2 ≤ cls P q.op ∧ listed.getD k false = false ∧ ¬ Waits ops i k ∧ Swap P ops k i q o) ∨
      (∃ (k : Nat) (q : Oper), p ≤ k ∧ k < i ∧ ops.toList[k]? = some q ∧ 2 ≤ cls P q.op ∧ listed.getD k false = false ∧ ¬ Waits ops i k ∧ New P ops k i q o)) := by
  have hpi : p ≤ i := by
    rcases Nat.lt_or_ge i p with x | x
    · have := (h.done i o ho hc).2 (.inl x)
      rw [hl] at this; cases this
    · exact x
  refine ⟨hpi, ?_⟩
  by_cases hex : ∃ (k : Nat) (q : Oper), p ≤ k ∧ k < i ∧ ops.toList[k]? = some q ∧ 2 ≤ cls P q.op
  · right
    obtain ⟨k, q, hk1, hk2, hq, hck⟩ := hex
    cases hlk : listed.getD k false with
    | true =>
      exfalso
      rcases (h.done k q hq hck).1 hlk with x | ⟨t, cv, x⟩
      · omega
      · have hnw := h.not_pend (env := env) x hw
        obtain ⟨k', q', z, _, _, _, hz, _, _, hN⟩ := h.behind (env := env) x
        rw [hq] at hz; cases hz
        have hc2 : cls P q.op = 2 := isBs_cls hN.bs
        rcases hd.pairs k i q o hk2 hq ho with y | y | y | y
        · exact hnw y
        · rw [pair_ww (by omega) hc] at y; cases y
        · have := isSt_cls (P := P) y.st1; omega
        · have := hN.ix.trans y.ix.symm; omega
    | false =>
      have hnw : ¬ Waits ops i k := fun x => by rw [hw k x] at hlk; cases hlk
      rcases hd.pairs k i q o hk2 hq ho with y | y | y | y
      · exact absurd y hnw
      · rw [pair_ww hck hc] at y; cases y
      · exact .inl ⟨k, q, hk1, hk2, hq, hck, hlk, hnw, y⟩
      · exact .inr ⟨k, q, hk1, hk2, hq, hck, hlk, hnw, y⟩
  · left
    intro k q hk1 hk2 hq
    refine Classical.byContradiction fun hn => hex ⟨k, q, hk1, hk2, hq, by omega⟩

/-- the slots behind a step -/
theorem slots {P : Program} {N : Nat} {env : Env} {ops : Array Oper} {fs : Nat → T4 AV} {ss : Nat → St} (hr : Run P N env ops ops.size fs ss) (hd : DrawOK P ops) {listed : Array Bool} (hsz : listed.size = ops.size) {pe : Option (Nat × Tmp × Value)} {fX : T4 AV}
    (hnew : ∀ (t j : Nat) (o : Oper), ops.toList[j]? = some o → listed.getD j false = true → o.dst = some t → (∀ t' cv, pe ≠ some (j, t', cv)) → evP fX (pathOf t) = evP (fs ops.size) (pathOf t))
    (hold : ∀ t : Nat, (∀ (j : Nat) (o : Oper), ops.toList[j]? = some o → listed.getD j false = true → o.dst ≠ some t) → evP fX (pathOf t) = evP (fs 0) (pathOf t))
    {i : Nat} {o : Oper} (ho : ops.toList[i]? = some o) {v : AV} {fX' : T4 AV} (l1 : Laid o.dst v (fs i) (fs (i + 1))) (l2 : Laid o.dst v fX fX') :
    (∀ (t j : Nat) (q : Oper), ops.toList[j]? = some q → (listed.setIfInBounds i true).getD j false = true → q.dst = some t → (∀ t' cv, pe ≠ some (j, t', cv)) → evP fX' (pathOf t) = evP (fs ops.size) (pathOf t)) ∧
    (∀ t : Nat, (∀ (j : Nat) (q : Oper), ops.toList[j]? = some q → (listed.setIfInBounds i true).getD j false = true → q.dst ≠ some t) → evP fX' (pathOf t) = evP (fs 0) (pathOf t)) := by
  have hi := size_of ho
  have hil : i < listed.size := by omega
  refine ⟨fun t j q hq hlj hqt hne => ?_, fun t hn => ?_⟩
  · rw [l2 t]
    by_cases hdt : o.dst = some t
    · rw [if_pos hdt]
      have := hr.once hd ho hdt (Nat.lt_succ_self i) hi
      rw [← this, l1 t, if_pos hdt]
    · rw [if_neg hdt]
      rw [getD_set hil] at hlj
      rcases hlj with rfl | hlj
      · rw [ho] at hq; cases hq; exact absurd hqt hdt
      · exact hnew t j q hq hlj hqt hne
  · rw [l2 t, if_neg (hn i o ho ((getD_set hil).2 (.inl rfl)))]
    exact hold t fun j q hq hlj => hn j q hq ((getD_set hil).2 (.inr hlj))

theorem closed_set {ops : Array Oper} {listed : Array Bool} (hsz : listed.size = ops.size) (hc : Closed ops listed) {i : Nat} {o : Oper} (ho : ops.toList[i]? = some o) (ha : ∀ e ∈ o.after, Region.binds .any e = true → listed.getD e.on false = true) : Closed ops (listed.setIfInBounds i true) := by
  have hil : i < listed.size := by have := size_of ho; omega
  intro k q hq hlk e he hb
  rw [getD_set hil] at hlk ⊢
  right
  rcases hlk with rfl | hlk
  · rw [ho] at hq; cases hq; exact ha e he hb
  · exact hc k q hq hlk e he hb

/-- a block made ahead of its turn is told of as its turn comes -/
theorem Mid.settle {P : Program} {env : Env} {ops : Array Oper} {N : Nat} {fs : Nat → T4 AV} {ss : Nat → St} (hr : Run P N env ops ops.size fs ss) (hd : DrawOK P ops) {w0 : World} {ρ0 : Ren} {listed : Array Bool} {ρ : Ren} {w : World} {p : Nat} {fX : T4 AV} {a : Act} {e : Nat} {t : Tmp} {cv : Value}
    (size : listed.size = ops.size) (closed : Closed ops listed) (done : ∀ (i : Nat) (o : Oper), ops.toList[i]? = some o → 2 ≤ cls P o.op → (listed.getD i false = true ↔ i < p ∨ i = e)) (pd : Pd P ops fs ss w0.heap.size ρ w e t cv) (hpe : p ≤ e) (hev : evP fX (pathOf t) = .c cv)
    (flat : ∀ (k : Nat) (q : Oper), p ≤ k → k < e → ops.toList[k]? = some q → cls P q.op < 2) (ext : Ext w0 ρ0 ρ) (kp : Keeps ρ0 w0 w) (sr : SR ρ (ss p) w) (frame : AR P ρ N fX (ss p) a)
    (new : ∀ (t j : Nat) (o : Oper), ops.toList[j]? = some o → listed.getD j false = true → o.dst = some t → j ≠ e → evP fX (pathOf t) = evP (fs ops.size) (pathOf t))
    (old : ∀ t : Nat, (∀ (j : Nat) (o : Oper), ops.toList[j]? = some o → listed.getD j false = true → o.dst ≠ some t) → evP fX (pathOf t) = evP (fs 0) (pathOf t)) (hle : listed.getD e false = true) (fresh : ∀ q, q ≤ p → Fresh (ss q)) :
    ∃ ρ' fX', Mid P ops N fs ss w0 ρ0 listed ρ' w (e + 1) none fX' a := by
  obtain ⟨o, b, ob, av, wo, h1, h2, h3, h4, h5, h6, h10, h11, h12, h13, h15⟩ := pd
  have he := size_of h1
  have hflat : ss e = ss p := hr.flat e hpe (Nat.le_of_lt he) flat
  rw [← hflat] at sr frame
  obtain ⟨ρ', hv, r2, r3, r4⟩ := sr.adoptO h6 h10 h12 h13 (h15 e (by omega))
  rw [← h4] at r4
  have htN : t < N := by
    have hs := hr.step e o he h1
    rcases stepOp_cases hs with ⟨v, _, g2, _⟩ | ⟨_, g2, _⟩ <;>
    · unfold fin dstB at g2
      rw [h2] at g2
      dsimp only at g2
      cases hb : Nat.blt t N with
      | true => exact blt hb
      | false => rw [hb] at g2; cases g2
  have hcv : a.tmps.getD t undef = cv := by
    have := frame.fr.at_ t
    rw [hev] at this
    exact this.c_inv
  refine ⟨ρ', T4.set av (pathOf t) fX, ⟨size, closed, he, fun i o' ho' hc => ?_, fun _ _ _ x => (by cases x), ⟨Ren.le_trans ext.le r2, fun c hc => ?_⟩, kp, r4, ⟨⟨frame.fr.size, fun t' => ?_⟩, ?_⟩, fun t' j o' ho' hlj hdt _ => ?_, fun t' hn => ?_, fun q hq => ?_⟩⟩
  · rw [done i o' ho' hc]
    constructor
    · rintro (x | rfl)
      · exact .inl (by omega)
      · exact .inl (Nat.lt_succ_self _)
    · rintro (x | ⟨_, _, x⟩)
      · rcases Nat.lt_or_ge i p with y | y
        · exact .inl y
        · right
          rcases Nat.lt_or_ge i e with z | z
          · have := flat i o' y z ho'; omega
          · omega
      · cases x
  · rcases r3 c hc with x | rfl
    · exact ext.new c x
    · exact .inr h11
  · rw [evP_set]
    by_cases ht : t' = t
    · subst ht; rw [if_pos rfl, hcv]; exact hv
    · rw [if_neg ht]; exact (frame.fr.at_ t').mono r2
  · have := frame.df.mono r2
    rw [h4]; exact this
  · rw [evP_set]
    by_cases ht : t' = t
    · subst ht
      rw [if_pos rfl, ← h5]
      exact hr.once hd h1 h2 (Nat.lt_succ_self e) he
    · rw [if_neg ht]
      refine new t' j o' ho' hlj hdt fun hje => ?_
      subst hje
      rw [h1] at ho'; cases ho'
      rw [h2] at hdt; cases hdt
      exact ht rfl
  · have htt : t' ≠ t := fun x => hn e o h1 hle (by rw [h2, x])
    rw [evP_set, if_neg htt]
    exact old t' hn
  · rcases Nat.lt_or_ge p q with x | x
    · rcases Nat.lt_or_ge q (e + 1) with y | y
      · rw [hr.flat q (Nat.le_of_lt x) (by omega) fun k z k1 k2 => flat k z k1 (by omega)]
        exact fresh p (Nat.le_refl p)
      · have : q = e + 1 := by omega
        subst this
        exact r4.fresh
    · exact fresh q x

/-- what is left behind two stores that went the other way -/
structure MidT (P : Program) (ops : Array Oper) (N : Nat) (env : Env) (fs : Nat → T4 AV) (ss : Nat → St) (w0 : World) (ρ0 : Ren) (listed : Array Bool) (ρ : Ren) (w : World) (k : Nat) (sX : St) (fX : T4 AV) (a : Act) : Prop where
  size : listed.size = ops.size
  closed : Closed ops listed
  all : ∀ (i : Nat) (o : Oper), ops.toList[i]? = some o → cls P o.op ≠ 0 → listed.getD i false = true ∨ i = k
  ext : Ext w0 ρ0 ρ
  kp : Keeps ρ0 w0 w
  sr : SR ρ sX w
  frame : AR P ρ N fX sX a
  new : ∀ (t j : Nat) (o : Oper), ops.toList[j]? = some o → listed.getD j false = true → o.dst = some t → (∀ t' cv, (none : Option (Nat × Tmp × Value)) ≠ some (j, t', cv)) → evP fX (pathOf t) = evP (fs ops.size) (pathOf t)
  old : ∀ t : Nat, (∀ (j : Nat) (o : Oper), ops.toList[j]? = some o → listed.getD j false = true → o.dst ≠ some t) → evP fX (pathOf t) = evP (fs 0) (pathOf t)
  last : listed.getD k false = true → sX = ss ops.size
  todo : listed.getD k false = false → ∀ o, ops.toList[k]? = some o → isSt o = true ∧ stepOp P N env ops o (fs k) sX = .ok (fs k) (ss ops.size)

theorem MidT.sees {P : Program} {env : Env} {ops : Array Oper} {N : Nat} {fs : Nat → T4 AV} {ss : Nat → St} (hr : Run P N env ops ops.size fs ss) (hd : DrawOK P ops) {w0 : World} {ρ0 : Ren} {listed : Array Bool} {ρ : Ren} {w : World} {k : Nat} {sX : St} {fX : T4 AV} {a : Act}
    (h : MidT P ops N env fs ss w0 ρ0 listed ρ w k sX fX a) {i : Nat} {o : Oper} (ho : ops.toList[i]? = some o) (hl : listed.getD i false = false) (hw : ∀ j, Waits ops i j → listed.getD j false = true) : Sees ops o fX (fs i) := by
  intro t ht
  by_cases hx : ∃ (j : Nat) (q : Oper), ops.toList[j]? = some q ∧ q.dst = some t
  · obtain ⟨j, q, hq, hqt⟩ := hx
    rcases hd.writers j i q o t hq ho hqt ht with hwt | ⟨_, hwt⟩
    · rw [h.new t j q hq (hw j hwt) hqt (fun t' cv e => by cases e), hr.once hd hq hqt (waits_le hd i (size_of ho) hwt) (Nat.le_of_lt (size_of ho))]
    · have hij := waits_le hd j (size_of hq) hwt
      rw [h.old t fun j' q' hq' hlj e => ?_, hr.none i (Nat.zero_le i) (Nat.le_of_lt (size_of ho)) fun j' q' _ hj' hq' e => ?_]
      · have := hd.dsts j' j q' q t hq' hq e hqt
        omega
      · have := hd.dsts j' j q' q t hq' hq e hqt
        subst this
        have := closed_waits hd h.closed j' (size_of hq) hlj hwt
        rw [hl] at this; cases this
  · have hn : ∀ (j : Nat) (q : Oper), ops.toList[j]? = some q → q.dst ≠ some t := fun j q hq e => hx ⟨j, q, hq, e⟩
    rw [h.old t fun j q hq _ => hn j q hq, hr.none i (Nat.zero_le i) (Nat.le_of_lt (size_of ho)) fun j q _ _ hq => hn j q hq]

theorem MidT.step {P : Program} {env : Env} (henv : EnvOK P env) {ops : Array Oper} {N : Nat} {fs : Nat → T4 AV} {ss : Nat → St} (hr : Run P N env ops ops.size fs ss) (hd : DrawOK P ops) {w0 : World} {ρ0 : Ren} {listed : Array Bool} {ρ : Ren} {w : World} {k : Nat} {sX : St} {fX : T4 AV} {a : Act}
    (h : MidT P ops N env fs ss w0 ρ0 listed ρ w k sX fX a) {i : Nat} {o : Oper} (ho : ops.toList[i]? = some o) (hl : listed.getD i false = false) (ha : ∀ e ∈ o.after, Region.binds .any e = true → listed.getD e.on false = true) {Q : Exit → Act → World → Prop} {K : Act → World → Prop}
    (hk : ∀ a' w' ρ' sX' fX', MidT P ops N env fs ss w0 ρ0 (listed.setIfInBounds i true) ρ' w' k sX' fX' a' → K a' w') : wpOp P ops Q i K a w := by
  have hi := size_of ho
  have hil : i < listed.size := by rw [h.size]; exact hi
  have hw : ∀ j, Waits ops i j → listed.getD j false = true := fun j => ready_waits hd h.closed ho ha
  have hs := h.sees hr hd ho hl hw
  have ho' : ops[i]? = some o := by rw [← Array.getElem?_toList]; exact ho
  by_cases hik : i = k
  · subst hik
    obtain ⟨hst, hstep⟩ := h.todo hl o ho
    obtain ⟨t, pa, px, e1, e2, e3⟩ := isSt_inv hst
    have hfx : stepOp P N env ops o fX sX = .ok fX (ss ops.size) := by
      rw [stepOp_store e1 e2 e3] at hstep ⊢
      have hsee := sees_op hs
      rw [hsee pa (by rw [e1]; simp [Op.operands]), hsee px (by rw [e1]; simp [Op.operands])]
      cases hx : aStore P t (evO (fs i) pa) (evO (fs i) px) sX with
      | no w1 => rw [hx] at hstep; cases hstep
      | val v s1 =>
        rw [hx] at hstep
        have : Res.ok (fs i) s1 = Res.ok (fs i) (ss ops.size) := hstep
        injection this with _ h2
        show Res.ok fX s1 = _
        rw [h2]
    refine wpOp_step henv ho' h.sr h.frame hfx fun a' w' hp => ?_
    obtain ⟨ρ', g1, g2, g3, g4⟩ := hp
    have l1 : Laid o.dst uv (fs i) (fs (i + 1)) := by
      have hs' := hr.step i o hi ho
      rw [stepOp_store e1 e2 e3] at hs'
      cases hx : aStore P t (evO (fs i) pa) (evO (fs i) px) (ss i) with
      | no w1 => rw [hx] at hs'; cases hs'
      | val v s1 =>
        rw [hx] at hs'
        have : Res.ok (fs i) s1 = Res.ok (fs (i + 1)) (ss (i + 1)) := hs'
        injection this with h1 _
        intro t'; rw [e3, ← h1]; simp
    have l2 : Laid o.dst uv fX fX := by intro t'; rw [e3]; simp
    obtain ⟨n1, n2⟩ := slots hr hd h.size h.new h.old ho l1 l2
    exact hk a' w' ρ' (ss ops.size) fX ⟨by simp [h.size], closed_set h.size h.closed ho ha, fun j q hq hc => (h.all j q hq hc).imp (fun x => (getD_set hil).2 (.inr x)) id,
      h.ext.trans h.kp g1, h.kp.trans h.ext g2, g3, g4, n1, n2, fun _ => rfl, fun x => by rw [(getD_set hil).2 (.inl rfl)] at x; cases x⟩
  · have hc0 : cls P o.op = 0 := by
      refine Classical.byContradiction fun hc => ?_
      rcases h.all i o ho hc with x | x
      · rw [hl] at x; cases x
      · exact hik x
    have hst := hr.step i o hi ho
    have hstill := stepOp_still hst (by omega)
    obtain ⟨fX', v, m1, m2, m3⟩ := stepOp_move (sX := sX) (sX' := sX) hst hs (.inr ⟨rfl, hstill, fun _ v hv => (ans_pure P env o (fs i) hc0 _ _ _ hv).2 sX⟩)
    refine wpOp_step henv ho' h.sr h.frame m1 fun a' w' hp => ?_
    obtain ⟨ρ', g1, g2, g3, g4⟩ := hp
    obtain ⟨n1, n2⟩ := slots hr hd h.size h.new h.old ho m2 m3
    have hkk : (listed.setIfInBounds i true).getD k false = listed.getD k false := getD_set_ne false hik
    exact hk a' w' ρ' sX fX' ⟨by simp [h.size], closed_set h.size h.closed ho ha, fun j q hq hc => (h.all j q hq hc).imp (fun x => (getD_set hil).2 (.inr x)) id,
      h.ext.trans h.kp g1, h.kp.trans h.ext g2, g3, g4, n1, n2, fun x => h.last (by rw [← hkk]; exact x), fun x => h.todo (by rw [← hkk]; exact x)⟩

theorem all_listed {P : Program} {ops : Array Oper} (hd : DrawOK P ops) {listed : Array Bool} (hsz : listed.size = ops.size) (hr : Region.ready .any ops listed = []) : ∀ i, i < ops.size → listed.getD i false = true := by
  intro i
  induction i using Nat.strongRecOn with
  | _ i ih =>
    intro hi
    obtain ⟨o, ho⟩ := op_at hi
    cases hl : listed.getD i false with
    | true => rfl
    | false =>
      exfalso
      have : i ∈ Region.ready .any ops listed := by
        rw [mem_ready]
        refine ⟨?_, o, by rw [← Array.getElem?_toList]; exact ho, fun e he hb => ?_⟩
        · have hil : i < listed.size := by omega
          simp [hil] at hl ⊢
          exact hl
        · have := List.all_eq_true.1 (hd.edges i o ho) e (by simpa using he)
          rw [hb] at this
          exact ih e.on (blt (by simpa using this)) (Nat.lt_trans (blt (by simpa using this)) hi)
      rw [hr] at this
      cases this

theorem ended {P : Program} {N : Nat} {env : Env} {ops : Array Oper} {fs : Nat → T4 AV} {ss : Nat → St} (hr : Run P N env ops ops.size fs ss) {listed : Array Bool} {fX : T4 AV}
    (hnew : ∀ (t j : Nat) (o : Oper), ops.toList[j]? = some o → listed.getD j false = true → o.dst = some t → evP fX (pathOf t) = evP (fs ops.size) (pathOf t))
    (hold : ∀ t : Nat, (∀ (j : Nat) (o : Oper), ops.toList[j]? = some o → listed.getD j false = true → o.dst ≠ some t) → evP fX (pathOf t) = evP (fs 0) (pathOf t)) (hall : ∀ i, i < ops.size → listed.getD i false = true) (t : Nat) : evP (fs ops.size) (pathOf t) = evP fX (pathOf t) := by
  by_cases hx : ∃ (j : Nat) (q : Oper), ops.toList[j]? = some q ∧ q.dst = some t
  · obtain ⟨j, q, hq, hqt⟩ := hx
    exact (hnew t j q hq (hall j (size_of hq)) hqt).symm
  · have hn : ∀ (j : Nat) (q : Oper), ops.toList[j]? = some q → q.dst ≠ some t := fun j q hq e => hx ⟨j, q, hq, e⟩
    rw [hold t fun j q hq _ => hn j q hq, hr.none ops.size (Nat.zero_le _) (Nat.le_refl _) fun j q _ _ hq => hn j q hq]

theorem Mid.end_ {P : Program} {env : Env} {ops : Array Oper} {N : Nat} {fs : Nat → T4 AV} {ss : Nat → St} (hr : Run P N env ops ops.size fs ss) (hd : DrawOK P ops) {w0 : World} {ρ0 : Ren} {listed : Array Bool} {ρ : Ren} {w : World} {p : Nat} {pe : Option (Nat × Tmp × Value)} {fX : T4 AV} {a : Act}
    (h : Mid P ops N fs ss w0 ρ0 listed ρ w p pe fX a) (hall : ∀ i, i < ops.size → listed.getD i false = true) : Post ρ0 w0 (ss ops.size) w fun ρ' => AR P ρ' N (fs ops.size) (ss ops.size) a := by
  have hpe : ∀ e t cv, pe ≠ some (e, t, cv) := fun e t cv x => by
    obtain ⟨k, q, z, _, _, hq, _, _, hl, _⟩ := h.behind (env := env) x
    rw [hall k (size_of hq)] at hl; cases hl
  have hs : ss ops.size = ss p := hr.flat ops.size h.upto (Nat.le_refl _) fun k q hk1 hk2 hq => by
    rcases Nat.lt_or_ge (cls P q.op) 2 with x | x
    · exact x
    · rcases (h.done k q hq x).1 (hall k hk2) with y | ⟨t, cv, y⟩
      · omega
      · exact absurd y (hpe _ _ _)
  rw [hs]
  refine ⟨ρ, h.ext, h.kp, h.sr, ⟨h.frame.fr.size, fun t => ?_⟩, h.frame.df⟩
  rw [ended hr (fun t j o ho hl hdt => h.new t j o ho hl hdt fun t' cv => hpe j t' cv) h.old hall t]
  exact h.frame.fr.at_ t

theorem MidT.end_ {P : Program} {env : Env} {ops : Array Oper} {N : Nat} {fs : Nat → T4 AV} {ss : Nat → St} (hr : Run P N env ops ops.size fs ss) {w0 : World} {ρ0 : Ren} {listed : Array Bool} {ρ : Ren} {w : World} {k : Nat} {sX : St} {fX : T4 AV} {a : Act}
    (h : MidT P ops N env fs ss w0 ρ0 listed ρ w k sX fX a) (hkn : k < ops.size) (hall : ∀ i, i < ops.size → listed.getD i false = true) : Post ρ0 w0 (ss ops.size) w fun ρ' => AR P ρ' N (fs ops.size) (ss ops.size) a := by
  have hs := h.last (hall k hkn)
  rw [← hs]
  refine ⟨ρ, h.ext, h.kp, h.sr, ⟨h.frame.fr.size, fun t => ?_⟩, h.frame.df⟩
  rw [ended hr (fun t j o ho hl hdt => h.new t j o ho hl hdt fun t' cv e => by cases e) h.old hall t]
  exact h.frame.fr.at_ t

theorem count_step {listed : Array Bool} {i fuel : Nat} (hil : i < listed.size) (hl : listed.getD i false = false) (hc : listed.toList.count false ≤ fuel + 1) : (listed.setIfInBounds i true).toList.count false ≤ fuel := by
  rw [Array.toList_setIfInBounds, List.count_set (by simpa using hil)]
  have h1 : listed[i] = false := by simpa [hil] using hl
  have hcp : 0 < List.count false listed.toList := List.count_pos_iff.2 (by rw [← h1]; simp)
  have e1 : (listed.toList[i]'(by simpa using hil) == false) = true := by simp [h1]
  rw [e1]
  show List.count false listed.toList - 1 + 0 ≤ fuel
  omega
theorem count_zero {listed : Array Bool} {n : Nat} (hsz : listed.size = n) (hc : listed.toList.count false ≤ 0) : ∀ i, i < n → listed.getD i false = true := by
  intro i hi
  have hil : i < listed.size := by omega
  have h0 : List.count false listed.toList = 0 := by omega
  rw [List.count_eq_zero] at h0
  cases hl : listed.getD i false with
  | true => rfl
  | false =>
    exfalso
    apply h0
    simp [hil] at hl
    rw [← hl]
    simp
theorem not_ready {ops : Array Oper} {listed : Array Bool} (hsz : listed.size = ops.size) (hall : ∀ i, i < ops.size → listed.getD i false = true) : Region.ready .any ops listed = [] := by
  cases hrd : Region.ready .any ops listed with
  | nil => rfl
  | cons x xs =>
    exfalso
    have hx : x ∈ Region.ready .any ops listed := by rw [hrd]; exact List.mem_cons_self
    rw [mem_ready] at hx
    obtain ⟨h1, o, ho, _⟩ := hx
    have hlt : x < ops.size := (Array.getElem?_eq_some_iff.1 ho).1
    have := hall x hlt
    have hil : x < listed.size := by omega
    simp [hil] at h1 this
    rw [h1] at this; cases this
theorem ready_inv {ops : Array Oper} {listed : Array Bool} (hsz : listed.size = ops.size) {i : Nat} (hi : i ∈ Region.ready .any ops listed) : ∃ o, ops.toList[i]? = some o ∧ listed.getD i false = false ∧ ∀ e ∈ o.after, Region.binds .any e = true → listed.getD e.on false = true := by
  rw [mem_ready] at hi
  obtain ⟨h1, o, ho, ha⟩ := hi
  have hlt : i < ops.size := (Array.getElem?_eq_some_iff.1 ho).1
  have hil : i < listed.size := by omega
  refine ⟨o, by rw [Array.getElem?_toList]; exact ho, ?_, ha⟩
  simp [hil] at h1 ⊢
  exact h1

theorem MidT.any {P : Program} {env : Env} (henv : EnvOK P env) {ops : Array Oper} {N : Nat} {fs : Nat → T4 AV} {ss : Nat → St} (hr : Run P N env ops ops.size fs ss) (hd : DrawOK P ops) {w0 : World} {ρ0 : Ren} {k : Nat} (hkn : k < ops.size) {Q : Exit → Act → World → Prop} 
    (hq : ∀ a' w', Post ρ0 w0 (ss ops.size) w' (fun ρ' => AR P ρ' N (fs ops.size) (ss ops.size) a') → Q .normal a' w') :
    ∀ (fuel : Nat) (listed : Array Bool) (ρ : Ren) (a : Act) (w : World) (sX : St) (fX : T4 AV), listed.toList.count false ≤ fuel → MidT P ops N env fs ss w0 ρ0 listed ρ w k sX fX a → wpAny P .any ops Q fuel listed a w
  | 0, listed, ρ, a, w, sX, fX, hc, h => by
    have hall := count_zero h.size hc
    exact ⟨not_ready h.size hall, hq a w (h.end_ hr hkn hall)⟩
  | fuel + 1, listed, ρ, a, w, sX, fX, hc, h => by
    refine ⟨fun hrd => hq a w (h.end_ hr hkn (all_listed hd h.size hrd)), fun i hi => ?_⟩
    obtain ⟨o, ho, hl, ha⟩ := ready_inv h.size hi
    refine h.step henv hr hd ho hl ha fun a' w' ρ' sX' fX' hm => ?_
    exact MidT.any henv hr hd hkn hq fuel _ ρ' a' w' sX' fX' (count_step (by rw [h.size]; exact size_of ho) hl hc) hm

theorem Mid.step {P : Program} {env : Env} (henv : EnvOK P env) {ops : Array Oper} {N : Nat} {fs : Nat → T4 AV} {ss : Nat → St} (hr : Run P N env ops ops.size fs ss) (hd : DrawOK P ops) {w0 : World} {ρ0 : Ren} {listed : Array Bool} {ρ : Ren} {w : World} {p : Nat} {pe : Option (Nat × Tmp × Value)} {fX : T4 AV} {a : Act}
    (h : Mid P ops N fs ss w0 ρ0 listed ρ w p pe fX a) {i : Nat} {o : Oper} (ho : ops.toList[i]? = some o) (hl : listed.getD i false = false) (ha : ∀ e ∈ o.after, Region.binds .any e = true → listed.getD e.on false = true) {Q : Exit → Act → World → Prop} {K : Act → World → Prop}
    (hk : ∀ a' w' ρ' p' pe' fX', Mid P ops N fs ss w0 ρ0 (listed.setIfInBounds i true) ρ' w' p' pe' fX' a' → K a' w')
    (hkT : ∀ a' w' ρ' k sX' fX', k < ops.size → MidT P ops N env fs ss w0 ρ0 (listed.setIfInBounds i true) ρ' w' k sX' fX' a' → K a' w') : wpOp P ops Q i K a w := by
  have hi := size_of ho
  have hil : i < listed.size := by rw [h.size]; exact hi
  have hw : ∀ j, Waits ops i j → listed.getD j false = true := fun j => ready_waits hd h.closed ho ha
  have hs := h.sees hr hd ho hl hw
  have hst := hr.step i o hi ho
  have ho' : ops[i]? = some o := by rw [← Array.getElem?_toList]; exact ho
  have closed' := closed_set h.size h.closed ho ha
  have size' : (listed.setIfInBounds i true).size = ops.size := by simp [h.size]
  have hpi_ne : ∀ t cv, pe ≠ some (i, t, cv) := fun t cv x => by
    obtain ⟨pd, _⟩ := h.pend i t cv x
    obtain ⟨o2, _, _, _, _, h1, _, h3, _⟩ := pd
    rw [ho] at h1; cases h1
    have := (h.done i o ho (by omega)).2 (.inr ⟨t, cv, x⟩)
    rw [hl] at this; cases this
  rcases Nat.lt_or_ge (cls P o.op) 2 with hc | hc
  · obtain ⟨q1, q2⟩ := h.quiet hr hd ho hl hw hc
    obtain ⟨fX', v, m1, m2, m3⟩ := stepOp_move (sX := ss p) (sX' := ss p) hst hs (.inr ⟨rfl, q1, q2⟩)
    refine wpOp_step henv ho' h.sr h.frame m1 fun a' w' hp => ?_
    obtain ⟨ρ', e1, e2, e3, e4⟩ := hp
    obtain ⟨n1, n2⟩ := slots hr hd h.size h.new h.old ho m2 m3
    refine hk a' w' ρ' p pe fX' ⟨size', closed', h.upto, fun k q hq hck => ?_, fun e t cv x => ?_, h.ext.trans h.kp e1, h.kp.trans h.ext e2, e3, e4, n1, n2, h.fresh⟩
    · rw [getD_set hil, h.done k q hq hck]
      constructor
      · rintro (rfl | x)
        · rw [ho] at hq; cases hq; omega
        · exact x
      · exact .inr
    · obtain ⟨y1, y2, y3⟩ := h.pend e t cv x
      refine ⟨y1.step e1 e2, ?_, y3⟩
      obtain ⟨o2, _, _, _, _, g1, g2, _⟩ := y1
      have hne : o.dst ≠ some t := fun hdt => by
        have := hd.dsts i e o o2 t ho g1 hdt g2
        subst this
        exact hpi_ne t cv x
      rw [m3 t, if_neg hne]
      exact y2
  · obtain ⟨hpi, hcase⟩ := h.place (env := env) hr hd ho hl hw hc
    rcases hcase with hq2 | ⟨k, q, hk1, hk2, hq, hck, hlk, hnw, hsw⟩ | ⟨k, q, hk1, hk2, hq, hck, hlk, hnw, hN⟩
    · -- its turn
      have hflat : ss i = ss p := hr.flat i hpi (Nat.le_of_lt hi) hq2
      obtain ⟨fX', v, m1, m2, m3⟩ := stepOp_move (sX := ss p) (sX' := ss (i + 1)) hst hs (.inl ⟨hflat.symm, rfl⟩)
      refine wpOp_step henv ho' h.sr h.frame m1 fun a' w' hp => ?_
      obtain ⟨ρ', e1, e2, e3, e4⟩ := hp
      obtain ⟨n1, n2⟩ := slots hr hd h.size h.new h.old ho m2 m3
      have fresh' : ∀ q, q ≤ i + 1 → Fresh (ss q) := fun q hq => by
        rcases Nat.lt_or_ge q (i + 1) with x | x
        · rcases Nat.lt_or_ge p q with y | y
          · rw [hr.flat q (Nat.le_of_lt y) (by omega) fun k z k1 k2 => hq2 k z k1 (by omega)]
            exact h.fresh p (Nat.le_refl p)
          · exact h.fresh q y
        · have : q = i + 1 := by omega
          subst this
          exact e3.fresh
      have done' : ∀ (k : Nat) (q : Oper), ops.toList[k]? = some q → 2 ≤ cls P q.op → ((listed.setIfInBounds i true).getD k false = true ↔ k < i + 1 ∨ ∃ t cv, pe = some (k, t, cv)) := fun k q hq hck => by
        rw [getD_set hil, h.done k q hq hck]
        constructor
        · rintro (rfl | x | x)
          · exact .inl (Nat.lt_succ_self _)
          · exact .inl (by omega)
          · exact .inr x
        · rintro (x | x)
          · rcases Nat.lt_or_ge k p with y | y
            · exact .inr (.inl y)
            · rcases Nat.lt_or_ge k i with z | z
              · have := hq2 k q y z hq; omega
              · exact .inl (by omega)
          · exact .inr (.inr x)
      cases hpe : pe with
      | none =>
        subst hpe
        exact hk a' w' ρ' (i + 1) none fX' ⟨size', closed', hi, done', fun _ _ _ x => (by cases x), h.ext.trans h.kp e1, h.kp.trans h.ext e2, e3, e4, n1, n2, fresh'⟩
      | some x =>
        obtain ⟨e, t, cv⟩ := x
        subst hpe
        obtain ⟨y1, y2, k0, q0, z0, y3, y4, y5, y6, y7, y8, y9⟩ := h.pend e t cv rfl
        have y1' := y1.step e1 e2
        have hce : cls P z0.op = 2 := isBs_cls y9.bs
        have hie : i < e := by
          rcases Nat.lt_or_ge e i with x | x
          · have := hq2 e z0 (by omega) x y6; omega
          · rcases Nat.lt_or_ge i e with y | y
            · exact y
            · exfalso
              have : e = i := by omega
              subst this
              exact hpi_ne t cv rfl
        have y2' : evP fX' (pathOf t) = .c cv := by
          obtain ⟨o2, _, _, _, _, g1, g2, _⟩ := y1
          have hne : o.dst ≠ some t := fun hdt => by
            have := hd.dsts i e o o2 t ho g1 hdt g2
            omega
          rw [m3 t, if_neg hne]
          exact y2
        by_cases hrem : ∃ (k : Nat) (q : Oper), i + 1 ≤ k ∧ k < e ∧ ops.toList[k]? = some q ∧ 2 ≤ cls P q.op ∧ ¬ Waits ops e k
        · obtain ⟨k1, q1, r1, r2, r3, r4, r5⟩ := hrem
          have hN1 : New P ops k1 e q1 z0 := by
            rcases hd.pairs k1 e q1 z0 r2 r3 y6 with y | y | y | y
            · exact absurd y r5
            · rw [pair_ww r4 (by omega)] at y; cases y
            · have := isSt_cls (P := P) y.st2; omega
            · exact y
          refine hk a' w' ρ' (i + 1) (some (e, t, cv)) fX' ⟨size', closed', hi, done', fun e' t' cv' x => ?_, h.ext.trans h.kp e1, h.kp.trans h.ext e2, e3, e4, n1, n2, fresh'⟩
          cases x
          exact ⟨y1', y2', k1, q1, z0, r1, r2, r3, y6, r4, r5, hN1⟩
        · have hle : listed.getD e false = true := (h.done e z0 y6 (by omega)).2 (.inr ⟨t, cv, rfl⟩)
          obtain ⟨ρ'', fX'', hm⟩ := Mid.settle (env := env) (w0 := w0) (ρ0 := ρ0) (listed := listed.setIfInBounds i true) (ρ := ρ') (w := w') (p := i + 1) (fX := fX') (a := a') (e := e) (t := t) (cv := cv) hr hd size' closed'
            (fun k q hq hck => by
              rw [done' k q hq hck]
              constructor
              · rintro (x | ⟨_, _, x⟩)
                · exact .inl x
                · cases x; exact .inr rfl
              · rintro (x | rfl)
                · exact .inl x
                · exact .inr ⟨_, _, rfl⟩) y1' (by omega) y2'
            (fun k q hk1 hk2 hq => by
              refine Classical.byContradiction fun hcn => ?_
              by_cases hwk : Waits ops e k
              · have := closed_waits hd h.closed e (size_of y6) hle hwk
                rcases (h.done k q hq (by omega)).1 this with x | ⟨_, _, x⟩
                · omega
                · cases x; omega
              · exact hrem ⟨k, q, hk1, hk2, hq, by omega, hwk⟩)
            (h.ext.trans h.kp e1) (h.kp.trans h.ext e2) e3 e4
            (fun t' j q hq hlj hdt hje => n1 t' j q hq hlj hdt fun t2 cv2 x => by cases x; exact hje rfl) n2 ((getD_set hil).2 (.inr hle)) fresh'
          exact hk a' w' ρ'' (e + 1) none fX'' hm
    · -- the last store, ahead of another one
      have hnone : pe = none := by
        cases hpe : pe with
        | none => rfl
        | some x =>
          obtain ⟨e, t, cv⟩ := x
          exfalso
          obtain ⟨k', q', z', _, _, hq', _, hck', hlk', hN'⟩ := h.behind (env := env) hpe
          by_cases hkk : k' = k
          · subst hkk
            rw [hq] at hq'; cases hq'
            have h1 := hN'.nst
            rw [hsw.st1] at h1; cases h1
          · have hk'i : k' < i := by
              have := size_of hq'
              have := hsw.last
              rcases Nat.lt_or_ge k' i with x | x
              · exact x
              · have : k' = i := by omega
                subst this
                rw [ho] at hq'; cases hq'
                have := hN'.nst
                rw [hsw.st2] at this; cases this
            have := hw k' (hsw.rest k' q' hk'i hkk hq' (by omega))
            rw [hlk'] at this; cases this
      subst hnone
      have hkflat : ∀ (j : Nat) (z : Oper), p ≤ j → j < k → ops.toList[j]? = some z → cls P z.op < 2 := fun j z hj1 hj2 hz => by
        refine Classical.byContradiction fun hn => ?_
        have := hw j (hsw.rest j z (by omega) (by omega) hz (by omega))
        rcases (h.done j z hz (by omega)).1 this with x | ⟨_, _, x⟩
        · omega
        · cases x
      have hkflat' : ∀ (j : Nat) (z : Oper), k + 1 ≤ j → j < i → ops.toList[j]? = some z → cls P z.op < 2 := fun j z hj1 hj2 hz => by
        refine Classical.byContradiction fun hn => ?_
        have := hw j (hsw.rest j z (by omega) (by omega) hz (by omega))
        rcases (h.done j z hz (by omega)).1 this with x | ⟨_, _, x⟩
        · omega
        · cases x
      have hsk : ss k = ss p := hr.flat k hk1 (by omega) hkflat
      have hsi : ss i = ss (k + 1) := hr.flat i (by omega) (Nat.le_of_lt hi) hkflat'
      obtain ⟨t1, a1, x1, p1, p2, p3⟩ := isSt_inv hsw.st1
      obtain ⟨t2, a2, x2, r1, r2, r3⟩ := isSt_inv hsw.st2
      have hsk' := hr.step k q (size_of hq) hq
      rw [stepOp_store p1 p2 p3] at hsk'
      have hsi' := hst
      rw [stepOp_store r1 r2 r3] at hsi'
      have hne := hr.swap k i q o hk2 hq ho hsw hnw
      unfold swNe at hne
      rw [p1, r1] at hne
      dsimp only at hne
      -- the first store's address is the same where the second one stands
      have hadr : evO (fs i) a1 = evO (fs k) a1 := by
        have hsee : Sees ops q (fs i) (fs k) := by
          intro t ht
          refine hr.none i (by omega) (Nat.le_of_lt hi) fun j z hj1 hj2 hz he => ?_
          rcases hd.writers j k z q t hz hq he ht with hwt | ⟨h0, _⟩
          · have := waits_le hd k (size_of hq) hwt; omega
          · have := isSt_cls (P := P) hsw.st1; omega
        exact sees_op hsee a1 (by rw [p1]; simp [Op.operands])
      cases hA : asP (evO (fs i) a1) with
      | none => rw [hA] at hne; cases hne
      | some hd1 i1 =>
        rw [hA] at hne
        dsimp only at hne
        cases hB : asP (evO (fs i) a2) with
        | none => rw [hB] at hne; cases hne
        | some hd2 i2 =>
          rw [hB] at hne
          dsimp only at hne
          have hAB : hd1.A ≠ hd2.A := fun e => by rw [e, Nat.beq_refl] at hne; cases hne
          have eA := asP_some hA
          have eB := asP_some hB
          rw [hadr] at eA
          rw [eA] at hsk'
          rw [eB] at hsi'
          cases hx1 : aStore P t1 (.ptr hd1 i1) (evO (fs k) x1) (ss k) with
          | no w1 => rw [hx1] at hsk'; cases hsk'
          | val v1 s1 =>
            rw [hx1] at hsk'
            have hs1 : Res.ok (fs k) s1 = Res.ok (fs (k + 1)) (ss (k + 1)) := hsk'
            injection hs1 with hf1 hs1
            cases hx2 : aStore P t2 (.ptr hd2 i2) (evO (fs i) x2) (ss i) with
            | no w1 => rw [hx2] at hsi'; cases hsi'
            | val v2 s2 =>
              rw [hx2] at hsi'
              have hs2 : Res.ok (fs i) s2 = Res.ok (fs (i + 1)) (ss (i + 1)) := hsi'
              injection hs2 with hf2 hs2
              rw [hsi, ← hs1] at hx2
              obtain ⟨sb, c1, c2, c3⟩ := stores_comm hx1 hx2 hAB
              have hn1 : i + 1 = ops.size := hsw.last
              rw [hs2, hn1] at c2
              have hfx : stepOp P N env ops o fX (ss p) = .ok fX sb := by
                rw [stepOp_store r1 r2 r3]
                have hsee := sees_op hs
                rw [hsee a2 (by rw [r1]; simp [Op.operands]), hsee x2 (by rw [r1]; simp [Op.operands]), eB, ← hsk, c1]
              refine wpOp_step henv ho' h.sr h.frame hfx fun a' w' hp => ?_
              obtain ⟨ρ', e1, e2, e3, e4⟩ := hp
              have l1 : Laid o.dst uv (fs i) (fs (i + 1)) := by intro t'; rw [r3, ← hf2]; simp
              have l2 : Laid o.dst uv fX fX := by intro t'; rw [r3]; simp
              obtain ⟨n1, n2⟩ := slots hr hd h.size h.new h.old ho l1 l2
              have hkk : (listed.setIfInBounds i true).getD k false = false := by rw [getD_set_ne false (by omega)]; exact hlk
              refine hkT a' w' ρ' k sb fX (size_of hq) ⟨size', closed', fun j z hz hcz => ?_, h.ext.trans h.kp e1, h.kp.trans h.ext e2, e3, e4, n1, n2, fun x => (by rw [hkk] at x; cases x), fun _ z hz => ?_⟩
              · by_cases hjk : j = k
                · exact .inr hjk
                · left
                  rw [getD_set hil]
                  by_cases hji : j = i
                  · exact .inl hji
                  · exact .inr (hw j (hsw.rest j z (by have := size_of hz; omega) hjk hz hcz))
              · rw [hq] at hz; cases hz
                refine ⟨hsw.st1, ?_⟩
                rw [stepOp_store p1 p2 p3, eA, c2]
    · -- new memory, ahead of its turn
      have hnone : pe = none := by
        cases hpe : pe with
        | none => rfl
        | some x =>
          obtain ⟨e, t, cv⟩ := x
          exfalso
          obtain ⟨k', q', z', _, _, _, _, _, _, hN'⟩ := h.behind (env := env) hpe
          have : e = i := hN'.ix.trans hN.ix.symm
          subst this
          exact hpi_ne t cv hpe
      subst hnone
      obtain ⟨b2, d, b3⟩ := isBs_at hN.bs
      have hc2 : cls P o.op = 2 := isBs_cls hN.bs
      have hgb : guardB ops o = .none := by unfold guardB; rw [b2]
      have hst' := hst
      unfold stepOp at hst'
      rw [hgb] at hst'
      obtain ⟨v, s1, g1, g2⟩ := runOp_inv (show runOp P N env o (fs i) (ss i) = _ from hst')
      obtain ⟨hs1, _⟩ := fin_inv g2
      have hlaid := (fin_laid g2).1
      have hsee := sees_op hs
      obtain ⟨ob, cv, wo, hso, hmade, hex, hthaw⟩ : ∃ ob cv wo, s1 = (ss i).newO ob ∧ Made ρ (ss i).next ob v cv w.heap.size wo ∧ (execOp a.eval o).run P w = .ok (.value cv) (w.alloc wo) ∧ True := by
        rcases isBs_inv hN.bs with ⟨ty, len, parts, b1⟩ | ⟨ty, b1⟩
        · rw [b1] at g1
          change aBuildSlice P ty len (parts.toList.map fun x => (x.1, evO (fs i) x.2)) (ss i) = .val v s1 at g1
          obtain ⟨el, out, sz, fz, rfl, rfl, w3, w4, hrun⟩ := aBuildSlice_new g1
          have hparts : PRs ρ (parts.toList.map fun x => (x.1, evO (fs i) x.2)) (parts.map fun (i, x) => (i, a.eval x)).toList := by
            rw [Array.toList_map]
            refine PRs.map fun x hx => ?_
            rw [← hsee x.2 (by rw [b1]; simp only [Op.operands]; exact List.mem_map_of_mem hx)]
            exact h.frame.fr.op x.2
          obtain ⟨vs, u1, u2, u3⟩ := hrun ρ w _ hparts
          refine ⟨_, .slice (some ⟨w.heap.size, 0, none⟩) len len, .cells vs el (0, 0), rfl, .inl ⟨el, out, vs, len, sz, fz, rfl, rfl, rfl, w3, w4, u1, rfl, u2⟩, ?_, trivial⟩
          have : execOp a.eval o = (do pure (.value (← Instr.buildSlice ty len (parts.map fun (i, x) => (i, a.eval x))))) := by unfold execOp; rw [b1]
          rw [this]
          simp only [Sem.run_bind, u3, Result.andThen_ok, Sem.run_pure]
        · rw [b1] at g1
          change aMakeMap P ty none (ss i) = .val v s1 at g1
          obtain ⟨_, g1⟩ := bif_inv g1
          obtain ⟨_, g1⟩ := bif_inv g1
          rw [newOb_eq] at g1
          cases g1
          refine ⟨_, .map (some w.heap.size), .map #[] 0, rfl, .inr ⟨_, rfl, rfl, rfl, rfl⟩, ?_, trivial⟩
          have : execOp a.eval o = (do pure (.value (← Instr.makeMap ty none))) := by unfold execOp; rw [b1]; rfl
          rw [this]
          rfl
      subst hso
      unfold wpOp
      rw [ho']
      dsimp only
      rw [if_pos (guard_none hgb a.tmps)]
      left
      show o.upon P a K Q ((execOp a.eval o).run P w)
      rw [hex]
      show K (a.put o.dst cv) (w.alloc wo)
      have hkeep : Keeps ρ w (w.alloc wo) := ⟨by rw [size_alloc]; exact Nat.le_succ _, rfl, rfl, rfl, fun b hb _ => heap_alloc_old w _ hb⟩
      have hfree : ρ.free w.heap.size := ⟨fun A e l hl he => by have := (h.sr.dom _ _ _ hl).2; omega, fun m hm => by have := (h.sr.objdom _ _ hm).2; omega⟩
      have hrawb : ∀ q, q ≤ ops.size → ∀ i, (ss q).raw w.heap.size i = none := by
        intro q hq j
        rw [hr.raw q hq, ← hr.raw p h.upto]
        cases hx : (ss p).raw w.heap.size j with
        | none => rfl
        | some v => exact absurd (lt_of_cell (h.sr.raws _ _ _ hx).2) (Nat.lt_irrefl _)
      have hdN : d < N := by
        unfold fin dstB at g2
        rw [b3] at g2
        dsimp only at g2
        cases hb : Nat.blt d N with
        | true => exact blt hb
        | false => rw [hb] at g2; cases g2
      have hsr : SR ρ (ss p) (w.alloc wo) := h.sr.more (by rw [size_alloc]; exact Nat.le_succ _) fun b hb => heap_alloc_old w _ hb
      have l2 : Laid o.dst (.c cv) fX (T4.set (.c cv) (pathOf d) fX) := by
        intro t'
        rw [evP_set, b3]
        by_cases ht : t' = d
        · subst ht; simp
        · rw [if_neg ht, if_neg (fun x => ht (Option.some.inj x).symm)]
      refine hk _ _ ρ p (some (i, d, cv)) (T4.set (.c cv) (pathOf d) fX) ⟨size', closed', h.upto, fun j z hz hcz => ?_, fun e t cv' x => ?_, h.ext, h.kp.trans h.ext hkeep, hsr, ⟨?_, ?_⟩, fun t j z hz hlj hdt hne => ?_, fun t hn => ?_, h.fresh⟩
      · rw [getD_set hil, h.done j z hz hcz]
        constructor
        · rintro (rfl | x | ⟨_, _, x⟩)
          · exact .inr ⟨_, _, rfl⟩
          · exact .inl x
          · cases x
        · rintro (x | ⟨_, _, x⟩)
          · exact .inr (.inl x)
          · cases x; exact .inl rfl
      · cases x
        refine ⟨⟨o, w.heap.size, ob, v, wo, ho, b3, hc2, hs1, ?_, hmade, by rw [size_alloc]; exact Nat.lt_succ_self _, h.kp.size, hfree, heap_alloc_new w _, hrawb⟩, ?_, k, q, o, hk1, hk2, hq, ho, hck, hnw, hN⟩
        · rw [hlaid d, b3, if_pos rfl]
        · rw [evP_set, if_pos rfl]
      · rw [b3]
        exact h.frame.fr.put (.c _) d hdN
      · rw [put_defers]; exact h.frame.df
      · rw [evP_set]
        by_cases ht : t = d
        · exfalso
          subst ht
          have := hd.dsts j i z o t hz ho hdt b3
          subst this
          exact hne _ _ rfl
        · rw [if_neg ht]
          rw [getD_set hil] at hlj
          rcases hlj with rfl | hlj
          · exact absurd rfl (hne d cv)
          · exact h.new t j z hz hlj hdt fun t' cv x => by cases x
      · have htd : t ≠ d := fun x => hn i o ho ((getD_set hil).2 (.inl rfl)) (by rw [b3, x])
        rw [evP_set, if_neg htd]
        exact h.old t fun j z hz hlj => hn j z hz ((getD_set hil).2 (.inr hlj))

theorem Mid.any {P : Program} {env : Env} (henv : EnvOK P env) {ops : Array Oper} {N : Nat} {fs : Nat → T4 AV} {ss : Nat → St} (hr : Run P N env ops ops.size fs ss) (hd : DrawOK P ops) {w0 : World} {ρ0 : Ren} {Q : Exit → Act → World → Prop}
    (hq : ∀ a' w', Post ρ0 w0 (ss ops.size) w' (fun ρ' => AR P ρ' N (fs ops.size) (ss ops.size) a') → Q .normal a' w') :
    ∀ (fuel : Nat) (listed : Array Bool) (ρ : Ren) (a : Act) (w : World) (p : Nat) (pe : Option (Nat × Tmp × Value)) (fX : T4 AV), listed.toList.count false ≤ fuel → Mid P ops N fs ss w0 ρ0 listed ρ w p pe fX a → wpAny P .any ops Q fuel listed a w
  | 0, listed, ρ, a, w, p, pe, fX, hc, h => by
    have hall := count_zero h.size hc
    exact ⟨not_ready h.size hall, hq a w (h.end_ hr hd hall)⟩
  | fuel + 1, listed, ρ, a, w, p, pe, fX, hc, h => by
    refine ⟨fun hrd => hq a w (h.end_ hr hd (all_listed hd h.size hrd)), fun i hi => ?_⟩
    obtain ⟨o, ho, hl, ha⟩ := ready_inv h.size hi
    have hcs := count_step (by rw [h.size]; exact size_of ho) hl hc
    refine h.step henv hr hd ho hl ha (fun a' w' ρ' p' pe' fX' hm => ?_) fun a' w' ρ' k sX' fX' hkn hm => ?_
    · exact Mid.any henv hr hd hq fuel _ ρ' a' w' p' pe' fX' hcs hm
    · exact MidT.any henv hr hd hkn hq fuel _ ρ' a' w' sX' fX' hcs hm

theorem draw_any {P : Program} {env : Env} (henv : EnvOK P env) (hmix : P.follows .mixedOrders = true) {ops : Array Oper} {N : Nat} (hd : drawOk P ops = true) {Q : Exit → Act → World → Prop} {ρ : Ren} {s : St} {f : T4 AV} {a : Act} {w : World}
    (h : SR ρ s w) (hf : AR P ρ N f s a) (hq : QOf P ρ w N (execC P N env ops (planOf P ops) f s []) Q) : wpAny P .any ops Q ops.size (Array.replicate ops.size false) a { w with drawn := w.drawn + 1 } := by
  rcases execC_run (planOf P ops) f s [] with ⟨x, hb⟩ | ⟨fs, ss, H, h1, h2, h0, h3, h4⟩
  · rw [hb] at hq; exact hq.elim
  · rw [h3] at hq
    have hget := fun (i : Nat) (o : Oper) (ho : ops.toList[i]? = some o) => h4 i _ (planF_get ops (masks ops) ops.toList 0 i o ho)
    have hr : Run P N env ops ops.size fs ss := by
      refine ⟨fun k i o p hik ho hp hc1 hc3 hw => ?_, fun k j o p hkj ho hp hc2 hc1 hw => ?_, fun i j o p hij ho hp hsw hw => ?_, fun i o _ ho => (hget i o ho).1⟩
      · refine allAgain_mem (hget k p hp).2.1 o ?_
        have hb : Nat.beq (cls P p.op) 3 = true := by rw [hc3]; rfl
        show o ∈ (bif Nat.beq (cls P p.op) 3 then freeReads P ((masks ops).getD (0 + k) 0) 0 (ops.toList.take (0 + k)) else [])
        rw [hb, Nat.zero_add]
        refine freeReads_mem _ _ 0 i o (by rw [List.getElem?_take, if_pos hik]; exact ho) hc1 ?_
        rw [Nat.zero_add]
        cases hx : ((masks ops).getD k 0).testBit i with
        | false => rfl
        | true => exact absurd hx hw
      · have hbk := (hget j p hp).2.2.1
        have hb : Nat.beq (cls P p.op) 1 = true := by rw [hc1]; rfl
        change backOk P env ops (fs j) (fs (j + 1)) p (bif Nat.beq (cls P p.op) 1 then backN P ((masks ops).getD (0 + j) 0) 0 (ops.toList.take (0 + j)) else 0) (H j) = true at hbk
        rw [hb, Nat.zero_add] at hbk
        refine backOk_get _ _ hbk (countChg P ((ops.toList.take j).drop (k + 1))) ?_ (ss k) ?_
        · refine backN_lt _ (ops.toList.take j) 0 k o (by rw [List.getElem?_take, if_pos hkj]; exact ho) hc2 ?_
          rw [Nat.zero_add]
          cases hx : ((masks ops).getD j 0).testBit k with
          | false => rfl
          | true => exact absurd hx hw
        · exact hist_get (P := P) j (Nat.le_of_lt (size_of hp)) (fun i o _ ho => (hget i o ho).2.2.2.1) k o hkj ho hc2
      · refine allNe_mem (hget j p hp).2.2.2.2 o ?_
        show o ∈ swapsOf P ops ((masks ops).getD (0 + j) 0) (0 + j) p 0 (ops.toList.take (0 + j))
        rw [Nat.zero_add]
        refine swapsOf_mem ops _ j p (ops.toList.take j) 0 i o (by rw [List.getElem?_take, if_pos hij]; exact ho) ?_ ?_
        · rw [Nat.zero_add]
          cases hx : ((masks ops).getD j 0).testBit i with
          | false => rfl
          | true => exact absurd hx hw
        · rw [Nat.zero_add]
          exact swap_ok hsw
    refine Mid.any (w0 := w) (ρ0 := ρ) henv hr (drawOk_ok hd) (fun a' w' hp => ?_) ops.size _ ρ a _ 0 none f ?_ ⟨by simp, ?_, Nat.zero_le _, ?_, fun _ _ _ x => (by cases x), Ext.refl w ρ, Keeps.drawn ρ w _, by rw [h2]; exact h.drawn _, by rw [h2]; exact hf, ?_, ?_, ?_⟩
    · refine hq a' w' ?_
      have e : (planOf P ops).length = ops.size := by unfold planOf; rw [planF_length]; simp
      rw [e]
      exact hp
    · refine Nat.le_trans List.count_le_length ?_
      simp
    · intro i o ho hl
      exfalso
      simp [size_of ho] at hl
    · intro i o ho hc
      simp [size_of ho]
    · intro t j o ho hl
      exfalso
      simp [size_of ho] at hl
    · intro t _; rw [h1]
    · intro q hq'
      rw [Nat.le_zero.1 hq', h2]
      exact h.fresh

end Go.Eng
