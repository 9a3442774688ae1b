/-
  A loop over a map's entries, round by round.
-/
import Derived.Test.YtomcadipdacanaaGreatDoorEngP3
namespace Go.Eng
open Go
set_option linter.unusedVariables false

theorem FR.putU {ρ : Ren} {N : Nat} {f : T4 AV} {a : Act} (h : FR ρ N f a.tmps) {d : Tmp} (cv : Value) (hu : evP f (pathOf d) = .u) : FR ρ N f (a.put (some d) cv).tmps := by
  refine ⟨by simp [Act.put, h.size], fun t => ?_⟩
  show VR ρ _ ((a.tmps.setIfInBounds d cv).getD t undef)
  by_cases ht : t = d
  · subst ht; rw [hu]; exact .u _
  · have := h.at_ t
    rw [Array.getD_eq_getD_getElem?] at this ⊢
    rw [Array.getElem?_setIfInBounds_ne (fun e => ht e.symm)]
    exact this
theorem put_get {a : Act} {d : Tmp} {v : Value} (h : d < a.tmps.size) : (a.put (some d) v).eval (.tmp d) = v := by
  show (a.tmps.setIfInBounds d v).getD d undef = v
  rw [Array.getD_eq_getD_getElem?, Array.getElem?_setIfInBounds_self_of_lt h]
  rfl
theorem put_size (a : Act) (d : Tmp) (v : Value) : (a.put (some d) v).tmps.size = a.tmps.size := by simp [Act.put]

/-- how things stand between two rounds -/
structure RInv (P : Program) (N : Nat) (w0 : World) (ρ0 : Ren) (fh : T4 AV) (s : St) (g : St → Res) (r m A br bM bA : Nat) (kdM kd : Option IntKind) (es : Array MapEntry) (clk : Nat) (lA : List (AV × AV)) (clkA : Nat) (log : List (AV × AV))
    (todo : List ((AV × AV) × (AV × AV))) (V : List (AV × AV)) (ρ : Ren) (a : Act) (w : World) : Prop where
  ext : Ext w0 ρ0 ρ
  kp : Keeps ρ0 w0 w
  sr : SR ρ (heldSt r A s) w
  fr : AR P ρ N fh s a
  itr : ∃ seen c0, w.heap[br]? = some (.mapIter (some bM) clk seen c0) ∧ clk ≤ c0 ∧ (∀ e ∈ es.toList, Array.contains seen e.born = false → ∃ p ∈ todo, keyV kdM p.1.1 = some e.key ∧ VR ρ p.1.2 e.val) ∧
    (∀ p ∈ todo, ∃ e ∈ es.toList, Array.contains seen e.born = false ∧ keyV kdM p.1.1 = some e.key)
  map : w.heap[bM]? = some (.map es clk)
  aim : ∃ esA, w.heap[bA]? = some (.map esA (clkA + V.length)) ∧ MapOK ρ kd (lA ++ V) esA (clkA + V.length)
  run : ∀ p ∈ todo, Rnd g r m A kd s p
  dist : todo.Pairwise fun x y => keyV kdM x.1.1 ≠ keyV kdM y.1.1
  perm : (todo.map (·.2) ++ V).Perm log

/-- what stays as it is, from round to round -/
structure RCtx (w0 : World) (ρ0 : Ren) (s : St) (r m A br bM bA : Nat) (kdM kd : Option IntKind) (l : List (AV × AV)) (es : Array MapEntry) (clk : Nat) (lA : List (AV × AV)) (clkA : Nat) (log : List (AV × AV)) : Prop where
  sr : SR ρ0 s w0
  objr : ρ0.obj r = some br
  objm : ρ0.obj m = some bM
  objA : ρ0.obj A = some bA
  atr : s.heap.at_ r = some (.mit m clk)
  atm : s.heap.at_ m = some (.map kdM l clk)
  atA : s.heap.at_ A = some (.map kd lA clkA)
  ne : A ≠ m
  ng : T4.all (fun o => !isGh o) s.heap = true
  mok : MapOK ρ0 kdM l es clk
  fra : frAll lA log = true

section
variable {w0 : World} {ρ0 : Ren} {s : St} {r m A br bM bA : Nat} {kdM kd : Option IntKind} {l : List (AV × AV)} {es : Array MapEntry} {clk : Nat} {lA : List (AV × AV)} {clkA : Nat} {log : List (AV × AV)}

theorem RCtx.rm (c : RCtx w0 ρ0 s r m A br bM bA kdM kd l es clk lA clkA log) : r ≠ m := fun e => by
  have h1 := c.atr
  rw [e, c.atm] at h1; cases h1
theorem RCtx.rA (c : RCtx w0 ρ0 s r m A br bM bA kdM kd l es clk lA clkA log) : r ≠ A := fun e => by
  have h1 := c.atr
  rw [e, c.atA] at h1; cases h1
theorem RCtx.lt (c : RCtx w0 ρ0 s r m A br bM bA kdM kd l es clk lA clkA log) : r < s.next ∧ m < s.next ∧ A < s.next := ⟨(c.sr.objdom _ _ c.objr).1, (c.sr.objdom _ _ c.objm).1, (c.sr.objdom _ _ c.objA).1⟩

theorem held_at {i : Nat} : (heldSt r A s).heap.at_ i = if i = A then some .dead else if i = r then some .dead else s.heap.at_ i := by
  show ((s.heap.put r .dead).put A .dead).at_ i = _
  rw [T4.at_put, T4.at_put]
theorem round_at {k v : AV} {i : Nat} : (roundSt r m A kd s k v).heap.at_ i = if i = A then some (.lmap 2 kd none) else if i = m then some (.pin 1) else if i = r then some (.cur 0 m 1 k v) else s.heap.at_ i := by
  show (((s.heap.put r _).put m _).put A _).at_ i = _
  rw [T4.at_put, T4.at_put, T4.at_put]
theorem end_at {i : Nat} {L : List (AV × AV)} {n : Nat} : (endSt r A kd L n s).heap.at_ i = if i = A then some (.map kd L n) else if i = r then some .dead else s.heap.at_ i := by
  show ((s.heap.put r .dead).put A _).at_ i = _
  rw [T4.at_put, T4.at_put]

theorem ng_at (h : T4.all (fun o => !isGh o) s.heap = true) {i : Nat} {ob : AOb} (hi : s.heap.at_ i = some ob) : isGh ob = false := by
  have := T4.all_at h hi
  simpa using this

/-- what is held apart in a round -/
def ghosts (o' : Obj) (es : Array MapEntry) (clk : Nat) (L : List (AV × AV)) (n : Nat) : Nat → Option Ghost
  | 0 => some (.ob o')
  | 1 => some (.ob (.map es clk))
  | 2 => some (.li L n)
  | _ => none

/-- into a round -/
theorem RInv.enter {P : Program} {N : Nat} {fh : T4 AV} {g : St → Res} {todo : List ((AV × AV) × (AV × AV))} {V : List (AV × AV)} {ρ : Ren} {a : Act} {w : World} (c : RCtx w0 ρ0 s r m A br bM bA kdM kd l es clk lA clkA log)
    (h : RInv P N w0 ρ0 fh s g r m A br bM bA kdM kd es clk lA clkA log todo V ρ a w) {seen : Array Nat} {e : MapEntry} {k v : AV} {w2 : World} (hsz : w2.heap.size = w.heap.size) (hold : ∀ b, b ≠ br → w2.heap[b]? = w.heap[b]?)
    (hit : w2.heap[br]? = some (.mapIter (some bM) clk (seen.push e.born) clk)) (he : e ∈ es.toList) (hk : keyV kdM k = some e.key) (hv : VR ρ v e.val) :
    SR ⟨ρ.blk, ρ.obj, ghosts (.mapIter (some bM) clk (seen.push e.born) clk) es clk (lA ++ V) (clkA + V.length), ρ.st⟩ (roundSt r m A kd s k v) w2 := by
  have le := h.ext.le.1
  have or_ := le.2 _ _ c.objr
  have om := le.2 _ _ c.objm
  have oA := le.2 _ _ c.objA
  have hbm : bM ≠ br := fun x => c.rm (h.sr.objinj _ _ _ or_ (x ▸ om))
  have hbA : bA ≠ br := fun x => c.rA (h.sr.objinj _ _ _ or_ (x ▸ oA))
  have leq : ρ.leV ⟨ρ.blk, ρ.obj, ghosts (.mapIter (some bM) clk (seen.push e.born) clk) es clk (lA ++ V) (clkA + V.length), ρ.st⟩ := ⟨fun _ _ _ x => x, fun _ _ x => x, fun _ _ x => x⟩
  refine h.sr.reob rfl rfl rfl rfl (fun B el n cs lo hi hat => ?_) (fun B hB => ?_) hsz (fun B e' l' hl => hold _ (h.sr.sep _ _ _ _ _ hl or_)) rfl (fun b hf => hold b fun e => hf.2 r (e ▸ or_)) (fun i ob hat hob => ?_)
  · rw [round_at] at hat
    rw [held_at]
    by_cases h1 : B = A
    · rw [if_pos h1] at hat; cases hat
    · rw [if_neg h1] at hat ⊢
      by_cases h2 : B = m
      · rw [if_pos h2] at hat; cases hat
      · rw [if_neg h2] at hat
        by_cases h3 : B = r
        · rw [if_pos h3] at hat; cases hat
        · rw [if_neg h3] at hat ⊢; exact hat
  · have hB' : s.next ≤ B := hB
    obtain ⟨l1, l2, l3⟩ := c.lt
    rw [round_at, if_neg (by omega), if_neg (by omega), if_neg (by omega)]
    exact c.sr.fresh B hB'
  · rw [round_at] at hat
    by_cases h1 : i = A
    · rw [if_pos h1] at hat
      cases hat
      obtain ⟨esA, a1, a2⟩ := h.aim
      subst h1
      exact ⟨bA, _, oA, (hold _ hbA).trans a1, lA ++ V, clkA + V.length, esA, rfl, rfl, a2.monoV leq⟩
    · rw [if_neg h1] at hat
      by_cases h2 : i = m
      · rw [if_pos h2] at hat
        cases hat
        subst h2
        exact ⟨bM, _, om, (hold _ hbm).trans h.map, rfl⟩
      · rw [if_neg h2] at hat
        by_cases h3 : i = r
        · rw [if_pos h3] at hat
          cases hat
          subst h3
          exact ⟨br, _, or_, hit, rfl, bM, es, e, seen, clk, clk, rfl, om, rfl, he, c.mok.st.2.1, keyV_VR hk, hv.monoV leq⟩
        · rw [if_neg h3] at hat
          have hs : (heldSt r A s).heap.at_ i = some ob := by rw [held_at, if_neg h1, if_neg h3]; exact hat
          obtain ⟨b, o, b1, b2, b3⟩ := h.sr.objs i ob hs hob
          have hbr : b ≠ br := fun x => h3 (h.sr.objinj _ _ _ b1 (x ▸ or_))
          exact ⟨b, o, b1, (hold _ hbr).trans b2, b3.monoV leq (ng_at c.ng hat)⟩

/-- out of the last round -/
theorem RInv.leave {P : Program} {N : Nat} {fh : T4 AV} {g : St → Res} {V : List (AV × AV)} {ρ : Ren} {a : Act} {w : World} (c : RCtx w0 ρ0 s r m A br bM bA kdM kd l es clk lA clkA log)
    (h : RInv P N w0 ρ0 fh s g r m A br bM bA kdM kd es clk lA clkA log [] V ρ a w) {a' : Act} (hf : AR P ρ N fh s a') : Post ρ0 w0 (endSt r A kd (lA ++ log) (clkA + log.length) s) w fun ρ' => AR P ρ' N fh (endSt r A kd (lA ++ log) (clkA + log.length) s) a' := by
  have hp : V.Perm log := by simpa using h.perm
  have oA := h.ext.le.1.2 _ _ c.objA
  refine ⟨ρ, h.ext, h.kp, h.sr.reob rfl rfl rfl rfl (fun B el n cs lo hi hat => ?_) (fun B hB => ?_) rfl (fun _ _ _ _ => rfl) rfl (fun _ _ => rfl) (fun i ob hat hob => ?_), ⟨hf.fr, hf.df⟩⟩
  · rw [end_at] at hat
    rw [held_at]
    by_cases h1 : B = A
    · rw [if_pos h1] at hat; cases hat
    · rw [if_neg h1] at hat ⊢; exact hat
  · have hB' : s.next ≤ B := hB
    obtain ⟨l1, l2, l3⟩ := c.lt
    rw [end_at, if_neg (by omega), if_neg (by omega)]
    exact c.sr.fresh B hB'
  · rw [end_at] at hat
    by_cases h1 : i = A
    · rw [if_pos h1] at hat
      cases hat
      subst h1
      obtain ⟨esA, a1, a2⟩ := h.aim
      rw [hp.length_eq] at a1 a2
      exact ⟨bA, _, oA, a1, esA, rfl, a2.perm (hp.append_left lA)⟩
    · rw [if_neg h1] at hat
      exact h.sr.objs i ob (by rw [held_at, if_neg h1]; exact hat) hob

/-- a round's memory, read back -/
theorem round_mem {P : Program} {N : Nat} {env : Env} {lf : Nat} {rest : Code} {fh : T4 AV} (ht : tameC P rest = true) (hu : nUpd rest ≤ 1) {k v k' v' : AV} {f' : T4 AV} {s' : St} (he : exec0 P N (pureOf env) lf rest fh (roundSt r m A kd s k v) = .ok f' s') (hp : putAt s' A = .some k' v') :
    (∀ t, t ∉ dstC rest → evP f' (pathOf t) = evP fh (pathOf t)) ∧ s' = ⟨(roundSt r m A kd s k v).heap.put A (.lmap 2 kd (some (k', v'))), s.next, s.ds, s.raw⟩ := by
  have h := tame_code (P := P) (N := N) (env := env) (lf := lf) rest fh (roundSt r m A kd s k v) ht
  rw [he] at h
  obtain ⟨h1, h2⟩ := h
  refine ⟨h1, ?_⟩
  have h3 : Ups 1 (roundSt r m A kd s k v) s' := by
    have := h2.more (1 - nUpd rest)
    rwa [show nUpd rest + (1 - nUpd rest) = 1 by omega] at this
  obtain ⟨id, kd', hat⟩ := putAt_some hp
  have hA : (roundSt r m A kd s k v).heap.at_ A = some (.lmap 2 kd none) := by rw [round_at, if_pos rfl]
  rcases h3.one with rfl | ⟨m', X, rfl, hX⟩
  · rw [hA] at hat; cases hat
  · have hmA : m' = A := by
      refine Classical.byContradiction fun hn => ?_
      have hat' : ((roundSt r m A kd s k v).heap.put m' X).at_ A = _ := hat
      rw [T4.at_put_ne _ _ _ _ (fun x => hn x.symm), hA] at hat'
      cases hat'
    subst hmA
    have hat' : ((roundSt r m m' kd s k v).heap.put m' X).at_ m' = _ := hat
    rw [T4.at_put_self] at hat'
    rcases hX with ⟨_, _, _, y⟩ | ⟨id2, kd2, k2, v2, y, rfl⟩
    · rw [hA] at y; cases y
    · rw [hA] at y
      cases y
      cases hat'
      rfl

/-- behind a round -/
theorem RInv.after {P : Program} {N : Nat} {fh : T4 AV} {rest : Code} {nx mo : Tmp} {env : Env} {lf : Nat} (hfu : ∀ t, t ∈ nx :: mo :: dstC rest → evP fh (pathOf t) = .u) (ht : tameC P rest = true) (hu : nUpd rest ≤ 1)
    {t1 t2 : List ((AV × AV) × (AV × AV))} {p : (AV × AV) × (AV × AV)} {V : List (AV × AV)} {ρ : Ren} {a : Act} {w : World} (c : RCtx w0 ρ0 s r m A br bM bA kdM kd l es clk lA clkA log)
    (h : RInv P N w0 ρ0 fh s (exec0 P N (pureOf env) lf rest fh) r m A br bM bA kdM kd es clk lA clkA log (t1 ++ p :: t2) V ρ a w) {seen : Array Nat} {e : MapEntry} {w2 : World} (hsz : w2.heap.size = w.heap.size) (hkp : Keeps ρ w w2)
    (he : e ∈ es.toList) (hk : keyV kdM p.1.1 = some e.key)
    (hF1 : ∀ e ∈ es.toList, Array.contains seen e.born = false → ∃ p' ∈ t1 ++ p :: t2, keyV kdM p'.1.1 = some e.key ∧ VR ρ p'.1.2 e.val) (hF2 : ∀ p' ∈ t1 ++ p :: t2, ∃ e ∈ es.toList, Array.contains seen e.born = false ∧ keyV kdM p'.1.1 = some e.key)
    {f' : T4 AV} {s' : St} (hex : exec0 P N (pureOf env) lf rest fh (roundSt r m A kd s p.1.1 p.1.2) = .ok f' s') (hpa : putAt s' A = .some p.2.1 p.2.2) {a' : Act} {w' : World}
    (hp : Post ⟨ρ.blk, ρ.obj, ghosts (.mapIter (some bM) clk (seen.push e.born) clk) es clk (lA ++ V) (clkA + V.length), ρ.st⟩ w2 s' w' fun ρ' => AR P ρ' N f' s' a') :
    ∃ ρ3, RInv P N w0 ρ0 fh s (exec0 P N (pureOf env) lf rest fh) r m A br bM bA kdM kd es clk lA clkA log (t1 ++ t2) (V ++ [p.2]) ρ3 a' w' := by
  obtain ⟨ρ2, e1, e2, e3, e4⟩ := hp
  obtain ⟨hf', rfl⟩ := round_mem ht hu hex hpa
  have le2 : ρ.leV ρ2 := ⟨e1.le.1.1, e1.le.1.2.o, e1.le.1.2.s⟩
  have le3 : ρ.leV ⟨ρ2.blk, ρ2.obj, ρ0.gh, ρ2.st⟩ := ⟨le2.1, le2.2.o, le2.2.s⟩
  have le0 := h.ext.le.1
  have leq : ρ2.leV ⟨ρ2.blk, ρ2.obj, ρ0.gh, ρ2.st⟩ := ⟨fun _ _ _ x => x, fun _ _ x => x, fun _ _ x => x⟩
  have or2 := le2.2 _ _ (le0.2 _ _ c.objr)
  have om2 := le2.2 _ _ (le0.2 _ _ c.objm)
  have oA2 := le2.2 _ _ (le0.2 _ _ c.objA)
  have g0 : ρ2.gh 0 = some (.ob (.mapIter (some bM) clk (seen.push e.born) clk)) := e1.le.2 0 _ rfl
  have g1 : ρ2.gh 1 = some (.ob (.map es clk)) := e1.le.2 1 _ rfl
  have g2 : ρ2.gh 2 = some (.li (lA ++ V) (clkA + V.length)) := e1.le.2 2 _ rfl
  -- the memory behind the round
  have sat : ∀ i, ((roundSt r m A kd s p.1.1 p.1.2).heap.put A (.lmap 2 kd (some (p.2.1, p.2.2)))).at_ i = if i = A then some (.lmap 2 kd (some (p.2.1, p.2.2))) else if i = m then some (.pin 1) else if i = r then some (.cur 0 m 1 p.1.1 p.1.2) else s.heap.at_ i := by
    intro i
    rw [T4.at_put, round_at]
    by_cases h1 : i = A
    · rw [if_pos h1, if_pos h1]
    · rw [if_neg h1, if_neg h1, if_neg h1]
  have wA : ∃ esA, w'.heap[bA]? = some (.map esA (clkA + V.length + 1)) ∧ MapOK ρ2 kd ((lA ++ V) ++ [(p.2.1, p.2.2)]) esA (clkA + V.length + 1) := by
    obtain ⟨b, o, b1, b2, l0, c0, q1, ⟨kv, q2⟩, q3⟩ := e3.objs A (.lmap 2 kd (some (p.2.1, p.2.2))) (by show (T4.put _ _ _).at_ A = _; rw [sat, if_pos rfl]) rfl
    obtain rfl := Option.some.inj (oA2.symm.trans b1)
    rw [g2] at q1
    cases q1
    have hmem : p.2 ∈ (t1 ++ p :: t2).map (·.2) := List.mem_map_of_mem (by simp)
    have hap := frAll_apart c.fra
    have hpw : ((t1 ++ p :: t2).map (·.2) ++ V).Pairwise Apart := (h.perm.pairwise_iff fun hxy => hxy.symm).2 hap.1
    obtain ⟨es', r1, r2⟩ := q3 fun x hx hxe => by
      have hxa : Apart x p.2 := by
        rcases List.mem_append.1 hx with y | y
        · exact hap.2 _ (h.perm.mem_iff.1 (List.mem_append_left _ hmem)) x y
        · exact ((List.pairwise_append.1 hpw).2.2 _ hmem _ y).symm
      have h1 := hxa.1
      rw [q2] at hxe
      rw [(keyEq_iff hxe q2).2 rfl] at h1
      cases h1
    exact ⟨es', by rw [b2, r1], r2⟩
  have wm : w'.heap[bM]? = some (.map es clk) := by
    obtain ⟨b, o, b1, b2, b3⟩ := e3.objs m (.pin 1) (by show (T4.put _ _ _).at_ m = _; rw [sat, if_neg (fun x => c.ne x.symm), if_pos rfl]) rfl
    obtain rfl := Option.some.inj (om2.symm.trans b1)
    have b3' : ρ2.gh 1 = some (.ob o) := b3
    rw [g1] at b3'
    cases b3'
    exact b2
  have wr : w'.heap[br]? = some (.mapIter (some bM) clk (seen.push e.born) clk) := by
    obtain ⟨b, o, b1, b2, b3, _⟩ := e3.objs r (.cur 0 m 1 p.1.1 p.1.2) (by show (T4.put _ _ _).at_ r = _; rw [sat, if_neg c.rA, if_neg c.rm, if_pos rfl]) rfl
    obtain rfl := Option.some.inj (or2.symm.trans b1)
    have b3' : ρ2.gh 0 = some (.ob o) := b3
    rw [g0] at b3'
    cases b3'
    exact b2
  obtain ⟨esA, wA1, wA2⟩ := wA
  have hdist := h.dist
  have hps : ∀ q ∈ t1 ++ t2, keyV kdM q.1.1 ≠ keyV kdM p.1.1 := by
    intro q hq
    rw [List.pairwise_append, List.pairwise_cons] at hdist
    rcases List.mem_append.1 hq with x | x
    · exact hdist.2.2 q x p List.mem_cons_self
    · exact fun y => hdist.2.1.1 q x y.symm
  refine ⟨⟨ρ2.blk, ρ2.obj, ρ0.gh, ρ2.st⟩, ⟨⟨Ren.leV_trans le0 le3, fun _ _ x => x⟩, fun b hb => ?_⟩, ?_, ?_, ⟨⟨e4.fr.size, fun t => ?_⟩, e4.df.monoV leq⟩, ⟨seen.push e.born, clk, wr, Nat.le_refl _, fun x hx hxs => ?_, fun q hq => ?_⟩, wm, ⟨esA, ?_, ?_⟩, fun q hq => h.run q ?_, hdist.sublist ?_, ?_⟩
  · rcases e1.new b hb with x | x
    · exact h.ext.new b x
    · exact .inr (Nat.le_trans h.kp.size (by rw [← hsz]; exact x))
  · have k1 : Keeps ρ w2 w' := ⟨e2.size, e2.os, e2.output, e2.tape, fun b hb hf => e2.old b hb hf⟩
    have k2 := h.kp.trans h.ext hkp
    exact k2.trans h.ext k1
  · refine e3.reob rfl rfl rfl rfl (fun B el n cs lo hi hat => ?_) (fun B hB => ?_) rfl (fun _ _ _ _ => rfl) rfl (fun _ _ => rfl) (fun i ob hat hob => ?_)
    · rw [held_at] at hat
      show (T4.put _ _ _).at_ B = _
      rw [sat]
      by_cases h1 : B = A
      · rw [if_pos h1] at hat; cases hat
      · rw [if_neg h1] at hat ⊢
        by_cases h3 : B = r
        · rw [if_pos h3] at hat; cases hat
        · rw [if_neg h3] at hat
          have hBm : B ≠ m := fun x => by rw [x, c.atm] at hat; cases hat
          rw [if_neg hBm, if_neg h3]; exact hat
    · have hB' : s.next ≤ B := hB
      obtain ⟨l1, l2, l3⟩ := c.lt
      rw [held_at, if_neg (by omega), if_neg (by omega)]
      exact c.sr.fresh B hB'
    · rw [held_at] at hat
      by_cases h1 : i = A
      · rw [if_pos h1] at hat; cases hat; cases hob
      · rw [if_neg h1] at hat
        by_cases h3 : i = r
        · rw [if_pos h3] at hat; cases hat; cases hob
        · rw [if_neg h3] at hat
          by_cases h2 : i = m
          · subst h2
            rw [c.atm] at hat
            cases hat
            exact ⟨bM, _, om2, wm, es, rfl, c.mok.monoV (Ren.leV_trans le0 le3)⟩
          · obtain ⟨b, o, b1, b2, b3⟩ := e3.objs i ob (by show (T4.put _ _ _).at_ i = _; rw [sat, if_neg h1, if_neg h2, if_neg h3]; exact hat) hob
            exact ⟨b, o, b1, b2, b3.monoV leq (ng_at c.ng hat)⟩
  · by_cases htd : t ∈ nx :: mo :: dstC rest
    · rw [hfu t htd]; exact .u _
    · have : t ∉ dstC rest := fun x => htd (List.mem_cons_of_mem _ (List.mem_cons_of_mem _ x))
      rw [← hf' t this]
      exact (e4.fr.at_ t).monoV leq
  · rw [contains_push, Bool.or_eq_false_iff] at hxs
    obtain ⟨q, q1, q2, q3⟩ := hF1 x hx hxs.1
    have hqp : q ≠ p := fun y => by
      rw [y, hk] at q2
      have := one_entry c.mok.st he hx (Option.some.inj q2)
      subst this
      simp at hxs
    refine ⟨q, ?_, q2, q3.monoV le3⟩
    rw [List.mem_append, List.mem_cons] at q1
    rcases q1 with y | y | y
    · exact List.mem_append_left _ y
    · exact absurd y hqp
    · exact List.mem_append_right _ y
  · obtain ⟨x, x1, x2, x3⟩ := hF2 q (by
      rcases List.mem_append.1 hq with y | y
      · exact List.mem_append_left _ y
      · exact List.mem_append_right _ (List.mem_cons_of_mem _ y))
    refine ⟨x, x1, ?_, x3⟩
    rw [contains_push, Bool.or_eq_false_iff]
    refine ⟨x2, ?_⟩
    cases hb : x.born == e.born with
    | false => rfl
    | true =>
      exfalso
      have := one_born c.mok.st x1 he (by simpa using hb)
      subst this
      exact hps q hq (by rw [x3, hk])
  · rw [wA1]; simp [Nat.add_assoc]
  · have : lA ++ (V ++ [p.2]) = (lA ++ V) ++ [(p.2.1, p.2.2)] := by simp
    rw [this]
    have h2 : clkA + (V ++ [p.2]).length = clkA + V.length + 1 := by simp [Nat.add_assoc]
    rw [h2]
    exact wA2.monoV leq
  · rcases List.mem_append.1 hq with y | y
    · exact List.mem_append_left _ y
    · exact List.mem_append_right _ (List.mem_cons_of_mem _ y)
  · exact List.Sublist.append_left (List.sublist_cons_self p t2) t1
  · refine List.Perm.trans ?_ h.perm
    rw [List.map_append, List.map_append, List.map_cons, ← List.append_assoc]
    refine (List.perm_append_singleton p.2 _).trans ?_
    exact ((List.perm_middle (a := p.2) (l₁ := t1.map (·.2)) (l₂ := t2.map (·.2))).symm.append_right V)

theorem range_rounds {P : Program} {N : Nat} {env : Env} (henv : EnvOK P env) (hmix : P.follows .mixedOrders = true) {lf : Nat} {body : Code} {it : Operand} {nx mo out : Nat} {rest : Code} (hsh : rangeShape body = .some it nx mo out rest) {fh : T4 AV}
    (hfu : ∀ t, t ∈ nx :: mo :: dstC rest → evP fh (pathOf t) = .u) (ht : tameC P rest = true) (hu : nUpd rest ≤ 1) (hit : evO fh it = .it r) (hnx : nx < N) (hmo : mo < N) (c : RCtx w0 ρ0 s r m A br bM bA kdM kd l es clk lA clkA log) {Q : Exit → Act → World → Prop}
    (hQ : ∀ a' w', Post ρ0 w0 (endSt r A kd (lA ++ log) (clkA + log.length) s) w' (fun ρ' => AR P ρ' N fh (endSt r A kd (lA ++ log) (clkA + log.length) s) a') → Q (.exit out) a' w') :
    ∀ (n : Nat) (todo : List ((AV × AV) × (AV × AV))) (V : List (AV × AV)) (ρ : Ren) (a : Act) (w : World), todo.length < n → RInv P N w0 ρ0 fh s (exec0 P N (pureOf env) lf rest fh) r m A br bM bA kdM kd es clk lA clkA log todo V ρ a w → Code.rounds P body Q n a w
  | 0, todo, V, ρ, a, w, hn, h => by omega
  | n + 1, todo, V, ρ, a, w, hn, h => by
    rw [rounds_succ]
    obtain ⟨id, ops, ty1, pos1, af1, ty2, pos2, af2, rfl, hops, hnm⟩ := rangeShape_inv hsh
    have hsz : ops.size = 2 := by rw [← Array.length_toList, hops]; rfl
    have ho1 : ops[0]? = some ⟨some nx, .next it false, ty1, pos1, af1, none⟩ := by rw [← Array.getElem?_toList, hops]; rfl
    have ho2 : ops[1]? = some ⟨some mo, .extract (.tmp nx) 0, ty2, pos2, af2, none⟩ := by rw [← Array.getElem?_toList, hops]; rfl
    have itv : a.eval it = .pointer (some ⟨br, 0, none⟩) := by
      have hv := h.fr.fr.op it
      rw [hit] at hv
      obtain ⟨b, b1, b2⟩ := hv.it_inv
      obtain rfl := Option.some.inj ((h.ext.le.1.2 _ _ c.objr).symm.trans b1)
      exact b2
    obtain ⟨seen, c0, i1, i2, i3, i4⟩ := h.itr
    refine wp_seq (wp_region ?_)
    rw [hsz, show List.range 2 = [0, 1] from rfl, wpOps_cons]
    unfold wpOp
    rw [ho1]
    dsimp only
    rw [if_pos (guard_none (ops := ops) (o := ⟨some nx, .next it false, ty1, pos1, af1, none⟩) rfl a.tmps)]
    left
    -- the second operation, whatever the first one told
    have second : ∀ (x : Value) (vs : Array Value) (w2 : World) (K : Act → World → Prop) (R : Exit → Act → World → Prop), vs[0]? = some x → K ((a.put (some nx) (.tuple vs)).put (some mo) x) w2 →
        wpOps P ops (Exit.then K R) [1] (a.put (some nx) (.tuple vs)) w2 := by
      intro x vs w2 K R hx hK
      rw [wpOps_cons]
      unfold wpOp
      rw [ho2]
      dsimp only
      rw [if_pos (guard_none (ops := ops) (o := ⟨some mo, .extract (.tmp nx) 0, ty2, pos2, af2, none⟩) rfl _)]
      left
      show Oper.upon P _ _ _ _ ((do pure (.value (← Instr.extract ((a.put (some nx) (.tuple vs)).eval (.tmp nx)) 0)) : Sem Next).run P w2)
      rw [put_get (by rw [h.fr.fr.size]; exact hnx)]
      simp only [Instr.extract, hx, Sem.run_bind, Sem.run_pure, Result.andThen_ok]
      exact hK
    show Oper.upon P _ _ _ _ ((do pure (.value (← Instr.next (a.eval it) false ty1)) : Sem Next).run P w)
    rw [itv]
    have hfr2 : ∀ v1 v2, AR P ρ N fh s ((a.put (some nx) v1).put (some mo) v2) := fun v1 v2 =>
      ⟨(h.fr.fr.putU v1 (hfu nx List.mem_cons_self)).putU v2 (hfu mo (List.mem_cons_of_mem _ List.mem_cons_self)), by rw [put_defers, put_defers]; exact h.fr.df⟩
    have hmog : ∀ v1 v2, ((a.put (some nx) v1).put (some mo) v2).eval (.tmp mo) = v2 := fun v1 v2 => put_get (by rw [put_size, h.fr.fr.size]; exact hmo)
    rcases run_next_at (P := P) w ty1 br bM clk c0 seen es clk i1 h.map c.mok.st.1 i2 with ⟨h0, hrun⟩ | ⟨e, hel, w1, hal, hrun⟩
    · -- nothing is left
      rw [Sem.run_bind, hrun, Result.andThen_ok, Sem.run_pure]
      refine second (.bool false) #[.bool false] w _ _ rfl ?_
      refine wp_seq (wp_cond_false (hmog _ _) (wp_exit ?_))
      have htodo : todo = [] := by
        cases todo with
        | nil => rfl
        | cons p r =>
          exfalso
          obtain ⟨x, x1, x2, _⟩ := i4 p List.mem_cons_self
          rw [all_seen es seen h0 x x1] at x2
          cases x2
      subst htodo
      exact hQ _ _ (h.leave c (hfr2 _ _))
    · obtain ⟨he, hes⟩ := mem_left hel
      obtain ⟨p, hp, hk, hv⟩ := i3 e he hes
      obtain ⟨t1, t2, rfl⟩ := List.append_of_mem hp
      rw [Sem.run_bind, hrun, Result.andThen_ok, Sem.run_pure]
      refine second (.bool true) #[.bool true, e.key, e.val] _ _ _ rfl ?_
      refine wp_seq (wp_cond_true (hmog _ _) (wp_skip ?_))
      have hw1 : w1.heap = w.heap ∧ w1.os = w.os ∧ w1.output = w.output ∧ w1.tape = w.tape := by rcases hal with rfl | rfl <;> exact ⟨rfl, rfl, rfl, rfl⟩
      have hbr : br < w.heap.size := (Array.getElem?_eq_some_iff.1 i1).1
      have hsz2 : (ChangeMaps.setBlock w1 br (.mapIter (some bM) clk (seen.push e.born) clk)).heap.size = w.heap.size := by
        show (w1.heap.setIfInBounds _ _).size = _
        rw [hw1.1]; simp
      have hold : ∀ b, b ≠ br → (ChangeMaps.setBlock w1 br (.mapIter (some bM) clk (seen.push e.born) clk)).heap[b]? = w.heap[b]? := fun b hb => by
        show (w1.heap.setIfInBounds _ _)[b]? = _
        rw [hw1.1, Array.getElem?_setIfInBounds_ne (fun x => hb x.symm)]
      have hitb : (ChangeMaps.setBlock w1 br (.mapIter (some bM) clk (seen.push e.born) clk)).heap[br]? = some (.mapIter (some bM) clk (seen.push e.born) clk) := by
        show (w1.heap.setIfInBounds _ _)[br]? = _
        rw [hw1.1, Array.getElem?_setIfInBounds_self_of_lt hbr]
      have hkeep : Keeps ρ w (ChangeMaps.setBlock w1 br (.mapIter (some bM) clk (seen.push e.born) clk)) :=
        ⟨by rw [hsz2]; exact Nat.le_refl _, hw1.2.1, hw1.2.2.1, hw1.2.2.2, fun b _ hf => hold b fun x => hf.2 r (x ▸ h.ext.le.1.2 _ _ c.objr)⟩
      have hsr := h.enter c hsz2 hold hitb he hk hv
      obtain ⟨f', s', hex, hpa⟩ := h.run p hp
      refine exec0_wp (pureOf_ok henv) hmix lf rest _ _ _ fh _ _ hsr ⟨(hfr2 _ _).fr.monoV ⟨fun _ _ _ x => x, fun _ _ x => x, fun _ _ x => x⟩, (hfr2 _ _).df.monoV ⟨fun _ _ _ x => x, fun _ _ x => x, fun _ _ x => x⟩⟩ ?_
      rw [hex]
      intro a' w' hpost
      obtain ⟨ρ3, hinv⟩ := RInv.after hfu ht hu c h hsz2 hkeep he hk i3 i4 hex hpa hpost
      refine range_rounds henv hmix hsh hfu ht hu hit hnx hmo c hQ n (t1 ++ t2) (V ++ [p.2]) ρ3 a' w' ?_ hinv
      simp only [List.length_append, List.length_cons] at hn ⊢
      omega
end

theorem rangeLoop_wp {P : Program} {N : Nat} {env : Env} (henv : EnvOK P env) (hmix : P.follows .mixedOrders = true) (lf : Nat) {body : Code} {it : Operand} {nx mo out : Nat} {rest : Code} (hsh : rangeShape body = .some it nx mo out rest) :
    Sound P N (rangeLoop P N env lf it nx mo out rest) (.loop body) := by
  intro Q ρ s f a w h hf hq
  rcases rangeLoop_inv (P := P) (N := N) (env := env) (lf := lf) (it := it) (nx := nx) (mo := mo) (out := out) (rest := rest) (f := f) (s := s) with ⟨x, hb⟩ | ⟨fh, r, m, A, kdM, kd, lA, clk, clkA, ps, hfh, hit, h1, h2, h3, h4, h5, h6, h7, h8, h9, h10, h11, h12, h13⟩
  · rw [hb] at hq; exact hq.elim
  · rw [h13] at hq
    obtain ⟨br, o, r1, r2, bM, rfl, r4⟩ := h.objs r _ h1 rfl
    obtain ⟨bM', o, m1, m2, es, rfl, m4⟩ := h.objs m _ h2 rfl
    obtain rfl := Option.some.inj (r4.symm.trans m1)
    obtain ⟨bA, o, a1, a2, esA, rfl, a4⟩ := h.objs A _ h3 rfl
    have c : RCtx w ρ s r m A br bM bA kdM kd (ps.map (·.1)) es clk lA clkA (ps.map (·.2)) := ⟨h, r1, m1, a1, h1, h2, h3, h4, h10, m4, h12⟩
    have hfu : ∀ t, t ∈ nx :: mo :: dstC rest → evP fh (pathOf t) = .u := fun t ht => by rw [hfh, havoc_at, if_pos ht]
    refine wp_loop_rounds lf (range_rounds (lf := lf) henv hmix hsh hfu h5 h6 hit h7 h8 c (fun a' w' hp => hq a' w' hp) lf ps [] ρ a w h9 ?_)
    refine ⟨Ext.refl w ρ, Keeps.refl ρ w, ?_, ⟨⟨hf.fr.size, fun t => ?_⟩, hf.df⟩, ⟨#[], clk, r2, Nat.le_refl _, fun e he _ => ?_, fun p hp => ?_⟩, m2, ⟨esA, by simpa using a2, by simpa using a4⟩, h11, ?_, by simp⟩
    · refine h.reob rfl rfl rfl rfl (fun B el n cs lo hi hat => ?_) (fun B hB => ?_) rfl (fun _ _ _ _ => rfl) rfl (fun _ _ => rfl) (fun i ob hat hob => ?_)
      · rw [held_at] at hat
        by_cases x1 : B = A
        · rw [if_pos x1] at hat; cases hat
        · rw [if_neg x1] at hat
          by_cases x2 : B = r
          · rw [if_pos x2] at hat; cases hat
          · rw [if_neg x2] at hat; exact hat
      · have hB' : s.next ≤ B := hB
        obtain ⟨l1, l2, l3⟩ := c.lt
        rw [held_at, if_neg (by omega), if_neg (by omega)]
        exact h.fresh B hB'
      · rw [held_at] at hat
        by_cases x1 : i = A
        · rw [if_pos x1] at hat; cases hat; cases hob
        · rw [if_neg x1] at hat
          by_cases x2 : i = r
          · rw [if_pos x2] at hat; cases hat; cases hob
          · rw [if_neg x2] at hat; exact h.objs i ob hat hob
    · rw [hfh, havoc_at]
      by_cases ht : t ∈ nx :: mo :: dstC rest
      · rw [if_pos ht]; exact .u _
      · rw [if_neg ht]; exact hf.fr.at_ t
    · obtain ⟨k, v, x1, x2⟩ := m4.bwd e he
      obtain ⟨p, p1, p2⟩ := List.mem_map.1 x1
      obtain ⟨e2, y1, y2, y3⟩ := m4.fwd k v x1
      have : e2 = e := one_entry m4.st y1 he (Option.some.inj (y2.symm.trans x2))
      subst this
      exact ⟨p, p1, by rw [p2]; exact x2, by rw [p2]; exact y3⟩
    · obtain ⟨e2, y1, y2, y3⟩ := m4.fwd p.1.1 p.1.2 (List.mem_map_of_mem (f := (·.1)) hp)
      exact ⟨e2, y1, by simp, y2⟩
    · have hd := m4.dist
      rw [List.pairwise_map] at hd
      exact hd

theorem exec_wp {P : Program} {N : Nat} {env : Env} (henv : EnvOK P env) (hmix : P.follows .mixedOrders = true) (lf : Nat) (c : Code) : Sound P N (exec P N env lf c) c := by
  refine execG_wp henv hmix (fun b g hg => ?_) c
  intro Q ρ s f a w h hf hq
  cases hsh : rangeShape b with
  | none =>
    dsimp only at hq
    rw [hsh] at hq
    exact loopN_sound lf b g hg Q ρ s f a w h hf hq
  | some it nx mo out rest =>
    dsimp only at hq
    rw [hsh] at hq
    exact rangeLoop_wp henv hmix lf hsh Q ρ s f a w h hf hq

end Go.Eng
