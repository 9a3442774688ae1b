/-
  A loop over a map's entries each round of which lays one entry into another map: whatever the order that is drawn, it comes to the same.
-/
import Derived.Test.YtomcadipdacanaaGreatDoorEngP2
namespace Go.Eng
open Go
set_option linter.unusedVariables false

theorem Ren.leV_trans {ρ ρ' ρ'' : Ren} (h : ρ.leV ρ') (h' : ρ'.leV ρ'') : ρ.leV ρ'' := ⟨fun A e l x => h'.1 A e l (h.1 A e l x), fun m b x => h'.2 m b (h.2 m b x), fun i n x => h'.2.s i n (h.2.s i n x)⟩
theorem LocOK.monoV {ρ ρ' : Ren} {l : Loc} {el : TypeId} {cs : T4 AV} {w w' : World} (hle : ρ.leV ρ') (hw : w'.heap[l.blk]? = w.heap[l.blk]?) (h : LocOK ρ l el cs w) : LocOK ρ' l el cs w' := by
  obtain ⟨c, fr, h1, h2, h3, h4, h5, h6⟩ := h
  refine ⟨c, fr, hw.trans h1, h2, h3, h4, h5, fun i hi hj => ?_⟩
  obtain ⟨a, v, x, y, z⟩ := h6 i hi hj
  exact ⟨a, v, x, y, z.monoV hle⟩
theorem FR.monoV {ρ ρ' : Ren} {N : Nat} {f : T4 AV} {tmps : Array Value} (h : FR ρ N f tmps) (hle : ρ.leV ρ') : FR ρ' N f tmps := ⟨h.size, fun t => (h.at_ t).monoV hle⟩
theorem DefR.monoV {P : Program} {ρ ρ' : Ren} {l : List (FuncId × List AV)} {r : List Deferred} (h : DefR P ρ l r) (hle : ρ.leV ρ') : DefR P ρ' l r := by
  induction h with
  | nil => exact .nil
  | cons ht hi ha _ ih => exact .cons ht hi (ha.monoV hle) ih
theorem VR.it_inv {ρ : Ren} {m : Nat} {v : Value} (h : VR ρ (.it m) v) : ∃ b, ρ.obj m = some b ∧ v = .pointer (some ⟨b, 0, none⟩) := by
  cases h with
  | it hm => exact ⟨_, hm, rfl⟩
theorem keyV_VR {ρ : Ren} {kd : Option IntKind} {a : AV} {v : Value} (h : keyV kd a = some v) : VR ρ a v := by
  unfold keyV at h
  split at h
  · cases h; exact .s _
  · rename_i k k' n
    cases hk : kEq k k' with
    | false => rw [hk] at h; cases h
    | true => rw [hk] at h; cases h; rw [kEq_eq hk]; exact .i _ _
  · cases h

/-- objects told anew, rows of cells as they were -/
theorem SR.reob {ρ ρ1 : Ren} {s s1 : St} {w w1 : World} (h : SR ρ s w) (hb : ρ1.blk = ρ.blk) (ho : ρ1.obj = ρ.obj) (hst : ρ1.st = ρ.st) (hn : s1.next = s.next)
    (hbl : ∀ A el n cs lo hi, s1.heap.at_ A = some (.blk el n cs lo hi) → s.heap.at_ A = some (.blk el n cs lo hi)) (hfr : ∀ A, s.next ≤ A → s1.heap.at_ A = none) (hsz : w1.heap.size = w.heap.size)
    (hw : ∀ A e l, ρ.blk A e = some l → w1.heap[l.blk]? = w.heap[l.blk]?) (hraw : s1.raw = s.raw) (hrf : ∀ b, ρ.free b → w1.heap[b]? = w.heap[b]?) (hob : ∀ m ob, s1.heap.at_ m = some ob → isOb ob = true → ∃ b o, ρ.obj m = some b ∧ w1.heap[b]? = some o ∧ ObOK ρ1 ob o) : SR ρ1 s1 w1 where
  blks := fun A el n cs lo hi hat e h0 h1 => by
    obtain ⟨l, a1, a2, a3, a4⟩ := h.blks A el n cs lo hi (hbl _ _ _ _ _ _ hat) e h0 h1
    exact ⟨l, by rw [hb]; exact a1, a2, a3, a4.monoV ⟨by rw [hb]; exact fun _ _ _ x => x, by rw [ho]; exact fun _ _ x => x, by rw [hst]; exact fun _ _ x => x⟩ (hw _ _ _ a1)⟩
  dom := fun A e l hl => by rw [hb] at hl; rw [hn, hsz]; exact h.dom A e l hl
  top := fun A e l hl el n cs lo hi hat => by rw [hb] at hl; exact h.top A e l hl el n cs lo hi (hbl _ _ _ _ _ _ hat)
  inj := fun A e l A' e' l' hl hl' => by rw [hb] at hl hl'; exact h.inj A e l A' e' l' hl hl'
  objdom := fun m b hm => by rw [ho] at hm; rw [hn, hsz]; exact h.objdom m b hm
  objinj := fun m b m' hm hm' => by rw [ho] at hm hm'; exact h.objinj m b m' hm hm'
  sep := fun A e l m b hl hm => by rw [hb] at hl; rw [ho] at hm; exact h.sep A e l m b hl hm
  fresh := fun A hA => by rw [hn] at hA; exact hfr A hA
  same := fun A e l e' l' hl hl' => by rw [hb] at hl hl'; exact h.same A e l e' l' hl hl'
  rows := fun A e l hl => by rw [hb] at hl; rw [hw _ _ _ hl]; exact h.rows A e l hl
  objs := fun m ob hat hi => by
    obtain ⟨b, o, b1, b2, b3⟩ := hob m ob hat hi
    exact ⟨b, o, by rw [ho]; exact b1, b2, b3⟩
  zero := fun A l hl => by rw [hb] at hl; exact h.zero A l hl
  stdom := fun i n hi => by rw [hst] at hi; rw [hn]; exact h.stdom i n hi
  raws := fun b i v hbi => by
    rw [hraw] at hbi
    obtain ⟨hf, hc⟩ := h.raws b i v hbi
    exact ⟨⟨by rw [hb]; exact hf.1, by rw [ho]; exact hf.2⟩, (cell_same (hrf b hf)).trans hc⟩

theorem MapOK.perm {ρ : Ren} {kd : Option IntKind} {l l' : List (AV × AV)} {es : Array MapEntry} {clk : Nat} (h : MapOK ρ kd l es clk) (hp : l.Perm l') : MapOK ρ kd l' es clk :=
  ⟨h.size.trans hp.length_eq, fun k v hm => h.fwd k v (hp.mem_iff.2 hm), fun e he => let ⟨k, v, a, b⟩ := h.bwd e he; ⟨k, v, hp.mem_iff.1 a, b⟩, h.st, (hp.pairwise_iff fun hxy => hxy.symm).1 h.dist⟩

theorem one_born {es : Array MapEntry} {clk : Nat} (h : MapKept.Stamped es clk) {x y : MapEntry} (hx : x ∈ es.toList) (hy : y ∈ es.toList) (hk : x.born = y.born) : x = y := by
  obtain ⟨i, hi, hix⟩ := List.getElem_of_mem hx
  obtain ⟨j, hj, hjy⟩ := List.getElem_of_mem hy
  have h1 : (es.toList.map (·.born))[i]? = (es.toList.map (·.born))[j]? := by rw [List.getElem?_map, List.getElem?_map, List.getElem?_eq_getElem hi, List.getElem?_eq_getElem hj, hix, hjy, Option.map_some, Option.map_some, hk]
  have hij := (List.getElem?_inj (by simpa using hi) h.2.1).1 h1
  subst hij
  rw [← hix, ← hjy]

/-! ## the evaluation, read back -/

theorem havoc_at : ∀ (l : List Tmp) (f : T4 AV) (t : Tmp), evP (havoc l f) (pathOf t) = if t ∈ l then .u else evP f (pathOf t)
  | [], f, t => by simp [havoc]
  | d :: r, f, t => by
    show evP (havoc r (T4.set .u (pathOf d) f)) (pathOf t) = _
    rw [havoc_at r, evP_set]
    by_cases h1 : t ∈ r
    · simp [h1]
    · by_cases h2 : t = d
      · subst h2; simp
      · simp [h1, h2]

theorem putAt_some {s : St} {m : Nat} {k v : AV} (h : putAt s m = .some k v) : ∃ id kd, s.heap.at_ m = some (.lmap id kd (some (k, v))) := by
  unfold putAt at h
  cases ho : s.heap.at_ m with
  | none => rw [ho] at h; cases h
  | some o =>
    rw [ho] at h
    change pbOf o = _ at h
    unfold pbOf at h
    split at h
    · cases h; exact ⟨_, _, rfl⟩
    · cases h
theorem mitAt_some {s : St} {r m since : Nat} (h : mitAt s r = .some m since) : s.heap.at_ r = some (.mit m since) := by
  unfold mitAt at h
  cases ho : s.heap.at_ r with
  | none => rw [ho] at h; cases h
  | some o =>
    rw [ho] at h
    change miOf o = _ at h
    unfold miOf at h
    split at h
    · cases h; rfl
    · cases h

/-- a round, told -/
def Rnd (g : St → Res) (r m A : Nat) (kd : Option IntKind) (s : St) (p : (AV × AV) × (AV × AV)) : Prop := ∃ f' s', g (roundSt r m A kd s p.1.1 p.1.2) = .ok f' s' ∧ putAt s' A = .some p.2.1 p.2.2

theorem rounds_inv {g : St → Res} {r m A : Nat} {kd : Option IntKind} {s : St} : ∀ (l : List (AV × AV)) (K : List (AV × AV) → Res), (∃ w, rounds_ g r m A kd s l K = .bad w) ∨
    ∃ ps : List ((AV × AV) × (AV × AV)), ps.map (·.1) = l ∧ (∀ p ∈ ps, Rnd g r m A kd s p) ∧ rounds_ g r m A kd s l K = K (ps.map (·.2))
  | [], K => .inr ⟨[], rfl, fun p hp => (by cases hp), rfl⟩
  | x :: l, K => by
    have e : rounds_ g r m A kd s (x :: l) K = Res.rec (motive := fun _ => Res) (fun _ s' => PB.rec (motive := fun _ => Res) (fun k v => rounds_ g r m A kd s l fun log => K ((k, v) :: log)) (.bad ["a round that lays no entry"]) (putAt s' A)) (fun _ _ _ => .bad ["exit of a round over a map"]) (fun _ _ => .bad ["return from a round over a map"]) (fun w => .bad ("round" :: w)) (g (roundSt r m A kd s x.1 x.2)) := rfl
    cases hg : g (roundSt r m A kd s x.1 x.2) with
    | exit id f' s' => rw [e, hg]; exact .inl ⟨_, rfl⟩
    | ret f' s' => rw [e, hg]; exact .inl ⟨_, rfl⟩
    | bad w => rw [e, hg]; exact .inl ⟨_, rfl⟩
    | ok f' s' =>
      cases hp : putAt s' A with
      | none => rw [e, hg]; dsimp only; rw [hp]; exact .inl ⟨_, rfl⟩
      | some k v =>
        rcases rounds_inv l (fun log => K ((k, v) :: log)) with ⟨w, h⟩ | ⟨ps, h1, h2, h3⟩
        · rw [e, hg]; dsimp only; rw [hp]; exact .inl ⟨w, h⟩
        · refine .inr ⟨(x, (k, v)) :: ps, by rw [List.map_cons, h1], fun p hm => ?_, ?_⟩
          · rcases List.mem_cons.1 hm with rfl | hm
            · exact ⟨f', s', hg, hp⟩
            · exact h2 p hm
          · rw [e, hg]; dsimp only; rw [hp]; exact h3

def Apart (x y : AV × AV) : Prop := keyEq x.1 y.1 = false ∧ keyEq y.1 x.1 = false
theorem Apart.symm {x y : AV × AV} (h : Apart x y) : Apart y x := ⟨h.2, h.1⟩
theorem frOk_mem {p : AV × AV} : ∀ {l : List (AV × AV)}, frOk l p = true → ∀ x ∈ l, Apart x p
  | y :: r, h, x, hx => by
    have h' : ((!keyEq y.1 p.1 && !keyEq p.1 y.1) && frOk r p) = true := h
    simp only [Bool.and_eq_true, Bool.not_eq_true'] at h'
    rcases List.mem_cons.1 hx with rfl | hx
    · exact h'.1
    · exact frOk_mem h'.2 x hx
theorem frAll_apart {l : List (AV × AV)} : ∀ {log : List (AV × AV)}, frAll l log = true → log.Pairwise Apart ∧ ∀ p ∈ log, ∀ x ∈ l, Apart x p
  | [], _ => ⟨.nil, fun p hp => by cases hp⟩
  | q :: r, h => by
    have h' : ((frOk l q && frOk r q) && frAll l r) = true := h
    simp only [Bool.and_eq_true] at h'
    obtain ⟨h1, h2⟩ := frAll_apart h'.2
    refine ⟨List.pairwise_cons.2 ⟨fun x hx => (frOk_mem h'.1.2 x hx).symm, h1⟩, fun p hp x hx => ?_⟩
    rcases List.mem_cons.1 hp with rfl | hp
    · exact frOk_mem h'.1.1 x hx
    · exact h2 p hp x hx

/-- the memory that a loop's rounds leave as it is -/
noncomputable def heldSt (r A : Nat) (s : St) : St := ⟨(s.heap.put r .dead).put A .dead, s.next, s.ds, s.raw⟩
noncomputable def endSt (r A : Nat) (kd : Option IntKind) (l : List (AV × AV)) (clk : Nat) (s : St) : St := ⟨(s.heap.put r .dead).put A (.map kd l clk), s.next, s.ds, s.raw⟩

theorem rangeEnd_eq {r A out : Nat} {fh : T4 AV} {kd : Option IntKind} {l : List (AV × AV)} {clk : Nat} {s : St} {log : List (AV × AV)} :
    (∃ w, rangeEnd r A out fh kd l clk s log = .bad w) ∨ (frAll l log = true ∧ rangeEnd r A out fh kd l clk s log = .exit out fh (endSt r A kd (l ++ log) (clk + log.length) s)) := by
  unfold rangeEnd
  cases h : frAll l log with
  | false => exact .inl ⟨_, rfl⟩
  | true =>
    refine .inr ⟨rfl, ?_⟩
    show (forceL (l ++ log) fun l' => forceN (clk + log.length) fun c => T4.setK .dead (pathOf r) s.heap fun h => T4.setK (.map kd l' c) (pathOf A) h fun h => Res.exit out fh ⟨h, s.next, s.ds, s.raw⟩) = _
    rw [forceL_eq, forceN_eq, T4.setK_eq, T4.setK_eq]
    rfl

theorem rangeLoop_inv {P : Program} {N : Nat} {env : Env} {lf : Nat} {it : Operand} {nx mo out : Nat} {rest : Code} {f : T4 AV} {s : St} : (∃ w, rangeLoop P N env lf it nx mo out rest f s = .bad w) ∨
    ∃ (fh : T4 AV) (r m A : Nat) (kdM kd : Option IntKind) (lA : List (AV × AV)) (clk clkA : Nat) (ps : List ((AV × AV) × (AV × AV))), fh = havoc (nx :: mo :: dstC rest) f ∧ evO fh it = .it r ∧ s.heap.at_ r = some (.mit m clk) ∧ s.heap.at_ m = some (.map kdM (ps.map (·.1)) clk) ∧ s.heap.at_ A = some (.map kd lA clkA) ∧ A ≠ m ∧
      tameC P rest = true ∧ nUpd rest ≤ 1 ∧ nx < N ∧ mo < N ∧ ps.length < lf ∧ T4.all (fun o => !isGh o) s.heap = true ∧ (∀ p ∈ ps, Rnd (exec0 P N (pureOf env) lf rest fh) r m A kd s p) ∧ frAll lA (ps.map (·.2)) = true ∧
      rangeLoop P N env lf it nx mo out rest f s = .exit out fh (endSt r A kd (lA ++ ps.map (·.2)) (clkA + (ps.map (·.2)).length) s) := by
  unfold rangeLoop
  cases hc : tameC P rest && (Nat.ble (nUpd rest) 1 && (Nat.blt nx N && Nat.blt mo N)) with
  | false => exact .inl ⟨_, rfl⟩
  | true =>
    simp only [Bool.and_eq_true] at hc
    obtain ⟨c1, c2, c3, c4⟩ := hc
    have e0 : ∀ z, bif_ true (havocK (nx :: mo :: dstC rest) f (rangeLoop2 P N env lf it nx mo out rest s)) z = rangeLoop2 P N env lf it nx mo out rest s (havoc (nx :: mo :: dstC rest) f) := fun z => by
      show havocK (nx :: mo :: dstC rest) f (rangeLoop2 P N env lf it nx mo out rest s) = _
      rw [havocK_eq]
    rw [e0]
    generalize hfh : havoc (nx :: mo :: dstC rest) f = fh
    unfold rangeLoop2
    cases hi : itN (evO fh it) with
    | none => exact .inl ⟨_, rfl⟩
    | some r =>
      have hit : evO fh it = .it r := by
        unfold itN at hi
        split at hi
        · cases hi; assumption
        · cases hi
      dsimp only
      cases hm : mitAt s r with
      | none => exact .inl ⟨_, rfl⟩
      | some m since =>
        dsimp only
        cases hM : mapAt s m with
        | none => exact .inl ⟨_, rfl⟩
        | some kdM l clk =>
          dsimp only
          cases hb : Nat.beq since clk && (Nat.blt l.length lf && T4.all (fun o => !isGh o) s.heap) with
          | false => exact .inl ⟨_, rfl⟩
          | true =>
            simp only [Bool.and_eq_true] at hb
            obtain ⟨b1, b2, b3⟩ := hb
            obtain rfl := Nat.eq_of_beq_eq_true b1
            show (∃ w, rangeLoop1 (exec0 P N (pureOf env) lf rest fh) (updC rest) fh out s r m l = .bad w) ∨ _
            cases l with
            | nil => exact .inl ⟨_, rfl⟩
            | cons x l =>
              cases hu : updC rest with
              | none => exact .inl ⟨_, rfl⟩
              | some u =>
                have e1 : rangeLoop1 (exec0 P N (pureOf env) lf rest fh) (some u) fh out s r m (x :: l) = rangeTo (exec0 P N (pureOf env) lf rest fh) r m out fh (x :: l) s (rangeAim (exec0 P N (pureOf env) lf rest fh) u r m s x.1 x.2) := rfl
                rw [e1]
                cases ha : rangeAim (exec0 P N (pureOf env) lf rest fh) u r m s x.1 x.2 with
                | nil => exact .inl ⟨_, rfl⟩
                | none => exact .inl ⟨_, rfl⟩
                | some A =>
                  unfold rangeTo
                  dsimp only
                  cases hA : mapAt s A with
                  | none => exact .inl ⟨_, rfl⟩
                  | some kd lA clkA =>
                    dsimp only
                    cases hAm : Nat.beq A m with
                    | true => exact .inl ⟨_, rfl⟩
                    | false =>
                      show (∃ w, rounds_ _ r m A kd s (x :: l) _ = .bad w) ∨ _
                      rcases rounds_inv (g := exec0 P N (pureOf env) lf rest fh) (r := r) (m := m) (A := A) (kd := kd) (s := s) (x :: l) (rangeEnd r A out fh kd lA clkA s) with hbad | ⟨ps, p1, p2, p3⟩
                      · exact .inl hbad
                      · rcases rangeEnd_eq (r := r) (A := A) (out := out) (fh := fh) (kd := kd) (l := lA) (clk := clkA) (s := s) (log := ps.map (·.2)) with ⟨w, h⟩ | ⟨h1, h2⟩
                        · exact .inl ⟨w, by rw [p3]; exact h⟩
                        · refine .inr ⟨fh, r, m, A, kdM, kd, lA, since, clkA, ps, rfl, hit, mitAt_some hm, by rw [p1]; exact mapAt_some hM, mapAt_some hA, fun e => ?_, c1, ble c2, blt c3, blt c4, ?_, b3, p2, h1, ?_⟩
                          · rw [e, Nat.beq_refl] at hAm; cases hAm
                          · rw [← p1, List.length_map] at b2; exact blt b2
                          · rw [← h2]; exact p3

theorem rangeShape_inv {c : Code} {it : Operand} {nx mo out : Nat} {rest : Code} (h : rangeShape c = .some it nx mo out rest) :
    ∃ id ops t1 p1 a1 t2 p2 a2, c = .seq (.region id ops false) (.seq (.cond (.tmp mo) .skip (.exit out)) rest) ∧ ops.toList = [⟨some nx, .next it false, t1, p1, a1, none⟩, ⟨some mo, .extract (.tmp nx) 0, t2, p2, a2, none⟩] ∧ nx ≠ mo := by
  unfold rangeShape at h
  split at h
  · rename_i id ops m out' rest'
    split at h
    · rename_i n it' t1 p1 a1 m' n' t2 p2 a2 hops
      cases hb : Nat.beq m m' && (Nat.beq n n' && !Nat.beq n m) with
      | false => rw [hb] at h; cases h
      | true =>
        rw [hb] at h
        cases h
        simp only [Bool.and_eq_true, Bool.not_eq_true'] at hb
        obtain ⟨b1, b2, b3⟩ := hb
        obtain rfl := Nat.eq_of_beq_eq_true b1
        obtain rfl := Nat.eq_of_beq_eq_true b2
        exact ⟨id, ops, t1, p1, a1, t2, p2, a2, rfl, hops, fun e => by rw [e, Nat.beq_refl] at b3; cases b3⟩
    · cases h
  · cases h

end Go.Eng
