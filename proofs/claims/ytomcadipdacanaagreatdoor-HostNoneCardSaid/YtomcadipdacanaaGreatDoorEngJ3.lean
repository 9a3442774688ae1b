/-
  The abstract operations are true of the model's: maps.
-/
import Derived.Test.YtomcadipdacanaaGreatDoorEngJ2
import Derived.Maps.RangeRun
namespace Go.Eng
open Go
set_option linter.unusedVariables false

def keyD (kd : Option IntKind) : TypeDesc := match kd with
  | none => .string
  | some k => .int k

theorem keyV_isKey {kd : Option IntKind} {a : AV} {v : Value} (h : keyV kd a = some v) : MapKept.IsKey (keyD kd) v := by
  unfold keyV at h
  split at h
  · cases h; trivial
  · rename_i k k' n
    cases hk : kEq k k' with
    | false => rw [hk] at h; cases h
    | true => rw [hk] at h; cases h; rfl
  · cases h

theorem keyOk_some {kd : Option IntKind} {a : AV} (h : keyOk kd a = true) : ∃ v, keyV kd a = some v := by
  unfold keyOk at h
  unfold keyV
  split at h
  · exact ⟨_, rfl⟩
  · rename_i k k' n
    show ∃ v, (bif kEq k k' then some (Value.int k n) else none) = some v
    rw [show kEq k k' = true from h]
    exact ⟨_, rfl⟩
  · cases h

theorem keyV_rel {ρ : Ren} {kd : Option IntKind} {a : AV} {v cv : Value} (h : keyV kd a = some v) (ha : VR ρ a cv) : cv = v := by
  unfold keyV at h
  split at h
  · cases h; exact ha.s_inv
  · rename_i k k' n
    cases hk : kEq k k' with
    | false => rw [hk] at h; cases h
    | true => rw [hk] at h; cases h; rw [kEq_eq hk]; exact ha.i_inv
  · cases h

theorem keyEq_iff {kd : Option IntKind} {a b : AV} {va vb : Value} (ha : keyV kd a = some va) (hb : keyV kd b = some vb) : keyEq a b = true ↔ va = vb := by
  unfold keyV at ha
  split at ha
  · unfold keyV at hb
    split at hb
    · cases ha; cases hb
      show bEq _ _ = true ↔ _
      rw [bEq_iff]
      simp
    · rename_i x; cases x
    · cases hb
  · rename_i k k' n
    cases hk : kEq k k' with
    | false => rw [hk] at ha; cases ha
    | true =>
      rw [hk] at ha
      cases ha
      unfold keyV at hb
      split at hb
      · rename_i x; cases x
      · rename_i k2 k2' n' hx
        cases hx
        cases hk' : kEq k k2' with
        | false => rw [hk'] at hb; cases hb
        | true =>
          rw [hk'] at hb
          cases hb
          show ieq _ _ = true ↔ _
          rw [ieq_iff]
          simp
      · cases hb
  · cases ha

theorem findL_cons (k : AV) (x : AV × AV) (r : List (AV × AV)) : findL k (x :: r) = bif_ (keyEq k x.1) (some x.2) (findL k r) := rfl
theorem findL_some {k v : AV} : ∀ {l : List (AV × AV)}, findL k l = some v → ∃ l1 k' l2, l = l1 ++ (k', v) :: l2 ∧ keyEq k k' = true ∧ ∀ x ∈ l1, keyEq k x.1 = false
  | [], h => by cases h
  | x :: r, h => by
    rw [findL_cons] at h
    cases hx : keyEq k x.1 with
    | true => rw [hx] at h; cases h; exact ⟨[], x.1, r, rfl, hx, fun y hy => by cases hy⟩
    | false =>
      rw [hx] at h
      obtain ⟨l1, k', l2, rfl, h2, h3⟩ := findL_some (l := r) h
      refine ⟨x :: l1, k', l2, rfl, h2, fun y hy => ?_⟩
      rcases List.mem_cons.1 hy with rfl | hy
      · exact hx
      · exact h3 y hy
theorem findL_none {k : AV} : ∀ {l : List (AV × AV)}, findL k l = none → ∀ x ∈ l, keyEq k x.1 = false
  | [], h, x, hx => by cases hx
  | y :: r, h, x, hx => by
    rw [findL_cons] at h
    cases hy : keyEq k y.1 with
    | true => rw [hy] at h; cases h
    | false =>
      rw [hy] at h
      rcases List.mem_cons.1 hx with rfl | hx
      · exact hy
      · exact findL_none (l := r) h x hx
theorem updL_at (k v : AV) {l2 : List (AV × AV)} {k' v' : AV} (hk : keyEq k k' = true) : ∀ (l1 : List (AV × AV)), (∀ x ∈ l1, keyEq k x.1 = false) → updL k v (l1 ++ (k', v') :: l2) = l1 ++ (k, v) :: l2
  | [], _ => by show bif_ (keyEq k k') _ _ = _; rw [hk]; rfl
  | x :: l1, h => by
    show bif_ (keyEq k x.1) _ (x :: updL k v (l1 ++ (k', v') :: l2)) = _
    rw [h x List.mem_cons_self, updL_at k v hk l1 fun y hy => h y (List.mem_cons_of_mem _ hy)]; rfl
theorem updL_new (k v : AV) : ∀ (l : List (AV × AV)), (∀ x ∈ l, keyEq k x.1 = false) → updL k v l = l ++ [(k, v)]
  | [], _ => rfl
  | x :: l1, h => by
    show bif_ (keyEq k x.1) _ (x :: updL k v l1) = _
    rw [h x List.mem_cons_self, updL_new k v l1 fun y hy => h y (List.mem_cons_of_mem _ hy)]; rfl
theorem delL_at (k : AV) {l2 : List (AV × AV)} {k' v' : AV} (hk : keyEq k k' = true) : ∀ (l1 : List (AV × AV)), (∀ x ∈ l1, keyEq k x.1 = false) → delL k (l1 ++ (k', v') :: l2) = l1 ++ l2
  | [], _ => by show bif_ (keyEq k k') _ _ = _; rw [hk]; rfl
  | x :: l1, h => by
    show bif_ (keyEq k x.1) _ (x :: delL k (l1 ++ (k', v') :: l2)) = _
    rw [h x List.mem_cons_self, delL_at k hk l1 fun y hy => h y (List.mem_cons_of_mem _ hy)]; rfl
theorem delL_none (k : AV) : ∀ (l : List (AV × AV)), (∀ x ∈ l, keyEq k x.1 = false) → delL k l = l
  | [], _ => rfl
  | x :: l1, h => by
    show bif_ (keyEq k x.1) _ (x :: delL k l1) = _
    rw [h x List.mem_cons_self, delL_none k l1 fun y hy => h y (List.mem_cons_of_mem _ hy)]; rfl

/-- entries of one key are one -/
theorem one_entry {es : Array MapEntry} {clk : Nat} (h : MapKept.Stamped es clk) {x y : MapEntry} (hx : x ∈ es.toList) (hy : y ∈ es.toList) (hk : x.key = y.key) : x = y := by
  obtain ⟨i, hi, hix⟩ := List.getElem_of_mem hx
  obtain ⟨j, hj, hjy⟩ := List.getElem_of_mem hy
  have h1 : (es.toList.map (·.key))[i]? = (es.toList.map (·.key))[j]? := by rw [List.getElem?_map, List.getElem?_map, List.getElem?_eq_getElem hi, List.getElem?_eq_getElem hj, hix, hjy, Option.map_some, Option.map_some, hk]
  have hij := (List.getElem?_inj (by simpa using hi) h.2.2).1 h1
  subst hij
  rw [← hix, ← hjy]

theorem looked_spec {ρ : Ren} {kd : Option IntKind} {l : List (AV × AV)} {es : Array MapEntry} {clk : Nat} (hM : MapOK ρ kd l es clk) {a : AV} {kv : Value} (ha : keyV kd a = some kv) :
    (findL a l = none ∧ Instr.findNow (keyD kd) kv es.toList 0 = some none ∧ ∀ x ∈ es.toList, x.key ≠ kv) ∨
    ∃ v j e, findL a l = some v ∧ Instr.findNow (keyD kd) kv es.toList 0 = some (some (j, e.val)) ∧ es[j]? = some e ∧ e.key = kv ∧ VR ρ v e.val := by
  have hkeys : ∀ x ∈ es.toList, MapKept.IsKey (keyD kd) x.key := fun x hx => by
    obtain ⟨k, v, _, h2⟩ := hM.bwd x hx
    exact keyV_isKey h2
  rcases MapKept.findNow_spec (keyV_isKey ha) es.toList 0 hkeys with ⟨h1, h2⟩ | ⟨j, e, h1, h2, h3⟩
  · left
    refine ⟨?_, h1, h2⟩
    cases hf : findL a l with
    | none => rfl
    | some v =>
      exfalso
      obtain ⟨l1, k', l2, rfl, hk, _⟩ := findL_some hf
      obtain ⟨e, he, hke, _⟩ := hM.fwd k' v (by simp)
      exact h2 e he ((keyEq_iff ha hke).1 hk).symm
  · right
    have hmem : e ∈ es.toList := List.mem_of_getElem? h2
    rw [Nat.zero_add] at h1
    rw [Array.getElem?_toList] at h2
    obtain ⟨k0, v0, hkv, hk0⟩ := hM.bwd e hmem
    have hk0' : keyEq a k0 = true := (keyEq_iff ha hk0).2 h3.symm
    cases hf : findL a l with
    | none => rw [findL_none hf _ hkv] at hk0'; cases hk0'
    | some v =>
      obtain ⟨l1, k', l2, rfl, hk, _⟩ := findL_some hf
      obtain ⟨e', he', hke, hv⟩ := hM.fwd k' v (by simp)
      have hkk := (keyEq_iff ha hke).1 hk
      have := one_entry hM.st he' hmem (by rw [h3, ← hkk])
      subst this
      exact ⟨v, j, e', rfl, h1, h2, h3, hv⟩

theorem mapOf_some {P : Program} {t : TypeId} {kd : Option IntKind} {kt et : TypeId} (h : mapOf P t = .some kd kt et) : P.underlying t = some (.map kt et) ∧ P.underlying kt = some (keyD kd) := by
  unfold mapOf at h
  split at h
  · rename_i k e hm
    split at h
    · rename_i hk; cases h; exact ⟨hm, hk⟩
    · rename_i kk hk; cases h; exact ⟨hm, hk⟩
    · cases h
  · cases h
theorem MT_inv {P : Program} {t : TypeId} {F : Option IntKind → TypeId → TypeId → OR} {w : List Ev} {v : AV} {s : St} (h : MT.rec (motive := fun _ => OR) F (.no w) (mapOf P t) = .val v s) :
    ∃ kd kt et, P.underlying t = some (.map kt et) ∧ P.underlying kt = some (keyD kd) ∧ F kd kt et = .val v s := by
  cases hm : mapOf P t with
  | some kd kt et => rw [hm] at h; exact ⟨kd, kt, et, (mapOf_some hm).1, (mapOf_some hm).2, h⟩
  | no => rw [hm] at h; cases h
theorem kdEq_eq {a b : Option IntKind} (h : kdEq a b = true) : a = b := by
  unfold kdEq at h
  split at h
  · rfl
  · rw [kEq_eq h]
  · cases h

theorem aMakeMap_sim {P : Program} {ρ : Ren} {s : St} {w : World} (h : SR ρ s w) (t : TypeId) (r : Option AV) (cr : Option Value) (hrr : OVR ρ r cr) : Sim P ρ w (Instr.makeMap t cr) (aMakeMap P t r s) := by
  intro v s' hr
  obtain ⟨him, hr⟩ := bif_inv hr
  obtain ⟨kt, et, g1⟩ : ∃ kt et, P.underlying t = some (.map kt et) := by
    unfold isMap at him
    split at him
    · rename_i h1; exact ⟨_, _, h1⟩
    · cases him
  obtain ⟨hro, hr⟩ := bif_inv hr
  rw [newOb_eq] at hr
  cases hr
  obtain ⟨ρ', r1, r2, r3, r4⟩ := h.newOb (.map (kdOf (mapOf P t)) [] 0) (.map #[] 0) rfl ⟨#[], rfl, ⟨rfl, fun k v hm => (by cases hm), fun e he => (by cases he), MapKept.stamped_empty 0, .nil⟩⟩
  refine ⟨.map (some w.heap.size), w.alloc (.map #[] 0), ?_, ρ', r2, r3, r4, .mp r1⟩
  cases hrr with
  | none => rfl
  | some hv =>
    unfold resOk at hro
    split at hro
    · rename_i x; cases x
    · rename_i k n x
      cases x
      rw [hv.i_inv]
      simp only [Instr.makeMap, Sem.run_bind, run_underlying' g1, Result.andThen_ok, asInt, asIntOf, Sem.run_pure]
      rfl
    · cases hro

theorem looked_sim {P : Program} {ρ : Ren} {s : St} {w : World} (h : SR ρ s w) (et : TypeId) (ok : Bool) (o : Option AV) (co : Option Value) (hoo : OVR ρ o co) {v : AV} {s' : St} (hr : looked P et ok s o = .val v s') :
    s' = s ∧ ∃ cv, (do let (v, ok') ← (match co with | some v => pure (v, true) | none => do pure (← zeroValue et, false) : Sem (Value × Bool)); pure (if ok then .tuple #[v, .bool ok'] else v) : Sem Value).run P w = .ok cv w ∧ VR ρ v cv := by
  unfold looked at hr
  obtain ⟨z, hz, hr⟩ := Opt_inv hr
  cases hoo with
  | none =>
    cases hr
    obtain ⟨i, zv, z1, z2, rfl⟩ := zeroV_some hz
    refine ⟨rfl, _, ?_, okV_rel (.of ρ zv) ok false⟩
    simp only [Sem.run_bind, run_zeroValue' z1 z2, Result.andThen_ok, Sem.run_pure]
  | some hv =>
    cases hr
    refine ⟨rfl, _, ?_, okV_rel hv ok true⟩
    simp only [Sem.run_bind, Result.andThen_ok, Sem.run_pure]

theorem inTs_of {l : List UInt8} : ∀ {ns : List (List UInt8)}, inTs l ns = true → l ∈ ns
  | [], h => by cases h
  | a :: r, h => by
    change bif_ (bEq l a) true (inTs l r) = true at h
    cases hb : bEq l a with
    | true => rw [bEq_iff] at hb; rw [eq_of_beq hb]; exact List.mem_cons_self
    | false => rw [hb] at h; exact List.mem_cons_of_mem _ (inTs_of h)
theorem allTs_none {ns : List (List UInt8)} {k : List UInt8} (hk : k ∉ ns) : ∀ {l : List (AV × AV)}, allTs ns l = true → findL (.s k) l = none
  | [], _ => rfl
  | x :: r, h => by
    change Option.rec (motive := fun _ => Bool) false (fun t => bif_ (inTs t ns) (allTs ns r) false) (asT x.1) = true at h
    cases hx : asT x.1 with
    | none => rw [hx] at h; cases h
    | some t =>
      rw [hx] at h
      change bif_ (inTs t ns) (allTs ns r) false = true at h
      cases ht : inTs t ns with
      | false => rw [ht] at h; cases h
      | true =>
        rw [ht] at h
        have hm := inTs_of ht
        rw [findL_cons, asT_some hx]
        show bif_ (bEq k t) _ _ = _
        have hb : bEq k t = false := by
          rw [bEq_iff]
          cases hkt : k == t with
          | false => rfl
          | true => rw [eq_of_beq hkt] at hk; exact absurd hm hk
        rw [hb]
        exact allTs_none hk h
theorem asX_some {a : AV} {ns : List (List UInt8)} (h : asX a = .some ns) : a = .tx ns := by
  unfold asX at h
  split at h
  · cases h; rfl
  · cases h
theorem lookX_inv {P : Program} {et : TypeId} {ok : Bool} {kd : Option IntKind} {x ix : AV} {s s' : St} {v : AV} (h : lookX P et ok kd x s (asX ix) = .val v s') : ∃ ns m l clk, ix = .tx ns ∧ x = .mp m ∧ kd = none ∧ mapAt s m = .some none l clk ∧ allTs ns l = true ∧ looked P et ok s none = .val v s' := by
  unfold lookX at h
  cases hx : asX ix with
  | none => rw [hx] at h; cases h
  | some ns =>
    rw [hx] at h
    dsimp only at h
    cases hm : asM x with
    | none => rw [hm] at h; cases h
    | nil => rw [hm] at h; cases h
    | some m =>
      rw [hm] at h
      dsimp only at h
      cases hat : mapAt s m with
      | none => rw [hat] at h; cases h
      | some kd' l clk =>
        rw [hat] at h
        obtain ⟨hb, h1⟩ := bif_inv h
        rw [Bool.and_eq_true, Bool.and_eq_true] at hb
        have e1 := kdEq_eq hb.1
        have e2 := kdEq_eq hb.2.1
        subst e1
        subst e2
        have : x = .mp m := by
          unfold asM at hm
          split at hm
          · cases hm; rfl
          · cases hm
          · cases hm
        exact ⟨ns, m, l, clk, asX_some hx, this, rfl, hat, hb.2.2, h1⟩

theorem MT_inv' {P : Program} {t : TypeId} {F : Option IntKind → TypeId → TypeId → OR} {w : List Ev} {v : AV} {s : St} (h : MT.rec (motive := fun _ => OR) F (.no w) (mapOf P t) = .val v s) :
    ∃ kd kt et, mapOf P t = .some kd kt et ∧ F kd kt et = .val v s := by
  cases hm : mapOf P t with
  | some kd kt et => rw [hm] at h; exact ⟨kd, kt, et, rfl, h⟩
  | no => rw [hm] at h; cases h
theorem aLookup_sim1 {P : Program} {ρ : Ren} {s : St} {w : World} (h : SR ρ s w) (t : TypeId) (a b : AV) (ca cb : Value) (ok : Bool) (ha : VR ρ a ca) (hb : VR ρ b cb) (hko : ∀ kd kt et, mapOf P t = .some kd kt et → keyOk kd b = true) : Sim P ρ w (Instr.lookup t ca cb ok) (aLookup P t a b ok s) := by
  intro v s' hr0
  obtain ⟨kd, kt, et, hmo, hr1⟩ := MT_inv' hr0
  obtain ⟨g1, g2⟩ := mapOf_some hmo
  clear hr0
  have hko := hko kd kt et hmo
  have hr := hr1
  rw [bif_t hko] at hr
  clear hr1
  obtain ⟨kv, hkv⟩ := keyOk_some hko
  obtain rfl := keyV_rel hkv hb
  have hik := keyV_isKey hkv
  rcases OM_inv hr with ⟨m, rfl, hr1⟩ | ⟨rfl, hr1⟩
  · clear hr
    obtain ⟨kd', l, clk, hat, hr2⟩ := MB_inv hr1
    clear hr1
    obtain ⟨hkd, hr⟩ := bif_inv hr2
    clear hr2
    obtain rfl := kdEq_eq hkd
    cases ha with
    | mp hm =>
      obtain ⟨b', o, b1, b2, es, rfl, hM⟩ := h.objs _ _ hat rfl
      obtain rfl := Option.some.inj (hm.symm.trans b1)
      have hg := run_getOb (P := P) b2 (fun _ _ _ x => by cases x)
      have hck : (Instr.checkKey es.isEmpty 10000 kt cb).run P w = .ok () w := MapKept.run_checkKey g2 hik _ 9999
      rcases looked_spec hM hkv with ⟨f1, f2, _⟩ | ⟨v0, j, e, f1, f2, f3, f4, f5⟩
      · rw [f1] at hr
        obtain ⟨rfl, cv, c1, c2⟩ := looked_sim (P := P) h et ok none none .none hr
        refine ⟨cv, w, ?_, Post.here h c2⟩
        rw [← c1]
        unfold Instr.lookup
        simp only [Sem.run_bind, run_underlying' g1, Result.andThen_ok, hg, hck, MapKept.run_findKey g2 f2, Sem.run_pure]
        cases (zeroValue et).run P w <;> rfl
      · rw [f1] at hr
        obtain ⟨rfl, cv, c1, c2⟩ := looked_sim (P := P) h et ok (some v0) (some e.val) (.some f5) hr
        refine ⟨cv, w, ?_, Post.here h c2⟩
        rw [← c1]
        unfold Instr.lookup
        simp only [Sem.run_bind, run_underlying' g1, Result.andThen_ok, hg, hck, MapKept.run_findKey g2 f2, Sem.run_pure]
  · cases ha
    obtain ⟨rfl, cv, c1, c2⟩ := looked_sim (P := P) h et ok none none .none hr1
    refine ⟨cv, w, ?_, Post.here h c2⟩
    rw [← c1]
    have hck : (Instr.checkKey (#[] : Array MapEntry).isEmpty 10000 kt cb).run P w = .ok () w := MapKept.run_checkKey g2 hik _ 9999
    have hfk : (Instr.findKey kt cb (#[] : Array MapEntry).toList).run P w = .ok none w := MapKept.run_findKey g2 rfl
    unfold Instr.lookup
    simp only [Sem.run_bind, run_underlying' g1, Result.andThen_ok, hck, hfk, Sem.run_pure]
    cases (zeroValue et).run P w <;> rfl


theorem aLookup_sim {P : Program} {ρ : Ren} {s : St} {w : World} (h : SR ρ s w) (t : TypeId) (a b : AV) (ca cb : Value) (ok : Bool) (ha : VR ρ a ca) (hb : VR ρ b cb) : Sim P ρ w (Instr.lookup t ca cb ok) (aLookup P t a b ok s) := by
  cases hm : mapOf P t with
  | no =>
    intro v s' hr
    unfold aLookup at hr
    rw [hm] at hr; cases hr
  | some kd kt et =>
    cases hko : keyOk kd b with
    | true => exact aLookup_sim1 h t a b ca cb ok ha hb fun kd' kt' et' h' => by rw [hm] at h'; cases h'; exact hko
    | false =>
      intro v s' hr
      have hr' := hr
      unfold aLookup at hr'
      rw [hm] at hr'
      change bif_ (keyOk kd b) _ (lookX P et ok kd a s (asX b)) = .val v s' at hr'
      rw [bif_f hko] at hr'
      obtain ⟨ns, m, l, clk, rfl, rfl, rfl, hat, hall, hl⟩ := lookX_inv hr'
      cases hb with
      | tx hk =>
        rename_i k
        refine aLookup_sim1 (P := P) h t (.mp m) (.s k) ca _ ok ha (.s k) (fun kd' kt' et' h' => by rw [hm] at h'; cases h'; rfl) v s' ?_
        unfold aLookup
        rw [hm]
        show MB.rec (motive := fun _ => OR) _ _ (mapAt s m) = _
        rw [hat]
        show looked P et ok s (findL (.s k) l) = _
        rw [allTs_none hk hall]
        exact hl
      | _ => cases hko

theorem setMap_eq (m : Nat) (kd : Option IntKind) (l : List (AV × AV)) (clk : Nat) (v : AV) (s : St) : setMap m kd l clk v s = .val v ⟨s.heap.put m (.map kd l clk), s.next, s.ds, s.raw⟩ := by
  unfold setMap; rw [forceL_eq, T4.setK_eq]; rfl

theorem MapOK.set {ρ : Ren} {kd : Option IntKind} {l1 l2 : List (AV × AV)} {k' v' : AV} {es : Array MapEntry} {clk : Nat} (hM : MapOK ρ kd (l1 ++ (k', v') :: l2) es clk) {a v : AV} {kv cv : Value} (ha : keyV kd a = some kv) (hk' : keyV kd k' = some kv) (hv : VR ρ v cv) {j : Nat} {e : MapEntry} (hj : es[j]? = some e) (he : e.key = kv) :
    MapOK ρ kd (l1 ++ (a, v) :: l2) (es.modify j fun e => { e with key := kv, val := cv }) clk := by
  have hlt : j < es.size := (Array.getElem?_eq_some_iff.1 hj).1
  have hmem : e ∈ es.toList := by rw [← Array.getElem?_toList] at hj; exact List.mem_of_getElem? hj
  have hkeys : (es.modify j fun e => { e with key := kv, val := cv }).toList.map (·.key) = es.toList.map (·.key) := MapKept.modify_keys j _ fun x hx => by rw [hj] at hx; cases hx; exact he.symm
  have hat : ∀ i, (es.modify j fun e => { e with key := kv, val := cv })[i]? = if j = i then some { e with key := kv, val := cv } else es[i]? := by
    intro i
    rw [Array.getElem?_modify]
    by_cases h : j = i
    · subst h; simp [hj]
    · simp [h]
  refine ⟨by simp [hM.size], ?_, ?_, ?_, ?_⟩
  · intro k2 v2 hm2
    by_cases hkk : keyV kd k2 = some kv ∧ (k2, v2) = (a, v)
    · obtain ⟨_, x⟩ := hkk
      cases x
      refine ⟨{ e with key := kv, val := cv }, ?_, ha, hv⟩
      have := hat j
      rw [if_pos rfl, ← Array.getElem?_toList] at this
      exact List.mem_of_getElem? this
    · have hold : (k2, v2) ∈ l1 ++ (k', v') :: l2 ∧ keyV kd k2 ≠ some kv := by
        have hp := hM.dist
        rw [List.pairwise_append, List.pairwise_cons] at hp
        rw [List.mem_append, List.mem_cons] at hm2
        rcases hm2 with x | x | x
        · exact ⟨List.mem_append_left _ x, fun y => hp.2.2 _ x _ List.mem_cons_self (by rw [y]; exact hk'.symm)⟩
        · exact absurd ⟨by cases x; exact ha, x⟩ hkk
        · exact ⟨List.mem_append_right _ (List.mem_cons_of_mem _ x), fun y => hp.2.1.1 _ x (by rw [hk']; exact y.symm)⟩
      obtain ⟨e2, q1, q2, q3⟩ := hM.fwd k2 v2 hold.1
      refine ⟨e2, ?_, q2, q3⟩
      obtain ⟨i, hi, hie⟩ := List.getElem_of_mem q1
      have hne : j ≠ i := by
        rintro rfl
        rw [← Array.getElem?_toList] at hj
        rw [List.getElem?_eq_getElem hi, hie] at hj
        cases hj
        exact hold.2 (by rw [q2, he])
      have := hat i
      rw [if_neg hne, ← Array.getElem?_toList, ← Array.getElem?_toList, List.getElem?_eq_getElem hi, hie] at this
      exact List.mem_of_getElem? this
  · intro e2 he2
    have hk2 : e2.key ∈ es.toList.map (·.key) := by rw [← hkeys]; exact List.mem_map_of_mem he2
    obtain ⟨e3, h3, h4⟩ := List.mem_map.1 hk2
    obtain ⟨k2, v2, q1, q2⟩ := hM.bwd e3 h3
    rw [h4] at q2
    rw [List.mem_append, List.mem_cons] at q1
    rcases q1 with x | x | x
    · exact ⟨k2, v2, List.mem_append_left _ x, q2⟩
    · cases x; exact ⟨a, v, by simp, by rw [ha, ← hk', q2]⟩
    · exact ⟨k2, v2, List.mem_append_right _ (List.mem_cons_of_mem _ x), q2⟩
  · exact MapKept.stamped_modify hM.st j _ (fun _ _ => rfl) fun x _ hx => by rw [hj] at hx; cases hx; exact he.symm
  · have hp := hM.dist
    rw [List.pairwise_append, List.pairwise_cons] at hp ⊢
    refine ⟨hp.1, ⟨fun x hx => ?_, hp.2.1.2⟩, fun x hx y hy => ?_⟩
    · rw [ha, ← hk']; exact hp.2.1.1 x hx
    · rcases List.mem_cons.1 hy with rfl | hy
      · rw [ha, ← hk']; exact hp.2.2 x hx (k', v') List.mem_cons_self
      · exact hp.2.2 x hx y (List.mem_cons_of_mem _ hy)

theorem MapOK.add {ρ : Ren} {kd : Option IntKind} {l : List (AV × AV)} {es : Array MapEntry} {clk : Nat} (hM : MapOK ρ kd l es clk) {a v : AV} {kv cv : Value} (ha : keyV kd a = some kv) (hv : VR ρ v cv) (hno : ∀ x ∈ es.toList, x.key ≠ kv) :
    MapOK ρ kd (l ++ [(a, v)]) (es.push { key := kv, val := cv, born := clk }) (clk + 1) := by
  refine ⟨by simp [hM.size], ?_, ?_, MapKept.stamped_push hM.st hno, ?_⟩
  · intro k2 v2 hm
    rw [List.mem_append, List.mem_singleton] at hm
    rcases hm with x | x
    · obtain ⟨e, q1, q2, q3⟩ := hM.fwd k2 v2 x
      exact ⟨e, by simp [Array.mem_toList_iff.1 q1], q2, q3⟩
    · cases x; exact ⟨{ key := kv, val := cv, born := clk }, by simp, ha, hv⟩
  · intro e he
    rw [Array.toList_push, List.mem_append, List.mem_singleton] at he
    rcases he with x | rfl
    · obtain ⟨k, v2, q1, q2⟩ := hM.bwd e x
      exact ⟨k, v2, List.mem_append_left _ q1, q2⟩
    · exact ⟨a, v, by simp, ha⟩
  · rw [List.pairwise_append]
    refine ⟨hM.dist, List.pairwise_singleton _ _, fun x hx y hy => ?_⟩
    rw [List.mem_singleton] at hy
    subst hy
    obtain ⟨e, q1, q2, _⟩ := hM.fwd x.1 x.2 hx
    rw [ha, q2]
    exact fun h => hno e q1 (Option.some.inj h)

theorem MapOK.del {ρ : Ren} {kd : Option IntKind} {l1 l2 : List (AV × AV)} {k' v' : AV} {es : Array MapEntry} {clk : Nat} (hM : MapOK ρ kd (l1 ++ (k', v') :: l2) es clk) {kv : Value} (hk' : keyV kd k' = some kv) {j : Nat} {e : MapEntry} (hj : es[j]? = some e) (he : e.key = kv) :
    MapOK ρ kd (l1 ++ l2) (es.eraseIdxIfInBounds j) clk := by
  have hlt : j < es.size := (Array.getElem?_eq_some_iff.1 hj).1
  have htl : (es.eraseIdxIfInBounds j).toList = es.toList.eraseIdx j := by
    unfold Array.eraseIdxIfInBounds
    rw [dif_pos hlt, Array.toList_eraseIdx]
  have hmem : e ∈ es.toList := by rw [← Array.getElem?_toList] at hj; exact List.mem_of_getElem? hj
  have hsub : ∀ x, x ∈ (es.eraseIdxIfInBounds j).toList → x ∈ es.toList := fun x hx => by rw [htl] at hx; exact List.mem_of_mem_eraseIdx hx
  have hp := hM.dist
  rw [List.pairwise_append, List.pairwise_cons] at hp
  refine ⟨?_, ?_, ?_, MapKept.stamped_erase hM.st j, ?_⟩
  · have := hM.size
    rw [← Array.length_toList, htl, List.length_eraseIdx, Array.length_toList, if_pos hlt, this]
    simp
  · intro k2 v2 hm
    have hold : (k2, v2) ∈ l1 ++ (k', v') :: l2 ∧ keyV kd k2 ≠ some kv := by
      rw [List.mem_append] at hm
      rcases hm with x | x
      · exact ⟨List.mem_append_left _ x, fun y => hp.2.2 _ x _ List.mem_cons_self (by rw [y]; exact hk'.symm)⟩
      · exact ⟨List.mem_append_right _ (List.mem_cons_of_mem _ x), fun y => hp.2.1.1 _ x (by rw [hk']; exact y.symm)⟩
    obtain ⟨e2, q1, q2, q3⟩ := hM.fwd k2 v2 hold.1
    refine ⟨e2, ?_, q2, q3⟩
    rw [htl, List.mem_eraseIdx_iff_getElem]
    obtain ⟨i, hi, hie⟩ := List.getElem_of_mem q1
    refine ⟨i, hi, ?_, hie⟩
    rintro rfl
    rw [← Array.getElem?_toList, List.getElem?_eq_getElem hi, hie] at hj
    cases hj
    exact hold.2 (by rw [q2, he])
  · intro e2 he2
    obtain ⟨k2, v2, q1, q2⟩ := hM.bwd e2 (hsub _ he2)
    rw [List.mem_append, List.mem_cons] at q1
    rcases q1 with x | x | x
    · exact ⟨k2, v2, List.mem_append_left _ x, q2⟩
    · exfalso
      cases x
      have hek : e2.key = e.key := by rw [he]; exact Option.some.inj (q2.symm.trans hk')
      have := one_entry hM.st (hsub _ he2) hmem hek
      subst this
      rw [htl, List.mem_eraseIdx_iff_getElem] at he2
      obtain ⟨i, hi, hne, hie⟩ := he2
      have hnd := hM.st.2.2
      rw [← Array.getElem?_toList] at hj
      have h1 : (es.toList.map (·.key))[i]? = (es.toList.map (·.key))[j]? := by rw [List.getElem?_map, List.getElem?_map, hj, List.getElem?_eq_getElem hi, hie]
      exact hne ((List.getElem?_inj (by simpa using hi) hnd).1 h1)
    · exact ⟨k2, v2, List.mem_append_right _ x, q2⟩
  · rw [List.pairwise_append]
    exact ⟨hp.1, hp.2.1.2, fun x hx y hy => hp.2.2 x hx y (List.mem_cons_of_mem _ hy)⟩

theorem MB_or {F : Option IntKind → List (AV × AV) → Nat → OR} {Z : OR} {t : St} {m : Nat} {v : AV} {s : St} (h : MB.rec (motive := fun _ => OR) F Z (mapAt t m) = .val v s) :
    (∃ kd l clk, t.heap.at_ m = some (.map kd l clk) ∧ F kd l clk = .val v s) ∨ Z = .val v s := by
  cases hb : mapAt t m with
  | some kd l clk => rw [hb] at h; exact .inl ⟨kd, l, clk, mapAt_some hb, h⟩
  | none => rw [hb] at h; exact .inr h
theorem lmapAt_some {s : St} {m id : Nat} {kd : Option IntKind} (h : lmapAt s m = .some id kd) : s.heap.at_ m = some (.lmap id kd none) := by
  unfold lmapAt at h
  cases ho : s.heap.at_ m with
  | none => rw [ho] at h; cases h
  | some o =>
    rw [ho] at h
    change lbOf o = _ at h
    unfold lbOf at h
    split at h
    · cases h; rfl
    · cases h
theorem LB_inv {F : Nat → Option IntKind → OR} {w : List Ev} {t : St} {m : Nat} {v : AV} {s : St} (h : LB.rec (motive := fun _ => OR) F (.no w) (lmapAt t m) = .val v s) :
    ∃ id kd, t.heap.at_ m = some (.lmap id kd none) ∧ F id kd = .val v s := by
  cases hb : lmapAt t m with
  | some id kd => rw [hb] at h; exact ⟨id, kd, lmapAt_some hb, h⟩
  | none => rw [hb] at h; cases h

theorem aMapUpd_sim {P : Program} {ρ : Ren} {s : St} {w : World} (h : SR ρ s w) (t : TypeId) (a b x : AV) (ca cb cx : Value) (ha : VR ρ a ca) (hb : VR ρ b cb) (hx : VR ρ x cx) : SimU P ρ w (Instr.mapUpdate t ca cb cx) (aMapUpd P t a b x s) := by
  intro v s' hr0
  obtain ⟨kd, kt, et, g1, g2, hr1⟩ := MT_inv hr0
  clear hr0
  obtain ⟨hko, hr⟩ := bif_inv hr1
  clear hr1
  obtain ⟨kv, hkv⟩ := keyOk_some hko
  obtain rfl := keyV_rel hkv hb
  have hik := keyV_isKey hkv
  rcases OM_inv hr with ⟨m, rfl, hr1⟩ | ⟨rfl, hr1⟩
  · clear hr
    rcases MB_or hr1 with ⟨kd', l, clk, hat, hr2⟩ | hr2
    · clear hr1
      obtain ⟨hkd, hr⟩ := bif_inv hr2
      clear hr2
      obtain rfl := kdEq_eq hkd
      cases ha with
      | mp hm =>
        obtain ⟨b', o, b1, b2, es, rfl, hM⟩ := h.objs _ _ hat rfl
        obtain rfl := Option.some.inj (hm.symm.trans b1)
        have hg := run_getOb (P := P) b2 (fun _ _ _ x => by cases x)
        have hset := run_setOb (P := P) b2 (fun _ _ _ x => by cases x)
        have hck : (Instr.checkKey false 10000 kt cb).run P w = .ok () w := MapKept.run_checkKey g2 hik _ 9999
        unfold upd1 at hr
        rcases looked_spec hM hkv with ⟨f1, f2, f6⟩ | ⟨v0, j, e, f1, f2, f3, f4, f5⟩
        · rw [f1] at hr
          change (forceN (Nat.succ clk) fun clk => setMap m kd (updL b x l) clk uv s) = .val v s' at hr
          rw [forceN_eq, setMap_eq] at hr
          cases hr
          have hupd : updL b x l = l ++ [(b, x)] := updL_new b x l (findL_none f1)
          rw [hupd]
          obtain ⟨k1, k2⟩ := h.setOb hat hm (.map kd (l ++ [(b, x)]) (clk + 1)) (.map (es.push { key := cb, val := cx, born := clk }) (clk + 1)) rfl ⟨_, rfl, hM.add hkv hx f6⟩
          refine ⟨rfl, _, ?_, ρ, Ext.refl w ρ, k1, k2, trivial⟩
          unfold Instr.mapUpdate
          simp only [Sem.run_bind, run_underlying' g1, Result.andThen_ok, hg, hck, MapKept.run_findKey g2 f2, hset]
        · rw [f1] at hr
          change setMap m kd (updL b x l) clk uv s = .val v s' at hr
          rw [setMap_eq] at hr
          cases hr
          obtain ⟨l1, k', l2, rfl, hk, hl1⟩ := findL_some f1
          have hupd : updL b x (l1 ++ (k', v0) :: l2) = l1 ++ (b, x) :: l2 := updL_at b x hk l1 hl1
          rw [hupd]
          obtain ⟨e', _, hk', _⟩ := hM.fwd k' v0 (by simp)
          have hk'' : keyV kd k' = some cb := by rw [hk', (keyEq_iff hkv hk').1 hk]
          obtain ⟨k1, k2⟩ := h.setOb hat hm (.map kd (l1 ++ (b, x) :: l2) clk) (.map (es.modify j fun e => { e with key := cb, val := cx }) clk) rfl ⟨_, rfl, hM.set hkv hk'' hx f3 f4⟩
          refine ⟨rfl, _, ?_, ρ, Ext.refl w ρ, k1, k2, trivial⟩
          unfold Instr.mapUpdate
          simp only [Sem.run_bind, run_underlying' g1, Result.andThen_ok, hg, hck, MapKept.run_findKey g2 f2, f3, Option.map_some, Option.getD_some, f4, MapKept.run_keyThatStays hik, hset]
    · clear hr1
      obtain ⟨id, kd', hat, hr1⟩ := LB_inv hr2
      clear hr2
      obtain ⟨hkd, hr⟩ := bif_inv hr1
      clear hr1
      obtain rfl := kdEq_eq hkd
      unfold lupd at hr
      rw [T4.setK_eq] at hr
      cases hr
      cases ha with
      | mp hm =>
        obtain ⟨b', o, b1, b2, l, clk, es, q1, rfl, hM⟩ := h.objs _ _ hat rfl
        obtain rfl := Option.some.inj (hm.symm.trans b1)
        have hg := run_getOb (P := P) b2 (fun _ _ _ x => by cases x)
        have hset := run_setOb (P := P) b2 (fun _ _ _ x => by cases x)
        have hck : (Instr.checkKey false 10000 kt cb).run P w = .ok () w := MapKept.run_checkKey g2 hik _ 9999
        rcases looked_spec hM hkv with ⟨f1, f2, f6⟩ | ⟨v0, j, e, f1, f2, f3, f4, f5⟩
        · obtain ⟨k1, k2⟩ := h.setOb hat hm (.lmap id kd (some (b, x))) (.map (es.push { key := cb, val := cx, born := clk }) (clk + 1)) rfl ⟨l, clk, q1, ⟨_, hkv⟩, fun _ => ⟨_, rfl, hM.add hkv hx f6⟩⟩
          refine ⟨rfl, _, ?_, ρ, Ext.refl w ρ, k1, k2, trivial⟩
          unfold Instr.mapUpdate
          simp only [Sem.run_bind, run_underlying' g1, Result.andThen_ok, hg, hck, MapKept.run_findKey g2 f2, hset]
        · obtain ⟨k1, k2⟩ := h.setOb hat hm (.lmap id kd (some (b, x))) (.map (es.modify j fun e => { e with key := cb, val := cx }) clk) rfl ⟨l, clk, q1, ⟨_, hkv⟩, fun hfr => by
            have hmem : e ∈ es.toList := by rw [← Array.getElem?_toList] at f3; exact List.mem_of_getElem? f3
            obtain ⟨k0, v1, y1, y2⟩ := hM.bwd e hmem
            exact absurd (by rw [y2, f4, hkv]) (hfr _ y1)⟩
          refine ⟨rfl, _, ?_, ρ, Ext.refl w ρ, k1, k2, trivial⟩
          unfold Instr.mapUpdate
          simp only [Sem.run_bind, run_underlying' g1, Result.andThen_ok, hg, hck, MapKept.run_findKey g2 f2, f3, Option.map_some, Option.getD_some, f4, MapKept.run_keyThatStays hik, hset]
  · cases hr1

theorem curAt_some {s : St} {r m idm : Nat} {k v : AV} (h : curAt s r = .some m idm k v) : ∃ id, s.heap.at_ r = some (.cur id m idm k v) := by
  unfold curAt at h
  cases ho : s.heap.at_ r with
  | none => rw [ho] at h; cases h
  | some o =>
    rw [ho] at h
    change cbOf o = _ at h
    unfold cbOf at h
    split at h
    · cases h; exact ⟨_, rfl⟩
    · cases h
theorem pinAt_some {s : St} {m id : Nat} (h : pinAt s m = .some id) : s.heap.at_ m = some (.pin id) := by
  unfold pinAt at h
  cases ho : s.heap.at_ m with
  | none => rw [ho] at h; cases h
  | some o =>
    rw [ho] at h
    change pinOf o = _ at h
    unfold pinOf at h
    split at h
    · cases h; rfl
    · cases h

theorem aEntry_inv {a v : AV} {s s' : St} (hr : aEntry a s = .val v s') : s' = s ∧ ∃ r m id idm k x, a = .it r ∧ s.heap.at_ r = some (.cur id m idm k x) ∧ s.heap.at_ m = some (.pin idm) ∧ v = .tup [k, x] := by
  unfold aEntry at hr
  cases hi : itN a with
  | none => rw [hi] at hr; cases hr
  | some r =>
    rw [hi] at hr
    have ha : a = .it r := by
      unfold itN at hi
      split at hi
      · cases hi; rfl
      · cases hi
    cases hc : curAt s r with
    | none => simp only [hc] at hr; cases hr
    | some m idm k x =>
      simp only [hc] at hr
      obtain ⟨id, hid⟩ := curAt_some hc
      cases hp : pinAt s m with
      | none => simp only [hp] at hr; cases hr
      | some id2 =>
        simp only [hp] at hr
        obtain ⟨hb, hr⟩ := bif_inv hr
        cases hr
        obtain rfl := Nat.eq_of_beq_eq_true hb
        exact ⟨rfl, r, m, id, id2, k, x, ha, hid, pinAt_some hp, rfl⟩

theorem aEntry_sim {P : Program} {ρ : Ren} {s : St} {w : World} (h : SR ρ s w) (a : AV) (ca : Value) (ha : VR ρ a ca) : Sim P ρ w (Instr.entry ca) (aEntry a s) := by
  intro v s' hr
  obtain ⟨rfl, r, m, id, idm, k, x, rfl, h1, h2, rfl⟩ := aEntry_inv hr
  cases ha with
  | it hm =>
    obtain ⟨b, o, b1, b2, q0, bm, es, e, seen, c0, since, rfl, q2, q3, q4, q5, q6, q7⟩ := h.objs _ _ h1 rfl
    obtain rfl := Option.some.inj (hm.symm.trans b1)
    obtain ⟨b', o', c1, c2, c3⟩ := h.objs _ _ h2 rfl
    obtain rfl := Option.some.inj (q2.symm.trans c1)
    have c3' : s'.heap.at_ m = s'.heap.at_ m ∧ ρ.gh idm = some (.ob o') := ⟨rfl, c3⟩
    rw [q3] at c3'
    obtain ⟨_, c3'⟩ := c3'
    cases c3'
    exact ⟨_, w, run_entry_at w _ _ since seen es c0 e b2 c2 q4 q5, Post.here h (.tup (.cons q6 (.cons q7 .nil)))⟩

theorem aMapUpd_inv {P : Program} {t : TypeId} {a b x v : AV} {s s' : St} (hr : aMapUpd P t a b x s = .val v s') : v = uv ∧ ∃ m X, s' = ⟨s.heap.put m X, s.next, s.ds, s.raw⟩ ∧
    ((∃ kd l clk, s.heap.at_ m = some (.map kd l clk)) ∨ ∃ id kd, s.heap.at_ m = some (.lmap id kd none) ∧ X = .lmap id kd (some (b, x))) := by
  obtain ⟨kd, kt, et, _, _, hr⟩ := MT_inv hr
  obtain ⟨_, hr⟩ := bif_inv hr
  rcases OM_inv hr with ⟨m, _, hr⟩ | ⟨_, hr⟩
  · rcases MB_or hr with ⟨kd', l, clk, hat, hr⟩ | hr
    · obtain ⟨_, hr⟩ := bif_inv hr
      unfold upd1 at hr
      cases hf : findL b l with
      | none =>
        rw [hf] at hr
        change (forceN (Nat.succ clk) fun clk => setMap m kd' (updL b x l) clk uv s) = .val v s' at hr
        rw [forceN_eq, setMap_eq] at hr
        cases hr
        exact ⟨rfl, _, _, rfl, .inl ⟨_, _, _, hat⟩⟩
      | some y =>
        rw [hf] at hr
        change setMap m kd' (updL b x l) clk uv s = .val v s' at hr
        rw [setMap_eq] at hr
        cases hr
        exact ⟨rfl, _, _, rfl, .inl ⟨_, _, _, hat⟩⟩
    · obtain ⟨id, kd', hat, hr⟩ := LB_inv hr
      obtain ⟨_, hr⟩ := bif_inv hr
      unfold lupd at hr
      rw [T4.setK_eq] at hr
      cases hr
      exact ⟨rfl, _, _, rfl, .inr ⟨_, _, hat, rfl⟩⟩
  · cases hr

theorem aDelete_sim {P : Program} {ρ : Ren} {s : St} {w : World} (h : SR ρ s w) (ts : Array TypeId) (ty : TypeId) (a b : AV) (ca cb : Value) (ha : VR ρ a ca) (hb : VR ρ b cb) : Sim P ρ w (Builtin.delete_ ts ty #[ca, cb]) (aDelete P ts[0]? a b s) := by
  intro v s' hr0
  obtain ⟨t, ht, hr1⟩ := Opt_inv hr0
  clear hr0
  obtain ⟨kd, kt, et, g1, g2, hr2⟩ := MT_inv hr1
  clear hr1
  obtain ⟨hko, hr⟩ := bif_inv hr2
  clear hr2
  obtain ⟨kv, hkv⟩ := keyOk_some hko
  obtain rfl := keyV_rel hkv hb
  have hik := keyV_isKey hkv
  rcases OM_inv hr with ⟨m, rfl, hr1⟩ | ⟨rfl, hr1⟩
  · clear hr
    obtain ⟨kd', l, clk, hat, hr2⟩ := MB_inv hr1
    clear hr1
    obtain ⟨hkd, hr⟩ := bif_inv hr2
    clear hr2
    obtain rfl := kdEq_eq hkd
    rw [setMap_eq] at hr
    cases hr
    cases ha with
    | mp hm =>
      obtain ⟨b', o, b1, b2, es, rfl, hM⟩ := h.objs _ _ hat rfl
      obtain rfl := Option.some.inj (hm.symm.trans b1)
      have hg := run_getOb (P := P) b2 (fun _ _ _ x => by cases x)
      have hset := run_setOb (P := P) b2 (fun _ _ _ x => by cases x)
      have hck : (Instr.checkKey es.isEmpty 10000 kt cb).run P w = .ok () w := MapKept.run_checkKey g2 hik _ 9999
      rcases looked_spec hM hkv with ⟨f1, f2, f6⟩ | ⟨v0, j, e, f1, f2, f3, f4, f5⟩
      · rw [delL_none b l (findL_none f1)]
        obtain ⟨k1, k2⟩ := h.setOb hat hm (.map kd l clk) (.map es clk) rfl ⟨_, rfl, hM⟩
        refine ⟨.tuple #[], _, ?_, ρ, Ext.refl w ρ, k1, k2, .c _⟩
        unfold Builtin.delete_
        simp only [ht, List.getElem?_toArray, List.getElem?_cons_zero, List.getElem?_cons_succ, Sem.run_bind, run_underlying' g1, Result.andThen_ok, hg, hck, MapKept.run_findKey g2 f2, hset, Sem.run_pure]
      · obtain ⟨l1, k', l2, rfl, hk, hl1⟩ := findL_some f1
        rw [delL_at b hk l1 hl1]
        obtain ⟨e', _, hk', _⟩ := hM.fwd k' v0 (by simp)
        have hk'' : keyV kd k' = some cb := by rw [hk', (keyEq_iff hkv hk').1 hk]
        obtain ⟨k1, k2⟩ := h.setOb hat hm (.map kd (l1 ++ l2) clk) (.map (es.eraseIdxIfInBounds j) clk) rfl ⟨_, rfl, hM.del hk'' f3 f4⟩
        refine ⟨.tuple #[], _, ?_, ρ, Ext.refl w ρ, k1, k2, .c _⟩
        unfold Builtin.delete_
        simp only [ht, List.getElem?_toArray, List.getElem?_cons_zero, List.getElem?_cons_succ, Sem.run_bind, run_underlying' g1, Result.andThen_ok, hg, hck, MapKept.run_findKey g2 f2, hset, Sem.run_pure]
  · cases hr1
    cases ha
    refine ⟨.tuple #[], w, ?_, Post.here h (.c _)⟩
    have hck : (Instr.checkKey true 10000 kt cb).run P w = .ok () w := MapKept.run_checkKey g2 hik _ 9999
    unfold Builtin.delete_
    simp only [ht, List.getElem?_toArray, List.getElem?_cons_zero, List.getElem?_cons_succ, Sem.run_bind, run_underlying' g1, Result.andThen_ok, hck, Sem.run_pure]

end Go.Eng
