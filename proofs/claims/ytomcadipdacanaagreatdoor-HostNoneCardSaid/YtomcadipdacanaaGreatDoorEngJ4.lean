/-
  The abstract operations are true of the model's: an entry of a map made, or found, and its value stored later on.
-/
import Derived.Test.YtomcadipdacanaaGreatDoorEngJ3
namespace Go.Eng
open Go
set_option linter.unusedVariables false

/-- the renaming with one stamp more -/
def Ren.withSt (ρ : Ren) (i n : Nat) : Ren := { blk := ρ.blk, obj := ρ.obj, gh := ρ.gh, st := fun j => if j = i then some n else ρ.st j }

theorem SR.withSt {ρ : Ren} {s : St} {w : World} (h : SR ρ s w) (n : Nat) : ρ.le (ρ.withSt s.next n) ∧ SR (ρ.withSt s.next n) ⟨s.heap, s.next + 1, s.ds, s.raw⟩ w := by
  have hle : ρ.le (ρ.withSt s.next n) := by
    refine ⟨⟨fun _ _ _ x => x, fun _ _ x => x, fun i k hi => ?_⟩, fun _ _ x => x⟩
    show (if i = s.next then some n else ρ.st i) = some k
    rw [if_neg (by have := h.stdom i k hi; omega)]
    exact hi
  refine ⟨hle, ?_⟩
  constructor
  · intro A el n' cs lo hi hat e h0 h1
    obtain ⟨l, a1, a2, a3, a4⟩ := h.blks A el n' cs lo hi hat e h0 h1
    exact ⟨l, a1, a2, a3, a4.mono hle rfl⟩
  · exact fun A e l hl => ⟨Nat.lt_succ_of_lt (h.dom A e l hl).1, (h.dom A e l hl).2⟩
  · exact h.top
  · exact h.inj
  · exact fun m b hm => ⟨Nat.lt_succ_of_lt (h.objdom m b hm).1, (h.objdom m b hm).2⟩
  · exact h.objinj
  · exact h.sep
  · intro A hA
    have hA' : s.next + 1 ≤ A := hA
    exact h.fresh A (by omega)
  · exact h.same
  · exact h.rows
  · intro m ob hat hob
    obtain ⟨b, o, b1, b2, b3⟩ := h.objs m ob hat hob
    exact ⟨b, o, b1, b2, b3.mono hle⟩
  · exact h.zero
  · intro i k hi
    change (if i = s.next then some n else ρ.st i) = some k at hi
    by_cases hx : i = s.next
    · subst hx; exact Nat.lt_succ_self _
    · rw [if_neg hx] at hi; exact Nat.lt_succ_of_lt (h.stdom i k hi)
  · exact h.raws

theorem EB_inv {F : Option IntKind → List (AV × AV) → Nat → AV → Nat → OR} {w : List Ev} {t : St} {m : Nat} {v : AV} {s : St} (h : EB.rec (motive := fun _ => OR) F (.no w) (mapeAt t m) = .val v s) :
    ∃ kd l clk k id, t.heap.at_ m = some (.mape kd l clk k id) ∧ F kd l clk k id = .val v s := by
  unfold mapeAt at h
  cases ho : t.heap.at_ m with
  | none => rw [ho] at h; cases h
  | some o =>
    rw [ho] at h
    change EB.rec (motive := fun _ => OR) F (.no w) (ebOf o) = .val v s at h
    unfold ebOf at h
    split at h
    · exact ⟨_, _, _, _, _, rfl, h⟩
    · cases h

theorem entryNew_eq (m : Nat) (kd : Option IntKind) (l : List (AV × AV)) (clk : Nat) (k v : AV) (s : St) : entryNew m kd l clk k v s = .val (.tup [v, .stp s.next]) ⟨s.heap.put m (.mape kd l clk k s.next), s.next + 1, s.ds, s.raw⟩ := by
  unfold entryNew
  rw [forceL_eq, T4.setK_eq, forceN_eq]; rfl

/-- an entry is open: what becomes of memory -/
theorem SR.entry {ρ : Ren} {s : St} {w : World} (h : SR ρ s w) {m b : Nat} {ob0 : AOb} (hm : s.heap.at_ m = some ob0) (hb : ρ.obj m = some b) (kd : Option IntKind) (l : List (AV × AV)) (clk : Nat) (k : AV) (es : Array MapEntry) (hM : MapOK ρ kd l es clk)
    {e : MapEntry} (he : e ∈ es.toList) (hk : keyV kd k = some e.key) :
    Post ρ w ⟨s.heap.put m (.mape kd l clk k s.next), s.next + 1, s.ds, s.raw⟩ { w with heap := w.heap.setIfInBounds b (.map es clk) } fun ρ' => VR ρ' (.stp s.next) (.int .i64 e.born) := by
  obtain ⟨hle, h1⟩ := h.withSt e.born
  have hst : (ρ.withSt s.next e.born).st s.next = some e.born := if_pos rfl
  obtain ⟨k1, k2⟩ := h1.setOb (m := m) (b := b) hm hb (.mape kd l clk k s.next) (.map es clk) rfl ⟨es, rfl, hM.mono hle, e, he, hk, hst⟩
  refine ⟨ρ.withSt s.next e.born, ⟨hle, fun c hc => .inl hc⟩, ⟨k1.size, k1.os, k1.output, k1.tape, fun c hc hf => k1.old c hc hf⟩, k2, .stp hst⟩

theorem aMapEntry_sim {P : Program} {ρ : Ren} {s : St} {w : World} (h : SR ρ s w) (t : TypeId) (a b : AV) (ca cb : Value) (ha : VR ρ a ca) (hb : VR ρ b cb) : Sim P ρ w (Instr.mapEntry t ca cb) (aMapEntry P t a b s) := by
  intro v s' hr0
  obtain ⟨kd, kt, et, g1, g2, hr1⟩ := MT_inv hr0
  clear hr0
  obtain ⟨hko, hr⟩ := bif_inv hr1
  clear hr1
  obtain ⟨kv, hkv⟩ := keyOk_some hko
  obtain rfl := keyV_rel hkv hb
  have hik := keyV_isKey hkv
  rcases OM_inv hr with ⟨m, rfl, hr1⟩ | ⟨rfl, hr1⟩
  · clear hr
    obtain ⟨kd', l, clk, hat, hr2⟩ := MB_inv hr1
    clear hr1
    obtain ⟨hkd, hr⟩ := bif_inv hr2
    clear hr2
    obtain rfl := kdEq_eq hkd
    cases ha with
    | mp hm =>
      obtain ⟨b', o, b1, b2, es, rfl, hM⟩ := h.objs _ _ hat rfl
      obtain rfl := Option.some.inj (hm.symm.trans b1)
      have hg := run_getOb (P := P) b2 (fun _ _ _ x => by cases x)
      have hset := run_setOb (P := P) b2 (fun _ _ _ x => by cases x)
      have hck : (Instr.checkKey false 10000 kt cb).run P w = .ok () w := MapKept.run_checkKey g2 hik _ 9999
      unfold entry1 at hr
      rcases looked_spec hM hkv with ⟨f1, f2, f6⟩ | ⟨v0, j, e, f1, f2, f3, f4, f5⟩
      · rw [f1] at hr
        obtain ⟨z, hz, hr⟩ := Opt_inv hr
        obtain ⟨i, zv, z1, z2, rfl⟩ := zeroV_some hz
        rw [forceN_eq, entryNew_eq] at hr
        cases hr
        have hupd : updL b (ofV zv) l = l ++ [(b, ofV zv)] := updL_new b (ofV zv) l (findL_none f1)
        rw [hupd]
        have hM' := hM.add hkv (VR.of ρ zv) f6
        obtain ⟨ρ', p1, p2, p3, p4⟩ := h.entry hat hm kd (l ++ [(b, ofV zv)]) (clk + 1) b (es.push { key := cb, val := zv, born := clk }) hM' (e := { key := cb, val := zv, born := clk }) (by simp) hkv
        refine ⟨.tuple #[zv, .int .i64 clk], _, ?_, ρ', p1, p2, p3, .tup (.cons (.of ρ' zv) (.cons p4 .nil))⟩
        unfold Instr.mapEntry
        simp only [Sem.run_bind, run_underlying' g1, Result.andThen_ok, hg, hck, MapKept.run_findKey g2 f2, hset, run_zeroValue' z1 z2, Sem.run_pure, goInt]
      · rw [f1] at hr
        change entryNew m kd (updL b v0 l) clk b v0 s = .val v s' at hr
        rw [entryNew_eq] at hr
        cases hr
        obtain ⟨l1, k', l2, rfl, hk, hl1⟩ := findL_some f1
        have hupd : updL b v0 (l1 ++ (k', v0) :: l2) = l1 ++ (b, v0) :: l2 := updL_at b v0 hk l1 hl1
        rw [hupd]
        obtain ⟨e', _, hk', _⟩ := hM.fwd k' v0 (by simp)
        have hk'' : keyV kd k' = some cb := by rw [hk', (keyEq_iff hkv hk').1 hk]
        have hM' := hM.set hkv hk'' f5 f3 f4
        have hmod : (es.modify j fun e => { e with key := cb, val := e.val }) = es.modify j fun x => { x with key := cb, val := e.val } := by
          apply Array.ext_getElem?
          intro q
          rw [Array.getElem?_modify, Array.getElem?_modify]
          by_cases hq : j = q
          · subst hq; rw [if_pos rfl, if_pos rfl, f3]; rfl
          · rw [if_neg hq, if_neg hq]
        have hmem : ({ e with key := cb, val := e.val } : MapEntry) ∈ (es.modify j fun x => { x with key := cb, val := e.val }).toList := by
          have : (es.modify j fun x => { x with key := cb, val := e.val })[j]? = some { e with key := cb, val := e.val } := by
            rw [Array.getElem?_modify, if_pos rfl, f3]; rfl
          rw [← Array.getElem?_toList] at this
          exact List.mem_of_getElem? this
        obtain ⟨ρ', p1, p2, p3, p4⟩ := h.entry hat hm kd (l1 ++ (b, v0) :: l2) clk b _ hM' hmem hkv
        refine ⟨.tuple #[e.val, .int .i64 e.born], _, ?_, ρ', p1, p2, p3, .tup (.cons (f5.mono p1.le) (.cons p4 .nil))⟩
        rw [← hmod]
        unfold Instr.mapEntry
        simp only [Sem.run_bind, run_underlying' g1, Result.andThen_ok, hg, hck, MapKept.run_findKey g2 f2, f3, Option.map_some, Option.getD_some, f4, MapKept.run_keyThatStays hik, hset, Sem.run_pure, goInt]
  · cases hr1

theorem findIdx_born {es : Array MapEntry} {clk : Nat} (hs : MapKept.Stamped es clk) {e : MapEntry} (he : e ∈ es.toList) : ∃ j, es.findIdx? (fun x => (x.born : Int) == (e.born : Int)) = some j ∧ es[j]? = some e := by
  obtain ⟨i, hi, hie⟩ := List.getElem_of_mem he
  have hi' : i < es.size := by simpa using hi
  have hie' : es[i] = e := by simpa using hie
  cases hf : es.findIdx? (fun x => (x.born : Int) == (e.born : Int)) with
  | none =>
    exfalso
    rw [Array.findIdx?_eq_none_iff] at hf
    have := hf es[i] (Array.getElem_mem hi')
    rw [hie'] at this
    simp at this
  | some j =>
    rw [Array.findIdx?_eq_some_iff_getElem] at hf
    obtain ⟨hj, h1, _⟩ := hf
    refine ⟨j, rfl, ?_⟩
    have hb : es[j].born = e.born := by have := eq_of_beq h1; omega
    have h2 : (es.toList.map (·.born))[j]? = (es.toList.map (·.born))[i]? := by
      rw [List.getElem?_map, List.getElem?_map, Array.getElem?_toList, Array.getElem?_toList, Array.getElem?_eq_getElem hj, Array.getElem?_eq_getElem hi', hie', Option.map_some, Option.map_some, hb]
    have hij := (List.getElem?_inj (by simpa using hj) hs.2.1).1 h2
    subst hij
    rw [Array.getElem?_eq_getElem hj, hie']

theorem aEntryStore_sim {P : Program} {ρ : Ren} {s : St} {w : World} (h : SR ρ s w) (t : TypeId) (a st x : AV) (ca cst cx : Value) (ha : VR ρ a ca) (hst : VR ρ st cst) (hx : VR ρ x cx) : SimU P ρ w (Instr.entryStore t ca cst cx) (aEntryStore a st x s) := by
  intro v s' hr
  rcases OM_inv hr with ⟨m, rfl, hr1⟩ | ⟨rfl, hr1⟩
  · clear hr
    obtain ⟨kd, l, clk, k, id, hat, hr2⟩ := EB_inv hr1
    clear hr1
    obtain ⟨n, rfl, hr⟩ : ∃ n, st = .stp n ∧ bif_ (Nat.beq n id) (setMap m kd (updL k x l) clk uv s) (.no ["entryStore: another entry"]) = .val v s' := by
      unfold stpN at hr2
      split at hr2
      · exact ⟨_, rfl, hr2⟩
      · cases hr2
    clear hr2
    obtain ⟨hn, hr3⟩ := bif_inv hr
    clear hr
    have hn := beq hn
    subst hn
    rw [setMap_eq] at hr3
    cases hr3
    cases ha with
    | mp hm =>
      obtain ⟨b', o, b1, b2, es, rfl, hM, e, he, hk, hs⟩ := h.objs _ _ hat rfl
      obtain rfl := Option.some.inj (hm.symm.trans b1)
      cases hst with
      | stp hid =>
        rw [hs] at hid
        cases hid
        obtain ⟨j, j1, j2⟩ := findIdx_born hM.st he
        have hg := run_getOb (P := P) b2 (fun _ _ _ x => by cases x)
        have hset := run_setOb (P := P) b2 (fun _ _ _ x => by cases x)
        -- where the key stands
        obtain ⟨k0, v0, hkv, hk0⟩ := hM.bwd e he
        have hkk : keyEq k k0 = true := (keyEq_iff hk hk0).2 rfl
        cases hf : findL k l with
        | none => rw [findL_none hf _ hkv] at hkk; cases hkk
        | some v1 =>
          obtain ⟨l1, k', l2, rfl, hk', hl1⟩ := findL_some hf
          rw [updL_at k x hk' l1 hl1]
          obtain ⟨e', _, hke', _⟩ := hM.fwd k' v1 (by simp)
          have hk'' : keyV kd k' = some e.key := by rw [hke', (keyEq_iff hk hke').1 hk']
          have hM' := hM.set hk hk'' hx j2 rfl
          have hmod : (es.modify j fun e => { e with val := cx }) = es.modify j fun y => { y with key := e.key, val := cx } := by
            apply Array.ext_getElem?
            intro q
            rw [Array.getElem?_modify, Array.getElem?_modify]
            by_cases hq : j = q
            · subst hq; rw [if_pos rfl, if_pos rfl, j2]; rfl
            · rw [if_neg hq, if_neg hq]
          obtain ⟨k1, k2⟩ := h.setOb hat hm (.map kd (l1 ++ (k, x) :: l2) clk) (.map (es.modify j fun y => { y with key := e.key, val := cx }) clk) rfl ⟨_, rfl, hM'⟩
          refine ⟨rfl, _, ?_, ρ, Ext.refl w ρ, k1, k2, trivial⟩
          unfold Instr.entryStore
          simp only [Sem.run_bind, Result.andThen_ok, hg, asInt, asIntOf, Sem.run_pure, j1, hset, hmod]
  · cases hr1

end Go.Eng
