/-
  The abstract operations are true of the model's: rows, fields, indexes, slices, lengths, append.
-/
import Derived.Test.YtomcadipdacanaaGreatDoorEngF
namespace Go.Eng
open Go
set_option linter.unusedVariables false

theorem EL_inv {P : Program} {t : TypeId} {F : TypeId → Nat → Nat → List AV → OR} {w : List Ev} {v : AV} {s : St} (h : EL.rec (motive := fun _ => OR) F (.no w) (elemOf P t) = .val v s) :
    ∃ e i zv, P.underlying t = some (.slice e) ∧ P.info? e = some i ∧ i.zero = some zv ∧ 1 ≤ i.size ∧ zv.cells.size = i.size ∧ F e i.size i.bytes (zv.cells.toList.map ofV) = .val v s := by
  unfold elemOf at h
  cases hu : P.underlying t with
  | none => rw [hu] at h; cases h
  | some d =>
    rw [hu] at h
    cases d with
    | slice e =>
      dsimp only at h
      cases hi : P.info? e with
      | none => rw [hi] at h; cases h
      | some i =>
        rw [hi] at h
        cases hz : zeroL P e with
        | none => rw [hz] at h; cases h
        | some z =>
          rw [hz] at h
          dsimp only at h
          obtain ⟨i', zv, z1, z2, rfl⟩ := zeroL_some hz
          rw [hi] at z1; cases z1
          cases hb : (Nat.ble 1 i.size && Nat.beq (zv.cells.toList.map ofV).length i.size) with
          | false => rw [hb] at h; cases h
          | true =>
            rw [hb] at h
            rw [Bool.and_eq_true] at hb
            refine ⟨e, i, zv, rfl, hi, z2, ble hb.1, ?_, h⟩
            have := beq hb.2
            simpa using this
    | _ => cases h

theorem length_repL {α : Type} (l : List α) : ∀ n, (repL n l).length = n * l.length
  | 0 => by simp [repL]
  | n + 1 => by rw [repL, List.length_append, length_repL l n, Nat.add_mul]; omega

theorem getElem?_repL {α : Type} (l : List α) (hl : 0 < l.length) : ∀ (n i : Nat), i < n * l.length → (repL n l)[i]? = l[i % l.length]?
  | 0, i, h => by omega
  | n + 1, i, h => by
    rw [repL]
    by_cases hi : i < l.length
    · rw [List.getElem?_append_left hi, Nat.mod_eq_of_lt hi]
    · rw [Nat.add_mul, Nat.one_mul] at h
      rw [List.getElem?_append_right (by omega), getElem?_repL l hl n (i - l.length) (by omega)]
      congr 1
      exact (Nat.mod_eq_sub_mod (by omega)).symm

theorem map_repL {α β : Type} (f : α → β) (l : List α) : ∀ n, (repL n l).map f = repL n (l.map f)
  | 0 => rfl
  | n + 1 => by rw [repL, repL, List.map_append, map_repL f l n]

/-- a row of noughts as the model makes it, told by the abstract one -/
theorem zeros_row {ρ : Ren} (z : Array Value) (l c : Nat) (hz : 0 < z.size) (hlc : l ≤ c) :
    VRs ρ (repL l (z.toList.map ofV)) (((Array.range (c * z.size)).map (fun i => z[i % z.size]!)).toList.take (l * z.size)) := by
  have e : ((Array.range (c * z.size)).map (fun i => z[i % z.size]!)).toList.take (l * z.size) = repL l z.toList := by
    apply List.ext_getElem?
    intro i
    by_cases hi : i < l * z.size
    · have hic : i < c * z.size := Nat.lt_of_lt_of_le hi (Nat.mul_le_mul_right _ hlc)
      rw [List.getElem?_take, if_pos hi, getElem?_repL z.toList (by simpa using hz) l i (by simpa using hi)]
      have hm : i % z.size < z.size := Nat.mod_lt _ hz
      simp [hic, hm]
    · rw [List.getElem?_take, if_neg hi, List.getElem?_eq_none (by rw [length_repL]; simp; omega)]
  rw [e]
  rw [← map_repL]
  exact VRs.consts ρ _

theorem fill_sizes {ρ : Ren} (place : Nat → Option (Nat × Nat)) : ∀ (parts : List (Nat × AV)) (cells out : List AV), fillL place cells parts = some out → out.length = cells.length
  | [], cells, out, h => by cases h; rfl
  | (i, a) :: rest, cells, out, h => by
    unfold fillL at h
    cases hp : place i with
    | none => rw [hp] at h; cases h
    | some p =>
      obtain ⟨off, size⟩ := p
      rw [hp] at h
      dsimp only at h
      cases hb : ((Nat.beq (cellsL a).length size && Nat.ble (off + size) cells.length) && !isU a) with
      | false => rw [hb] at h; cases h
      | true =>
        rw [hb] at h
        rw [Bool.and_eq_true, Bool.and_eq_true] at hb
        have e1 := beq hb.1.1
        have e2 := ble hb.1.2
        rw [fill_sizes (ρ := ρ) place rest _ out h]
        simp only [List.length_append, List.length_take, List.length_drop]
        omega

theorem aBuildSlice_sim {P : Program} {ρ : Ren} {s : St} {w : World} (h : SR ρ s w) (t : TypeId) (len : Nat) (parts : List (Nat × AV)) (parts' : Array (Nat × Value)) (hp : PRs ρ parts parts'.toList) :
    Sim P ρ w (Instr.buildSlice t len parts') (aBuildSlice P t len parts s) := by
  intro v s' hr
  obtain ⟨e, i, zv, h1, h2, h3, h4, h5, hr⟩ := EL_inv hr
  obtain ⟨g1, hr⟩ := bif_inv hr
  obtain ⟨g2, hr⟩ := bif_inv hr
  obtain ⟨out, ho, hr⟩ := Opt_inv hr
  rw [forceL_eq] at hr
  obtain ⟨a1, a2, a3, rfl, rfl⟩ := aNewRow_inv hr
  have g1 := ble g1
  have g2 := ble g2
  have hpos : len * i.size ≠ 0 := Nat.mul_ne_zero (by omega) (by omega)
  have hz0 := zeros_row (ρ := ρ) zv.cells len len (by omega) (Nat.le_refl _)
  rw [h5, List.take_of_length_le (by simp)] at hz0
  obtain ⟨out', f1, f2⟩ := fill_sim (fun k => some (k * i.size, i.size)) hp _ ((Array.range (len * i.size)).map (fun k => zv.cells[k % zv.cells.size]!)) out (by rw [h5]; exact hz0) ho
  have hl := f2.length
  have hout : out'.size = len * i.size := by rw [a3, ← hl]; simp
  obtain ⟨ρ', r1, r2, r3, r4⟩ := newRow_sim h e out len i.size len (Nat.beq i.bytes 1) out' (by omega) a3 (Nat.le_refl _) hout (by rw [List.take_of_length_le (by omega)]; exact f2)
  refine ⟨_, _, ?_, ρ', r1, r2, r3, r4⟩
  simp only [Instr.buildSlice, Sem.run_bind, run_underlying' h1, Result.andThen_ok, run_sizeOf' h2]
  rw [if_neg (by omega)]
  simp only [hpos, if_false, Sem.run_bind, run_zeroValue' h2 h3, Result.andThen_ok, Sem.run_pure]
  rw [f1]; rfl

theorem aMakeSlice_sim {P : Program} {ρ : Ren} {s : St} {w : World} (h : SR ρ s w) (t : TypeId) (a b : AV) (ca cb : Value) (ha : VR ρ a ca) (hb : VR ρ b cb) :
    Sim P ρ w (Instr.makeSlice t ca cb) (aMakeSlice P t a b s) := by
  intro v s' hr
  obtain ⟨k, l, rfl, hr1⟩ := ON_inv hr
  obtain ⟨k', c, rfl, hr2⟩ := ON_inv hr1
  rw [forceN_eq] at hr2
  obtain ⟨e, i, zv, h1, h2, h3, h4, h5, hr⟩ := EL_inv hr2
  obtain ⟨g1, hr⟩ := bif_inv hr
  obtain ⟨g2, hr⟩ := bif_inv hr
  obtain ⟨g3, hr⟩ := bif_inv hr
  obtain ⟨a1, a2, a3, rfl, rfl⟩ := aNewRow_inv hr
  cases ha; cases hb
  have g1 := ble g1
  have g2 := ble g2
  have g3 := ble g3
  have hz0 := zeros_row (ρ := ρ) zv.cells l c (by omega) g1
  rw [h5] at hz0
  have hrow : ((Array.range (c * i.size)).map (fun k => zv.cells[k % i.size]!)).size = c * i.size := by simp
  obtain ⟨ρ', r1, r2, r3, r4⟩ := newRow_sim h e (repL l (zv.cells.toList.map ofV)) l i.size c (Nat.beq i.bytes 1) ((Array.range (c * i.size)).map (fun k => zv.cells[k % i.size]!)) (by omega) a3 g1 hrow (by rw [← a3]; exact hz0)
  refine ⟨_, _, ?_, ρ', r1, r2, r3, r4⟩
  have wl : IntKind.i64.wrap (l : Int) = l := by unfold IntKind.wrap IntKind.bits IntKind.signed; simp; omega
  have wc : IntKind.i64.wrap (c : Int) = c := by unfold IntKind.wrap IntKind.bits IntKind.signed; simp; omega
  have q1 : ¬ ((i.bytes : Int) * (c : Int) > 2 ^ 48) := by
    have : c * i.bytes ≤ 281474976710656 := g2
    have e0 : ((i.bytes : Int) * (c : Int)) = ((c * i.bytes : Nat) : Int) := by rw [Nat.mul_comm]; simp
    rw [e0]; omega
  have q2 : ¬ ((c : Int) < 0) := by omega
  have q3 : ¬ ((l : Int) < 0) := by omega
  have q4 : ¬ ((l : Int) > (c : Int)) := by omega
  simp only [Instr.makeSlice, Sem.run_bind, run_underlying' h1, Result.andThen_ok, asInt, asIntOf, Sem.run_pure, run_typeInfo' h2, Int.ofNat_eq_natCast, wl, wc]
  simp only [q1, q2, q3, q4, decide_false, Bool.or_self, Bool.false_eq_true, if_false, Int.toNat_natCast, Sem.run_bind, run_askRoom, run_sizeOf' h2, Result.andThen_ok]
  by_cases hc0 : c * i.size = 0
  · have : c = 0 := by rcases Nat.mul_eq_zero.1 hc0 with x | x <;> omega
    subst this
    have hm : ∀ f : Nat → Value, Array.map f (Array.range 0) = #[] := by intro f; simp [Array.range]
    simp [newRow]
    rw [hm, hm]
  · simp only [hc0, if_false, Sem.run_bind, run_zeroValue' h2 h3, Result.andThen_ok, Sem.run_pure, h5]
    rfl

/-- the same, told of whatever world -/
theorem aBuildSlice_new {P : Program} {s s' : St} {v : AV} {t : TypeId} {len : Nat} {parts : List (Nat × AV)} (hr : aBuildSlice P t len parts s = .val v s') :
    ∃ (el : TypeId) (out : List AV) (sz : Nat) (fz : Bool), v = .sl ⟨s.next, 0, out.length, fz⟩ 0 len sz ∧ s' = s.new el out ∧ 0 < sz ∧ len * sz = out.length ∧
      ∀ (ρ : Ren) (w : World) (parts' : Array (Nat × Value)), PRs ρ parts parts'.toList → ∃ vs : Array Value, vs.size = len * sz ∧ VRs ρ out vs.toList ∧ (Instr.buildSlice t len parts').run P w = .ok (.slice (some ⟨w.heap.size, 0, none⟩) len len) (w.alloc (.cells vs el)) := by
  obtain ⟨e, i, zv, h1, h2, h3, h4, h5, hr⟩ := EL_inv hr
  obtain ⟨g1, hr⟩ := bif_inv hr
  obtain ⟨g2, hr⟩ := bif_inv hr
  obtain ⟨out, ho, hr⟩ := Opt_inv hr
  rw [forceL_eq] at hr
  obtain ⟨a1, a2, a3, rfl, rfl⟩ := aNewRow_inv hr
  have g1 := ble g1
  have g2 := ble g2
  have hpos : len * i.size ≠ 0 := Nat.mul_ne_zero (by omega) (by omega)
  refine ⟨e, out, i.size, _, rfl, rfl, by omega, a3, fun ρ w parts' hp => ?_⟩
  have hz0 := zeros_row (ρ := ρ) zv.cells len len (by omega) (Nat.le_refl _)
  rw [h5, List.take_of_length_le (by simp)] at hz0
  obtain ⟨out', f1, f2⟩ := fill_sim (fun k => some (k * i.size, i.size)) hp _ ((Array.range (len * i.size)).map (fun k => zv.cells[k % zv.cells.size]!)) out (by rw [h5]; exact hz0) ho
  have hl := f2.length
  have hout : out'.size = len * i.size := by rw [a3, ← hl]; simp
  refine ⟨out', hout, f2, ?_⟩
  simp only [Instr.buildSlice, Sem.run_bind, run_underlying' h1, Result.andThen_ok, run_sizeOf' h2]
  rw [if_neg (by omega)]
  simp only [hpos, if_false, Sem.run_bind, run_zeroValue' h2 h3, Result.andThen_ok, Sem.run_pure]
  rw [f1]; rfl

/-! ## fields, indexes -/

theorem FL_inv {P : Program} {t : TypeId} {fi : Nat} {F : Nat → Nat → TypeId → OR} {w : List Ev} {v : AV} {s : St} (h : FL.rec (motive := fun _ => OR) F (.no w) (fieldOf P t fi) = .val v s) :
    ∃ fields f i, P.underlying t = some (.struct fields) ∧ fields[fi]? = some f ∧ P.info? f.type = some i ∧ F f.offset i.size f.type = .val v s := by
  unfold fieldOf at h
  cases hu : P.underlying t with
  | none => rw [hu] at h; cases h
  | some d =>
    rw [hu] at h
    cases d with
    | struct fields =>
      dsimp only at h
      cases hf : fields[fi]? with
      | none => rw [hf] at h; cases h
      | some f =>
        rw [hf] at h
        dsimp only at h
        cases hi : P.info? f.type with
        | none => rw [hi] at h; cases h
        | some i => rw [hi] at h; exact ⟨fields, f, i, rfl, hf, hi, h⟩
    | _ => cases h

theorem aFieldAddr_sim {P : Program} {ρ : Ren} {s : St} {w : World} (h : SR ρ s w) (t : TypeId) (a : AV) (ca : Value) (fi : Nat) (ha : VR ρ a ca) : Sim P ρ w (Instr.fieldAt t ca fi) (aFieldAddr P t a fi s) := by
  intro v s' hr
  rcases OP_inv2 hr with ⟨hd, i, rfl, hr1⟩ | hr1
  rotate_left
  · obtain ⟨b, i, rfl, hr2⟩ := RP_inv hr1
    obtain ⟨fields, f, inf, g1, g2, g3, hr3⟩ := FL_inv hr2
    obtain ⟨e1, hr4⟩ := bif_inv hr3
    cases hr4
    have e1 := ble e1
    refine ⟨.pointer (some ⟨b, i + f.offset, none⟩), w, ?_, Post.here h (.c _)⟩
    rw [ha.c_val]
    simp only [Instr.fieldAt, Sem.run_bind, run_underlying' g1, Result.andThen_ok, g2, Instr.sureAddr, Sem.run_pure, fieldPlace, run_sizeOf' g3]
    rw [if_neg (by omega)]
    simp only [Sem.run_pure, Result.andThen_ok, raw_add]
  obtain ⟨l, hl, hs, hf, h0, h1, rfl⟩ := ha.ptr_inv
  obtain ⟨fields, f, inf, g1, g2, g3, hr2⟩ := FL_inv hr1
  obtain ⟨e1, hr3⟩ := bif_inv hr2
  obtain ⟨e2, hr4⟩ := bif_inv hr3
  rw [forceN_eq] at hr4
  cases hr4
  have e1 := ble e1
  have e2 := blt e2
  refine ⟨.pointer (some (l.at_ (i + f.offset))), w, ?_, Post.here h (.ptr hl hs hf (by omega) e2)⟩
  simp only [Instr.fieldAt, Sem.run_bind, run_underlying' g1, Result.andThen_ok, g2, Instr.sureAddr, Sem.run_pure, fieldPlace, run_sizeOf' g3]
  rw [if_neg (by omega)]
  simp only [Sem.run_pure, Result.andThen_ok, locAt_add l i f.offset h0]

theorem partL_part {P : Program} {ρ : Ren} {t : TypeId} {l : List AV} {off : Nat} {a : AV} {cs : Array Value} (hc : VRs ρ l cs.toList) (h : partL P t l off = some a) (w : World) : ∃ v, (part t cs off).run P w = .ok v w ∧ VR ρ a v := by
  unfold partL partT at h
  cases ht : tySize P t with
  | no => rw [ht] at h; cases h
  | one =>
    rw [ht] at h
    obtain ⟨t1, inf, t2, t3⟩ := tySize_one ht
    obtain ⟨v, v1, v2⟩ := hc.get off h
    refine ⟨v, ?_, v2⟩
    simp only [part, Sem.run_bind, t1, Result.andThen_ok, Bool.false_eq_true, if_false]
    rw [Array.getElem?_toList] at v1
    rw [v1]; rfl
  | many k =>
    rw [ht] at h
    obtain ⟨t1, inf, t2, t3⟩ := tySize_many ht
    change bif_ (Nat.ble (off + k) l.length) (some (AV.agg ((l.drop off).take k))) none = some a at h
    cases hb : Nat.ble (off + k) l.length with
    | false => rw [hb] at h; cases h
    | true =>
      rw [hb] at h; cases h
      refine ⟨.agg (cs.extract off (off + k)), ?_, ?_⟩
      · simp only [part, Sem.run_bind, t1, Result.andThen_ok, if_true, run_sizeOf' t2, t3, Sem.run_pure]
      · have e : cs.extract off (off + k) = ⟨(cs.toList.drop off).take k⟩ := by
          apply Array.toList_inj.1
          simp [List.extract_eq_take_drop]
        rw [e]
        exact .agg ((hc.drop off).take k)

theorem optA_inv {s s' : St} {o : Option AV} {v : AV} (h : optA s o = .val v s') : o = some v ∧ s' = s := by
  obtain ⟨a, ha, h⟩ := Opt_inv h
  rw [forceA_eq] at h
  cases h
  exact ⟨ha, rfl⟩
theorem optV_inv {s s' : St} {o : Option AV} {v : AV} (h : optV s o = .val v s') : o = some v ∧ s' = s := by
  obtain ⟨a, ha, h⟩ := Opt_inv h
  cases h
  exact ⟨ha, rfl⟩

theorem aField_sim {P : Program} {ρ : Ren} {s : St} {w : World} (h : SR ρ s w) (t : TypeId) (a : AV) (ca : Value) (fi : Nat) (ha : VR ρ a ca) : Sim P ρ w (Instr.field t ca fi) (aField P t a fi s) := by
  intro v s' hr
  obtain ⟨l, hl, hr1⟩ := Opt_inv hr
  obtain ⟨cs, rfl, hc⟩ := aggL_agg ha hl
  obtain ⟨fields, f, inf, g1, g2, g3, hr2⟩ := FL_inv hr1
  obtain ⟨hp, rfl⟩ := optA_inv hr2
  obtain ⟨cv, c1, c2⟩ := partL_part hc hp w
  refine ⟨cv, w, ?_, Post.here h c2⟩
  simp only [Instr.field, Sem.run_bind, run_underlying' g1, Result.andThen_ok, g2, asAgg, Sem.run_pure, c1]

theorem XT_inv {P : Program} {t : TypeId} {F : Nat → OR} {G : Nat → Nat → TypeId → OR} {H : OR} {w : List Ev} {v : AV} {s : St} (h : XT.rec (motive := fun _ => OR) F G H (.no w) (indexOf P t) = .val v s) :
    (∃ e i, P.underlying t = some (.slice e) ∧ P.info? e = some i ∧ F i.size = .val v s) ∨ (∃ n e i, P.underlying t = some (.array n e) ∧ P.info? e = some i ∧ G n i.size e = .val v s) ∨ (P.underlying t = some .string ∧ H = .val v s) := by
  unfold indexOf at h
  cases hu : P.underlying t with
  | none => rw [hu] at h; cases h
  | some d =>
    rw [hu] at h
    cases d with
    | slice e =>
      dsimp only at h
      cases hi : P.info? e with
      | none => rw [hi] at h; cases h
      | some i => rw [hi] at h; exact .inl ⟨e, i, rfl, hi, h⟩
    | array n e =>
      dsimp only at h
      cases hi : P.info? e with
      | none => rw [hi] at h; cases h
      | some i => rw [hi] at h; exact .inr (.inl ⟨n, e, i, rfl, hi, h⟩)
    | string => exact .inr (.inr ⟨rfl, h⟩)
    | _ => cases h

theorem OS_inv {F : Hd → Nat → Nat → Nat → OR} {G : OR} {w : List Ev} {a : AV} {v : AV} {s : St} (h : OS.rec (motive := fun _ => OR) F G (.no w) (asS a) = .val v s) :
    (∃ hd off len sz, a = .sl hd off len sz ∧ F hd off len sz = .val v s) ∨ (a = .c (.slice none 0 0) ∧ G = .val v s) := by
  cases ha : asS a with
  | some hd off len sz => rw [ha] at h; exact .inl ⟨hd, off, len, sz, asS_some ha, h⟩
  | nil => rw [ha] at h; exact .inr ⟨asS_nil ha, h⟩
  | none => rw [ha] at h; cases h

theorem OS_inv2 {F : Hd → Nat → Nat → Nat → OR} {G R : OR} {a : AV} {v : AV} {s : St} (h : OS.rec (motive := fun _ => OR) F G R (asS a) = .val v s) :
    (∃ hd off len sz, a = .sl hd off len sz ∧ F hd off len sz = .val v s) ∨ (a = .c (.slice none 0 0) ∧ G = .val v s) ∨ R = .val v s := by
  cases ha : asS a with
  | some hd off len sz => rw [ha] at h; exact .inl ⟨hd, off, len, sz, asS_some ha, h⟩
  | nil => rw [ha] at h; exact .inr (.inl ⟨asS_nil ha, h⟩)
  | none => rw [ha] at h; exact .inr (.inr h)

/-- a slice that is not empty -/
theorem VR.sl_inv {ρ : Ren} {h : Hd} {off len sz : Nat} {v : Value} (hv : VR ρ (.sl h off len sz) v) (hl : 0 < len) :
    ∃ l cap, ρ.blk h.A h.e = some l ∧ l.stop = h.stop ∧ l.fz = h.fz ∧ l.start ≤ off ∧ off + len * sz ≤ h.stop ∧ 0 < sz ∧ len ≤ cap ∧ l.base + (off - l.start) + cap * sz ≤ l.size ∧ v = .slice (some (l.at_ off)) len cap := by
  cases hv with
  | sl hl hs hf h0 h1 hz hc hr => exact ⟨_, _, hl, hs, hf, h0, h1, hz, hc, hr, rfl⟩
  | sl0 a => exact absurd hl (Nat.lt_irrefl _)

theorem aIndexAddr_sim {P : Program} {ρ : Ren} {s : St} {w : World} (h : SR ρ s w) (t : TypeId) (a b : AV) (ca cb : Value) (ha : VR ρ a ca) (hb : VR ρ b cb) : Sim P ρ w (Instr.indexAt t ca cb) (aIndexAddr P t a b s) := by
  intro v s' hr
  obtain ⟨k, i, rfl, hr1⟩ := ON_inv hr
  cases hb
  rcases XT_inv hr1 with ⟨e, inf, g1, g2, hr2⟩ | ⟨n, e, inf, g1, g2, hr2⟩ | ⟨_, hr2⟩
  · rcases OS_inv2 hr2 with ⟨hd, off, len, sz, rfl, hr3⟩ | ⟨_, hr3⟩ | hr3
    rotate_left 2
    · obtain ⟨b, o, len, cap, rfl, hr4⟩ := RW_inv hr3
      obtain ⟨e2, hr5⟩ := bif_inv hr4
      cases hr5
      have e2 := blt e2
      refine ⟨.pointer (some ⟨b, o + i * inf.size, none⟩), w, ?_, Post.here h (.c _)⟩
      rw [ha.c_val]
      have q : (0 : Int) ≤ Int.ofNat i ∧ Int.ofNat i < (len : Int) := by simp; omega
      simp only [Instr.indexAt, Sem.run_bind, asIntOf, Sem.run_pure, Result.andThen_ok, run_underlying' g1, q, and_self, if_true, run_sizeOf' g2]
      simp only [Int.ofNat_eq_natCast, Int.toNat_natCast, raw_add]
    · obtain ⟨e1, hr4⟩ := bif_inv hr3
      obtain ⟨e2, hr5⟩ := bif_inv hr4
      rw [forceN_eq] at hr5
      cases hr5
      have e1 := beq e1
      have e2 := blt e2
      obtain ⟨l, cap, hl, hs, hf, h0, h1, hz, hc, hrr, rfl⟩ := ha.sl_inv (by omega)
      have hlt : off + i * inf.size < off + len * inf.size := by
        have := Nat.mul_le_mul_right inf.size (show i + 1 ≤ len from e2)
        rw [Nat.add_mul] at this; omega
      rw [← e1] at h1
      refine ⟨.pointer (some (l.at_ (off + i * inf.size))), w, ?_, Post.here h (.ptr hl hs hf (by omega) (by omega))⟩
      have q : (0 : Int) ≤ Int.ofNat i ∧ Int.ofNat i < (len : Int) := by simp; omega
      simp only [Instr.indexAt, Sem.run_bind, asIntOf, Sem.run_pure, Result.andThen_ok, run_underlying' g1, q, and_self, if_true, run_sizeOf' g2]
      simp only [Int.ofNat_eq_natCast, Int.toNat_natCast, locAt_add l off _ h0]
    · cases hr3
  · rcases OP_inv2 hr2 with ⟨hd, j, rfl, hr3⟩ | hr3
    rotate_left
    · obtain ⟨b, j, rfl, hr4⟩ := RP_inv hr3
      obtain ⟨e1, hr5⟩ := bif_inv hr4
      cases hr5
      have e1 := blt e1
      refine ⟨.pointer (some ⟨b, j + i * inf.size, none⟩), w, ?_, Post.here h (.c _)⟩
      rw [ha.c_val]
      have q : (0 : Int) ≤ Int.ofNat i ∧ Int.ofNat i < (n : Int) := by simp; omega
      simp only [Instr.indexAt, Sem.run_bind, asIntOf, Sem.run_pure, Result.andThen_ok, run_underlying' g1, Instr.sureAddr, q, and_self, if_true, run_sizeOf' g2]
      simp only [Int.ofNat_eq_natCast, Int.toNat_natCast, raw_add]
    obtain ⟨e1, hr4⟩ := bif_inv hr3
    obtain ⟨e2, hr5⟩ := bif_inv hr4
    obtain ⟨e3, hr6⟩ := bif_inv hr5
    rw [forceN_eq] at hr6
    cases hr6
    have e1 := blt e1
    have e2 := ble e2
    have e3 := blt e3
    obtain ⟨l, hl, hs, hf, h0, h1, rfl⟩ := ha.ptr_inv
    refine ⟨.pointer (some (l.at_ (j + i * inf.size))), w, ?_, Post.here h (.ptr hl hs hf (by omega) (by omega))⟩
    have q : (0 : Int) ≤ Int.ofNat i ∧ Int.ofNat i < (n : Int) := by simp; omega
    simp only [Instr.indexAt, Sem.run_bind, asIntOf, Sem.run_pure, Result.andThen_ok, run_underlying' g1, Instr.sureAddr, q, and_self, if_true, run_sizeOf' g2]
    simp only [Int.ofNat_eq_natCast, Int.toNat_natCast, locAt_add l j _ h0]
  · cases hr2

theorem VR.s_inv {ρ : Ren} {l : List UInt8} {v : Value} (h : VR ρ (.s l) v) : v = .string ⟨⟨l⟩⟩ := by cases h; rfl

theorem aIndex_sim {P : Program} {ρ : Ren} {s : St} {w : World} (h : SR ρ s w) (t : TypeId) (a b : AV) (ca cb : Value) (ha : VR ρ a ca) (hb : VR ρ b cb) : Sim P ρ w (Instr.index t ca cb) (aIndex P t a b s) := by
  intro v s' hr
  obtain ⟨k, i, rfl, hr1⟩ := ON_inv hr
  cases hb
  rcases XT_inv hr1 with ⟨e, inf, g1, g2, hr2⟩ | ⟨n, e, inf, g1, g2, hr2⟩ | ⟨g1, hr2⟩
  · cases hr2
  · obtain ⟨l, hl, hr3⟩ := Opt_inv hr2
    obtain ⟨cs, rfl, hc⟩ := aggL_agg ha hl
    obtain ⟨e1, hr4⟩ := bif_inv hr3
    obtain ⟨hp, rfl⟩ := optA_inv hr4
    have e1 := blt e1
    obtain ⟨cv, c1, c2⟩ := partL_part hc hp w
    refine ⟨cv, w, ?_, Post.here h c2⟩
    have q : (0 : Int) ≤ Int.ofNat i ∧ Int.ofNat i < (n : Int) := by simp; omega
    simp only [Instr.index, Sem.run_bind, asIntOf, Sem.run_pure, Result.andThen_ok, run_underlying' g1, q, and_self, if_true, run_sizeOf' g2]
    simp only [Int.ofNat_eq_natCast, Int.toNat_natCast, c1]
  · obtain ⟨l, hl, hr3⟩ := Opt_inv hr2
    obtain rfl := asT_some hl
    obtain ⟨x, hx, hr4⟩ := Opt_inv hr3
    rw [forceN_eq] at hr4
    cases hr4
    rw [ha.s_inv]
    refine ⟨.int .u8 x.toNat, w, ?_, Post.here h (.i _ _)⟩
    have hsx : (⟨⟨l⟩⟩ : ByteArray)[i]? = some x := by
      have hlt : i < l.length := by
        have := List.getElem?_eq_some_iff.1 hx; exact this.1
      have hsz : i < (⟨⟨l⟩⟩ : ByteArray).size := hlt
      rw [getElem?_pos (⟨⟨l⟩⟩ : ByteArray) i hsz]
      have := List.getElem?_eq_some_iff.1 hx
      obtain ⟨h1, h2⟩ := this
      rw [← h2]; rfl
    have q : (0 : Int) ≤ Int.ofNat i := by simp
    simp only [Instr.index, Sem.run_bind, asIntOf, Sem.run_pure, Result.andThen_ok, run_underlying' g1, q, if_true]
    simp only [Int.ofNat_eq_natCast, Int.toNat_natCast, hsx, Sem.run_pure]

end Go.Eng
