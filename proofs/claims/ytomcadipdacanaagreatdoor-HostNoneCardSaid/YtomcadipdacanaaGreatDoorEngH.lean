/-
  The abstract operations are true of the model's: slices, lengths, append.
-/
import Derived.Test.YtomcadipdacanaaGreatDoorEngG
namespace Go.Eng
open Go
set_option linter.unusedVariables false

/-- operands that may be left out -/
inductive OVR (ρ : Ren) : Option AV → Option Value → Prop
  | none : OVR ρ none none
  | some {a : AV} {v : Value} (h : VR ρ a v) : OVR ρ (some a) (some v)

theorem bound_some {ρ : Ren} {x : Option AV} {cx : Option Value} {d n : Nat} (hx : OVR ρ x cx) (h : bound x d = .some n) : (cx = none ∧ n = d) ∨ ∃ k, cx = some (.int k n) := by
  cases hx with
  | none => left; change ON.some d = _ at h; cases h; exact ⟨rfl, rfl⟩
  | some hv =>
    right
    obtain ⟨k, rfl⟩ := asN_some h
    cases hv
    exact ⟨k, rfl⟩

theorem bounds_inv {lo hi : Option AV} {n : Nat} {w : List Ev} {K : Nat → Nat → OR} {v : AV} {s : St} (h : bounds lo hi n (.no w) K = .val v s) : ∃ l hh, bound lo 0 = .some l ∧ bound hi n = .some hh ∧ l ≤ hh ∧ hh ≤ n ∧ K l hh = .val v s := by
  unfold bounds at h
  cases h1 : bound hi n with
  | none => rw [h1] at h; cases h
  | some hh =>
    rw [h1] at h
    cases h2 : bound lo 0 with
    | none => rw [h2] at h; cases h
    | some l =>
      rw [h2] at h
      obtain ⟨e1, h⟩ := bif_inv h
      obtain ⟨e2, h⟩ := bif_inv h
      rw [forceN_eq, forceN_eq] at h
      exact ⟨l, hh, rfl, rfl, ble e1, ble e2, h⟩

theorem run_bounds {P : Program} {ρ : Ren} {lo hi : Option AV} {clo chi : Option Value} {d l h cap len : Nat} (isS : Bool) (w : World) (hlo : OVR ρ lo clo) (hhi : OVR ρ hi chi) (h1 : bound lo 0 = .some l) (h2 : bound hi len = .some h) (h3 : l ≤ h) (h4 : h ≤ cap) :
    (Instr.sliceBounds isS len cap clo chi none).run P w = .ok (l, h, cap) w := by
  have qh : (match chi with | some v => Instr.sliceBound v cap (if isS then .sliceAcap else .sliceAlen) | none => pure len : Sem Nat).run P w = .ok h w := by
    rcases bound_some hhi h2 with ⟨rfl, rfl⟩ | ⟨k, rfl⟩
    · rfl
    · have q : (0 : Int) ≤ (h : Int) ∧ (h : Int) ≤ (cap : Int) := by omega
      simp only [Instr.sliceBound, asIntOf, Sem.run_bind, Sem.run_pure, Result.andThen_ok, q, and_self, if_true, Int.toNat_natCast]
  have ql : (match clo with | some v => Instr.sliceBound v h .sliceB | none => pure 0 : Sem Nat).run P w = .ok l w := by
    rcases bound_some hlo h1 with ⟨rfl, rfl⟩ | ⟨k, rfl⟩
    · rfl
    · have q : (0 : Int) ≤ (l : Int) ∧ (l : Int) ≤ (h : Int) := by omega
      simp only [Instr.sliceBound, asIntOf, Sem.run_bind, Sem.run_pure, Result.andThen_ok, q, and_self, if_true, Int.toNat_natCast]
  unfold Instr.sliceBounds
  cases chi <;> cases clo <;> simp only [Sem.run_bind, Sem.run_pure, Result.andThen_ok, Option.isSome_none, Bool.false_eq_true, if_false] at qh ql ⊢ <;> first | (rw [qh]; simp only [Result.andThen_ok]; rw [ql]; rfl) | (cases qh; rw [ql]; rfl) | (rw [qh]; cases ql; rfl) | (cases qh; cases ql; rfl)

theorem extract_mk (l : List UInt8) (a b : Nat) (hab : a ≤ b) (hb : b ≤ l.length) : (⟨⟨l⟩⟩ : ByteArray).extract a b = ⟨⟨(l.drop a).take (b - a)⟩⟩ := by
  apply ByteArray.ext
  rw [ByteArray.data_extract]
  apply Array.toList_inj.1
  simp [List.extract_eq_take_drop]

theorem aSlice_sim {P : Program} {ρ : Ren} {s : St} {w : World} (h : SR ρ s w) (t : TypeId) (a : AV) (ca : Value) (lo hi mx : Option AV) (clo chi cmx : Option Value) (ha : VR ρ a ca) (hlo : OVR ρ lo clo) (hhi : OVR ρ hi chi) (hmx : OVR ρ mx cmx) :
    Sim P ρ w (Instr.sliceAt t ca clo chi cmx) (aSlice P t a lo hi mx s) := by
  intro v s' hr
  cases hmx with
  | some _ => cases hr
  | none =>
  rcases XT_inv hr with ⟨e, inf, g1, g2, hr2⟩ | ⟨n, e, inf, g1, g2, hr2⟩ | ⟨g1, hr2⟩
  · rcases OS_inv2 hr2 with ⟨hd, off, len, sz, rfl, hr3⟩ | ⟨rfl, hr3⟩ | hr3
    rotate_left 2
    · obtain ⟨b, o, len, cap, rfl, hr4⟩ := RW_inv hr3
      obtain ⟨l, hh, b1, b2, b3, b4, hr5⟩ := bounds_inv hr4
      obtain ⟨e1, hr6⟩ := bif_inv hr5
      have e1 := ble e1
      have hb := run_bounds (P := P) (d := 0) (cap := cap) true w hlo hhi b1 b2 b3 (by omega)
      rw [ha.c_val]
      rcases bif2_inv hr6 with ⟨hc, hr7⟩ | ⟨hc, hr7⟩
      · cases hr7
        have hc := beq hc
        refine ⟨.slice (some ⟨b, o, none⟩) (hh - l) (cap - l), w, ?_, Post.here h (.c _)⟩
        simp only [Instr.sliceAt, Instr.slice, Sem.run_bind, run_underlying' g1, Result.andThen_ok, hb, run_sizeOf' g2, hc, if_true, Sem.run_pure]
      · cases hr7
        have hc : cap ≠ l := fun e => by rw [e, Nat.beq_refl] at hc; cases hc
        refine ⟨.slice (some ⟨b, o + l * inf.size, none⟩) (hh - l) (cap - l), w, ?_, Post.here h (.c _)⟩
        simp only [Instr.sliceAt, Instr.slice, Sem.run_bind, run_underlying' g1, Result.andThen_ok, hb, run_sizeOf' g2, hc, if_false, Sem.run_pure, Option.map_some, raw_add]
    · obtain ⟨e1, hr4⟩ := bif_inv hr3
      obtain ⟨l, hh, b1, b2, b3, b4, hr5⟩ := bounds_inv hr4
      rw [forceN_eq, forceN_eq] at hr5
      cases hr5
      have e1 := beq e1
      subst e1
      cases ha with
      | sl0 a =>
        have hl0 : l = 0 ∧ hh = 0 := by omega
        obtain ⟨rfl, rfl⟩ := hl0
        have hb := run_bounds (P := P) (d := 0) (cap := 0) true w hlo hhi b1 b2 (Nat.le_refl _) (Nat.le_refl _)
        refine ⟨.slice (some a) 0 0, w, ?_, Post.here h (.sl0 a)⟩
        simp only [Instr.sliceAt, Instr.slice, Sem.run_bind, run_underlying' g1, Result.andThen_ok, hb, run_sizeOf' g2, if_true, Sem.run_pure]
      | @sl _ _ _ _ cap l0 hl hs hf h0 h1 hz hc hrr =>
        have hb := run_bounds (P := P) (d := 0) (cap := cap) true w hlo hhi b1 b2 b3 (by omega)
        by_cases hcl : cap = l
        · obtain rfl : l = hh := by omega
          subst hcl
          refine ⟨.slice (some (l0.at_ off)) (cap - cap) (cap - cap), w, ?_, Post.here h (by rw [Nat.sub_self]; exact .sl0 _)⟩
          simp only [Instr.sliceAt, Instr.slice, Sem.run_bind, run_underlying' g1, Result.andThen_ok, hb, run_sizeOf' g2, if_true, Sem.run_pure]
        · have m1 : l * inf.size + (hh - l) * inf.size ≤ len * inf.size := by rw [← Nat.add_mul]; exact Nat.mul_le_mul_right _ (by omega)
          have m2 : l * inf.size + (cap - l) * inf.size = cap * inf.size := by rw [← Nat.add_mul]; congr 1; omega
          refine ⟨.slice (some (l0.at_ (off + l * inf.size))) (hh - l) (cap - l), w, ?_, Post.here h (.sl hl hs hf (by omega) (by omega) hz (by omega) (by omega))⟩
          simp only [Instr.sliceAt, Instr.slice, Sem.run_bind, run_underlying' g1, Result.andThen_ok, hb, run_sizeOf' g2, hcl, if_false, Sem.run_pure, Option.map_some, locAt_add l0 off _ h0]
    · obtain ⟨l, hh, b1, b2, b3, b4, hr5⟩ := bounds_inv hr3
      cases hr5
      cases ha
      have hl0 : l = 0 ∧ hh = 0 := by omega
      obtain ⟨rfl, rfl⟩ := hl0
      have hb := run_bounds (P := P) (d := 0) (cap := 0) true w hlo hhi b1 b2 (Nat.le_refl _) (Nat.le_refl _)
      refine ⟨.slice none 0 0, w, ?_, Post.here h (.c _)⟩
      simp only [Instr.sliceAt, Instr.slice, Sem.run_bind, run_underlying' g1, Result.andThen_ok, hb, run_sizeOf' g2, if_true, Sem.run_pure]
  · cases hr2
  · obtain ⟨b, hb', hr3⟩ := Opt_inv hr2
    obtain rfl := asT_some hb'
    obtain ⟨l, hh, b1, b2, b3, b4, hr4⟩ := bounds_inv hr3
    rw [forceL_eq] at hr4
    cases hr4
    rw [ha.s_inv]
    have hsz : (⟨⟨b⟩⟩ : ByteArray).size = b.length := rfl
    have hb := run_bounds (P := P) (d := 0) (cap := b.length) false w hlo hhi b1 b2 b3 b4
    refine ⟨.string ⟨⟨(b.drop l).take (hh - l)⟩⟩, w, ?_, Post.here h (.s _)⟩
    simp only [Instr.sliceAt, Instr.slice, Sem.run_bind, run_underlying' g1, Result.andThen_ok, Option.isSome_none, Bool.false_eq_true, if_false, hsz, hb, Sem.run_pure, extract_mk b l hh b3 b4]

theorem aLen_sim {P : Program} {ρ : Ren} {s : St} {w : World} (h : SR ρ s w) (ts : Array TypeId) (ty : TypeId) (a : AV) (ca : Value) (ha : VR ρ a ca) : Sim P ρ w (Builtin.len_ ts ty #[ca]) (aLen a s (lenOf P ts[0]?)) := by
  intro v s' hr
  unfold lenOf at hr
  cases ht : ts[0]? with
  | none => rw [ht] at hr; cases hr
  | some t =>
    rw [ht] at hr
    dsimp only at hr
    cases hu : P.underlying t with
    | none => rw [hu] at hr; cases hr
    | some d =>
      rw [hu] at hr
      cases d with
      | string =>
        obtain ⟨l, hl, hr2⟩ := Opt_inv hr
        obtain rfl := asT_some hl
        rw [forceN_eq] at hr2
        cases hr2
        rw [ha.s_inv]
        refine ⟨.int .i64 l.length, w, ?_, Post.here h (.i _ _)⟩
        simp only [Builtin.len_, ht, List.getElem?_toArray, List.getElem?_cons_zero, Sem.run_bind, run_underlying' hu, Result.andThen_ok, goInt]
        rfl
      | slice e =>
        rcases OS_inv2 hr with ⟨hd, off, len, sz, rfl, hr3⟩ | ⟨rfl, hr3⟩ | hr3
        rotate_left 2
        · obtain ⟨b, o, len, cap, rfl, hr4⟩ := RW_inv hr3
          cases hr4
          rw [ha.c_val]
          refine ⟨.int .i64 len, w, ?_, Post.here h (.i _ _)⟩
          simp only [Builtin.len_, ht, List.getElem?_toArray, List.getElem?_cons_zero, Sem.run_bind, run_underlying' hu, Result.andThen_ok, goInt]
          rfl
        · cases hr3
          have : ∃ a cap, ca = .slice (some a) len cap := by
            cases ha with
            | sl => exact ⟨_, _, rfl⟩
            | sl0 => exact ⟨_, _, rfl⟩
          obtain ⟨a, cap, rfl⟩ := this
          refine ⟨.int .i64 len, w, ?_, Post.here h (.i _ _)⟩
          simp only [Builtin.len_, ht, List.getElem?_toArray, List.getElem?_cons_zero, Sem.run_bind, run_underlying' hu, Result.andThen_ok, goInt]
          rfl
        · cases hr3
          cases ha
          refine ⟨.int .i64 0, w, ?_, Post.here h (.i _ _)⟩
          simp only [Builtin.len_, ht, List.getElem?_toArray, List.getElem?_cons_zero, Sem.run_bind, run_underlying' hu, Result.andThen_ok, goInt]
          rfl
      | array n e =>
        cases hr
        refine ⟨.int .i64 n, w, ?_, Post.here h (.i _ _)⟩
        simp only [Builtin.len_, ht, List.getElem?_toArray, List.getElem?_cons_zero, Sem.run_bind, run_underlying' hu, Result.andThen_ok, goInt]
        rfl
      | map kt et =>
        change lenM a s = .val v s' at hr
        unfold lenM at hr
        split at hr
        · cases hr
          cases ha
          refine ⟨.int .i64 0, w, ?_, Post.here h (.i _ _)⟩
          simp only [Builtin.len_, ht, List.getElem?_toArray, List.getElem?_cons_zero, Sem.run_bind, run_underlying' hu, Result.andThen_ok, goInt]
          rfl
        · rename_i m
          obtain ⟨o, ho, hr⟩ := Opt_inv hr
          cases o with
          | map kd l clk =>
            change (forceN l.length fun n => OR.val (.i .i64 (.ofNat n)) s) = .val v s' at hr
            rw [forceN_eq] at hr
            cases hr
            cases ha with
            | mp hm =>
              obtain ⟨b, o, b1, b2, es, rfl, b4⟩ := h.objs _ _ ho rfl
              obtain rfl : _ = b := Option.some.inj (hm.symm.trans b1)
              refine ⟨.int .i64 l.length, w, ?_, Post.here h (.i _ _)⟩
              have hg := MapKept.run_getObj_map (P := P) b2
              simp only [Builtin.len_, ht, List.getElem?_toArray, List.getElem?_cons_zero, Sem.run_bind, run_underlying' hu, Result.andThen_ok, goInt, hg, Sem.run_pure, b4.size]
          | _ => cases hr
        · cases hr
      | _ => cases hr

/-! ## append -/

theorem AT_inv {P : Program} {ts : Array TypeId} {F : TypeId → Nat → Nat → OR} {G : TypeId → OR} {w : List Ev} {v : AV} {s : St} (h2 : ts.size = 2) (h : AT.rec (motive := fun _ => OR) F G (.no w) (appOf P ts[0]? ts[1]?) = .val v s) :
    ∃ t u e i zv, ts = #[t, u] ∧ P.underlying t = some (.slice e) ∧ P.info? e = some i ∧ i.zero = some zv ∧ 1 ≤ i.size ∧ zv.cells.size = i.size ∧
      ((P.underlying u = some (.slice e) ∧ F e i.size i.bytes = .val v s) ∨ (P.underlying u = some .string ∧ i.size = 1 ∧ i.bytes = 1 ∧ G e = .val v s)) := by
  obtain ⟨l⟩ := ts
  match l, h2 with
  | [t, u], _ =>
    change AT.rec (motive := fun _ => OR) F G (.no w) (appOf P (some t) (some u)) = .val v s at h
    unfold appOf at h
    dsimp only at h
    cases hb : Nat.beq t u with
    | false =>
      rw [hb] at h
      dsimp only [cond_false] at h
      cases hu : P.underlying t with
      | none => rw [hu] at h; cases h
      | some d =>
        rw [hu] at h
        cases hu' : P.underlying u with
        | none => rw [hu'] at h; cases d <;> cases h
        | some d' =>
          rw [hu'] at h
          cases d with
          | slice e =>
            cases d' with
            | string =>
              dsimp only at h
              cases hi : P.info? e with
              | none => rw [hi] at h; cases h
              | some i =>
                rw [hi] at h
                cases hz : zeroL P e with
                | none => rw [hz] at h; cases h
                | some z =>
                  rw [hz] at h
                  obtain ⟨i', zv, z1, z2, rfl⟩ := zeroL_some hz
                  rw [hi] at z1; cases z1
                  split at h
                  · rename_i x1 x2 x3 q1 q2 q3
                    cases q1; cases q2
                    cases hc : (Nat.beq i.size 1 && (Nat.beq (zv.cells.toList.map ofV).length 1 && Nat.beq i.bytes 1)) with
                    | false => rw [hc] at h; cases h
                    | true =>
                      rw [hc] at h
                      rw [Bool.and_eq_true, Bool.and_eq_true] at hc
                      have c1 := beq hc.1
                      have c2 := beq hc.2.1
                      refine ⟨t, u, e, i, zv, rfl, hu, hi, z2, by omega, by rw [c1]; simpa using c2, .inr ⟨hu', c1, beq hc.2.2, h⟩⟩
                  · cases h
            | _ => cases h
          | _ => cases d' <;> cases h
    | true =>
      rw [hb] at h
      have hb := beq hb
      subst hb
      dsimp only [cond_true] at h
      cases hu : P.underlying t with
      | none => rw [hu] at h; cases h
      | some d =>
        rw [hu] at h
        cases d with
        | slice e =>
          dsimp only at h
          cases hi : P.info? e with
          | none => rw [hi] at h; cases h
          | some i =>
            rw [hi] at h
            cases hz : zeroL P e with
            | none => rw [hz] at h; cases h
            | some z =>
              rw [hz] at h
              dsimp only at h
              obtain ⟨i', zv, z1, z2, rfl⟩ := zeroL_some hz
              rw [hi] at z1; cases z1
              cases hc : (Nat.ble 1 i.size && Nat.beq (zv.cells.toList.map ofV).length i.size) with
              | false => rw [hc] at h; cases h
              | true =>
                rw [hc] at h
                rw [Bool.and_eq_true] at hc
                refine ⟨t, t, e, i, zv, rfl, hu, hi, z2, ble hc.1, ?_, .inl ⟨hu, h⟩⟩
                have := beq hc.2
                simpa using this
        | _ => cases h

/-- bytes as the model's cells -/
def byteVs (l : List UInt8) : List Value := l.map fun b => .int .u8 b.toNat
theorem byteAVs_rel (ρ : Ren) : ∀ l : List UInt8, VRs ρ (byteAVs l) (byteVs l)
  | [] => .nil
  | b :: l => .cons (.i _ _) (byteAVs_rel ρ l)
theorem byteVs_length (l : List UInt8) : (byteVs l).length = l.length := by simp [byteVs]
theorem byteAVs_length (l : List UInt8) : (byteAVs l).length = l.length := by simp [byteAVs]
theorem run_firstCells_text {P : Program} (w : World) (sz : Nat) (l : List UInt8) : (Builtin.firstCells sz l.length (.string ⟨⟨l⟩⟩)).run P w = .ok (byteVs l).toArray w := by
  have e : (⟨⟨l⟩⟩ : ByteArray).extract 0 l.length = ⟨⟨l⟩⟩ := by rw [extract_mk l 0 l.length (Nat.zero_le _) (Nat.le_refl _)]; simp
  simp only [Builtin.firstCells, e, Sem.run_pure, byteVs]
  congr 1
  apply Array.toList_inj.1
  simp

/-- a slice whose cells are known, in the world -/
structure Src (w : World) (ρ : Ren) (sz m : Nat) (news : List AV) (cx : Value) (vs : List Value) : Prop where
  rel : VRs ρ news vs
  len : vs.length = m * sz
  form : (cx = .slice none 0 0 ∧ m = 0) ∨ (∃ a cap, cx = .slice (some a) m cap ∧ ∀ j v, vs[j]? = some v → w.cell? (a.add j) = some v) ∨ ∃ l, cx = .string ⟨⟨l⟩⟩ ∧ m = l.length ∧ vs = byteVs l

theorem sliceCells_src {ρ : Ren} {s : St} {w : World} (h : SR ρ s w) {sz m : Nat} {news : List AV} {x : AV} {cx : Value} (hx : VR ρ x cx) (hs : sliceCells sz s (asS x) = .some m news) : ∃ vs, Src w ρ sz m news cx vs := by
  cases ha : asS x with
  | none => rw [ha] at hs; cases hs
  | nil =>
    rw [ha] at hs
    obtain rfl := asS_nil ha
    cases hs
    cases hx
    exact ⟨[], .nil, by simp, .inl ⟨rfl, rfl⟩⟩
  | some hd off len z =>
    rw [ha] at hs
    obtain rfl := asS_some ha
    change bif_ (Nat.beq z sz) (sliceCells1 hd off len sz (blkAt s hd.A)) .none = .some m news at hs
    cases hz : Nat.beq z sz with
    | false => rw [hz] at hs; cases hs
    | true =>
      rw [hz] at hs
      have hz := beq hz
      subst hz
      change sliceCells1 hd off len z (blkAt s hd.A) = .some m news at hs
      unfold sliceCells1 at hs
      cases hb : blkAt s hd.A with
      | none => rw [hb] at hs; cases hs
      | some el n cs lo hi =>
        rw [hb] at hs
        change bif_ (Nat.ble lo hd.e) (Option.rec (motive := fun _ => SC) .none (fun l => .some len l) (readL cs (len * z) off)) .none = .some m news at hs
        cases hlo : Nat.ble lo hd.e with
        | false => rw [hlo] at hs; cases hs
        | true =>
          rw [hlo] at hs
          change Option.rec (motive := fun _ => SC) .none (fun l => .some len l) (readL cs (len * z) off) = .some m news at hs
          cases hr : readL cs (len * z) off with
          | none => rw [hr] at hs; cases hs
          | some l =>
            rw [hr] at hs
            cases hs
            have hblk := blkAt_some hb
            cases hx with
            | sl0 a =>
              rw [Nat.zero_mul] at hr
              cases hr
              exact ⟨[], .nil, by simp, .inr (.inl ⟨a, 0, rfl, fun j v hv => by simp at hv⟩)⟩
            | @sl _ _ _ _ cap l0 hl hs hf h0 h1 hz hc hrr =>
              obtain ⟨l', b1, b2, b3, hok⟩ := h.blks _ _ _ _ _ _ hblk hd.e (ble hlo) (h.top _ _ _ hl _ _ _ _ _ hblk)
              obtain rfl : l0 = l' := Option.some.inj (hl.symm.trans b1)
              obtain ⟨vs, c1, c2, c3⟩ := hok.reads off (m * z) h0 (by omega) news hr
              exact ⟨vs, c2, c1, .inr (.inl ⟨_, cap, rfl, c3⟩)⟩

theorem Src.first {P : Program} {w : World} {ρ : Ren} {sz m : Nat} {news : List AV} {cx : Value} {vs : List Value} (h : Src w ρ sz m news cx vs) (n : Nat) : (Builtin.firstCells sz m cx).run P { w with drawn := n } = .ok vs.toArray { w with drawn := n } ∧ (Builtin.firstCells sz m cx).run P w = .ok vs.toArray w := by
  rcases h.form with ⟨rfl, rfl⟩ | ⟨a, cap, rfl, hc⟩ | ⟨l, rfl, rfl, rfl⟩
  · have : vs = [] := List.eq_nil_of_length_eq_zero (by rw [h.len]; simp)
    subst this
    exact ⟨run_firstCells_none _ _ _ _ _, run_firstCells_none _ _ _ _ _⟩
  · exact ⟨run_firstCells_some (P := P) { w with drawn := n } sz m a m cap vs h.len hc, run_firstCells_some (P := P) w sz m a m cap vs h.len hc⟩
  · exact ⟨run_firstCells_text _ _ _, run_firstCells_text _ _ _⟩
theorem Src.lenOf {P : Program} {w : World} {ρ : Ren} {sz m : Nat} {news : List AV} {cx : Value} {vs : List Value} (h : Src w ρ sz m news cx vs) : (Builtin.lenOf cx).run P w = .ok m w := by
  rcases h.form with ⟨rfl, rfl⟩ | ⟨a, cap, rfl, hc⟩ | ⟨l, rfl, rfl, rfl⟩ <;> rfl

theorem run_append_in {P : Program} (w : World) (ρ : Ren) (t u ty e : TypeId) (i : TypeInfo) (ht : P.underlying t = some (.slice e)) (hut : P.underlying u = some (.slice e) ∨ P.underlying u = some .string) (hi : P.info? e = some i)
    (g o sLen sCap : Nat) (cur : Array Value) (fr : Nat × Nat) (hg : w.heap[g]? = some (.cells cur e fr)) (hth : Thawed cur fr) (cx : Value) (m : Nat) (news : List AV) (vs : List Value) (hs : Src w ρ i.size m news cx vs) (h1 : ∀ u ∈ vs, u.oneCell' = true)
    (hroom : sLen + m ≤ sCap) (hfit : o + sLen * i.size + vs.length ≤ cur.size) :
    (Builtin.append_ #[t, u] ty #[.slice (some ⟨g, o, none⟩) sLen sCap, cx]).run P w =
      .ok (.slice (some ⟨g, o, none⟩) (sLen + m) sCap) (w.setRow g (cur.toList.take (o + sLen * i.size) ++ vs ++ cur.toList.drop (o + sLen * i.size + vs.length)).toArray) := by
  have hf := (hs.first (P := P) 0).2
  have hst := run_storeCells_fr (P := P) g (o + sLen * i.size) e fr vs 0 cur w hg hth (by omega) h1
  simp only [Nat.add_zero] at hst
  have hadd : (⟨g, o, none⟩ : Addr).add (sLen * i.size) = ⟨g, o + sLen * i.size, none⟩ := by
    unfold Addr.add; split
    · rename_i h0; rw [h0]; rfl
    · rfl
  rcases hut with hu | hu <;>
  · simp only [Builtin.append_, List.getElem?_toArray, List.getElem?_cons_zero, List.getElem?_cons_succ, Sem.run_bind, run_underlying' ht, run_underlying' hu, Result.andThen_ok, run_sizeOf' hi, Sem.run_pure, Bool.false_eq_true, if_false, hs.lenOf, hroom, if_true, Bool.not_false, hf, hadd]
    rw [hst]; rfl

theorem run_append_new {P : Program} (w : World) (ρ : Ren) (t u ty e : TypeId) (i : TypeInfo) (z : Value) (ht : P.underlying t = some (.slice e)) (hut : P.underlying u = some (.slice e) ∨ P.underlying u = some .string) (hi : P.info? e = some i) (hz : i.zero = some z)
    (base : Option Addr) (sLen sCap : Nat) (olds : List Value) (holds : ∀ n, (Builtin.firstCells i.size sLen (.slice base sLen sCap)).run P { w with drawn := n } = .ok olds.toArray { w with drawn := n })
    (cx : Value) (m : Nat) (news : List AV) (vs : List Value) (hs : Src w ρ i.size m news cx vs)
    (hg : sCap < sLen + m) (h63 : sLen + m ≤ 9223372036854775807) (hfit : Builtin.nextslicecap (sLen + m) sCap * i.bytes ≤ 281474976710656) :
    (Builtin.append_ #[t, u] ty #[.slice base sLen sCap, cx]).run P w =
      .ok (.slice (some ⟨w.heap.size, 0, none⟩) (sLen + m) (grownCap w (sLen + m) sCap e))
        (({ w with drawn := w.drawn + 1 } : World).alloc (.cells (olds.toArray ++ vs.toArray ++ Builtin.zeroCells z.cells (grownCap w (sLen + m) sCap e - (sLen + m))) e)) := by
  have hn : ¬ (sLen + m ≤ sCap) := by omega
  have h63' : ¬ (((sLen + m : Nat) : Int) > IntKind.i64.max) := by
    have : IntKind.i64.max = 9223372036854775807 := by decide
    rw [this]; omega
  have h48' : ¬ (Builtin.nextslicecap (sLen + m) sCap * i.bytes > 2 ^ 48) := by omega
  have hf := (hs.first (P := P) (w.drawn + 1)).1
  have ho := holds (w.drawn + 1)
  have hforced : (Question.appendCap (sLen + m) sCap e).forced = false := rfl
  rcases hut with hu | hu <;>
  · simp only [Builtin.append_, List.getElem?_toArray, List.getElem?_cons_zero, List.getElem?_cons_succ, Sem.run_bind, run_underlying' ht, run_underlying' hu, Result.andThen_ok, run_sizeOf' hi, Sem.run_pure, Bool.false_eq_true, if_false, hs.lenOf, hn, Bool.not_false, if_true,
      h63', false_and, run_typeInfo' hi, h48', run_choose, hforced, run_askRoom, ho, hf, run_zeroValue' hi hz]
    rfl

theorem append1_inv {e sz bytes : Nat} {h : Hd} {off len z m : Nat} {news : List AV} {s s' : St} {v : AV} (hr : append1 e sz bytes h off len z m news s (blkAt s h.A) = .val v s') :
    ∃ el n cs lo hi, s.heap.at_ h.A = some (.blk el n cs lo hi) ∧ z = sz ∧ el = e ∧ lo ≤ h.e ∧ h.e ≤ hi ∧ (len + m) * bytes ≤ 140737488355328 ∧ len + m ≤ 9223372036854775807 ∧
      ∃ lo', (lo' = hi + 1 ∨ (lo' = lo ∧ h.e = hi ∧ off + len * sz = n)) ∧ v = .sl ⟨h.A, hi + 1, off + len * sz + news.length, h.fz⟩ off (len + m) sz ∧
        s' = ⟨s.heap.put h.A (.blk el (off + len * sz + news.length) (putL news cs (off + len * sz)) lo' (hi + 1)), s.next, s.ds, s.raw⟩ := by
  obtain ⟨el, n, cs, lo, hi, hb, hr⟩ := VB_inv hr
  obtain ⟨e1, hr⟩ := bif_inv hr
  obtain ⟨e2, hr⟩ := bif_inv hr
  obtain ⟨e3, hr⟩ := bif_inv hr
  obtain ⟨e4, hr⟩ := bif_inv hr
  obtain ⟨e5, hr⟩ := bif_inv hr
  obtain ⟨e6, hr⟩ := bif_inv hr
  unfold append2 at hr
  simp only [forceN_eq, putLK_eq, stPut_eq] at hr
  cases hr
  refine ⟨el, n, cs, lo, hi, hb, beq e1, beq e2, ble e3, ble e4, ble e5, ble e6, _, ?_, rfl, rfl⟩
  cases c1 : Nat.beq h.e hi with
  | false => left; rfl
  | true =>
    cases c2 : Nat.beq (off + len * sz) n with
    | false => left; rfl
    | true => right; exact ⟨rfl, beq c1, beq c2⟩

theorem append0_sim {P : Program} {ρ : Ren} {s : St} {w : World} (h : SR ρ s w) (t u e : TypeId) (i : TypeInfo) (zv : Value) (g1 : P.underlying t = some (.slice e)) (g0 : P.underlying u = some (.slice e) ∨ P.underlying u = some .string) (g2 : P.info? e = some i) (g3 : i.zero = some zv) (g4 : 1 ≤ i.size) (g5 : zv.cells.size = i.size)
    (ty : TypeId) (a : AV) (ca cx : Value) (ha : VR ρ a ca) (m : Nat) (news : List AV) (vs : List Value) (hs : Src w ρ i.size m news cx vs) : Sim P ρ w (Builtin.append_ #[t, u] ty #[ca, cx]) (append0 (asS a) s e i.size i.bytes m news) := by
    intro v s' hr1
    obtain ⟨hone, hr2⟩ := bif_inv hr1
    have h1 := allOne_one hone hs.rel
    have hnl := hs.rel.length
    rcases OS_inv hr2 with ⟨hd, off, len, z, rfl, hr3⟩ | ⟨rfl, hr3⟩
    · cases m with
      | zero =>
        cases hr3
        have hvs : vs = [] := List.eq_nil_of_length_eq_zero (by rw [hs.len]; simp)
        have hca : ∃ b cap, ca = .slice (some b) len cap ∧ len ≤ cap := by
          cases ha with
          | sl _ _ _ _ _ _ hc _ => exact ⟨_, _, rfl, hc⟩
          | sl0 => exact ⟨_, _, rfl, Nat.le_refl _⟩
        obtain ⟨b, cap, rfl, hc⟩ := hca
        refine ⟨.slice (some b) len cap, w, ?_, Post.here h ha⟩
        have hf := (hs.first (P := P) 0).2
        rcases g0 with g0 | g0 <;>
        · simp only [Builtin.append_, List.getElem?_toArray, List.getElem?_cons_zero, List.getElem?_cons_succ, Sem.run_bind, run_underlying' g1, run_underlying' g0, Result.andThen_ok, run_sizeOf' g2, Sem.run_pure, Bool.false_eq_true, if_false, hs.lenOf, Nat.add_zero, hc, if_true, Bool.not_false, hf]
          rw [hvs]; rfl
      | succ k =>
        obtain ⟨el, n, cs, lo, hi, hb, rfl, rfl, b1, b2, b3, b4, lo', hlo, rfl, rfl⟩ := append1_inv hr3
        have hvl : vs.length = (k + 1) * i.size := hs.len
        have hpos : 0 < (k + 1) * i.size := Nat.mul_pos (by omega) (by omega)
        obtain ⟨l, c1, c2, c3, hok⟩ := h.blks _ _ _ _ _ _ hb hd.e b1 b2
        have hlo' : lo' = hi + 1 ∨ (lo ≤ lo' ∧ hd.e = hi ∧ off + len * i.size = n) := by
          rcases hlo with x | ⟨rfl, x, y⟩
          · exact .inl x
          · exact .inr ⟨Nat.le_refl _, x, y⟩
        have grow : ∀ (b : Addr) (cap : Nat) (olds : List Value), ca = .slice (some b) len cap → cap < len + (k + 1) → olds.length = len * i.size →
            (∀ j v, olds[j]? = some v → w.cell? (b.add j) = some v) → (∀ j, off ≤ j → j < off + len * i.size → ∃ a v, cs.at_ j = some a ∧ olds[j - off]? = some v ∧ VR ρ a v) →
            ∃ cv w', (Builtin.append_ #[t, u] ty #[ca, cx]).run P w = .ok cv w' ∧ Post ρ w ⟨s.heap.put hd.A (.blk el (off + len * i.size + news.length) (putL news cs (off + len * i.size)) lo' (hi + 1)), s.next, s.ds, s.raw⟩ w'
              fun ρ' => VR ρ' (.sl ⟨hd.A, hi + 1, off + len * i.size + news.length, hd.fz⟩ off (len + (k + 1)) i.size) cv := by
          intro b cap olds hca hcap hol hcell hold'
          subst hca
          have hfit := growslice_fits (need := len + (k + 1)) (old := cap) (bytes := i.bytes) hcap b3
          have holds : ∀ n, (Builtin.firstCells i.size len (.slice (some b) len cap)).run P { w with drawn := n } = .ok olds.toArray { w with drawn := n } := fun n =>
            run_firstCells_some (P := P) { w with drawn := n } i.size len b len cap olds hol hcell
          have hrun := run_append_new (P := P) w ρ t u ty el i zv g1 g0 g2 g3 (some b) len cap olds holds cx (k + 1) news vs hs hcap b4 hfit
          have hge := grownCap_ge w (len + (k + 1)) cap el
          have hrs : (olds.toArray ++ vs.toArray ++ Builtin.zeroCells zv.cells (grownCap w (len + (k + 1)) cap el - (len + (k + 1)))).size = grownCap w (len + (k + 1)) cap el * i.size := by
            simp only [Array.size_append, List.size_toArray, size_zeroCells, g5, hol, hvl, ← Nat.add_mul]
            congr 1; omega
          have hmul : (len + (k + 1)) * i.size ≤ grownCap w (len + (k + 1)) cap el * i.size := Nat.mul_le_mul_right _ hge
          have hsum : (len + (k + 1)) * i.size = len * i.size + (k + 1) * i.size := Nat.add_mul _ _ _
          obtain ⟨ρ', r1, r2, r3, r4⟩ := h.appendNew hb b2 c1 off (off + len * i.size) (by omega) news vs olds hs.rel
            (olds.toArray ++ vs.toArray ++ Builtin.zeroCells zv.cells (grownCap w (len + (k + 1)) cap el - (len + (k + 1)))) (by rw [hol]; omega) hold'
            (by
              intro q hq
              have hq' : q < (olds.toArray ++ vs.toArray).size := by simp only [Array.size_append, List.size_toArray]; omega
              rw [Array.getElem?_append_left hq']
              simp) (by rw [hrs]; omega) (w.drawn + 1) hd.fz lo' hlo' ⟨s.heap.put hd.A (.blk el (off + len * i.size + news.length) (putL news cs (off + len * i.size)) lo' (hi + 1)), s.next, s.ds, s.raw⟩ rfl rfl rfl
          refine ⟨_, _, hrun, ρ', r2, r3, r4, ?_⟩
          have := VR.sl (ρ := ρ') (h := ⟨hd.A, hi + 1, off + len * i.size + news.length, hd.fz⟩) (off := off) (len := len + (k + 1)) (sz := i.size) (cap := grownCap w (len + (k + 1)) cap el) r1 rfl rfl (Nat.le_refl _) (by show _ ≤ off + len * i.size + news.length; omega) (by omega) hge
            (by show 0 + (off - off) + grownCap w (len + (k + 1)) cap el * i.size ≤ (olds.toArray ++ vs.toArray ++ Builtin.zeroCells zv.cells (grownCap w (len + (k + 1)) cap el - (len + (k + 1)))).size; rw [hrs]; omega)
          have e0 : (⟨w.heap.size, 0, off, off + len * i.size + news.length, (olds.toArray ++ vs.toArray ++ Builtin.zeroCells zv.cells (grownCap w (len + (k + 1)) cap el - (len + (k + 1)))).size, hd.fz⟩ : Loc).at_ off = ⟨w.heap.size, 0, none⟩ := by
            simp [Loc.at_]
          rw [e0] at this
          exact this
        cases ha with
        | sl0 a =>
          exact grow a 0 [] rfl (by omega) (by simp) (fun j v hv => by simp at hv) (fun j x y => by omega)
        | @sl _ _ _ _ cap l0 hl hst hf h0 q1 hz hc hrr =>
          obtain rfl : l = l0 := Option.some.inj (c1.symm.trans hl)
          by_cases hroom : len + (k + 1) ≤ cap
          · have hok' := hok
            obtain ⟨c, fr, d1, dth, d2, d3, d4, d5⟩ := hok'
            have hmul : (len + (k + 1)) * i.size ≤ cap * i.size := Nat.mul_le_mul_right _ hroom
            have hsum : (len + (k + 1)) * i.size = len * i.size + (k + 1) * i.size := Nat.add_mul _ _ _
            have hrun := run_append_in (P := P) w ρ t u ty el i g1 g0 g2 l.blk (l.base + (off - l.start)) len cap c fr d1 dth cx (k + 1) news vs hs h1 hroom (by omega)
            obtain ⟨ρ', r1, r2, r3, r4⟩ := h.appendIn hb b1 b2 c1 (off + len * i.size) (by omega) (by omega) news vs hs.rel c fr d1 (by omega) lo' hlo' ⟨s.heap.put hd.A (.blk el (off + len * i.size + news.length) (putL news cs (off + len * i.size)) lo' (hi + 1)), s.next, s.ds, s.raw⟩ rfl rfl rfl
            have e1 : l.base + (off - l.start) + len * i.size = l.base + (off + len * i.size - l.start) := by omega
            rw [e1] at hrun
            refine ⟨_, _, hrun, ρ', r2, r3, r4, ?_⟩
            exact VR.sl (ρ := ρ') (h := ⟨hd.A, hi + 1, off + len * i.size + news.length, hd.fz⟩) (off := off) (len := len + (k + 1)) (sz := i.size) (cap := cap) (l := { l with stop := off + len * i.size + news.length }) r1 rfl hf h0
              (by show _ ≤ off + len * i.size + news.length; omega) (by omega) hroom hrr
          · have hne : l.start ≤ off := h0
            -- the cells that were there
            have key : ∃ olds : List Value, olds.length = len * i.size ∧ (∀ j v, olds[j]? = some v → w.cell? ((l.at_ off).add j) = some v) ∧ ∀ j, off ≤ j → j < off + len * i.size → ∃ a v, cs.at_ j = some a ∧ olds[j - off]? = some v ∧ VR ρ a v := by
              have hb' : ∀ q, q ≤ len * i.size → ∃ olds : List Value, olds.length = q ∧ (∀ j v, olds[j]? = some v → w.cell? ((l.at_ off).add j) = some v) ∧ ∀ j, off ≤ j → j < off + q → ∃ a v, cs.at_ j = some a ∧ olds[j - off]? = some v ∧ VR ρ a v := by
                intro q
                induction q with
                | zero => exact fun _ => ⟨[], rfl, fun j v hv => by simp at hv, fun j x y => by omega⟩
                | succ q ih =>
                  intro hq
                  obtain ⟨olds, u1, u2, u3⟩ := ih (by omega)
                  obtain ⟨a, v, x1, x2, x3⟩ := row_read hok (off + q) (by omega) (by omega)
                  refine ⟨olds ++ [v], by simp [u1], ?_, ?_⟩
                  · intro j y hy
                    by_cases hj : j < q
                    · rw [List.getElem?_append_left (by omega)] at hy; exact u2 j y hy
                    · rw [List.getElem?_append_right (by omega), List.getElem?_singleton] at hy
                      split at hy
                      · cases hy
                        obtain rfl : j = q := by omega
                        rw [locAt_add l off j hne]; exact x2
                      · cases hy
                  · intro j y1 y2
                    by_cases hj : j < off + q
                    · obtain ⟨a', v', z1, z2, z3⟩ := u3 j y1 hj
                      exact ⟨a', v', z1, by rw [List.getElem?_append_left (by omega)]; exact z2, z3⟩
                    · obtain rfl : j = off + q := by omega
                      exact ⟨a, v, x1, by rw [List.getElem?_append_right (by omega)]; simp [u1], x3⟩
              exact hb' _ (Nat.le_refl _)
            obtain ⟨olds, u1, u2, u3⟩ := key
            exact grow (l.at_ off) cap olds rfl (by omega) u1 u2 u3
    · cases ha
      cases m with
      | zero =>
        cases hr3
        have hvs : vs = [] := List.eq_nil_of_length_eq_zero (by rw [hs.len]; simp)
        refine ⟨.slice none 0 0, w, ?_, Post.here h (.c _)⟩
        have hf := (hs.first (P := P) 0).2
        rcases g0 with g0 | g0 <;>
        simp only [Builtin.append_, List.getElem?_toArray, List.getElem?_cons_zero, List.getElem?_cons_succ, Sem.run_bind, run_underlying' g1, run_underlying' g0, Result.andThen_ok, run_sizeOf' g2, Sem.run_pure, Bool.false_eq_true, if_false, hs.lenOf, Nat.add_zero, Nat.le_refl, if_true, Bool.not_false, hf]
      | succ k =>
        obtain ⟨e1, hr4⟩ := bif_inv hr3
        obtain ⟨e2, hr5⟩ := bif_inv hr4
        obtain ⟨a1, a2, a3, rfl, rfl⟩ := aNewRow_inv hr5
        have e1 := ble e1
        have e2 := ble e2
        have hvl : vs.length = (k + 1) * i.size := hs.len
        have hfit := growslice_fits (need := k + 1) (old := 0) (bytes := i.bytes) (by omega) e1
        have hrun := run_append_new (P := P) w ρ t u ty e i zv g1 g0 g2 g3 none 0 0 [] (fun n => run_firstCells_none _ _ _ _ _) cx (k + 1) news vs hs (by omega) (by omega) (by rw [Nat.zero_add]; exact hfit)
        rw [Nat.zero_add] at hrun
        have hge := grownCap_ge w (k + 1) 0 e
        have hrs : ([].toArray ++ vs.toArray ++ Builtin.zeroCells zv.cells (grownCap w (k + 1) 0 e - (k + 1))).size = grownCap w (k + 1) 0 e * i.size := by
          simp only [Array.size_append, List.size_toArray, size_zeroCells, g5, hvl, List.length_nil, Nat.zero_add, ← Nat.add_mul]
          congr 1; omega
        have hd := h.drawn (w.drawn + 1)
        obtain ⟨ρ', r1, r2, r3, r4⟩ := newRow_sim hd e news (k + 1) i.size (grownCap w (k + 1) 0 e) (Nat.beq i.bytes 1) ([].toArray ++ vs.toArray ++ Builtin.zeroCells zv.cells (grownCap w (k + 1) 0 e - (k + 1))) (by omega) a3 (by omega) hrs
          (by
            have et : ([].toArray ++ vs.toArray ++ Builtin.zeroCells zv.cells (grownCap w (k + 1) 0 e - (k + 1))).toList.take news.length = vs := by
              simp only [Array.toList_append, List.nil_append, ← hnl]
              exact List.take_left
            rw [et]; exact hs.rel)
        exact ⟨_, _, hrun, ρ', ⟨r1.le, r1.new⟩, ⟨r2.size, r2.os, r2.output, r2.tape, r2.old⟩, r3, r4⟩

theorem aAppend_sim {P : Program} {ρ : Ren} {s : St} {w : World} (h : SR ρ s w) (ts : Array TypeId) (hts : ts.size = 2) (ty : TypeId) (a x : AV) (ca cx : Value) (ha : VR ρ a ca) (hx : VR ρ x cx) :
    Sim P ρ w (Builtin.append_ ts ty #[ca, cx]) (aAppend a x s (appOf P ts[0]? ts[1]?)) := by
  intro v s' hr
  obtain ⟨t, u, e, i, zv, rfl, g1, g2, g3, g4, g5, ⟨gu, hr1⟩ | ⟨gu, i1, i2, hr1⟩⟩ := AT_inv hts hr
  · cases hsc : sliceCells i.size s (asS x) with
    | none => rw [hsc] at hr1; cases hr1
    | some m news =>
      rw [hsc] at hr1
      obtain ⟨vs, hs⟩ := sliceCells_src h hx hsc
      exact append0_sim h t u e i zv g1 (.inl gu) g2 g3 g4 g5 ty a ca cx ha m news vs hs v s' hr1
  · obtain ⟨l, hl, hr2⟩ := Opt_inv hr1
    rw [forceN_eq, forceL_eq] at hr2
    rw [asT_some hl] at hx
    have hcx : cx = .string ⟨⟨l⟩⟩ := by cases hx; rfl
    refine append0_sim h t u e i zv g1 (.inr gu) g2 g3 g4 g5 ty a ca cx ha l.length (byteAVs l) (byteVs l) ⟨byteAVs_rel ρ l, by rw [byteVs_length, i1, Nat.mul_one], .inr (.inr ⟨l, hcx, rfl, rfl⟩)⟩ v s' ?_
    rw [i1, i2]
    exact hr2

end Go.Eng
