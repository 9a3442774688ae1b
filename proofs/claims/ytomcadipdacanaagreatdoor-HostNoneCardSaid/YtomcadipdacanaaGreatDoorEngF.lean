/-
  The abstract operations are true of the model's: stores, new memory, parts.
-/
import Derived.Test.YtomcadipdacanaaGreatDoorEngE
namespace Go.Eng
open Go
set_option linter.unusedVariables false

theorem ofV_one (v : Value) : oneC (ofV v) = v.oneCell' := by cases v <;> rfl
theorem oneC_one {ρ : Ren} {a : AV} {v : Value} (h : oneC a = true) (hv : VR ρ a v) : v.oneCell' = true := by
  cases hv with
  | c v => cases v <;> first | rfl | cases h
  | agg => cases h
  | tup => cases h
  | u => cases h
  | _ => rfl
theorem allOne_one {ρ : Ren} : ∀ {l : List AV} {l' : List Value}, allOne l = true → VRs ρ l l' → ∀ v ∈ l', v.oneCell' = true
  | _, _, _, .nil, v, hv => by cases hv
  | a :: l, _, h, .cons (v := x) hx hr, v, hv => by
    change Bool.rec false (allOne l) (oneC a) = true at h
    cases ha : oneC a with
    | false => rw [ha] at h; cases h
    | true =>
      rw [ha] at h
      rcases List.mem_cons.1 hv with rfl | hv
      · exact oneC_one ha hx
      · exact allOne_one h hr v hv

theorem isU_one {a : AV} (h : allOne (cellsL a) = true) : isU a = false := by
  cases a <;> first | rfl | (exact absurd h (by decide)) | cases h
theorem cellsL_cells {ρ : Ren} {a : AV} {v : Value} (h : VR ρ a v) (hu : isU a = false) : VRs ρ (cellsL a) v.cells.toList := by
  cases h with
  | c v => cases v <;> first | exact .cons (.c _) .nil | exact VRs.consts ρ _
  | agg h => exact h
  | i k n => exact .cons (.i k n) .nil
  | b b => exact .cons (.b b) .nil
  | s l => exact .cons (.s l) .nil
  | u v => cases hu
  | ptr hl hs hf h0 h1 => exact .cons (.ptr hl hs hf h0 h1) .nil
  | sl hl hs hf h0 h1 hz hc hr => exact .cons (.sl hl hs hf h0 h1 hz hc hr) .nil
  | sl0 a => exact .cons (.sl0 a) .nil
  | mp hm => exact .cons (.mp hm) .nil
  | it hm => exact .cons (.it hm) .nil
  | clo hf hc => exact .cons (.clo hf hc) .nil
  | ifc h => exact .cons (.ifc h) .nil
  | tup h => exact .cons (.tup h) .nil
  | tm h => exact .cons (.tm h) .nil
  | stp h => exact .cons (.stp h) .nil
  | tx h => exact .cons (.tx h) .nil

theorem aggL_agg {ρ : Ren} {a : AV} {v : Value} {l : List AV} (h : VR ρ a v) (hl : aggL a = some l) : ∃ cs, v = .agg cs ∧ VRs ρ l cs.toList := by
  cases h with
  | agg h => cases hl; exact ⟨_, rfl, h⟩
  | c v =>
    cases v with
    | agg cs => cases hl; exact ⟨cs, rfl, VRs.consts ρ _⟩
    | _ => cases hl
  | _ => cases hl
theorem tupL_tup {ρ : Ren} {a : AV} {v : Value} {l : List AV} (h : VR ρ a v) (hl : tupL a = some l) : ∃ cs, v = .tuple cs ∧ VRs ρ l cs.toList := by
  cases h with
  | tup h => cases hl; exact ⟨_, rfl, h⟩
  | c v =>
    cases v with
    | tuple cs => cases hl; exact ⟨cs, rfl, VRs.consts ρ _⟩
    | _ => cases hl
  | _ => cases hl

theorem cellsOf_some {P : Program} {t : TypeId} {n : Nat} (h : cellsOf P t = some n) : ∃ i, P.info? t = some i ∧ i.size = n := by
  unfold cellsOf at h
  cases hi : P.info? t with
  | none => rw [hi] at h; cases h
  | some i => rw [hi] at h; cases h; exact ⟨i, rfl, rfl⟩

theorem aStore_sim {P : Program} {ρ : Ren} {s : St} {w : World} (h : SR ρ s w) (t : TypeId) (a x : AV) (ca cx : Value) (ha : VR ρ a ca) (hx : VR ρ x cx) :
    SimU P ρ w (Instr.storeAt t ca cx) (aStore P t a x s) := by
  intro v s' hr
  obtain ⟨hd, i, rfl, hr⟩ := OP_inv hr
  obtain ⟨l, hl, hs, hf, h0, h1, rfl⟩ := ha.ptr_inv
  obtain ⟨el, n, cs, lo, hi, hb, hr⟩ := VB_inv hr
  obtain ⟨k, hk, hr⟩ := Opt_inv hr
  obtain ⟨e1, hr⟩ := bif_inv hr
  obtain ⟨e2, hr⟩ := bif_inv hr
  obtain ⟨e3, hr⟩ := bif_inv hr
  obtain ⟨e4, hr⟩ := bif_inv hr
  obtain ⟨e5, hr⟩ := bif_inv hr
  have e1 := beq e1
  have e2 := ble e2
  have e3 := ble e3
  have e4 := beq e4
  unfold store2 at hr
  rw [putLK_eq, stPut_eq] at hr
  cases hr
  refine ⟨rfl, ?_⟩
  rw [e1] at hl
  obtain ⟨l', b1, b2, b3, hok⟩ := h.blks _ _ _ _ _ _ hb hi e2 (Nat.le_refl _)
  obtain rfl : l = l' := Option.some.inj (hl.symm.trans b1)
  have hok' := hok
  obtain ⟨c, fr, d1, dth, d2, d3, d4, d5⟩ := hok'
  have hst := b3 rfl
  obtain ⟨inf, i1, i2⟩ := cellsOf_some hk
  have hcells := cellsL_cells hx (isU_one e5)
  have hlen := hcells.length
  have hw := h.write hb e2 hl i h0 (cellsL x) cx.cells.toList hcells (by omega) c fr d1 ⟨s.heap.put hd.A (.blk el n (putL (cellsL x) cs i) hi hi), s.next, s.ds, s.raw⟩ rfl rfl rfl
  refine ⟨_, ?_, ρ, hw.1, hw.2.1, hw.2.2, trivial⟩
  have hstore := run_storeCells_fr (P := P) l.blk (l.base + (i - l.start)) el fr cx.cells.toList 0 c w d1 dth (by omega) (allOne_one e5 hcells)
  have hsz : cx.cells.size = inf.size := by rw [i2, ← e4, ← hlen]; simp
  simp only [Instr.storeAt, Instr.sureAddr, storeVar, Sem.run_bind, Sem.run_pure, Result.andThen_ok, run_sizeOf' i1, hsz, ne_eq, not_true, if_false, Sem.run_ite]
  rw [Nat.add_zero] at hstore
  exact hstore

theorem zeroL_some {P : Program} {t : TypeId} {z : List AV} (h : zeroL P t = some z) : ∃ i v, P.info? t = some i ∧ i.zero = some v ∧ z = v.cells.toList.map ofV := by
  unfold zeroL at h
  cases hi : P.info? t with
  | none => rw [hi] at h; cases h
  | some i =>
    rw [hi] at h
    dsimp only at h
    cases hz : i.zero with
    | none => rw [hz] at h; cases h
    | some v => rw [hz] at h; cases h; exact ⟨i, v, rfl, hz, rfl⟩

theorem Loc.at_zero (b n m : Nat) (fz : Bool) : (⟨b, 0, 0, n, m, fz⟩ : Loc).at_ 0 = ⟨b, 0, none⟩ := rfl

/-- a new variable -/
theorem aNewVar_sim {P : Program} {ρ : Ren} {s : St} {w : World} (h : SR ρ s w) (el : TypeId) (cells : List AV) (cv : Value) (hc : VRs ρ cells cv.cells.toList) :
    Sim P ρ w (do pure (.pointer (some (← newVar el cv)))) (aNewVar el cells s) := by
  intro v s' hr
  obtain ⟨e1, hr⟩ := bif_inv hr
  obtain ⟨e2, hr⟩ := bif_inv hr
  rw [stNew_eq] at hr
  cases hr
  have e1 := ble e1
  have hlen := hc.length
  have hlen' : cells.length = cv.cells.size := by rw [← hlen]; simp
  obtain ⟨ρ', r1, r2, r3, r4⟩ := h.alloc el cells cv.cells false (0, 0) (thawed0 _) (fun _ => rfl) (by omega) (by rw [List.take_of_length_le (by omega)]; exact hc)
  refine ⟨.pointer (some ⟨w.heap.size, 0, none⟩), w.alloc (.cells cv.cells el), rfl, ρ', r2, r3, r4, ?_⟩
  exact .ptr (l := ⟨w.heap.size, 0, 0, cells.length, cv.cells.size, false⟩) r1 rfl rfl (Nat.zero_le _) e1

theorem opAlloc_sim {P : Program} {ρ : Ren} {s : St} {w : World} (h : SR ρ s w) (el : TypeId) : Sim P ρ w (Instr.alloc el true (.tuple #[])) (Option.rec (motive := fun _ => OR) (.no ["alloc"]) (fun z => aNewVar el z s) (zeroL P el)) := by
  intro v s' hr
  obtain ⟨z, hz, hr⟩ := Opt_inv hr
  obtain ⟨i, zv, z1, z2, rfl⟩ := zeroL_some hz
  obtain ⟨cv, w', a1, a2⟩ := aNewVar_sim (P := P) h el _ zv (VRs.consts ρ _) v s' hr
  refine ⟨cv, w', ?_, a2⟩
  simp only [Instr.alloc, Sem.run_bind, run_zeroValue' z1 z2, Result.andThen_ok]
  exact a1

theorem opBox_sim {P : Program} {ρ : Ren} {s : St} {w : World} (h : SR ρ s w) (el : TypeId) (x : AV) (cx : Value) (hx : VR ρ x cx) : Sim P ρ w (Instr.box el cx) (forceL (cellsL x) fun l => aNewVar el l s) := by
  intro v s' hr
  rw [forceL_eq] at hr
  have hu : isU x = false := isU_one (bif_inv (bif_inv hr).2).1
  exact aNewVar_sim h el _ cx (cellsL_cells hx hu) v s' hr

/-- a new row, of which a slice is handed on: all of it, or its begin -/
theorem newRow_sim {ρ : Ren} {s : St} {w : World} (h : SR ρ s w) (e : TypeId) (cells : List AV) (len sz cap : Nat) (fz : Bool) (row : Array Value) (hz : 0 < sz) (hl : len * sz = cells.length) (hcap : len ≤ cap)
    (hrow : row.size = cap * sz) (hc : VRs ρ cells (row.toList.take cells.length)) :
    ∃ ρ', Ext w ρ ρ' ∧ Keeps ρ w (w.alloc (.cells row e)) ∧ SR ρ' (s.new e cells) (w.alloc (.cells row e)) ∧ VR ρ' (.sl ⟨s.next, 0, cells.length, fz⟩ 0 len sz) (.slice (some ⟨w.heap.size, 0, none⟩) len cap) := by
  obtain ⟨ρ', r1, r2, r3, r4⟩ := h.alloc e cells row fz (0, 0) (thawed0 _) (fun _ => rfl) (by rw [hrow, ← hl]; exact Nat.mul_le_mul_right _ hcap) hc
  refine ⟨ρ', r2, r3, r4, ?_⟩
  exact .sl (l := ⟨w.heap.size, 0, 0, cells.length, row.size, fz⟩) r1 rfl rfl (Nat.le_refl _) (by show 0 + len * sz ≤ cells.length; omega) hz hcap (by show 0 + (0 - 0) + cap * sz ≤ row.size; omega)

theorem aNewRow_inv {e : TypeId} {cells : List AV} {len sz : Nat} {fz : Bool} {s s' : St} {v : AV} (h : aNewRow e cells len sz fz s = .val v s') :
    allOne cells = true ∧ 1 ≤ sz ∧ len * sz = cells.length ∧ v = .sl ⟨s.next, 0, cells.length, fz⟩ 0 len sz ∧ s' = s.new e cells := by
  obtain ⟨e1, h⟩ := bif_inv h
  obtain ⟨e2, h⟩ := bif_inv h
  obtain ⟨e3, h⟩ := bif_inv h
  rw [stNew_eq] at h
  cases h
  exact ⟨e1, ble e2, beq e3, rfl, rfl⟩

/-! ## parts laid into cells -/

theorem VRs.splice {ρ : Ren} {l : List AV} {l' : List Value} {m : List AV} {m' : List Value} (h : VRs ρ l l') (hm : VRs ρ m m') (a b : Nat) : VRs ρ (l.take a ++ (m ++ l.drop b)) (l'.take a ++ (m' ++ l'.drop b)) :=
  (h.take a).append (hm.append (h.drop b))

/-- the model's way to lay a part: cell by cell -/
theorem foldl_lay (vs : List Value) : ∀ (off k : Nat) (cs : Array Value), off + k + vs.length ≤ cs.size →
    ((vs.zipIdx k).foldl (fun cs (x : Value × Nat) => cs.setIfInBounds (off + x.2) x.1) cs).toList = cs.toList.take (off + k) ++ (vs ++ cs.toList.drop (off + k + vs.length)) := by
  induction vs with
  | nil => intro off k cs h; simp
  | cons v vs ih =>
    intro off k cs h
    simp only [List.length_cons] at h
    rw [List.zipIdx_cons, List.foldl_cons, ih off (k + 1) _ (by simp; omega)]
    have hlt : off + k < cs.toList.length := by simp; omega
    simp only [Array.toList_setIfInBounds, List.length_cons]
    have e1 : (cs.toList.set (off + k) v).take (off + (k + 1)) = cs.toList.take (off + k) ++ [v] := by
      rw [show off + (k + 1) = off + k + 1 by omega, List.take_add_one, List.take_set_of_le (Nat.le_refl _), List.getElem?_set_self hlt]; rfl
    have e2 : (cs.toList.set (off + k) v).drop (off + (k + 1) + vs.length) = cs.toList.drop (off + k + (vs.length + 1)) := by
      rw [List.drop_set_of_lt (by omega)]; congr 1; omega
    rw [e1, e2]; simp

theorem foldl_zipIdx_array (cells : Array Value) (off : Nat) (cs : Array Value) :
    cells.zipIdx.foldl (fun cs (c, j) => cs.setIfInBounds (off + j) c) cs = (cells.toList.zipIdx).foldl (fun cs (x : Value × Nat) => cs.setIfInBounds (off + x.2) x.1) cs := by
  rw [← Array.foldl_toList, Array.toList_zipIdx]

/-- parts with what they are in the model -/
inductive PRs (ρ : Ren) : List (Nat × AV) → List (Nat × Value) → Prop
  | nil : PRs ρ [] []
  | cons {i : Nat} {a : AV} {v : Value} {l : List (Nat × AV)} {l' : List (Nat × Value)} (h : VR ρ a v) (hr : PRs ρ l l') : PRs ρ ((i, a) :: l) ((i, v) :: l')

theorem fill_sim {ρ : Ren} (place : Nat → Option (Nat × Nat)) : ∀ {parts : List (Nat × AV)} {parts' : List (Nat × Value)}, PRs ρ parts parts' → ∀ (cells : List AV) (cs : Array Value) (out : List AV), VRs ρ cells cs.toList →
    fillL place cells parts = some out → ∃ out' : Array Value, Instr.fill place cs parts' = some out' ∧ VRs ρ out out'.toList
  | _, _, .nil, cells, cs, out, hc, h => by cases h; exact ⟨cs, rfl, hc⟩
  | _, _, .cons (i := i) (a := a) (v := v) hv hr, cells, cs, out, hc, h => by
    unfold fillL at h
    unfold Instr.fill
    cases hp : place i with
    | none => rw [hp] at h; cases h
    | some p =>
      obtain ⟨off, size⟩ := p
      rw [hp] at h
      dsimp only at h ⊢
      cases hb : ((Nat.beq (cellsL a).length size && Nat.ble (off + size) cells.length) && !isU a) with
      | false => rw [hb] at h; cases h
      | true =>
        rw [hb] at h
        rw [Bool.and_eq_true, Bool.and_eq_true, Bool.not_eq_true'] at hb
        have e1 := beq hb.1.1
        have e2 := ble hb.1.2
        have hcl := cellsL_cells hv hb.2
        have l1 := hcl.length
        have l2 := hc.length
        have hsz : v.cells.size = size := by rw [← e1, ← l1]; simp
        have hcs : cs.size = cells.length := by rw [← l2]; simp
        rw [if_neg (by rw [hsz, hcs]; simp; omega)]
        rw [foldl_zipIdx_array]
        refine fill_sim place hr _ _ out ?_ h
        have hl := foldl_lay v.cells.toList off 0 cs (by simp only [Array.length_toList, hsz, hcs]; omega)
        rw [hl]
        simp only [Nat.add_zero, Array.length_toList, hsz]
        exact hc.splice hcl off (off + size)

theorem structPlaces_get {P : Program} : ∀ (fs : List Field) (l : List (Nat × Nat)), structPlaces P fs = some l → l.length = fs.length ∧ ∀ f ∈ fs, ∃ i, P.info? f.type = some i
  | [], l, h => by cases h; exact ⟨rfl, fun f hf => by cases hf⟩
  | f :: r, l, h => by
    unfold structPlaces at h
    cases hi : P.info? f.type with
    | none => rw [hi] at h; cases h
    | some i =>
      rw [hi] at h
      cases hr : structPlaces P r with
      | none => rw [hr] at h; cases h
      | some l' =>
        rw [hr] at h; cases h
        obtain ⟨h1, h2⟩ := structPlaces_get r l' hr
        refine ⟨by simp [h1], fun g hg => ?_⟩
        rcases List.mem_cons.1 hg with rfl | hg
        · exact ⟨i, hi⟩
        · exact h2 g hg

theorem run_places {P : Program} (w : World) : ∀ (fs : List Field) (l : List (Nat × Nat)), structPlaces P fs = some l → (fs.mapM fun (f : Field) => do pure (f.offset, ← sizeOf f.type) : Sem (List (Nat × Nat))).run P w = .ok l w
  | [], l, h => by cases h; rfl
  | f :: r, l, h => by
    unfold structPlaces at h
    cases hi : P.info? f.type with
    | none => rw [hi] at h; cases h
    | some i =>
      rw [hi] at h
      cases hr : structPlaces P r with
      | none => rw [hr] at h; cases h
      | some l' =>
        rw [hr] at h; cases h
        have ih := run_places w r l' hr
        rw [List.mapM_cons]
        simp only [Sem.run_bind, run_sizeOf' hi, Result.andThen_ok, Sem.run_pure]
        rw [ih]; rfl

theorem run_placesA {P : Program} (w : World) (fs : Array Field) (l : List (Nat × Nat)) (h : structPlaces P fs.toList = some l) : (fs.mapM fun (f : Field) => do pure (f.offset, ← sizeOf f.type) : Sem (Array (Nat × Nat))).run P w = .ok l.toArray w := by
  rw [Array.mapM_eq_mapM_toList, Sem.run_map, run_places w fs.toList l h]; rfl

theorem aggOpt_inv {s s' : St} {o : Option (List AV)} {v : AV} (h : aggOpt s o = .val v s') : ∃ l, o = some l ∧ v = .agg l ∧ s' = s := by
  obtain ⟨l, hl, h⟩ := Opt_inv h
  rw [forceL_eq] at h
  cases h
  exact ⟨l, hl, rfl, rfl⟩

theorem getElem?_toArray' {α : Type} (l : List α) : (fun (i : Nat) => l.toArray[i]?) = fun i => l[i]? := by funext i; exact List.getElem?_toArray

theorem aBuild_sim {P : Program} {ρ : Ren} {s : St} {w : World} (h : SR ρ s w) (t : TypeId) (parts : List (Nat × AV)) (parts' : Array (Nat × Value)) (hp : PRs ρ parts parts'.toList) :
    Sim P ρ w (Instr.build t parts') (aBuild P t parts s) := by
  intro v s' hr
  unfold aBuild at hr
  cases hpl : placesOf P t with
  | no => rw [hpl] at hr; cases hr
  | struct z l =>
    rw [hpl] at hr
    obtain ⟨out, ho, rfl, rfl⟩ := aggOpt_inv hr
    unfold placesOf at hpl
    cases hz : zeroL P t with
    | none => rw [hz] at hpl; cases hpl
    | some z' =>
      rw [hz] at hpl
      cases hu : P.underlying t with
      | none => rw [hu] at hpl; cases hpl
      | some d =>
        rw [hu] at hpl
        cases d with
        | struct fields =>
          dsimp only at hpl
          cases hs : structPlaces P fields.toList with
          | none => rw [hs] at hpl; cases hpl
          | some l' =>
            rw [hs] at hpl; cases hpl
            obtain ⟨i, zv, z1, z2, rfl⟩ := zeroL_some hz
            obtain ⟨out', f1, f2⟩ := fill_sim _ hp _ zv.cells out (VRs.consts ρ _) ho
            refine ⟨.agg out', w, ?_, Post.here h (.agg f2)⟩
            simp only [Instr.build, Sem.run_bind, run_zeroValue' z1 z2, Result.andThen_ok, run_underlying' hu, run_placesA w fields l hs]
            rw [getElem?_toArray', f1]; rfl
        | array n e =>
          dsimp only at hpl
          cases hi : P.info? e with
          | none => rw [hi] at hpl; cases hpl
          | some i => rw [hi] at hpl; cases hpl
        | _ => cases hpl
  | array z sz =>
    rw [hpl] at hr
    obtain ⟨out, ho, rfl, rfl⟩ := aggOpt_inv hr
    unfold placesOf at hpl
    cases hz : zeroL P t with
    | none => rw [hz] at hpl; cases hpl
    | some z' =>
      rw [hz] at hpl
      cases hu : P.underlying t with
      | none => rw [hu] at hpl; cases hpl
      | some d =>
        rw [hu] at hpl
        cases d with
        | struct fields =>
          dsimp only at hpl
          cases hs : structPlaces P fields.toList with
          | none => rw [hs] at hpl; cases hpl
          | some l' => rw [hs] at hpl; cases hpl
        | array n e =>
          dsimp only at hpl
          cases hi : P.info? e with
          | none => rw [hi] at hpl; cases hpl
          | some i =>
            rw [hi] at hpl; cases hpl
            obtain ⟨i0, zv, z1, z2, rfl⟩ := zeroL_some hz
            obtain ⟨out', f1, f2⟩ := fill_sim _ hp _ zv.cells out (VRs.consts ρ _) ho
            refine ⟨.agg out', w, ?_, Post.here h (.agg f2)⟩
            simp only [Instr.build, Sem.run_bind, run_zeroValue' z1 z2, Result.andThen_ok, run_underlying' hu, run_sizeOf' hi]
            rw [f1]; rfl
        | _ => cases hpl

end Go.Eng
