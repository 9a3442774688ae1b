/-
  The abstract operations are true of the model's: conversions, functions without a body, copy, unsafe.String, type assertions.
-/
import Derived.Test.YtomcadipdacanaaGreatDoorEngJ
import Derived.Laws.Externs
import Derived.Laws.BytesString
import Derived.Lib.UnsafeStr
import Derived.KernelRfl
namespace Go.Eng
open Go
set_option linter.unusedVariables false

/-! ## plain values -/

theorem toV_eq {ρ : Ren} {a : AV} {v cv : Value} (h : toV a = some v) (hv : VR ρ a cv) : cv = v := by
  cases hv <;> first | (cases h; rfl) | cases h
theorem allV_eq {ρ : Ren} : ∀ {l : List AV} {vs cvs : List Value}, allV l = some vs → VRs ρ l cvs → cvs = vs
  | _, _, _, h, .nil => by cases h; rfl
  | a :: l, vs, _, h, .cons hv hr => by
    unfold allV at h
    cases ha : toV a with
    | none => rw [ha] at h; cases h
    | some x =>
      rw [ha] at h
      cases hl : allV l with
      | none => rw [hl] at h; cases h
      | some r =>
        rw [hl] at h; cases h
        rw [toV_eq ha hv, allV_eq hl hr]

/-! ## pointers seen as another type -/

theorem rowAt_mono (p : Program) (fits : TypeId → Bool) (d : Nat) (e : TypeId) {count count' : Nat} (off n : Nat) (hc : count ≤ count') (h : rowAt p fits d e count off n = true) : rowAt p fits d e count' off n = true := by
  cases d with
  | zero => cases h
  | succ d =>
    unfold rowAt at h ⊢
    dsimp only at h ⊢
    split at h
    · cases h
    · rename_i hs
      rw [if_neg hs]
      rw [Bool.or_eq_true, Bool.and_eq_true, Bool.and_eq_true, Bool.and_eq_true, decide_eq_true_iff, decide_eq_true_iff] at h ⊢
      rcases h with ⟨⟨h1, h2⟩, h3⟩ | ⟨h1, h2⟩
      · exact .inl ⟨⟨h1, by omega⟩, h3⟩
      · exact .inr ⟨by omega, h2⟩
theorem liesAt_mono (p : Program) : ∀ (d : Nat) (e : TypeId) (count count' off : Nat) (u : TypeId) (n : Nat), count ≤ count' → liesAt p d e count off u n = true → liesAt p d e count' off u n = true
  | 0, e, count, count', off, u, n, hc, h => by cases h
  | d + 1, e, count, count', off, u, n, hc, h => by
    unfold liesAt at h ⊢
    rw [Bool.or_eq_true] at h ⊢
    rcases h with h | h
    · exact .inl (rowAt_mono p _ _ e off n hc h)
    · right
      cases hu : p.underlying u with
      | none => rw [hu] at h; cases h
      | some dd =>
        rw [hu] at h
        cases dd <;> first | (cases h; done) | exact liesAt_mono p d e count count' off _ _ hc h

theorem hasCells_some {P : Program} {t : TypeId} (h : hasCells P t = true) : ∃ i, P.info? t = some i ∧ i.size ≠ 0 := by
  unfold hasCells at h
  cases hi : P.info? t with
  | none => rw [hi] at h; cases h
  | some i => rw [hi] at h; exact ⟨i, rfl, by have := ble h; omega⟩

/-- a pointer that leads to a block that lives, in the world -/
theorem live_row {ρ : Ren} {s : St} {w : World} (h : SR ρ s w) {hd : Hd} {i : Nat} {l : Loc} (hl : ρ.blk hd.A hd.e = some l) (hs : l.stop = hd.stop) (h0 : l.start ≤ i) (h1 : i < hd.stop) {el : TypeId} {n : Nat} {cs : T4 AV} {lo hi : Nat} (hb : s.heap.at_ hd.A = some (.blk el n cs lo hi)) (hlo : lo ≤ hd.e) :
    ∃ c fr, w.heap[l.blk]? = some (.cells c el fr) ∧ c.size = l.size ∧ l.base + (l.stop - l.start) ≤ l.size ∧ LocOK ρ l el cs w := by
  obtain ⟨l', b1, b2, b3, hok⟩ := h.blks _ _ _ _ _ _ hb hd.e hlo (h.top _ _ _ hl _ _ _ _ _ hb)
  obtain rfl : l = l' := Option.some.inj (hl.symm.trans b1)
  obtain ⟨c, fr, d1, _, d2, _, d4, _⟩ := id hok
  exact ⟨c, fr, d1, d2, d4, hok⟩

theorem run_seenAt_row {P : Program} {w : World} {a : Addr} {c : Array Value} {e : TypeId} {fr : Nat × Nat} (h : w.heap[a.block]? = some (.cells c e fr)) : (Conv.seenAt a).run P w = .ok a w := by
  have s1 : w.shape? a.block = some (e, c.size) := by simp [World.shape?, h]
  unfold Conv.seenAt viewAt
  simp [s1]

theorem convUp_sim {P : Program} {ρ : Ren} {s : St} {w : World} (h : SR ρ s w) (src dst t : TypeId) (h1 : P.underlying src = some (.pointer t)) (h2 : P.underlying dst = some .unsafePointer) (ht : hasCells P t = true) (a : AV) (ca : Value) (ha : VR ρ a ca) : Sim P ρ w (convert src dst ca) (convUp a s) := by
  intro v s' hr
  unfold convUp at hr
  split at hr
  · cases hr
    rw [ha.c_inv]
    exact ⟨_, w, by simp [convert, run_underlying' h1, run_underlying' h2, Conv.unsafePointer], Post.here h (.c _)⟩
  · rename_i hd i
    obtain ⟨el, n, cs, lo, hi, hb, hr⟩ := VB_inv hr
    obtain ⟨hlo, hr⟩ := bif_inv hr
    cases hr
    have ha' := ha
    obtain ⟨l, hl, hs, hf, h0, hi1, rfl⟩ := ha.ptr_inv
    obtain ⟨c, fr, d1, d2, d3, _⟩ := live_row h hl hs h0 hi1 hb (ble hlo)
    refine ⟨_, w, ?_, Post.here h ha'⟩
    have s1 : w.shape? l.blk = some (el, c.size) := by simp [World.shape?, d1]
    obtain ⟨inf, i1, i2⟩ := hasCells_some ht
    have hsee := run_seenAt_row (P := P) (w := w) (a := l.at_ i) d1
    have hlt : ¬ ((l.at_ i).off ≥ c.size) := by show ¬ (l.base + (i - l.start) ≥ c.size); omega
    have hlt' : ¬ (c.size ≤ (l.at_ i).off) := hlt
    simp [convert, run_underlying' h1, run_underlying' h2, Conv.unsafePointer, hsee, cellsIn, show (l.at_ i).block = l.blk from rfl, s1, run_sizeOf' i1, i2, hlt']
  · cases hr

theorem convPtr_sim {P : Program} {ρ : Ren} {s : St} {w : World} (h : SR ρ s w) (src dst u : TypeId) (h1 : P.underlying src = some .unsafePointer) (h2 : P.underlying dst = some (.pointer u)) (hu : hasCells P u = true) (a : AV) (ca : Value) (ha : VR ρ a ca) : Sim P ρ w (convert src dst ca) (convPtr P u a s) := by
  intro v s' hr
  unfold convPtr at hr
  split at hr
  · cases hr
    rw [ha.c_inv]
    exact ⟨_, w, by simp [convert, run_underlying' h1, run_underlying' h2, Conv.unsafePointer], Post.here h (.c _)⟩
  · rename_i hd i
    obtain ⟨el, n, cs, lo, hi, hb, hr⟩ := VB_inv hr
    obtain ⟨hlo, hr⟩ := bif_inv hr
    obtain ⟨he, hr⟩ := bif_inv hr
    obtain ⟨hlie, hr⟩ := bif_inv hr
    cases hr
    have ha' := ha
    obtain ⟨l, hl, hs, hf, h0, hi1, rfl⟩ := ha.ptr_inv
    obtain ⟨c, fr, d1, d2, d3, _⟩ := live_row h hl hs h0 hi1 hb (ble hlo)
    refine ⟨_, w, ?_, Post.here h ha'⟩
    have s1 : w.shape? l.blk = some (el, c.size) := by simp [World.shape?, d1]
    have hsee := run_seenAt_row (P := P) (w := w) (a := l.at_ i) d1
    rw [beq he] at hl
    obtain ⟨z1, z2⟩ := h.zero _ _ hl
    have hoff : (l.at_ i).off = i := by show l.base + (i - l.start) = i; omega
    have hvar : (variablesAt (l.at_ i) u 1).run P w = .ok true w := by
      unfold variablesAt
      simp only [Sem.run_bind, run_program, Result.andThen_ok, run_shape, show (l.at_ i).block = l.blk from rfl, s1, Sem.run_pure, hoff]
      rw [liesAt_mono P P.depth el _ (c.size / P.cellsOf el) i u 1 (Nat.div_le_div_right (by omega)) hlie]
    obtain ⟨inf, i1, i2⟩ := hasCells_some hu
    simp [convert, run_underlying' h1, run_underlying' h2, Conv.unsafePointer, hsee, run_sizeOf' i1, hvar]
  · cases hr

/-! ## texts and rows of bytes -/

theorem byteOf1_inv {a : AV} {b : UInt8} (h : byteOf1 a = some b) : a = .i .u8 (.ofNat b.toNat) := by
  unfold byteOf1 at h
  split at h
  · rename_i n
    cases hb : Nat.blt n 256 with
    | false => rw [hb] at h; cases h
    | true =>
      rw [hb] at h
      cases h
      have := blt hb
      simp [Nat.mod_eq_of_lt this]
  · cases h
theorem bytesOfL_inv : ∀ (as : List AV) (l : List UInt8), bytesOfL as = some l → as = byteAVs l
  | [], l, h => by cases h; rfl
  | a :: as, l, h => by
    change Option.rec (motive := fun _ => Option (List UInt8)) none (fun b => Option.rec (motive := fun _ => Option (List UInt8)) none (fun r => some (b :: r)) (bytesOfL as)) (byteOf1 a) = some l at h
    cases hb : byteOf1 a with
    | none => rw [hb] at h; cases h
    | some b =>
      rw [hb] at h
      change Option.rec (motive := fun _ => Option (List UInt8)) none (fun r => some (b :: r)) (bytesOfL as) = some l at h
      cases hr : bytesOfL as with
      | none => rw [hr] at h; cases h
      | some r =>
        rw [hr] at h
        cases h
        rw [byteOf1_inv hb, bytesOfL_inv as r hr]; rfl
theorem byteAVs_inv {ρ : Ren} : ∀ (l : List UInt8) (vs : List Value), VRs ρ (byteAVs l) vs → vs = byteVs l
  | [], vs, h => by cases h; rfl
  | b :: l, vs, h => by
    cases h with
    | cons h hr => rw [h.i_inv, byteAVs_inv l _ hr]; rfl
theorem textOf_inv {s s' : St} {o : Option (List UInt8)} {v : AV} (h : textOf s o = .val v s') : ∃ l, o = some l ∧ v = .s l ∧ s' = s := by
  obtain ⟨l, hl, h⟩ := Opt_inv h
  rw [forceL_eq] at h
  cases h
  exact ⟨l, hl, rfl, rfl⟩

theorem foldl_push : ∀ (l : List UInt8) (acc : ByteArray), (l.map fun b => (b.toNat : Int)).foldl (fun r n => r.push (UInt8.ofNat n.toNat)) acc = ⟨acc.data ++ l.toArray⟩
  | [], acc => by simp
  | b :: l, acc => by
    rw [List.map_cons, List.foldl_cons, foldl_push l]
    simp [ByteArray.push]

theorem asS_form {ρ : Ren} {a : AV} {ca : Value} (ha : VR ρ a ca) {sz : Nat} {s : St} {m : Nat} {l : List AV} (h : sliceCells sz s (asS a) = .some m l) : ∀ t, ca ≠ .string t := by
  intro t
  cases hx : asS a with
  | none => rw [hx] at h; cases h
  | nil => rw [asS_nil hx] at ha; rw [ha.c_inv]; intro x; cases x
  | some hd off len z => rw [asS_some hx] at ha; cases ha <;> (intro x; cases x)

theorem convStr_sim {P : Program} {ρ : Ren} {s : St} {w : World} (h : SR ρ s w) (src dst e : TypeId) (h1 : P.underlying src = some (.slice e)) (he : P.underlying e = some (.int .u8)) (h2 : P.underlying dst = some .string) (a : AV) (ca : Value) (ha : VR ρ a ca) : Sim P ρ w (convert src dst ca) (convStr a s) := by
  intro v s' hr
  unfold convStr convStr1 at hr
  cases hc : sliceCells 1 s (asS a) with
  | none => rw [hc] at hr; cases hr
  | some m news =>
    rw [hc] at hr
    obtain ⟨l, hl, rfl, rfl⟩ := textOf_inv hr
    obtain rfl := bytesOfL_inv _ _ hl
    obtain ⟨vs, hs⟩ := sliceCells_src h ha hc
    obtain rfl := byteAVs_inv _ _ hs.rel
    have hm : m = l.length := by have := hs.len; rw [byteVs_length] at this; omega
    refine ⟨.string ⟨⟨l⟩⟩, w, ?_, Post.here h (.s l)⟩
    rcases hs.form with ⟨rfl, h0⟩ | ⟨b, cap, rfl, hcell⟩ | ⟨l', rfl, _, _⟩
    · have : l = [] := List.eq_nil_of_length_eq_zero (by omega)
      subst this
      rw [run_convert_bytes_string w src dst e _ _ _ h1 he h2]
      rfl
    · rw [run_convert_bytes_string w src dst e _ _ _ h1 he h2]
      have hl := run_loadCells_list (P := P) w b (byteVs l) hcell
      rw [byteVs_length] at hl
      rw [run_bytesToString (P := P) w b m cap (l.map fun b => (b.toNat : Int)) (by rw [hm, hl]; simp [byteVs, Function.comp_def])]
      rw [foldl_push]
      show Result.ok (Value.string ⟨(#[] : Array UInt8) ++ l.toArray⟩) w = _
      simp
    · exact absurd rfl (asS_form ha hc _)

theorem freeze_alloc (w : World) (c : Array Value) (e : TypeId) (n : Nat) : (w.alloc (.cells c e)).freeze ⟨w.heap.size, n, none⟩ 1 = w.alloc (.cells c e (n, n + 1)) := by
  unfold World.freeze World.alloc
  simp only [Nat.succ_ne_zero, if_false]
  congr 1
  apply Array.ext_getElem?
  intro i
  rw [Array.getElem?_modify, Array.getElem?_push, Array.getElem?_push]
  by_cases hi : i = w.heap.size
  · subst hi; simp
  · rw [if_neg (fun x => hi x.symm), if_neg hi, if_neg hi]

theorem convBytes_sim {P : Program} {ρ : Ren} {s : St} {w : World} (h : SR ρ s w) (src dst e : TypeId) (h1 : P.underlying src = some .string) (h2 : P.underlying dst = some (.slice e)) (he : P.underlying e = some (.int .u8)) (a : AV) (ca : Value) (ha : VR ρ a ca) : Sim P ρ w (convert src dst ca) (convBytes e a s) := by
  intro v s' hr0
  obtain ⟨l, hl, hr⟩ := Opt_inv hr0
  clear hr0
  rw [forceN_eq, forceL_eq] at hr
  obtain rfl := asT_some hl
  obtain ⟨a1, a2, a3, rfl, rfl⟩ := aNewRow_inv hr
  have hca : ca = .string ⟨⟨l⟩⟩ := ha.s_inv
  subst hca
  let cap := grownCap w l.length 0 e
  have hge : l.length ≤ cap := grownCap_ge w l.length 0 e
  let row : Array Value := (byteVs l).toArray ++ Array.replicate (cap - l.length) (.int .u8 0)
  have hrow : row.size = cap := by simp [row, byteVs_length]; omega
  have hd := h.drawn (w.drawn + 1)
  have htake : row.toList.take (byteAVs l).length = byteVs l := by
    have : (byteAVs l).length = (byteVs l).length := by rw [byteAVs_length, byteVs_length]
    rw [this]
    simp only [row, Array.toList_append]
    exact List.take_left
  obtain ⟨ρ', r1, r2, r3, r4⟩ := hd.alloc e (byteAVs l) row true (row.size, row.size + 1) (fun i hi x => by have : row.size ≤ i := x.1; omega) (fun x => by cases x) (by rw [byteAVs_length, hrow]; exact hge)
    (by rw [htake]; exact byteAVs_rel ρ l)
  refine ⟨.slice (some ⟨w.heap.size, 0, none⟩) l.length cap, _, ?_, ρ', ⟨r2.le, r2.new⟩, ⟨r3.size, r3.os, r3.output, r3.tape, r3.old⟩, r4, ?_⟩
  · have hdef : (convert src dst (.string ⟨⟨l⟩⟩)).run P w = (Conv.stringToBytes e ⟨⟨l⟩⟩).run P w := by
      simp [convert, run_underlying' h1, run_underlying' h2, run_underlying' he]
    rw [hdef, ← freeze_alloc]
    have hforced : (Question.appendCap l.length 0 e).forced = false := rfl
    have hsz : (⟨⟨l⟩⟩ : ByteArray).size = l.length := rfl
    have hmap : (Array.map (fun b : UInt8 => Value.int .u8 (b.toNat : Int)) ⟨l⟩) = (byteVs l).toArray := by apply Array.toList_inj.1; simp [byteVs]
    have hsh : ∀ x : World, (x.alloc (.cells row e)).shape? x.heap.size = some (e, row.size) := fun x => by unfold World.shape?; rw [heap_alloc_new]
    have hnew : ∀ x : World, (newRow e row).run P x = .ok ⟨x.heap.size, 0, none⟩ (x.alloc (.cells row e)) := fun x => rfl
    unfold Conv.stringToBytes
    simp only [Sem.run_bind, run_choose, hforced, hsz, Bool.false_eq_true, if_false, Result.andThen_ok, hmap]
    have hq : (Question.appendCap l.length 0 e).cut (w.tape w.drawn (.appendCap l.length 0 e)) = cap := rfl
    rw [hq]
    rw [show (byteVs l).toArray ++ Array.replicate (cap - l.length) (Value.int .u8 0) = row from rfl, hnew]
    simp only [Result.andThen_ok, markStringish, Sem.run_bind, run_shape]
    rw [hsh ({ w with drawn := w.drawn + 1 } : World)]
    simp only [Result.andThen_ok, run_freeze, Sem.run_pure]
  · have := VR.sl (ρ := ρ') (h := ⟨s.next, 0, (byteAVs l).length, true⟩) (off := 0) (len := l.length) (sz := 1) (cap := cap) r1 rfl rfl (Nat.le_refl _) (by show 0 + l.length * 1 ≤ (byteAVs l).length; rw [byteAVs_length]; omega) (by omega) hge (by show 0 + (0 - 0) + cap * 1 ≤ row.size; omega)
    exact this

/-! ## functions without a body -/

theorem ext_ne {fn : Func} {e : Array Value → Sem Value} (n : String) (h1 : fn.name = n) (h2 : fn.origin = "") (hn : (Extern.allNextRows.lookup n).isNone = true) (hn0 : (Extern.allNextRows.lookup "").isNone = true) (hg : (Extern.allGenericRows.lookup n).isNone = true)
    (ht : (Extern.allTypedRows.lookup n).isNone = true) (he : Extern.allRows.lookup n = some e) : Extern.findNext fn = none ∧ Extern.find fn = some e := by
  rw [Option.isNone_iff_eq_none] at hn hn0 hg ht
  unfold Extern.findNext Extern.find
  simp [h1, h2, hn, hn0, hg, ht, he]

set_option maxRecDepth 100000 in
theorem next0 : (Extern.allNextRows.lookup "").isNone = true := by kernel_rfl

set_option maxRecDepth 100000 in
theorem ext_same {fn : Func} (h1 : fn.name = "internal/abi.NoEscape") (h2 : fn.origin = "") : Extern.findNext fn = none ∧ Extern.find fn = some Extern.AbiNoEscape.same :=
  ext_ne "internal/abi.NoEscape" h1 h2 (by kernel_rfl) next0 (by kernel_rfl) (by kernel_rfl) (by kernel_rfl)

set_option maxRecDepth 100000 in
theorem ext_noZero {fn : Func} (h1 : fn.name = "internal/bytealg.MakeNoZero") (h2 : fn.origin = "") : Extern.findNext fn = none ∧ Extern.find fn = some (Extern.BytealgMakeNoZero.makeNoZero fn.params fn.resultTypes) := by
  have hn : (Extern.allNextRows.lookup "internal/bytealg.MakeNoZero").isNone = true := by kernel_rfl
  have hn0 := next0
  have hg : (Extern.allGenericRows.lookup "internal/bytealg.MakeNoZero").isNone = true := by kernel_rfl
  have ht : Extern.allTypedRows.lookup "internal/bytealg.MakeNoZero" = some Extern.BytealgMakeNoZero.makeNoZero := by kernel_rfl
  rw [Option.isNone_iff_eq_none] at hn hn0 hg
  unfold Extern.findNext Extern.find
  simp [h1, h2, hn, hn0, hg, ht]

def extGood (x : String × (Array Value → Sem Value)) : Prop := ∀ fn : Func, fn.name = x.1 → fn.origin = "" → Extern.findNext fn = none ∧ Extern.find fn = some x.2

set_option maxRecDepth 100000 in
theorem extTab_good : ∀ x ∈ extTab, extGood x := by
  intro x hx
  unfold extTab at hx
  simp only [List.mem_cons, List.not_mem_nil, or_false] at hx
  rcases hx with rfl | rfl | rfl | rfl | rfl | rfl | rfl
  · exact fun fn h1 h2 => ext_ne "internal/bytealg.IndexByteString" h1 h2 (by kernel_rfl) next0 (by kernel_rfl) (by kernel_rfl) (by kernel_rfl)
  · exact fun fn h1 h2 => ext_ne "internal/bytealg.CountString" h1 h2 (by kernel_rfl) next0 (by kernel_rfl) (by kernel_rfl) (by kernel_rfl)
  · exact fun fn h1 h2 => ext_ne "internal/bytealg.abigen_runtime_cmpstring" h1 h2 (by kernel_rfl) next0 (by kernel_rfl) (by kernel_rfl) (by kernel_rfl)
  · exact fun fn h1 h2 => ext_ne "math.Float64bits" h1 h2 (by kernel_rfl) next0 (by kernel_rfl) (by kernel_rfl) (by kernel_rfl)
  · exact fun fn h1 h2 => ext_ne "math.Float64frombits" h1 h2 (by kernel_rfl) next0 (by kernel_rfl) (by kernel_rfl) (by kernel_rfl)
  · exact fun fn h1 h2 => ext_ne "math.archTrunc" h1 h2 (by kernel_rfl) next0 (by kernel_rfl) (by kernel_rfl) (by kernel_rfl)
  · exact fun fn h1 h2 => ext_ne "math.archFloor" h1 h2 (by kernel_rfl) next0 (by kernel_rfl) (by kernel_rfl) (by kernel_rfl)

theorem lookup_mem {β : Type} (n : String) (e : β) : ∀ (l : List (String × β)), l.lookup n = some e → (n, e) ∈ l
  | [], h => by cases h
  | (m, x) :: l, h => by
    rw [List.lookup_cons] at h
    cases hm : (n == m) with
    | true =>
      rw [hm] at h; cases h
      rw [eq_of_beq hm]; exact List.mem_cons_self
    | false => rw [hm] at h; exact List.mem_cons_of_mem _ (lookup_mem n e l h)

theorem extN_ok (fn : Func) (h2 : fn.origin = "") : match extN fn.name with
    | .same => Extern.findNext fn = none ∧ Extern.find fn = some Extern.AbiNoEscape.same
    | .noZero => Extern.findNext fn = none ∧ Extern.find fn = some (Extern.BytealgMakeNoZero.makeNoZero fn.params fn.resultTypes)
    | .pure e => Extern.findNext fn = none ∧ Extern.find fn = some e
    | .no => True := by
  unfold extN
  cases c1 : (fn.name == "internal/abi.NoEscape") with
  | true => exact ext_same (eq_of_beq c1) h2
  | false =>
    cases c2 : (fn.name == "internal/bytealg.MakeNoZero") with
    | true => exact ext_noZero (eq_of_beq c2) h2
    | false =>
      dsimp only [cond_false]
      cases hl : extTab.lookup fn.name with
      | none => trivial
      | some e => exact extTab_good _ (lookup_mem _ _ _ hl) fn rfl h2

theorem extF_some {P : Program} {g : FuncId} {k : XK} {fn : Func} (h : extF P g = .mk k fn) : P.funcs[g]? = some fn ∧ fn.origin = "" ∧ fn.body.isNone = true ∧ (fn.name == "runtime.NumGoroutine") = false ∧ k = extN fn.name := by
  unfold extF at h
  cases hf : P.funcs[g]? with
  | none => rw [hf] at h; cases h
  | some fn' =>
    rw [hf] at h
    dsimp only at h
    cases hb : ((fn'.origin == "" && fn'.body.isNone) && !(fn'.name == "runtime.NumGoroutine")) with
    | false => rw [hb] at h; cases h
    | true =>
      rw [hb] at h
      cases h
      rw [Bool.and_eq_true, Bool.and_eq_true, Bool.not_eq_true'] at hb
      exact ⟨rfl, eq_of_beq hb.1.1, hb.1.2, hb.2, rfl⟩

theorem repL_one {α : Type} (x : α) : ∀ n, repL n [x] = List.replicate n x
  | 0 => rfl
  | n + 1 => by rw [repL, repL_one x n]; rfl
theorem VRs_us (ρ : Ren) : ∀ (vs : List Value), VRs ρ (List.replicate vs.length .u) vs
  | [] => .nil
  | v :: vs => .cons (.u v) (VRs_us ρ vs)

theorem size_digits : ∀ (n t : Nat) (acc : Array Value), (Extern.BytealgMakeNoZero.digits n t acc).size = acc.size + n
  | 0, _, _ => rfl
  | n + 1, t, acc => by
    rw [Extern.BytealgMakeNoZero.digits, size_digits n]
    simp
    omega

theorem noZero_sim {P : Program} {ρ : Ren} {s : St} {w : World} (h : SR ρ s w) (ps : Array TypeId) (t e : TypeId) (ht : P.underlying t = some (.slice e)) (n : Nat) {v : AV} {s' : St} (hr : noZero1 e n s = .val v s') :
    ∃ cv w', (Extern.BytealgMakeNoZero.makeNoZero ps #[t] #[.int .i64 n]).run P w = .ok cv w' ∧ Post ρ w s' w' fun ρ' => VR ρ' v cv := by
  obtain ⟨hn, hr⟩ := bif_inv hr
  have hn := ble hn
  rw [stNew_eq] at hr
  cases hr
  have hlen : (repL n [AV.u]).length = n := by rw [repL_one]; simp
  let row := Extern.BytealgMakeNoZero.digits (grownCap w n 0 e) ((Question.extern "internal/bytealg.MakeNoZero.bytes" 0).cut (w.tape (w.drawn + 1) (.extern "internal/bytealg.MakeNoZero.bytes" 0))) #[]
  have hge := grownCap_ge w n 0 e
  have hrow : row.size = grownCap w n 0 e := by simp [row, size_digits]
  have hd := (h.drawn (w.drawn + 1)).drawn (w.drawn + 1 + 1)
  obtain ⟨ρ', r1, r2, r3, r4⟩ := hd.alloc e (repL n [.u]) row true (0, 0) (thawed0 _) (fun _ => rfl) (by rw [hlen, hrow]; exact hge)
    (by
      have : (repL n [AV.u]) = List.replicate (row.toList.take n).length .u := by rw [repL_one]; congr 1; simp [hrow]; omega
      rw [hlen]; rw [this]; exact VRs_us ρ _)
  refine ⟨.slice (some ⟨w.heap.size, 0, none⟩) n (grownCap w n 0 e), _, ?_, ρ', ⟨r2.le, r2.new⟩, ⟨r3.size, r3.os, r3.output, r3.tape, r3.old⟩, r4, ?_⟩
  · have hdef : Extern.BytealgMakeNoZero.makeNoZero ps #[t] #[.int .i64 n] =
        (do
          let .slice elem ← underlying t | stuck "bytealg.MakeNoZero: slice type expected"
          if (n : Int) < 0 || (n : Int) > 2 ^ 48 then runtimePanic (.error "makeslice: len out of range")
          let cap ← choose (.appendCap (n : Int).toNat 0 elem)
          askRoom cap
          let bytes ← choose (.extern "internal/bytealg.MakeNoZero.bytes" 0)
          let a ← newRow elem (Extern.BytealgMakeNoZero.digits cap bytes #[])
          pure (.slice (some a) (n : Int).toNat cap)) := rfl
    rw [hdef]
    have h3 : (decide ((n : Int) < 0) || decide ((n : Int) > 2 ^ 48)) = false := by simp; omega
    have hnew : ∀ (x : World) (row : Array Value), (newRow e row).run P x = .ok ⟨x.heap.size, 0, none⟩ (x.alloc (.cells row e)) := fun _ _ => rfl
    have f1 : (Question.appendCap n 0 e).forced = false := rfl
    have f2 : (Question.extern "internal/bytealg.MakeNoZero.bytes" 0).forced = false := rfl
    simp only [Sem.run_bind, run_underlying' ht, Result.andThen_ok, h3, Bool.false_eq_true, if_false, Int.toNat_natCast, run_choose, f1, f2, run_askRoom, hnew, Sem.run_pure]
    rfl
  · have := VR.sl (ρ := ρ') (h := ⟨s.next, 0, (repL n [AV.u]).length, true⟩) (off := 0) (len := n) (sz := 1) (cap := grownCap w n 0 e) r1 rfl rfl (Nat.le_refl _) (by show 0 + n * 1 ≤ (repL n [AV.u]).length; rw [hlen]; omega) (by omega) hge (by show 0 + (0 - 0) + grownCap w n 0 e * 1 ≤ row.size; omega)
    rw [hlen] at this ⊢
    exact this

theorem aExt_sim {P : Program} {ρ : Ren} {s : St} {w : World} (h : SR ρ s w) (g : FuncId) {args : List AV} {cargs : Array Value} (ha : VRs ρ args cargs.toList) {v : AV} {s' : St} (hr : aExt P args s (extF P g) = .val v s') :
    ∃ cv w', (callFunc g cargs).run P w = .ok (.value cv) w' ∧ Post ρ w s' w' fun ρ' => VR ρ' v cv := by
  cases hx : extF P g with
  | no => rw [hx] at hr; cases hr
  | mk k fn =>
    rw [hx] at hr
    obtain ⟨f1, f2, f3, f4, rfl⟩ := extF_some hx
    have hok := extN_ok fn f2
    unfold aExt at hr
    dsimp only at hr
    have main : ∀ e, Extern.findNext fn = none → Extern.find fn = some e → (∃ cv w', (e cargs).run P w = .ok cv w' ∧ Post ρ w s' w' fun ρ' => VR ρ' v cv) → ∃ cv w', (callFunc g cargs).run P w = .ok (.value cv) w' ∧ Post ρ w s' w' fun ρ' => VR ρ' v cv := by
      rintro e e1 e2 ⟨cv, w', e3, e4⟩
      refine ⟨cv, w', ?_, e4⟩
      rw [run_callFunc_extern f1 f4 f3 e1 e2, e3]; rfl
    cases hk : extN fn.name with
    | same =>
      rw [hk] at hr hok
      refine main _ hok.1 hok.2 ?_
      split at hr
      · rename_i x
        cases hr
        obtain ⟨cl⟩ := cargs
        cases ha with
        | cons h1 h2 =>
          cases h2
          exact ⟨_, w, rfl, Post.here h h1⟩
      · cases hr
    | noZero =>
      rw [hk] at hr hok
      refine main _ hok.1 hok.2 ?_
      change noZeroV P fn args s = .val v s' at hr
      unfold noZeroV at hr
      split at hr
      · rename_i x
        cases hz : noZeroT P fn with
        | no => rw [hz] at hr; cases hr
        | some e =>
          rw [hz] at hr
          obtain ⟨k, n, rfl, hr⟩ := OI_inv hr
          obtain ⟨hk64, hr⟩ := bif_inv hr
          obtain rfl := kEq_eq hk64
          cases n with
          | negSucc m => cases hr
          | ofNat n =>
            unfold noZeroT at hz
            split at hz
            · rename_i t htl
              split at hz
              · rename_i e' he'
                cases hz
                obtain ⟨cl⟩ := cargs
                cases ha with
                | cons h1 h2 =>
                  cases h2
                  rw [h1.i_inv]
                  have hrt : fn.resultTypes = #[t] := by apply Array.toList_inj.1; rw [htl]
                  rw [hrt]
                  exact noZero_sim h fn.params t _ he' n hr
              · cases hz
            · cases hz
      · cases hr
    | pure e =>
      rw [hk] at hr hok
      refine main _ hok.1 hok.2 ?_
      change pureV P e args s = .val v s' at hr
      unfold pureV at hr
      split at hr
      · rename_i vs hvs
        have hcl := allV_eq hvs ha
        obtain ⟨cv, rfl, rfl, hrun⟩ := aGen_inv hr
        have hc : cargs = ⟨vs⟩ := Array.toList_inj.1 (by rw [hcl])
        rw [hc]
        exact ⟨cv, w, hrun w, Post.here h (.of ρ cv)⟩
      · cases hr
    | no => rw [hk] at hr; cases hr

/-! ## builtins -/

theorem aCap_sim {P : Program} {ρ : Ren} {s : St} {w : World} (h : SR ρ s w) (ts : Array TypeId) (ty : TypeId) (a : AV) (ca : Value) (ha : VR ρ a ca) : Sim P ρ w (Builtin.cap_ ts ty #[ca]) (aCap a s (lenOf P ts[0]?)) := by
  intro v s' hr
  unfold lenOf at hr
  cases ht : ts[0]? with
  | none => rw [ht] at hr; cases hr
  | some t =>
    rw [ht] at hr
    dsimp only at hr
    cases hu : P.underlying t with
    | none => rw [hu] at hr; cases hr
    | some d =>
      rw [hu] at hr
      cases d with
      | slice e =>
        rcases OS_inv hr with ⟨hd, off, len, sz, rfl, hr3⟩ | ⟨rfl, hr3⟩
        · cases hr3
        · cases hr3
          cases ha
          refine ⟨.int .i64 0, w, ?_, Post.here h (.i _ _)⟩
          simp only [Builtin.cap_, ht, List.getElem?_toArray, List.getElem?_cons_zero, Sem.run_bind, run_underlying' hu, Result.andThen_ok, goInt]
          rfl
      | _ => cases hr

theorem KT_inv {P : Program} {ts : Option TypeId} {F : Nat → OR} {w : List Ev} {v : AV} {s : St} (h : KT.rec (motive := fun _ => OR) F (.no w) (copyOf P ts) = .val v s) : ∃ t e i, ts = some t ∧ P.underlying t = some (.slice e) ∧ P.info? e = some i ∧ F i.size = .val v s := by
  unfold copyOf at h
  cases ts with
  | none => cases h
  | some t =>
    dsimp only at h
    cases hu : P.underlying t with
    | none => rw [hu] at h; cases h
    | some d =>
      rw [hu] at h
      cases d with
      | slice e =>
        dsimp only at h
        cases hi : P.info? e with
        | none => rw [hi] at h; cases h
        | some i => rw [hi] at h; exact ⟨t, e, i, rfl, hu, hi, h⟩
      | _ => cases h

theorem Src.part {P : Program} {w : World} {ρ : Ren} {sz m : Nat} {news : List AV} {cx : Value} {vs : List Value} (h : Src w ρ sz m news cx vs) (hns : ∀ l, cx ≠ .string l) (n : Nat) (hn : n ≤ m) : (Builtin.firstCells sz n cx).run P w = .ok (vs.take (n * sz)).toArray w := by
  rcases h.form with ⟨rfl, rfl⟩ | ⟨a, cap, rfl, hc⟩ | ⟨l, rfl, _, _⟩
  · have : vs = [] := List.eq_nil_of_length_eq_zero (by rw [h.len]; simp)
    subst this
    rw [run_firstCells_none]; simp
  · have hlen := h.len
    have hle : n * sz ≤ m * sz := Nat.mul_le_mul_right _ hn
    exact run_firstCells_some (P := P) w sz n a m cap (vs.take (n * sz)) (by simp; omega) (fun j v hv => by
      rw [List.getElem?_take] at hv
      split at hv
      · exact hc j v hv
      · cases hv)
  · exact absurd rfl (hns _)

theorem aCopy_sim {P : Program} {ρ : Ren} {s : St} {w : World} (h : SR ρ s w) (ts : Array TypeId) (ty : TypeId) (a x : AV) (ca cx : Value) (ha : VR ρ a ca) (hx : VR ρ x cx) : Sim P ρ w (Builtin.copy_ ts ty #[ca, cx]) (aCopy a x s (copyOf P ts[0]?)) := by
  intro v s' hr0
  obtain ⟨t, e, i, ht, g1, g2, hr⟩ := KT_inv hr0
  clear hr0
  cases hsc : sliceCells i.size s (asS x) with
  | none => rw [hsc] at hr; cases hr
  | some m news =>
    rw [hsc] at hr
    obtain ⟨vs, hs⟩ := sliceCells_src h hx hsc
    have hns := asS_form hx hsc
    have hlen := hs.lenOf (P := P)
    rcases OS_inv hr with ⟨hd, off, len, z, rfl, hr1⟩ | ⟨rfl, hr1⟩
    · clear hr
      obtain ⟨hz, hr⟩ := bif_inv hr1
      clear hr1
      have hz := beq hz
      subst hz
      rw [forceN_eq] at hr
      rcases bif2_inv hr with ⟨hn, hr⟩ | ⟨hn, hr⟩
      · cases hr
        have hn := beq hn
        obtain ⟨b, cap, hca⟩ := ha.sl_form
        subst hca
        refine ⟨.int .i64 0, w, ?_, Post.here h (.i _ _)⟩
        have hf := hs.part (P := P) hns 0 (Nat.zero_le _)
        simp only [Nat.zero_mul, List.take_zero] at hf
        simp only [Builtin.copy_, ht, List.getElem?_toArray, List.getElem?_cons_zero, List.getElem?_cons_succ, Sem.run_bind, run_underlying' g1, Result.andThen_ok, hlen, run_sizeOf' g2, hn, hf, Sem.run_pure]
        rfl
      · rw [forceL_eq] at hr
        have hn0 : Nat.min m len ≠ 0 := fun e => by rw [e] at hn; cases hn
        have hpos : 0 < len := by have := Nat.min_le_right m len; have : Nat.min m len ≤ len := this; omega
        unfold copy2 at hr
        cases hst : store1 hd off (news.take (Nat.min m len * i.size)) (some (Nat.min m len * i.size)) s (blkAt s hd.A) with
        | no w1 => rw [hst] at hr; cases hr
        | val v1 s1 =>
          rw [hst] at hr
          cases hr
          obtain ⟨el, n, cs, lo, hi, hb, hst⟩ := VB_inv hst
          obtain ⟨e1, hst⟩ := bif_inv hst
          obtain ⟨e2, hst⟩ := bif_inv hst
          obtain ⟨e3, hst⟩ := bif_inv hst
          obtain ⟨e4, hst⟩ := bif_inv hst
          obtain ⟨e5, hst⟩ := bif_inv hst
          have e1 := beq e1
          have e2 := ble e2
          have e3 := ble e3
          have e4 := beq e4
          unfold store2 at hst
          rw [putLK_eq, stPut_eq] at hst
          cases hst
          obtain ⟨l, cap, hl, hst, hfz, h0, h1, hz, hc, hrr, rfl⟩ := ha.sl_inv hpos
          rw [e1] at hl
          obtain ⟨l', b1, b2, b3, hok⟩ := h.blks _ _ _ _ _ _ hb hi e2 (Nat.le_refl _)
          obtain rfl : l = l' := Option.some.inj (hl.symm.trans b1)
          obtain ⟨c, fr, d1, dth, d2, d3, d4, d5⟩ := id hok
          have hstop := b3 rfl
          have hrel := hs.rel.take (Nat.min m len * i.size)
          have hvl := hrel.length
          have hw := h.write hb e2 hl off h0 (news.take (Nat.min m len * i.size)) (vs.take (Nat.min m len * i.size)) hrel (by omega) c fr d1 ⟨s.heap.put hd.A (.blk el n (putL (news.take (Nat.min m len * i.size)) cs off) hi hi), s.next, s.ds, s.raw⟩ rfl rfl rfl
          refine ⟨.int .i64 (Nat.min m len), _, ?_, ρ, hw.1, hw.2.1, hw.2.2, .i _ _⟩
          have hstore := run_storeCells_fr (P := P) l.blk (l.base + (off - l.start)) el fr (vs.take (Nat.min m len * i.size)) 0 c w d1 dth (by omega) (allOne_one e5 hrel)
          rw [Nat.add_zero] at hstore
          have hf := hs.part (P := P) hns (Nat.min m len) (Nat.min_le_left _ _)
          simp only [Builtin.copy_, ht, List.getElem?_toArray, List.getElem?_cons_zero, List.getElem?_cons_succ, Sem.run_bind, run_underlying' g1, Result.andThen_ok, hlen, run_sizeOf' g2, hf, Sem.run_pure, Loc.at_]
          rw [hstore]
          rfl
    · cases hr1
      cases ha
      refine ⟨.int .i64 0, w, ?_, Post.here h (.i _ _)⟩
      have hf := hs.part (P := P) hns 0 (Nat.zero_le _)
      simp only [Nat.zero_mul, List.take_zero] at hf
      simp only [Builtin.copy_, ht, List.getElem?_toArray, List.getElem?_cons_zero, List.getElem?_cons_succ, Sem.run_bind, run_underlying' g1, Result.andThen_ok, hlen, run_sizeOf' g2, Nat.min_zero, hf, Sem.run_pure]
      rfl

theorem aSliceData_sim {P : Program} {ρ : Ren} {s : St} {w : World} (h : SR ρ s w) (ts : Array TypeId) (ty : TypeId) (a : AV) (ca : Value) (ha : VR ρ a ca) : Sim P ρ w (Builtin.unsafeSliceData_ ts ty #[ca]) (aSliceData a s) := by
  intro v s' hr
  rcases OS_inv hr with ⟨hd, off, len, sz, rfl, hr⟩ | ⟨rfl, hr⟩
  · obtain ⟨e1, hr⟩ := bif_inv hr
    cases hr
    have e1 := ble e1
    obtain ⟨l, cap, hl, hst, hfz, h0, h1, hz, hc, hrr, rfl⟩ := ha.sl_inv (by omega)
    refine ⟨.pointer (some (l.at_ off)), w, Lib.run_unsafeSliceData_row w ts ty _ _ _ (by omega), Post.here h (.ptr hl hst hfz h0 ?_)⟩
    have : 1 * 1 ≤ len * sz := Nat.mul_le_mul e1 hz
    omega
  · cases hr
    cases ha
    exact ⟨.pointer none, w, Lib.run_unsafeSliceData_nil w ts ty _ _, Post.here h (.c _)⟩

theorem PT_inv {P : Program} {ts : Option TypeId} {F : TypeId → OR} {w : List Ev} {v : AV} {s : St} (h : PT.rec (motive := fun _ => OR) F (.no w) (ptrTo P ts) = .val v s) : ∃ t u, ts = some t ∧ P.underlying t = some (.pointer u) ∧ F u = .val v s := by
  unfold ptrTo at h
  cases ts with
  | none => cases h
  | some t =>
    dsimp only at h
    cases hu : P.underlying t with
    | none => rw [hu] at h; cases h
    | some d =>
      rw [hu] at h
      cases d with
      | pointer u => exact ⟨t, u, rfl, hu, h⟩
      | _ => cases h

theorem bytesAt_lies {P : Program} {el u : TypeId} (h : bytesAt P el u = true) (count off n : Nat) (hn : off + n ≤ count) : liesAt P P.depth el (count / P.cellsOf el) off u n = true := by
  unfold bytesAt at h
  rw [Bool.and_eq_true] at h
  have hc := beq h.1
  have hd : P.depth = (2 * (P.types.size + Made.depth) + 1) + 1 := rfl
  have h2 := h.2
  rw [hd] at h2 ⊢
  rw [hc, Nat.div_one]
  unfold liesAt
  rw [Bool.or_eq_true]
  left
  rw [hd]
  unfold rowAt
  simp [hc, Nat.div_one, Nat.mod_one, hn, h2]

theorem aUnsafeString_sim {P : Program} {ρ : Ren} {s : St} {w : World} (h : SR ρ s w) (ts : Array TypeId) (ty : TypeId) (a x : AV) (ca cx : Value) (ha : VR ρ a ca) (hx : VR ρ x cx) : Sim P ρ w (Builtin.unsafeString_ ts ty #[ca, cx]) (aUnsafeString P ts[0]? a x s) := by
  intro v s' hr0
  obtain ⟨t, u, ht, hu, hr1⟩ := PT_inv hr0
  clear hr0
  obtain ⟨k, n, rfl, hr2⟩ := OI_inv hr1
  clear hr1
  obtain ⟨hk, hr⟩ := bif_inv hr2
  clear hr2
  obtain rfl := kEq_eq hk
  cases n with
  | negSucc m => cases hr
  | ofNat n =>
    change unsafeStr0 P u a n s = .val v s' at hr
    rw [hx.i_inv]
    have hmax : IntKind.i64.max = 9223372036854775807 := rfl
    have hdef0 : ∀ p, Builtin.unsafeString_ ts ty #[.pointer p, .int .i64 (Int.ofNat n)] = (do
        let n ← asInt (.int .i64 (Int.ofNat n))
        let some pt := ts[0]? | stuck "unsafe.String: no argument types"
        if n < 0 then runtimePanic (.error "unsafe.String: len out of range")
        if n > IntKind.i64.max then unsupported (.unsafePointer "String: a length above the largest int")
        match p with
        | none =>
          if n = 0 then pure (.string .empty)
          else runtimePanic (.error "unsafe.String: ptr is nil and len is not zero")
        | some a =>
          if n = 0 then pure (.string .empty)
          else if ← variablesAt a (← Go.elemOf pt) n.toNat then do
            let s ← loadBytes a .empty n.toNat
            freeze a n.toNat
            pure (.string s)
          else unsupported (.unsafePointer "String: not so many bytes at ptr")) := fun p => rfl
    have q1 : ¬ ((n : Int) < 0) := by omega
    have hdefN : ∀ hn : n ≤ 9223372036854775807, (Builtin.unsafeString_ ts ty #[.pointer none, .int .i64 (Int.ofNat n)]).run P w = (if (n : Int) = 0 then pure (.string .empty) else runtimePanic (.error "unsafe.String: ptr is nil and len is not zero") : Sem Value).run P w := by
      intro hn
      have q2 : ¬ ((n : Int) > 9223372036854775807) := by omega
      rw [hdef0]
      simp only [asInt, asIntOf, Sem.run_bind, Sem.run_pure, Result.andThen_ok, ht, hmax, Int.ofNat_eq_natCast, q1, q2, if_false]
    have hdef : ∀ a, ∀ hn : n ≤ 9223372036854775807, (Builtin.unsafeString_ ts ty #[.pointer (some a), .int .i64 (Int.ofNat n)]).run P w = (if (n : Int) = 0 then pure (.string .empty)
          else do
            if ← variablesAt a (← Go.elemOf t) (n : Int).toNat then do
              let s ← loadBytes a .empty (n : Int).toNat
              freeze a (n : Int).toNat
              pure (.string s)
            else unsupported (.unsafePointer "String: not so many bytes at ptr") : Sem Value).run P w := by
      intro a hn
      have q2 : ¬ ((n : Int) > 9223372036854775807) := by omega
      rw [hdef0]
      simp only [asInt, asIntOf, Sem.run_bind, Sem.run_pure, Result.andThen_ok, ht, hmax, Int.ofNat_eq_natCast, q1, q2, if_false]
    unfold unsafeStr0 at hr
    split at hr
    · obtain ⟨hn, hr⟩ := bif_inv hr
      cases hr
      have hn := beq hn
      subst hn
      rw [ha.c_inv]
      exact ⟨.string .empty, w, by rw [hdefN (by omega)]; rfl, Post.here h (.s [])⟩
    · rename_i hd i
      have ha' := ha
      obtain ⟨l, hl, hs, hf, h0, h1, rfl⟩ := ha.ptr_inv
      rcases bif2_inv hr with ⟨hn, hr⟩ | ⟨hn, hr⟩
      · cases hr
        have hn := beq hn
        subst hn
        exact ⟨.string .empty, w, by rw [hdef _ (by omega)]; rfl, Post.here h (.s [])⟩
      · obtain ⟨hle, hr⟩ := bif_inv hr
        obtain ⟨el, m, cs, lo, hi, hb, hr⟩ := VB_inv hr
        obtain ⟨hlo, hr⟩ := bif_inv hr
        obtain ⟨hfz, hr⟩ := bif_inv hr
        obtain ⟨hby, hr⟩ := bif_inv hr
        obtain ⟨hst, hr⟩ := bif_inv hr
        obtain ⟨as, hrd, hr⟩ := Opt_inv hr
        obtain ⟨tx, htx, hr⟩ := Opt_inv hr
        unfold frozen1 at hr
        rw [forceL_eq, T4.setK_eq] at hr
        cases hr
        have hst := ble hst
        obtain rfl := bytesOfL_inv _ _ htx
        obtain ⟨c, fr, d1, d2, d3, hok⟩ := live_row h hl hs h0 h1 hb (ble hlo)
        obtain ⟨vs, c1, c2, c3⟩ := hok.reads i n h0 (by omega) _ hrd
        obtain rfl := byteAVs_inv _ _ c2
        have hnl : n = tx.length := by rw [← c1, byteVs_length]
        obtain ⟨k1, k2⟩ := h.kill hl (by rw [hf]; exact hfz) (l.at_ i) rfl n
        refine ⟨.string ⟨⟨tx⟩⟩, w.freeze (l.at_ i) n, ?_, ρ, Ext.refl w ρ, k1, k2, .s tx⟩
        rw [hdef _ (ble hle)]
        have hn0 : ¬ ((n : Int) = 0) := fun e => by
          have : n = 0 := by omega
          rw [this] at hn; cases hn
        have s1 : w.shape? l.blk = some (el, c.size) := by simp [World.shape?, d1]
        have hvar : (variablesAt (l.at_ i) u n).run P w = .ok true w := by
          unfold variablesAt
          simp only [Sem.run_bind, run_program, Result.andThen_ok, run_shape, show (l.at_ i).block = l.blk from rfl, s1, Sem.run_pure]
          rw [bytesAt_lies hby c.size _ n (by show l.base + (i - l.start) + n ≤ c.size; omega)]
        have hload := Lib.run_loadBytes (P := P) w tx (l.at_ i) .empty (fun j y hy => c3 j _ (by unfold byteVs; rw [List.getElem?_map, hy]; rfl))
        rw [← hnl] at hload
        have hel : (Go.elemOf t).run P w = .ok u w := by simp [Go.elemOf, run_underlying' hu]
        simp only [hn0, if_false, Sem.run_bind, hel, Result.andThen_ok, Sem.run_pure, Int.toNat_natCast, hvar, if_true, hload, run_freeze]
        show Result.ok (Value.string ⟨(#[] : Array UInt8) ++ tx.toArray⟩) _ = _
        simp
    · cases hr

/-! ## type assertions -/

theorem zeroV_some {P : Program} {t : TypeId} {z : AV} (h : zeroV P t = some z) : ∃ i v, P.info? t = some i ∧ i.zero = some v ∧ z = ofV v := by
  unfold zeroV at h
  cases hi : P.info? t with
  | none => rw [hi] at h; cases h
  | some i =>
    rw [hi] at h
    dsimp only at h
    cases hz : i.zero with
    | none => rw [hz] at h; cases h
    | some v => rw [hz] at h; cases h; exact ⟨i, v, rfl, hz, rfl⟩

theorem okV_rel {ρ : Ren} {v : AV} {cv : Value} (h : VR ρ v cv) (ok b : Bool) : VR ρ (okV ok v b) (if ok then .tuple #[cv, .bool b] else cv) := by
  cases ok with
  | true => exact .tup (.cons h (.cons (.b b) .nil))
  | false => exact h

theorem fails_inv {P : Program} {t : TypeId} {ok : Bool} {s s' : St} {v : AV} (h : fails P t ok s = .val v s') : ok = true ∧ s' = s ∧ ∃ i z, P.info? t = some i ∧ i.zero = some z ∧ v = .tup [ofV z, .b false] := by
  obtain ⟨h1, h⟩ := bif_inv h
  obtain ⟨z, hz, h⟩ := Opt_inv h
  cases h
  obtain ⟨i, zv, z1, z2, rfl⟩ := zeroV_some hz
  exact ⟨h1, rfl, i, zv, z1, z2, rfl⟩

theorem ifaceOk_some {P : Program} {t : TypeId} (h : ifaceOk P t = true) : ∃ d, P.underlying t = some d ∧ ∀ ms, d ≠ .interface ms := by
  unfold ifaceOk at h
  cases hu : P.underlying t with
  | none => rw [hu] at h; cases h
  | some d =>
    rw [hu] at h
    cases d <;> first | (cases h; done) | exact ⟨_, rfl, fun _ x => by cases x⟩

theorem aTypeAssert_sim {P : Program} {ρ : Ren} {s : St} {w : World} (h : SR ρ s w) (a : AV) (ca : Value) (xt t : TypeId) (ok : Bool) (ha : VR ρ a ca) : Sim P ρ w (Instr.typeAssert ca xt t ok) (aTypeAssert P a t ok s) := by
  intro v s' hr
  unfold aTypeAssert at hr
  split at hr
  · obtain ⟨hu, hr⟩ := bif_inv hr
    obtain ⟨rfl, rfl, i, z, z1, z2, rfl⟩ := fails_inv hr
    obtain ⟨d, hd⟩ := Option.isSome_iff_exists.1 hu
    rw [ha.c_inv]
    refine ⟨.tuple #[z, .bool false], w, ?_, Post.here h (.tup (.cons (.of ρ z) (.cons (.b _) .nil)))⟩
    unfold Instr.typeAssert
    simp only [Sem.run_bind, run_underlying' hd, Result.andThen_ok]
    cases d <;> simp [run_zeroValue' z1 z2]
  · rename_i t' x
    obtain ⟨hi, hr⟩ := bif_inv hr
    obtain ⟨d, hd, hne⟩ := ifaceOk_some hi
    cases ha with
    | ifc hx =>
      rename_i cv
      rcases bif2_inv hr with ⟨he, hr⟩ | ⟨he, hr⟩
      · cases hr
        have he := beq he
        refine ⟨if ok then .tuple #[cv, .bool true] else cv, w, ?_, Post.here h (okV_rel hx ok true)⟩
        unfold Instr.typeAssert
        simp only [Sem.run_bind, run_underlying' hd, Result.andThen_ok]
        cases d <;> first | (exact absurd rfl (hne _)) | (subst he; cases ok <;> simp)
      · obtain ⟨rfl, rfl, i, z, z1, z2, rfl⟩ := fails_inv hr
        have hne' : t' ≠ t := fun e => by rw [e, Nat.beq_refl] at he; cases he
        refine ⟨.tuple #[z, .bool false], w, ?_, Post.here h (.tup (.cons (.of ρ z) (.cons (.b _) .nil)))⟩
        unfold Instr.typeAssert
        simp only [Sem.run_bind, run_underlying' hd, Result.andThen_ok]
        cases d <;> first | (exact absurd rfl (hne _)) | simp [hne', run_zeroValue' z1 z2]
  · cases hr

end Go.Eng
