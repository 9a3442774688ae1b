/-
  HostNone: missing hosts and worlds are refused and tell nothing, whatever the op; the statement's card, proved. Conditions: the card's own (the listed tables read as the row says).
-/
import Derived.Test.YtomcadipdacanaaGreatDoorHostNoneWalk
import Derived.Test.YtomcadipdacanaaGreatDoorHostNoneClosed
import Derived.Test.YtomcadipdacanaaGreatDoorHostNoneFacts
import Derived.Test.YtomcadipdacanaaGreatDoorCards
import Derived.Test.YtomcadipdacanaaGreatDoorTie
import Derived.WalkKit
import Derived.ProofKit
import Derived.OpenShut
import Derived.LaidMore
import Derived.Lay
import Derived.SevenTiedAt
import Derived.Stop.Joined
import Derived.Lib.SmallJoins
namespace Go.Proofs.YtomcadipdacanaaGreatDoor.hostNone
open Go.ChangeShapes Go.WideShapes Go.ChangeAt Go.RowKit Go.ChangeMaps Go.Joins Go.Deep Go.Eng
set_option linter.unusedVariables false

theorem own : ownKnob Tryz.prog.godebug = none := by kernel_rfl
theorem laidOut : laidOutB Tryz.prog = true := by kernel_rfl

theorem c3 : Tryz.prog.cellsOf 3 = 1 := by kernel_rfl
theorem c4 : Tryz.prog.cellsOf 4 = 1 := by kernel_rfl
theorem c9 : Tryz.prog.cellsOf 9 = 1 := by kernel_rfl
theorem c22 : Tryz.prog.cellsOf 22 = 1 := by kernel_rfl
theorem c23 : Tryz.prog.cellsOf 23 = 1 := by kernel_rfl
theorem c25 : Tryz.prog.cellsOf 25 = 3 := by kernel_rfl
theorem c26 : Tryz.prog.cellsOf 26 = 1 := by kernel_rfl
theorem c28 : Tryz.prog.cellsOf 28 = 14 := by kernel_rfl

theorem array14 {α : Type} {cs : Array α} (h : cs.size = 14) : ∃ a b c d e f g i j k l m n o, cs = #[a, b, c, d, e, f, g, i, j, k, l, m, n, o] := by
  obtain ⟨l⟩ := cs
  match l, h with
  | [a, b, c, d, e, f, g, i, j, k, l, m, n, o], _ => exact ⟨a, b, c, d, e, f, g, i, j, k, l, m, n, o, rfl⟩

section
variable {H : Type} {enc : TypeId × Value → H} {w : World} {base : Nat} {spare : Nat → Bool} {held : Bool} {fuel : Nat}

theorem cell_form {a b c : Value} {y : DataW H × List MemPlace} (h : DataW.trod enc Tryz.prog w base spare held fuel 25 [a, b, c] = some y) : ∃ k n s, a = .int .u8 k ∧ b = .int .u64 n ∧ c = .string s := by
  obtain ⟨xs, n, _, _, _, hlen, hf⟩ := DataW.trod_struct Tryz.underlying25 h
  match xs, hlen with
  | [y0, y1, y2], _ =>
    have k0 := hf 0 { name := "Kind", type := 22, offset := 0, embedded := false, tag := "", pkgPath := "", byteOffset := 0 } rfl
    have k1 := hf 1 { name := "N", type := 23, offset := 1, embedded := false, tag := "", pkgPath := "", byteOffset := 8 } rfl
    have k2 := hf 2 { name := "S", type := 9, offset := 2, embedded := false, tag := "", pkgPath := "", byteOffset := 16 } rfl
    dsimp only at k0
    rw [c22] at k0
    dsimp only at k1
    rw [c23] at k1
    dsimp only at k2
    rw [c9] at k2
    obtain ⟨k, e0, _, _⟩ := DataW.trod_int Tryz.underlying22 k0
    obtain ⟨m, e1, _, _⟩ := DataW.trod_int Tryz.underlying23 k1
    obtain ⟨s, e2, _, _⟩ := DataW.trod_string Tryz.underlying9 k2
    exact ⟨k, m, s, List.head_eq_of_cons_eq e0, List.head_eq_of_cons_eq e1, List.head_eq_of_cons_eq e2⟩

set_option maxRecDepth 100000 in
theorem op_form {v : Value} {d : DataW H} {p : List MemPlace} {r : Reach} {b0 : Nat} (hv : Value.okWide Tryz.prog w r b0 28 v) (h : DataW.Trod enc Tryz.prog w base spare held 28 v d p) :
    ∃ k l a0 a1 a2 b0 b1 b2 c0 c1 c2 x ln cp n y, v = .agg #[.int .i64 k, .string ⟨⟨l⟩⟩, .int .u8 a0, .int .u64 a1, .string a2, .int .u8 b0, .int .u64 b1, .string b2, .int .u8 c0, .int .u64 c1, .string c2, .slice x ln cp, .int .i64 n, .bool y] := by
  obtain ⟨cs, rfl, hsz⟩ := okWide_struct Tryz.underlying28 hv
  obtain ⟨v0, v1, v2, v3, v4, v5, v6, v7, v8, v9, v10, v11, v12, v13, rfl⟩ := array14 (hsz.trans c28)
  obtain ⟨fuel, hf0⟩ := h
  obtain ⟨xs, n, _, _, _, hlen, hf⟩ := DataW.trod_struct Tryz.underlying28 hf0
  match xs, hlen with
  | [y0, y1, y2, y3, y4, y5, y6, y7], _ =>
    have k0 := hf 0 { name := "Kind", type := 3, offset := 0, embedded := false, tag := "", pkgPath := "", byteOffset := 0 } rfl
    have k1 := hf 1 { name := "Name", type := 9, offset := 1, embedded := false, tag := "", pkgPath := "", byteOffset := 8 } rfl
    have k2 := hf 2 { name := "A", type := 25, offset := 2, embedded := false, tag := "", pkgPath := "", byteOffset := 24 } rfl
    have k3 := hf 3 { name := "B", type := 25, offset := 5, embedded := false, tag := "", pkgPath := "", byteOffset := 56 } rfl
    have k4 := hf 4 { name := "C", type := 25, offset := 8, embedded := false, tag := "", pkgPath := "", byteOffset := 88 } rfl
    have k5 := hf 5 { name := "L", type := 26, offset := 11, embedded := false, tag := "", pkgPath := "", byteOffset := 120 } rfl
    have k6 := hf 6 { name := "N", type := 3, offset := 12, embedded := false, tag := "", pkgPath := "", byteOffset := 144 } rfl
    have k7 := hf 7 { name := "Yes", type := 4, offset := 13, embedded := false, tag := "", pkgPath := "", byteOffset := 152 } rfl
    dsimp only at k0 k6
    rw [c3] at k0 k6
    dsimp only at k1
    rw [c9] at k1
    dsimp only at k2 k3 k4
    rw [c25] at k2 k3 k4
    dsimp only at k5
    rw [c26] at k5
    dsimp only at k7
    rw [c4] at k7
    obtain ⟨q0, e0, _, _⟩ := DataW.trod_int Tryz.underlying3 k0
    obtain ⟨q1, e1, _, _⟩ := DataW.trod_string Tryz.underlying9 k1
    obtain ⟨a0, a1, a2, rfl, rfl, rfl⟩ := cell_form k2
    obtain ⟨b0, b1, b2, rfl, rfl, rfl⟩ := cell_form k3
    obtain ⟨c0, c1, c2, rfl, rfl, rfl⟩ := cell_form k4
    obtain ⟨x, ln, cp, e5⟩ := slice_form Tryz.underlying26 k5
    obtain ⟨q6, e6, _, _⟩ := DataW.trod_int Tryz.underlying3 k6
    obtain ⟨q7, e7, _⟩ := DataW.trod_bool Tryz.underlying4 k7
    obtain rfl := List.head_eq_of_cons_eq e0
    obtain rfl := List.head_eq_of_cons_eq e1
    obtain rfl := List.head_eq_of_cons_eq e5
    obtain rfl := List.head_eq_of_cons_eq e6
    obtain rfl := List.head_eq_of_cons_eq e7
    obtain ⟨⟨q1⟩⟩ := q1
    exact ⟨_, _, _, _, _, _, _, _, _, _, _, _, _, _, _, _, rfl⟩
end

set_option maxRecDepth 100000 in
theorem contract (H : Type) (enc : TypeId × Value → H) (W : World) (base : Nat) (args : Array Value) (ds gs : List (DataW H)) (before : List MemPlace)
    (hval : ∀ (j : Nat) t v, Tryz.f3.params[j]? = some t → args[j]? = some v → Value.okWide Tryz.prog W .any base t v)
    (hW : DataW.Whole enc Tryz.prog Tryz.f3.params.toList Rows.hostNoneSpec.vars false W args.toList ds gs before) :
    Calls Tryz.prog 3 args W fun e W' => ∃ v, e = .returned v ∧ Rows.hostNoneSpec.post enc Tryz.prog Tryz.f3 false true false false W args v W' := by
  have hW' := hW
  obtain ⟨p, q, hA0, hV, rfl, hfz, hnd⟩ := hW
  have hA : DataW.TrodAll enc Tryz.prog W 0 (fun _ => true) true Tryz.f3.params.toList args.toList ds p := hA0
  rw [Tryz.params3] at hA hval
  obtain ⟨v0, vs0, d0, ds0, p0, q0, hargs, rfl, rfl, h0, r0⟩ := trodAll_cons hA
  obtain ⟨rfl, rfl, rfl⟩ := trodAll_nil r0
  obtain rfl : args = #[v0] := by cases args; simp_all
  obtain ⟨k, l, a0, a1, a2, b0, b1, b2, c0, c1, c2, x, ln, cp, n, y, rfl⟩ := op_form (hval 0 28 v0 rfl rfl) h0
  clear hA0
  refine (walk k l a0 a1 a2 b0 b1 b2 c0 c1 c2 x ln cp n y W).mono fun e W' ⟨he, hb⟩ => ?_
  subst he
  exact ⟨_, rfl, post_true laidOut (by kernel_rfl) hW' rfl rfl Tryz.underlying4 (fun l hl => match l, hl with | [d], _ => rfl) hb⟩

def wArgs : Array Value := #[.agg #[.int .i64 0, .string ⟨#[]⟩, .int .u8 0, .int .u64 0, .string ⟨#[]⟩, .int .u8 0, .int .u64 0, .string ⟨#[]⟩, .int .u8 0, .int .u64 0, .string ⟨#[]⟩, .slice none 0 0, .int .i64 0, .bool false]]

set_option maxRecDepth 100000 in
theorem shaped (os : Os) : ((World.laidAll Tryz.prog os Rows.hostNoneRow.laid).forCall (fun _ _ => 0) ⟨#[], wArgs, []⟩).Shaped Tryz.prog := World.shaped_of_ZipB (by kernel_rfl) (by kernel_rfl)
set_option maxRecDepth 100000 in
theorem laid_met (os : Os) : laidMetH Tryz.prog Rows.hostNoneRow.laid ((World.laidAll Tryz.prog os Rows.hostNoneRow.laid).forCall (fun _ _ => 0) ⟨#[], wArgs, []⟩).memory := by
  rw [MakeChecks.laidMetH_plain _ _ _ (by kernel_rfl)]
  exact laidMet_laidAll _ (by kernel_rfl) (by kernel_rfl)

set_option maxRecDepth 100000 in
theorem lifted (os : Os) (started : os.Started) (H : Type) (enc : TypeId × Value → H) :
    ReturnsInHanded {} Tryz.checked os 3 .any (fun w args => (Rows.hostNoneSpec.pre enc Tryz.prog Tryz.f3 Rows.hostNoneRow.domain false w args ∧ laidMetH Tryz.prog Rows.hostNoneRow.laid w) ∧ sizedMet enc Tryz.prog Tryz.f3 (OpenSpec.ofChange Rows.hostNoneSpec) false w args)
      (Rows.hostNoneSpec.post enc Tryz.prog Tryz.f3 false true false false) := by
  refine returnsInHanded_of_change_and (C := Tryz.checked) (X := fun w _ => laidMetH Tryz.prog Rows.hostNoneRow.laid w) (fun _ _ _ hh h => h.of_heap hh) own started (by kernel_rfl) Tryz.func3
    (ChangeSpec.witness_shaped (enc := enc) (C := Tryz.checked) (os := os) (X := fun w _ => laidMetH Tryz.prog Rows.hostNoneRow.laid w) false (World.laidAll Tryz.prog os Rows.hostNoneRow.laid) wArgs 8 (World.laidAll_os _ _ _)
      (shaped os) (by kernel_rfl) (by kernel_rfl) (by kernel_rfl) (laid_met os)) ?_
  intro W base args ds gs before hval0 hW _ _ _ _
  exact contract H enc W base args ds gs before hval0 hW

theorem said : Rows.HostNoneSaid :=
  OpenClaim.holds_of_wide 3 Tryz.f3 rfl rfl rfl rfl rfl rfl rfl ⟨rfl, rfl, rfl, rfl, rfl⟩ rfl rfl rfl rfl rfl (by kernel_rfl) Tryz.func3 closed
    (of_decide_eq_true (by kernel_rfl)) (by unfold Func.isWrapper; first | (rw [if_pos (by decide +kernel)]; kernel_rfl) | (rw [if_neg (by decide +kernel)]; exact ⟨rfl, rfl⟩))
    (fun os started H enc _ => lifted os started H enc)

theorem plain (f : FuncId) (fn : Func) (hf : Tryz.pinned.checked.prog.funcNamed "winnower/winnowerlaw17.HostNone" = some f) (hfn : Tryz.pinned.checked.prog.funcs[f]? = some fn) :
    true = Tryz.pinned.checked.prog.looks [] ∧ ∀ (j : Nat) t, fn.params[j]? = some t → Tryz.pinned.checked.prog.wantsStandIn t = false := by
  obtain rfl : f = 3 := Option.some.inj ((show Tryz.prog.funcNamed "winnower/winnowerlaw17.HostNone" = some 3 by kernel_rfl).symm.trans hf) |>.symm
  obtain rfl : fn = Tryz.f3 := (Option.some.inj (Tryz.func3.symm.trans hfn)).symm
  refine ⟨looksT, fun j t ht => ?_⟩
  rw [Tryz.params3] at ht
  have hm : t ∈ [28] := by simpa using Array.mem_of_getElem? ht
  have hall : ([28].all fun u => !Tryz.prog.wantsStandIn u) = true := by kernel_rfl
  exact (show Tryz.prog.wantsStandIn t = false by simpa using List.all_eq_true.1 hall t hm)

theorem proved : Rows.HostNoneCardSaid :=
  Claim7.holds_tied_plain_at .later [] _ _ _ _ said (fun _ h => by cases h) wfT (fun _ h => by cases h) hostNone_row_tie rfl ⟨rfl, rfl⟩ mainT rfl plain goesT

end Go.Proofs.YtomcadipdacanaaGreatDoor.hostNone
