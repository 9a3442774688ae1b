/-
  What a closed call tells of every world: from nothing told, all that lay there stays as it was.
-/
import Derived.Test.YtalikcnnbfjeiaaGreatDoorEngQ
import Derived.Below
import Derived.KernelRfl
namespace Go.Eng
open Go Go.RowKit
set_option linter.unusedVariables false

/-- nothing is told of any block -/
def Ren.nil : Ren := ⟨fun _ _ => none, fun _ => none⟩
theorem Ren.nil_le (ρ : Ren) : Ren.nil.le ρ := ⟨(fun _ _ _ h => nomatch h), (fun _ _ h => nomatch h)⟩
theorem Ren.nil_free (b : Nat) : Ren.nil.free b := ⟨(fun _ _ _ h _ => nomatch h), (fun _ h => nomatch h)⟩

/-- no memory -/
def St.nil : St := ⟨.e, 0, []⟩
theorem SR.nil (w : World) : SR Ren.nil St.nil w where
  blks := fun A el n cs lo hi h => by rw [show St.nil.heap = .e from rfl, T4.at_e] at h; cases h
  dom := fun _ _ _ h => by cases h
  top := fun _ _ _ h => by cases h
  inj := fun _ _ _ _ _ _ h => by cases h
  objdom := fun _ _ h => by cases h
  objinj := fun _ _ _ h => by cases h
  sep := fun _ _ _ _ _ h => by cases h
  fresh := fun A _ => T4.at_e A
  same := fun _ _ _ _ _ h => by cases h
  rows := fun _ _ _ h => by cases h
  objs := fun m ob h _ => by rw [show St.nil.heap = .e from rfl, T4.at_e] at h; cases h
  zero := fun _ _ h => by cases h

theorem Keeps.below {w w' : World} (h : Keeps Ren.nil w w') : Below w.heap.size w w' :=
  ⟨h.os, h.tape, h.output, h.size, fun k hk => h.old k hk (Ren.nil_free k)⟩

/-- a call from nothing told -/
theorem callAt_top {P : Program} {known : Env} (hk : EnvOK P known) (hmix : P.follows .mixedOrders = true) {n g : Nat} {args : List AV} {v : AV} {s' : St} (h : callAt P known n g args St.nil = .ret v s')
    {cargs : Array Value} (hargs : VRs Ren.nil args cargs.toList) (w : World) : Calls P g cargs w fun e w' => ∃ cv, e = .returned cv ∧ Below w.heap.size w w' ∧ ∃ ρ, VR ρ v cv :=
  ((callAt_ok hk hmix n) g args St.nil v s' h Ren.nil w cargs (SR.nil w) hargs).mono fun e w' ⟨cv, he, hp⟩ =>
    let ⟨ρ, _, e2, _, e4⟩ := hp
    ⟨cv, he, e2.below, ρ, e4⟩

/-- did it answer true? -/
noncomputable def isTrue (r : CR) : Bool := CR.rec (motive := fun _ => Bool) (fun v _ => OB.rec (motive := fun _ => Bool) true false false false (asB v)) (fun _ => false) r
theorem isTrue_ret {r : CR} (h : isTrue r = true) : ∃ s', r = .ret (.b true) s' := by
  cases r with
  | no w => cases h
  | ret v s' =>
    change OB.rec (motive := fun _ => Bool) true false false false (asB v) = true at h
    cases hb : asB v with
    | t => exact ⟨s', by rw [asB_t hb]⟩
    | f => rw [hb] at h; cases h
    | u => rw [hb] at h; cases h
    | no => rw [hb] at h; cases h

theorem callAt_true {P : Program} {known : Env} (hk : EnvOK P known) (hmix : P.follows .mixedOrders = true) {n g : Nat} {args : List AV} (h : isTrue (callAt P known n g args St.nil) = true)
    {cargs : Array Value} (hargs : VRs Ren.nil args cargs.toList) (w : World) : Calls P g cargs w fun e w' => e = .returned (.bool true) ∧ Below w.heap.size w w' := by
  obtain ⟨s', hs⟩ := isTrue_ret h
  refine (callAt_top hk hmix hs hargs w).mono ?_
  rintro e w' ⟨cv, rfl, hb, ρ, hv⟩
  exact ⟨by rw [hv.b_inv], hb⟩

end Go.Eng
