/-
  What a closed call tells of every world: from nothing told, all that lay there stays as it was.
-/
import Derived.Test.YtomcadipdacanaaGreatDoorEngQ
import Derived.Below
import Derived.KernelRfl
namespace Go.Eng
open Go Go.RowKit
set_option linter.unusedVariables false

theorem Keeps.below {w w' : World} (h : Keeps Ren.nil w w') : Below w.heap.size w w' :=
  ⟨h.os, h.tape, h.output, h.size, fun k hk => h.old k hk (Ren.nil_free k)⟩

/-- a call from nothing told -/
theorem callAt_top {P : Program} {known : Env} (hk : EnvOK P known) (hmix : P.follows .mixedOrders = true) {n g : Nat} {args : List AV} {v : AV} {s' : St} (h : callAt P known n g args St.nil = .ret v s')
    {cargs : Array Value} (hargs : VRs Ren.nil args cargs.toList) (w : World) : Calls P g cargs w fun e w' => ∃ cv, e = .returned cv ∧ Below w.heap.size w w' ∧ ∃ ρ, VR ρ v cv :=
  ((callAt_ok hk hmix n) g args St.nil v s' h Ren.nil w cargs (SR.nil w) hargs).mono fun e w' ⟨cv, he, hp⟩ =>
    let ⟨ρ, _, e2, _, e4⟩ := hp
    ⟨cv, he, e2.below, ρ, e4⟩

/-- did it answer true? -/
noncomputable def isTrue (r : CR) : Bool := CR.rec (motive := fun _ => Bool) (fun v _ => OB.rec (motive := fun _ => Bool) true false false false (asB v)) (fun _ => false) r
theorem isTrue_ret {r : CR} (h : isTrue r = true) : ∃ s', r = .ret (.b true) s' := by
  cases r with
  | no w => cases h
  | ret v s' =>
    change OB.rec (motive := fun _ => Bool) true false false false (asB v) = true at h
    cases hb : asB v with
    | t => exact ⟨s', by rw [asB_t hb]⟩
    | f => rw [hb] at h; cases h
    | u => rw [hb] at h; cases h
    | no => rw [hb] at h; cases h

theorem callAt_true {P : Program} {known : Env} (hk : EnvOK P known) (hmix : P.follows .mixedOrders = true) {n g : Nat} {args : List AV} (h : isTrue (callAt P known n g args St.nil) = true)
    {cargs : Array Value} (hargs : VRs Ren.nil args cargs.toList) (w : World) : Calls P g cargs w fun e w' => e = .returned (.bool true) ∧ Below w.heap.size w w' := by
  obtain ⟨s', hs⟩ := isTrue_ret h
  refine (callAt_top hk hmix hs hargs w).mono ?_
  rintro e w' ⟨cv, rfl, hb, ρ, hv⟩
  exact ⟨by rw [hv.b_inv], hb⟩

/-- a function without parameters that tells true: told ahead -/
noncomputable def trueEnv (g0 : FuncId) : Env := fun g args s => Bool.rec (motive := fun _ => CR) (.no ["unknown"]) (List.rec (motive := fun _ => CR) (.ret (.b true) s) (fun _ _ _ => .no ["unknown"]) args) (Nat.beq g g0)
theorem trueEnv_ok {P : Program} {g0 : FuncId} (h : ∀ w, Calls P g0 #[] w fun e w' => e = .returned (.bool true) ∧ Below w.heap.size w w') : EnvOK P (trueEnv g0) := by
  intro g args s v s' hr ρ w cargs hs hargs
  unfold trueEnv at hr
  cases hg : Nat.beq g g0 with
  | false => rw [hg] at hr; cases hr
  | true =>
    rw [hg] at hr
    obtain rfl := Nat.eq_of_beq_eq_true hg
    cases args with
    | cons x l => cases hr
    | nil =>
      cases hr
      have hc : cargs = #[] := by
        have := hargs.length
        exact Array.eq_empty_of_size_eq_zero (by simpa using this)
      subst hc
      refine (h w).mono ?_
      rintro e w' ⟨rfl, hb⟩
      exact ⟨.bool true, rfl, ρ, Ext.refl w ρ, ⟨hb.size, hb.os, hb.output, hb.tape, fun b hb' _ => hb.block b hb'⟩, hs.more hb.size fun b hb' => hb.block b hb', .b true⟩

end Go.Eng
