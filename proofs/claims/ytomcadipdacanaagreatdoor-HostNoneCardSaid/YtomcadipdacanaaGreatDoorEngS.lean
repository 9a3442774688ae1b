/-
  A law's end: it tells true, and old memory lies as it did.
-/
import Derived.Test.YtomcadipdacanaaGreatDoorEngR
import Derived.Carry
import Derived.WalkKit
import Derived.ProofKit
import Derived.OpenShut
import Derived.Lib.SmallJoins
namespace Go.Eng
open Go Go.RowKit Go.ChangeShapes Go.WideShapes Go.ChangeAt
set_option linter.unusedVariables false

/-- types that can be read -/
def typesOk (P : Program) (ts : List TypeId) : Bool := ts.all fun t => P.readableRec t && decide (t < P.types.size)

theorem below_trodAll {H : Type} {enc : TypeId × Value → H} {P : Program} (hl : laidOutB P = true) {W W' : World} (hb : Below W.heap.size W W') : ∀ {ts : List TypeId} {vs : List Value} {ds : List (DataW H)} {ps : List MemPlace}, typesOk P ts = true →
    DataW.TrodAll enc P W 0 (fun _ => true) true ts vs ds ps → (∀ x ∈ ps, x.block < W.heap.size) → DataW.TrodAll enc P W' 0 (fun b => decide (b < W.heap.size)) true ts vs ds ps
  | [], _, _, _, _, h, _ => by
    obtain ⟨rfl, rfl, rfl⟩ := trodAll_nil h
    exact trodAll_mk0
  | t :: ts, _, _, _, ht, h, hlt => by
    obtain ⟨v, vs1, d, ds1, a, b, rfl, rfl, rfl, h1, h2⟩ := trodAll_cons h
    unfold typesOk at ht
    rw [List.all_cons, Bool.and_eq_true, Bool.and_eq_true] at ht
    exact trodAll_cons_mk (Below.trod hl ht.1.1 (of_decide_eq_true ht.1.2) h1 hb fun x hx => hlt x (by simp [hx])) (below_trodAll hl hb ht.2 h2 fun x hx => hlt x (by simp [hx]))

theorem post_true {H : Type} {enc : TypeId × Value → H} {P : Program} {f : Func} {s : ChangeSpec} {fresh handsOn : Bool} {W W' : World} {args : Array Value} {ds gs : List (DataW H)} {before : List MemPlace} {tb : TypeId}
    (hl : laidOutB P = true) (ht : typesOk P f.params.toList = true) (hW : DataW.Whole enc P f.params.toList s.vars false W args.toList ds gs before) (hv : s.vars = []) (hr : f.resultTypes = #[tb]) (hub : P.underlying tb = some .bool)
    (hfn : ∀ l : List (DataW H), l.length = f.params.size → s.fn H l = { results := [.lit (.bool true)], args := l }) (hb : Below W.heap.size W W') : s.post enc P f false fresh handsOn false W args (.bool true) W' := by
  have hW' := hW
  obtain ⟨p, q, hA, hV, rfl, _, _⟩ := hW
  rw [hv] at hV
  obtain ⟨rfl, rfl⟩ := trodVars_none hV
  have hlen : ∀ {ts : List TypeId} {vs : List Value} {ds : List (DataW H)} {ps : List MemPlace}, DataW.TrodAll enc P W 0 (fun _ => true) true ts vs ds ps → ds.length = ts.length := by
    intro ts
    induction ts with
    | nil => intro vs ds ps h; obtain ⟨rfl, rfl, rfl⟩ := trodAll_nil h; rfl
    | cons t ts ih =>
      intro vs ds ps h
      obtain ⟨v, vs1, d, ds1, a, b, rfl, rfl, rfl, h1, h2⟩ := trodAll_cons h
      simp [ih h2]
  have hd : ds.length = f.params.size := by rw [hlen hA]; simp
  have e := hfn (ds ++ []) (by simpa using hd)
  have hlt : ∀ x ∈ p, x.block < W.heap.size := fun x hx => hW'.lt x (by simpa using hx)
  have er : (Value.bool true).resultList f.resultTypes.size = [.bool true] := by rw [hr]; simp [Value.resultList]
  refine ⟨ds, [], p ++ [], [], p, [], hW', ?_, ?_, ?_, hb.frame _, fun h => by cases h⟩
  · rw [e, er, hr]
    exact trodAll_cons_mk (shut_bool hub _) trodAll_mk0
  · rw [e]
    dsimp only
    rw [List.append_nil]
    exact below_trodAll hl hb ht hA hlt
  · rw [e, hv]
    rfl

/-- memory that lies in a world, told of as it lies, apart -/
noncomputable def St.ofW (W : World) : St := ⟨.e, 0, [], fun b i => W.cell? ⟨b, i, none⟩⟩
theorem SR.ofW (W : World) : SR Ren.nil (St.ofW W) W where
  blks := fun A el n cs lo hi h => by rw [show (St.ofW W).heap = .e from rfl, T4.at_e] at h; cases h
  dom := fun _ _ _ h => by cases h
  top := fun _ _ _ h => by cases h
  inj := fun _ _ _ _ _ _ h => by cases h
  objdom := fun _ _ h => by cases h
  objinj := fun _ _ _ h => by cases h
  sep := fun _ _ _ _ _ h => by cases h
  fresh := fun A _ => T4.at_e A
  same := fun _ _ _ _ _ h => by cases h
  rows := fun _ _ _ h => by cases h
  objs := fun m ob h _ => by rw [show (St.ofW W).heap = .e from rfl, T4.at_e] at h; cases h
  zero := fun _ _ h => by cases h
  stdom := fun _ _ h => by cases h
  raws := fun b i v h => ⟨Ren.nil_free b, h⟩

/-- a call from what lies in a world -/
theorem callAt_ofW {P : Program} {known : Env} (hk : EnvOK P known) (hmix : P.follows .mixedOrders = true) {n g : Nat} {args : List AV} {s' : St} {w : World} (h : callAt P known n g args (St.ofW w) = .ret (.b true) s')
    {cargs : Array Value} (hargs : VRs Ren.nil args cargs.toList) : Calls P g cargs w fun e w' => e = .returned (.bool true) ∧ Below w.heap.size w w' :=
  ((callAt_ok hk hmix n) g args (St.ofW w) _ s' h Ren.nil w cargs (SR.ofW w) hargs).mono fun e w' ⟨cv, he, hp⟩ =>
    let ⟨ρ, _, e2, _, e4⟩ := hp
    ⟨by rw [he, e4.b_inv], e2.below⟩

end Go.Eng
