/-
  HostNone: the closed cells of its row are what the program forces. No conditions.
-/
import Derived.Test.YtomcadipdacanaaGreatDoorCards
import Derived.JoinedOf
import Derived.KernelRfl
import Derived.ProofKit
namespace Go.Proofs.YtomcadipdacanaaGreatDoor.hostNone
set_option linter.unusedVariables false

theorem and_tt {a b : Bool} (h : a = true) (h' : b = true) : (a && b) = true := by rw [h, h']; rfl
def Part0 (P : Program) (f : FuncId) (fn : Func) (s : ChangeSpec) (c : OpenClaim) : Bool := c.wf (OpenSpec.ofChange s)
def Part1 (P : Program) (f : FuncId) (fn : Func) (s : ChangeSpec) (c : OpenClaim) : Bool := laidOutB P
def Part2 (P : Program) (f : FuncId) (fn : Func) (s : ChangeSpec) (c : OpenClaim) : Bool := mapsRowed P
def Part3 (P : Program) (f : FuncId) (fn : Func) (s : ChangeSpec) (c : OpenClaim) : Bool := fn.params.all (P.readableRec ·)
def Part4 (P : Program) (f : FuncId) (fn : Func) (s : ChangeSpec) (c : OpenClaim) : Bool := namedTie P c.named s.vars
def Part5 (P : Program) (f : FuncId) (fn : Func) (s : ChangeSpec) (c : OpenClaim) : Bool := (c.stops == [])
def Part6 (P : Program) (f : FuncId) (fn : Func) (s : ChangeSpec) (c : OpenClaim) : Bool := (P.stops == [])
def Part7 (P : Program) (f : FuncId) (fn : Func) (s : ChangeSpec) (c : OpenClaim) : Bool := (c.knobs == [])
def Part8 (P : Program) (f : FuncId) (fn : Func) (s : ChangeSpec) (c : OpenClaim) : Bool := (P.stopKnobs == [])
def Part9 (P : Program) (f : FuncId) (fn : Func) (s : ChangeSpec) (c : OpenClaim) : Bool := (c.inPlace == P.inPlace f)
def Part10 (P : Program) (f : FuncId) (fn : Func) (s : ChangeSpec) (c : OpenClaim) : Bool := (c.unfollowed == P.unfollowed f)
def Part11 (P : Program) (f : FuncId) (fn : Func) (s : ChangeSpec) (c : OpenClaim) : Bool := (c.recurses == P.recurses f)
def Part12 (P : Program) (f : FuncId) (fn : Func) (s : ChangeSpec) (c : OpenClaim) : Bool := (c.named == P.varsNamed f)
def Part13 (P : Program) (f : FuncId) (fn : Func) (s : ChangeSpec) (c : OpenClaim) : Bool := (c.maps == (fn.params.toList ++ s.plain.varTypes P).any (P.mapsRec ·))
def Part14 (P : Program) (f : FuncId) (fn : Func) (s : ChangeSpec) (c : OpenClaim) : Bool := (c.ifaces == (fn.params.toList ++ s.plain.varTypes P).any (P.ifacesRec ·))
def Part15 (P : Program) (f : FuncId) (fn : Func) (s : ChangeSpec) (c : OpenClaim) : Bool := (c.mapsOut == P.mapsAmong fn.resultTypes.toList)
def Part16 (P : Program) (f : FuncId) (fn : Func) (s : ChangeSpec) (c : OpenClaim) : Bool := (c.loops == (fn.params.toList ++ s.plain.varTypes P).any (P.loopsFrom ·))
def Part17 (P : Program) (f : FuncId) (fn : Func) (s : ChangeSpec) (c : OpenClaim) : Bool := (c.wideKeys == (fn.params.toList ++ s.plain.varTypes P ++ fn.resultTypes.toList).any (P.wideKeysFrom ·))
def Part18 (P : Program) (f : FuncId) (fn : Func) (s : ChangeSpec) (c : OpenClaim) : Bool := s.vars.all (P.varReadable ·)
def Part19 (P : Program) (f : FuncId) (fn : Func) (s : ChangeSpec) (c : OpenClaim) : Bool := fn.resultTypes.all (fun t => P.readableRec t && decide (t < P.types.size))
def Part20 (P : Program) (f : FuncId) (fn : Func) (s : ChangeSpec) (c : OpenClaim) : Bool := (c.ifacesOut == fn.resultTypes.toList.any (P.ifacesRec ·))
def Part21 (P : Program) (f : FuncId) (fn : Func) (s : ChangeSpec) (c : OpenClaim) : Bool := (c.loopsOut == fn.resultTypes.toList.any (P.loopsFrom ·))
def Part22 (P : Program) (f : FuncId) (fn : Func) (s : ChangeSpec) (c : OpenClaim) : Bool := (c.plainKeys == P.plainKeys)
def Part23 (P : Program) (f : FuncId) (fn : Func) (s : ChangeSpec) (c : OpenClaim) : Bool := c.shortTexts.isNone
def Part24 (P : Program) (f : FuncId) (fn : Func) (s : ChangeSpec) (c : OpenClaim) : Bool := P.stopsHeard
def Part25 (P : Program) (f : FuncId) (fn : Func) (s : ChangeSpec) (c : OpenClaim) : Bool := P.mayEnter
def Part26 (P : Program) (f : FuncId) (fn : Func) (s : ChangeSpec) (c : OpenClaim) : Bool := (c.lifted == P.liftsFinal)
def Part27 (P : Program) (f : FuncId) (fn : Func) (s : ChangeSpec) (c : OpenClaim) : Bool := (P.make == some c.make)
def Part28 (P : Program) (f : FuncId) (fn : Func) (s : ChangeSpec) (c : OpenClaim) : Bool := (c.kinds == (if c.domain.isEmpty then [] else fn.params.toList.map fun t => match P.underlying t with | some (.int k) => some k | _ => none))
def Part29 (P : Program) (f : FuncId) (fn : Func) (s : ChangeSpec) (c : OpenClaim) : Bool := (c.pinned == c.pinnedBy)
def Part30 (P : Program) (f : FuncId) (fn : Func) (s : ChangeSpec) (c : OpenClaim) : Bool := (c.veiled == (fn.params.toList ++ s.plain.varTypes P ++ fn.resultTypes.toList).any (P.veiledRec ·))
def Part31 (P : Program) (f : FuncId) (fn : Func) (s : ChangeSpec) (c : OpenClaim) : Bool := c.veiledFits P fn.params.toList (fn.params.toList ++ s.plain.varTypes P ++ fn.resultTypes.toList)
theorem closed_of (P : Program) (f : FuncId) (fn : Func) (s : ChangeSpec) (c : OpenClaim) (h0 : Part0 P f fn s c = true) (h1 : Part1 P f fn s c = true) (h2 : Part2 P f fn s c = true) (h3 : Part3 P f fn s c = true) (h4 : Part4 P f fn s c = true) (h5 : Part5 P f fn s c = true) (h6 : Part6 P f fn s c = true) (h7 : Part7 P f fn s c = true) (h8 : Part8 P f fn s c = true) (h9 : Part9 P f fn s c = true) (h10 : Part10 P f fn s c = true) (h11 : Part11 P f fn s c = true) (h12 : Part12 P f fn s c = true) (h13 : Part13 P f fn s c = true) (h14 : Part14 P f fn s c = true) (h15 : Part15 P f fn s c = true) (h16 : Part16 P f fn s c = true) (h17 : Part17 P f fn s c = true) (h18 : Part18 P f fn s c = true) (h19 : Part19 P f fn s c = true) (h20 : Part20 P f fn s c = true) (h21 : Part21 P f fn s c = true) (h22 : Part22 P f fn s c = true) (h23 : Part23 P f fn s c = true) (h24 : Part24 P f fn s c = true) (h25 : Part25 P f fn s c = true) (h26 : Part26 P f fn s c = true) (h27 : Part27 P f fn s c = true) (h28 : Part28 P f fn s c = true) (h29 : Part29 P f fn s c = true) (h30 : Part30 P f fn s c = true) (h31 : Part31 P f fn s c = true) : joinedFacts P f fn s c = true := by
  unfold joinedFacts
  unfold Part0 Part1 Part2 Part3 Part4 Part5 Part6 Part7 Part8 Part9 Part10 Part11 Part12 Part13 Part14 Part15 Part16 Part17 Part18 Part19 Part20 Part21 Part22 Part23 Part24 Part25 Part26 Part27 Part28 Part29 Part30 Part31 at *
  exact and_tt (and_tt (and_tt (and_tt (and_tt (and_tt (and_tt (and_tt (and_tt (and_tt (and_tt (and_tt (and_tt (and_tt (and_tt (and_tt (and_tt (and_tt (and_tt (and_tt (and_tt (and_tt (and_tt (and_tt (and_tt (and_tt (and_tt (and_tt (and_tt (and_tt (and_tt (h0) h1) h2) h3) h4) h5) h6) h7) h8) h9) h10) h11) h12) h13) h14) h15) h16) h17) h18) h19) h20) h21) h22) h23) h24) h25) h26) h27) h28) h29) h30) h31
set_option maxRecDepth 100000 in
theorem part0 : Part0 Tryz.prog 3 Tryz.f3 Rows.hostNoneSpec Rows.hostNoneRow = true := by kernel_rfl
set_option maxRecDepth 100000 in
theorem part1 : Part1 Tryz.prog 3 Tryz.f3 Rows.hostNoneSpec Rows.hostNoneRow = true := by kernel_rfl
set_option maxRecDepth 100000 in
theorem part2 : Part2 Tryz.prog 3 Tryz.f3 Rows.hostNoneSpec Rows.hostNoneRow = true := by kernel_rfl
set_option maxRecDepth 100000 in
theorem part3 : Part3 Tryz.prog 3 Tryz.f3 Rows.hostNoneSpec Rows.hostNoneRow = true := by kernel_rfl
set_option maxRecDepth 100000 in
theorem part4 : Part4 Tryz.prog 3 Tryz.f3 Rows.hostNoneSpec Rows.hostNoneRow = true := by kernel_rfl
set_option maxRecDepth 100000 in
theorem part5 : Part5 Tryz.prog 3 Tryz.f3 Rows.hostNoneSpec Rows.hostNoneRow = true := by kernel_rfl
set_option maxRecDepth 100000 in
theorem part6 : Part6 Tryz.prog 3 Tryz.f3 Rows.hostNoneSpec Rows.hostNoneRow = true := by kernel_rfl
set_option maxRecDepth 100000 in
theorem part7 : Part7 Tryz.prog 3 Tryz.f3 Rows.hostNoneSpec Rows.hostNoneRow = true := by kernel_rfl
set_option maxRecDepth 100000 in
theorem part8 : Part8 Tryz.prog 3 Tryz.f3 Rows.hostNoneSpec Rows.hostNoneRow = true := by kernel_rfl
set_option maxRecDepth 100000 in
theorem part9 : Part9 Tryz.prog 3 Tryz.f3 Rows.hostNoneSpec Rows.hostNoneRow = true := by kernel_rfl
set_option maxRecDepth 100000 in
theorem part10 : Part10 Tryz.prog 3 Tryz.f3 Rows.hostNoneSpec Rows.hostNoneRow = true := by kernel_rfl
set_option maxRecDepth 100000 in
theorem part11 : Part11 Tryz.prog 3 Tryz.f3 Rows.hostNoneSpec Rows.hostNoneRow = true := by kernel_rfl
set_option maxRecDepth 100000 in
theorem part12 : Part12 Tryz.prog 3 Tryz.f3 Rows.hostNoneSpec Rows.hostNoneRow = true := by kernel_rfl
set_option maxRecDepth 100000 in
theorem part13 : Part13 Tryz.prog 3 Tryz.f3 Rows.hostNoneSpec Rows.hostNoneRow = true := by kernel_rfl
set_option maxRecDepth 100000 in
theorem part14 : Part14 Tryz.prog 3 Tryz.f3 Rows.hostNoneSpec Rows.hostNoneRow = true := by kernel_rfl
set_option maxRecDepth 100000 in
theorem part15 : Part15 Tryz.prog 3 Tryz.f3 Rows.hostNoneSpec Rows.hostNoneRow = true := by kernel_rfl
set_option maxRecDepth 100000 in
theorem part16 : Part16 Tryz.prog 3 Tryz.f3 Rows.hostNoneSpec Rows.hostNoneRow = true := by kernel_rfl
set_option maxRecDepth 100000 in
theorem part17 : Part17 Tryz.prog 3 Tryz.f3 Rows.hostNoneSpec Rows.hostNoneRow = true := by kernel_rfl
set_option maxRecDepth 100000 in
theorem part18 : Part18 Tryz.prog 3 Tryz.f3 Rows.hostNoneSpec Rows.hostNoneRow = true := by kernel_rfl
set_option maxRecDepth 100000 in
theorem part19 : Part19 Tryz.prog 3 Tryz.f3 Rows.hostNoneSpec Rows.hostNoneRow = true := by kernel_rfl
set_option maxRecDepth 100000 in
theorem part20 : Part20 Tryz.prog 3 Tryz.f3 Rows.hostNoneSpec Rows.hostNoneRow = true := by kernel_rfl
set_option maxRecDepth 100000 in
theorem part21 : Part21 Tryz.prog 3 Tryz.f3 Rows.hostNoneSpec Rows.hostNoneRow = true := by kernel_rfl
set_option maxRecDepth 100000 in
theorem part22 : Part22 Tryz.prog 3 Tryz.f3 Rows.hostNoneSpec Rows.hostNoneRow = true := by kernel_rfl
set_option maxRecDepth 100000 in
theorem part23 : Part23 Tryz.prog 3 Tryz.f3 Rows.hostNoneSpec Rows.hostNoneRow = true := by kernel_rfl
set_option maxRecDepth 100000 in
theorem part24 : Part24 Tryz.prog 3 Tryz.f3 Rows.hostNoneSpec Rows.hostNoneRow = true := by kernel_rfl
set_option maxRecDepth 100000 in
theorem part25 : Part25 Tryz.prog 3 Tryz.f3 Rows.hostNoneSpec Rows.hostNoneRow = true := by kernel_rfl
set_option maxRecDepth 100000 in
theorem part26 : Part26 Tryz.prog 3 Tryz.f3 Rows.hostNoneSpec Rows.hostNoneRow = true := by kernel_rfl
set_option maxRecDepth 100000 in
theorem part27 : Part27 Tryz.prog 3 Tryz.f3 Rows.hostNoneSpec Rows.hostNoneRow = true := by kernel_rfl
set_option maxRecDepth 100000 in
theorem part28 : Part28 Tryz.prog 3 Tryz.f3 Rows.hostNoneSpec Rows.hostNoneRow = true := by kernel_rfl
set_option maxRecDepth 100000 in
theorem part29 : Part29 Tryz.prog 3 Tryz.f3 Rows.hostNoneSpec Rows.hostNoneRow = true := by kernel_rfl
set_option maxRecDepth 100000 in
theorem part30 : Part30 Tryz.prog 3 Tryz.f3 Rows.hostNoneSpec Rows.hostNoneRow = true := by kernel_rfl
set_option maxRecDepth 100000 in
theorem part31 : Part31 Tryz.prog 3 Tryz.f3 Rows.hostNoneSpec Rows.hostNoneRow = true := by kernel_rfl
theorem closed : joinedFacts Tryz.prog 3 Tryz.f3 Rows.hostNoneSpec Rows.hostNoneRow = true := closed_of _ _ _ _ _ part0 part1 part2 part3 part4 part5 part6 part7 part8 part9 part10 part11 part12 part13 part14 part15 part16 part17 part18 part19 part20 part21 part22 part23 part24 part25 part26 part27 part28 part29 part30 part31


end Go.Proofs.YtomcadipdacanaaGreatDoor.hostNone
