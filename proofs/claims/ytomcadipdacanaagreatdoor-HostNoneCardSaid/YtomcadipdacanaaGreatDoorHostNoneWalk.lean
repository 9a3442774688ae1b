/-
  HostNone: the statement's function tells true, whatever the op, and leaves memory as it was. No conditions.
-/
import Derived.Test.YtomcadipdacanaaGreatDoorEngS
import Derived.Test.YtomcadipdacanaaGreatDoorProg
import Derived.KernelRfl
namespace Go.Proofs.YtomcadipdacanaaGreatDoor.hostNone
open Go.Eng Go.RowKit
set_option linter.unusedVariables false

set_option maxRecDepth 100000 in
theorem awake_told : isTrue (callAt Tryz.prog none_ 100000 9 [] St.nil) = true := by kernel_rfl
theorem awake (w : World) : Calls Tryz.prog 9 #[] w fun e w' => e = .returned (.bool true) ∧ Below w.heap.size w w' := callAt_true (none_ok _) (by kernel_rfl) awake_told .nil w

/-- an op, its kind told by its rest -/
def opA (j : Int) (nm : AV) (a0 a1 : Int) (a2 : List UInt8) (b0 b1 : Int) (b2 : List UInt8) (c0 c1 : Int) (c2 : List UInt8) (x : Option Addr) (ln cp : Nat) (n : Int) (y : Bool) : AV :=
  .agg [.tm 16 j, nm, .i .u8 a0, .i .u64 a1, .s a2, .i .u8 b0, .i .u64 b1, .s b2, .i .u8 c0, .i .u64 c1, .s c2, .c (.slice x ln cp), .i .i64 n, .b y]
/-- the names that Call knows -/
def names : List (List UInt8) := [[108, 101, 110, 103, 116, 104], [115, 114, 97, 110, 100], [115, 117, 98, 115, 116, 114], [105, 110, 100, 101, 120], [109, 97, 116, 99, 104], [115, 112, 114, 105, 110, 116, 102], [114, 97, 110, 100], [116, 111, 108, 111, 119, 101, 114], [116, 111, 117, 112, 112, 101, 114], [105, 110, 116], [99, 108, 111, 115, 101], [115, 121, 115, 116, 101, 109]]
set_option maxRecDepth 100000 in
theorem told_m15 (l : List UInt8) (a0 a1 : Int) (a2 : List UInt8) (b0 b1 : Int) (b2 : List UInt8) (c0 c1 : Int) (c2 : List UInt8) (x : Option Addr) (ln cp : Nat) (n : Int) (y : Bool) :
    isTrue (callAt Tryz.prog (trueEnv 9) 100000 3 [opA (-15) (.s l) a0 a1 a2 b0 b1 b2 c0 c1 c2 x ln cp n y] St.nil) = true := by kernel_rfl
set_option maxRecDepth 100000 in
theorem told_m14 (l : List UInt8) (a0 a1 : Int) (a2 : List UInt8) (b0 b1 : Int) (b2 : List UInt8) (c0 c1 : Int) (c2 : List UInt8) (x : Option Addr) (ln cp : Nat) (n : Int) (y : Bool) :
    isTrue (callAt Tryz.prog (trueEnv 9) 100000 3 [opA (-14) (.s l) a0 a1 a2 b0 b1 b2 c0 c1 c2 x ln cp n y] St.nil) = true := by kernel_rfl
set_option maxRecDepth 100000 in
theorem told_m13 (l : List UInt8) (a0 a1 : Int) (a2 : List UInt8) (b0 b1 : Int) (b2 : List UInt8) (c0 c1 : Int) (c2 : List UInt8) (x : Option Addr) (ln cp : Nat) (n : Int) (y : Bool) :
    isTrue (callAt Tryz.prog (trueEnv 9) 100000 3 [opA (-13) (.s l) a0 a1 a2 b0 b1 b2 c0 c1 c2 x ln cp n y] St.nil) = true := by kernel_rfl
set_option maxRecDepth 100000 in
theorem told_m12 (l : List UInt8) (a0 a1 : Int) (a2 : List UInt8) (b0 b1 : Int) (b2 : List UInt8) (c0 c1 : Int) (c2 : List UInt8) (x : Option Addr) (ln cp : Nat) (n : Int) (y : Bool) :
    isTrue (callAt Tryz.prog (trueEnv 9) 100000 3 [opA (-12) (.s l) a0 a1 a2 b0 b1 b2 c0 c1 c2 x ln cp n y] St.nil) = true := by kernel_rfl
set_option maxRecDepth 100000 in
theorem told_m11 (l : List UInt8) (a0 a1 : Int) (a2 : List UInt8) (b0 b1 : Int) (b2 : List UInt8) (c0 c1 : Int) (c2 : List UInt8) (x : Option Addr) (ln cp : Nat) (n : Int) (y : Bool) :
    isTrue (callAt Tryz.prog (trueEnv 9) 100000 3 [opA (-11) (.s l) a0 a1 a2 b0 b1 b2 c0 c1 c2 x ln cp n y] St.nil) = true := by kernel_rfl
set_option maxRecDepth 100000 in
theorem told_m10 (l : List UInt8) (a0 a1 : Int) (a2 : List UInt8) (b0 b1 : Int) (b2 : List UInt8) (c0 c1 : Int) (c2 : List UInt8) (x : Option Addr) (ln cp : Nat) (n : Int) (y : Bool) :
    isTrue (callAt Tryz.prog (trueEnv 9) 100000 3 [opA (-10) (.s l) a0 a1 a2 b0 b1 b2 c0 c1 c2 x ln cp n y] St.nil) = true := by kernel_rfl
set_option maxRecDepth 100000 in
theorem told_m9 (l : List UInt8) (a0 a1 : Int) (a2 : List UInt8) (b0 b1 : Int) (b2 : List UInt8) (c0 c1 : Int) (c2 : List UInt8) (x : Option Addr) (ln cp : Nat) (n : Int) (y : Bool) :
    isTrue (callAt Tryz.prog (trueEnv 9) 100000 3 [opA (-9) (.s l) a0 a1 a2 b0 b1 b2 c0 c1 c2 x ln cp n y] St.nil) = true := by kernel_rfl
set_option maxRecDepth 100000 in
theorem told_m8 (l : List UInt8) (a0 a1 : Int) (a2 : List UInt8) (b0 b1 : Int) (b2 : List UInt8) (c0 c1 : Int) (c2 : List UInt8) (x : Option Addr) (ln cp : Nat) (n : Int) (y : Bool) :
    isTrue (callAt Tryz.prog (trueEnv 9) 100000 3 [opA (-8) (.s l) a0 a1 a2 b0 b1 b2 c0 c1 c2 x ln cp n y] St.nil) = true := by kernel_rfl
set_option maxRecDepth 100000 in
theorem told_m7 (l : List UInt8) (a0 a1 : Int) (a2 : List UInt8) (b0 b1 : Int) (b2 : List UInt8) (c0 c1 : Int) (c2 : List UInt8) (x : Option Addr) (ln cp : Nat) (n : Int) (y : Bool) :
    isTrue (callAt Tryz.prog (trueEnv 9) 100000 3 [opA (-7) (.s l) a0 a1 a2 b0 b1 b2 c0 c1 c2 x ln cp n y] St.nil) = true := by kernel_rfl
set_option maxRecDepth 100000 in
theorem told_m6 (l : List UInt8) (a0 a1 : Int) (a2 : List UInt8) (b0 b1 : Int) (b2 : List UInt8) (c0 c1 : Int) (c2 : List UInt8) (x : Option Addr) (ln cp : Nat) (n : Int) (y : Bool) :
    isTrue (callAt Tryz.prog (trueEnv 9) 100000 3 [opA (-6) (.s l) a0 a1 a2 b0 b1 b2 c0 c1 c2 x ln cp n y] St.nil) = true := by kernel_rfl
set_option maxRecDepth 100000 in
theorem told_m5 (l : List UInt8) (a0 a1 : Int) (a2 : List UInt8) (b0 b1 : Int) (b2 : List UInt8) (c0 c1 : Int) (c2 : List UInt8) (x : Option Addr) (ln cp : Nat) (n : Int) (y : Bool) :
    isTrue (callAt Tryz.prog (trueEnv 9) 100000 3 [opA (-5) (.s l) a0 a1 a2 b0 b1 b2 c0 c1 c2 x ln cp n y] St.nil) = true := by kernel_rfl
set_option maxRecDepth 100000 in
theorem told_m4_0 (a0 a1 : Int) (a2 : List UInt8) (b0 b1 : Int) (b2 : List UInt8) (c0 c1 : Int) (c2 : List UInt8) (x : Option Addr) (ln cp : Nat) (n : Int) (y : Bool) :
    isTrue (callAt Tryz.prog (trueEnv 9) 100000 3 [opA (-4) (.s [108, 101, 110, 103, 116, 104]) a0 a1 a2 b0 b1 b2 c0 c1 c2 x ln cp n y] St.nil) = true := by kernel_rfl
set_option maxRecDepth 100000 in
theorem told_m4_1 (a0 a1 : Int) (a2 : List UInt8) (b0 b1 : Int) (b2 : List UInt8) (c0 c1 : Int) (c2 : List UInt8) (x : Option Addr) (ln cp : Nat) (n : Int) (y : Bool) :
    isTrue (callAt Tryz.prog (trueEnv 9) 100000 3 [opA (-4) (.s [115, 114, 97, 110, 100]) a0 a1 a2 b0 b1 b2 c0 c1 c2 x ln cp n y] St.nil) = true := by kernel_rfl
set_option maxRecDepth 100000 in
theorem told_m4_2 (a0 a1 : Int) (a2 : List UInt8) (b0 b1 : Int) (b2 : List UInt8) (c0 c1 : Int) (c2 : List UInt8) (x : Option Addr) (ln cp : Nat) (n : Int) (y : Bool) :
    isTrue (callAt Tryz.prog (trueEnv 9) 100000 3 [opA (-4) (.s [115, 117, 98, 115, 116, 114]) a0 a1 a2 b0 b1 b2 c0 c1 c2 x ln cp n y] St.nil) = true := by kernel_rfl
set_option maxRecDepth 100000 in
theorem told_m4_3 (a0 a1 : Int) (a2 : List UInt8) (b0 b1 : Int) (b2 : List UInt8) (c0 c1 : Int) (c2 : List UInt8) (x : Option Addr) (ln cp : Nat) (n : Int) (y : Bool) :
    isTrue (callAt Tryz.prog (trueEnv 9) 100000 3 [opA (-4) (.s [105, 110, 100, 101, 120]) a0 a1 a2 b0 b1 b2 c0 c1 c2 x ln cp n y] St.nil) = true := by kernel_rfl
set_option maxRecDepth 100000 in
theorem told_m4_4 (a0 a1 : Int) (a2 : List UInt8) (b0 b1 : Int) (b2 : List UInt8) (c0 c1 : Int) (c2 : List UInt8) (x : Option Addr) (ln cp : Nat) (n : Int) (y : Bool) :
    isTrue (callAt Tryz.prog (trueEnv 9) 100000 3 [opA (-4) (.s [109, 97, 116, 99, 104]) a0 a1 a2 b0 b1 b2 c0 c1 c2 x ln cp n y] St.nil) = true := by kernel_rfl
set_option maxRecDepth 100000 in
theorem told_m4_5 (a0 a1 : Int) (a2 : List UInt8) (b0 b1 : Int) (b2 : List UInt8) (c0 c1 : Int) (c2 : List UInt8) (x : Option Addr) (ln cp : Nat) (n : Int) (y : Bool) :
    isTrue (callAt Tryz.prog (trueEnv 9) 100000 3 [opA (-4) (.s [115, 112, 114, 105, 110, 116, 102]) a0 a1 a2 b0 b1 b2 c0 c1 c2 x ln cp n y] St.nil) = true := by kernel_rfl
set_option maxRecDepth 100000 in
theorem told_m4_6 (a0 a1 : Int) (a2 : List UInt8) (b0 b1 : Int) (b2 : List UInt8) (c0 c1 : Int) (c2 : List UInt8) (x : Option Addr) (ln cp : Nat) (n : Int) (y : Bool) :
    isTrue (callAt Tryz.prog (trueEnv 9) 100000 3 [opA (-4) (.s [114, 97, 110, 100]) a0 a1 a2 b0 b1 b2 c0 c1 c2 x ln cp n y] St.nil) = true := by kernel_rfl
set_option maxRecDepth 100000 in
theorem told_m4_7 (a0 a1 : Int) (a2 : List UInt8) (b0 b1 : Int) (b2 : List UInt8) (c0 c1 : Int) (c2 : List UInt8) (x : Option Addr) (ln cp : Nat) (n : Int) (y : Bool) :
    isTrue (callAt Tryz.prog (trueEnv 9) 100000 3 [opA (-4) (.s [116, 111, 108, 111, 119, 101, 114]) a0 a1 a2 b0 b1 b2 c0 c1 c2 x ln cp n y] St.nil) = true := by kernel_rfl
set_option maxRecDepth 100000 in
theorem told_m4_8 (a0 a1 : Int) (a2 : List UInt8) (b0 b1 : Int) (b2 : List UInt8) (c0 c1 : Int) (c2 : List UInt8) (x : Option Addr) (ln cp : Nat) (n : Int) (y : Bool) :
    isTrue (callAt Tryz.prog (trueEnv 9) 100000 3 [opA (-4) (.s [116, 111, 117, 112, 112, 101, 114]) a0 a1 a2 b0 b1 b2 c0 c1 c2 x ln cp n y] St.nil) = true := by kernel_rfl
set_option maxRecDepth 100000 in
theorem told_m4_9 (a0 a1 : Int) (a2 : List UInt8) (b0 b1 : Int) (b2 : List UInt8) (c0 c1 : Int) (c2 : List UInt8) (x : Option Addr) (ln cp : Nat) (n : Int) (y : Bool) :
    isTrue (callAt Tryz.prog (trueEnv 9) 100000 3 [opA (-4) (.s [105, 110, 116]) a0 a1 a2 b0 b1 b2 c0 c1 c2 x ln cp n y] St.nil) = true := by kernel_rfl
set_option maxRecDepth 100000 in
theorem told_m4_10 (a0 a1 : Int) (a2 : List UInt8) (b0 b1 : Int) (b2 : List UInt8) (c0 c1 : Int) (c2 : List UInt8) (x : Option Addr) (ln cp : Nat) (n : Int) (y : Bool) :
    isTrue (callAt Tryz.prog (trueEnv 9) 100000 3 [opA (-4) (.s [99, 108, 111, 115, 101]) a0 a1 a2 b0 b1 b2 c0 c1 c2 x ln cp n y] St.nil) = true := by kernel_rfl
set_option maxRecDepth 100000 in
theorem told_m4_11 (a0 a1 : Int) (a2 : List UInt8) (b0 b1 : Int) (b2 : List UInt8) (c0 c1 : Int) (c2 : List UInt8) (x : Option Addr) (ln cp : Nat) (n : Int) (y : Bool) :
    isTrue (callAt Tryz.prog (trueEnv 9) 100000 3 [opA (-4) (.s [115, 121, 115, 116, 101, 109]) a0 a1 a2 b0 b1 b2 c0 c1 c2 x ln cp n y] St.nil) = true := by kernel_rfl
set_option maxRecDepth 100000 in
theorem told_m4_x (a0 a1 : Int) (a2 : List UInt8) (b0 b1 : Int) (b2 : List UInt8) (c0 c1 : Int) (c2 : List UInt8) (x : Option Addr) (ln cp : Nat) (n : Int) (y : Bool) :
    isTrue (callAt Tryz.prog (trueEnv 9) 100000 3 [opA (-4) (.tx names) a0 a1 a2 b0 b1 b2 c0 c1 c2 x ln cp n y] St.nil) = true := by kernel_rfl
set_option maxRecDepth 100000 in
theorem told_m3 (l : List UInt8) (a0 a1 : Int) (a2 : List UInt8) (b0 b1 : Int) (b2 : List UInt8) (c0 c1 : Int) (c2 : List UInt8) (x : Option Addr) (ln cp : Nat) (n : Int) (y : Bool) :
    isTrue (callAt Tryz.prog (trueEnv 9) 100000 3 [opA (-3) (.s l) a0 a1 a2 b0 b1 b2 c0 c1 c2 x ln cp n y] St.nil) = true := by kernel_rfl
set_option maxRecDepth 100000 in
theorem told_m2 (l : List UInt8) (a0 a1 : Int) (a2 : List UInt8) (b0 b1 : Int) (b2 : List UInt8) (c0 c1 : Int) (c2 : List UInt8) (x : Option Addr) (ln cp : Nat) (n : Int) (y : Bool) :
    isTrue (callAt Tryz.prog (trueEnv 9) 100000 3 [opA (-2) (.s l) a0 a1 a2 b0 b1 b2 c0 c1 c2 x ln cp n y] St.nil) = true := by kernel_rfl
set_option maxRecDepth 100000 in
theorem told_m1 (l : List UInt8) (a0 a1 : Int) (a2 : List UInt8) (b0 b1 : Int) (b2 : List UInt8) (c0 c1 : Int) (c2 : List UInt8) (x : Option Addr) (ln cp : Nat) (n : Int) (y : Bool) :
    isTrue (callAt Tryz.prog (trueEnv 9) 100000 3 [opA (-1) (.s l) a0 a1 a2 b0 b1 b2 c0 c1 c2 x ln cp n y] St.nil) = true := by kernel_rfl
set_option maxRecDepth 100000 in
theorem told_0 (l : List UInt8) (a0 a1 : Int) (a2 : List UInt8) (b0 b1 : Int) (b2 : List UInt8) (c0 c1 : Int) (c2 : List UInt8) (x : Option Addr) (ln cp : Nat) (n : Int) (y : Bool) :
    isTrue (callAt Tryz.prog (trueEnv 9) 100000 3 [opA 0 (.s l) a0 a1 a2 b0 b1 b2 c0 c1 c2 x ln cp n y] St.nil) = true := by kernel_rfl
set_option maxRecDepth 100000 in
theorem told_1 (l : List UInt8) (a0 a1 : Int) (a2 : List UInt8) (b0 b1 : Int) (b2 : List UInt8) (c0 c1 : Int) (c2 : List UInt8) (x : Option Addr) (ln cp : Nat) (n : Int) (y : Bool) :
    isTrue (callAt Tryz.prog (trueEnv 9) 100000 3 [opA 1 (.s l) a0 a1 a2 b0 b1 b2 c0 c1 c2 x ln cp n y] St.nil) = true := by kernel_rfl
set_option maxRecDepth 100000 in
theorem told_2 (l : List UInt8) (a0 a1 : Int) (a2 : List UInt8) (b0 b1 : Int) (b2 : List UInt8) (c0 c1 : Int) (c2 : List UInt8) (x : Option Addr) (ln cp : Nat) (n : Int) (y : Bool) :
    isTrue (callAt Tryz.prog (trueEnv 9) 100000 3 [opA 2 (.s l) a0 a1 a2 b0 b1 b2 c0 c1 c2 x ln cp n y] St.nil) = true := by kernel_rfl
set_option maxRecDepth 100000 in
theorem told_3 (l : List UInt8) (a0 a1 : Int) (a2 : List UInt8) (b0 b1 : Int) (b2 : List UInt8) (c0 c1 : Int) (c2 : List UInt8) (x : Option Addr) (ln cp : Nat) (n : Int) (y : Bool) :
    isTrue (callAt Tryz.prog (trueEnv 9) 100000 3 [opA 3 (.s l) a0 a1 a2 b0 b1 b2 c0 c1 c2 x ln cp n y] St.nil) = true := by kernel_rfl
set_option maxRecDepth 100000 in
theorem told_4 (l : List UInt8) (a0 a1 : Int) (a2 : List UInt8) (b0 b1 : Int) (b2 : List UInt8) (c0 c1 : Int) (c2 : List UInt8) (x : Option Addr) (ln cp : Nat) (n : Int) (y : Bool) :
    isTrue (callAt Tryz.prog (trueEnv 9) 100000 3 [opA 4 (.s l) a0 a1 a2 b0 b1 b2 c0 c1 c2 x ln cp n y] St.nil) = true := by kernel_rfl
set_option maxRecDepth 100000 in
theorem told_5 (l : List UInt8) (a0 a1 : Int) (a2 : List UInt8) (b0 b1 : Int) (b2 : List UInt8) (c0 c1 : Int) (c2 : List UInt8) (x : Option Addr) (ln cp : Nat) (n : Int) (y : Bool) :
    isTrue (callAt Tryz.prog (trueEnv 9) 100000 3 [opA 5 (.s l) a0 a1 a2 b0 b1 b2 c0 c1 c2 x ln cp n y] St.nil) = true := by kernel_rfl
set_option maxRecDepth 100000 in
theorem told_6 (l : List UInt8) (a0 a1 : Int) (a2 : List UInt8) (b0 b1 : Int) (b2 : List UInt8) (c0 c1 : Int) (c2 : List UInt8) (x : Option Addr) (ln cp : Nat) (n : Int) (y : Bool) :
    isTrue (callAt Tryz.prog (trueEnv 9) 100000 3 [opA 6 (.s l) a0 a1 a2 b0 b1 b2 c0 c1 c2 x ln cp n y] St.nil) = true := by kernel_rfl
set_option maxRecDepth 100000 in
theorem told_7 (l : List UInt8) (a0 a1 : Int) (a2 : List UInt8) (b0 b1 : Int) (b2 : List UInt8) (c0 c1 : Int) (c2 : List UInt8) (x : Option Addr) (ln cp : Nat) (n : Int) (y : Bool) :
    isTrue (callAt Tryz.prog (trueEnv 9) 100000 3 [opA 7 (.s l) a0 a1 a2 b0 b1 b2 c0 c1 c2 x ln cp n y] St.nil) = true := by kernel_rfl
set_option maxRecDepth 100000 in
theorem told_8 (l : List UInt8) (a0 a1 : Int) (a2 : List UInt8) (b0 b1 : Int) (b2 : List UInt8) (c0 c1 : Int) (c2 : List UInt8) (x : Option Addr) (ln cp : Nat) (n : Int) (y : Bool) :
    isTrue (callAt Tryz.prog (trueEnv 9) 100000 3 [opA 8 (.s l) a0 a1 a2 b0 b1 b2 c0 c1 c2 x ln cp n y] St.nil) = true := by kernel_rfl
set_option maxRecDepth 100000 in
theorem told_9 (l : List UInt8) (a0 a1 : Int) (a2 : List UInt8) (b0 b1 : Int) (b2 : List UInt8) (c0 c1 : Int) (c2 : List UInt8) (x : Option Addr) (ln cp : Nat) (n : Int) (y : Bool) :
    isTrue (callAt Tryz.prog (trueEnv 9) 100000 3 [opA 9 (.s l) a0 a1 a2 b0 b1 b2 c0 c1 c2 x ln cp n y] St.nil) = true := by kernel_rfl
set_option maxRecDepth 100000 in
theorem told_10 (l : List UInt8) (a0 a1 : Int) (a2 : List UInt8) (b0 b1 : Int) (b2 : List UInt8) (c0 c1 : Int) (c2 : List UInt8) (x : Option Addr) (ln cp : Nat) (n : Int) (y : Bool) :
    isTrue (callAt Tryz.prog (trueEnv 9) 100000 3 [opA 10 (.s l) a0 a1 a2 b0 b1 b2 c0 c1 c2 x ln cp n y] St.nil) = true := by kernel_rfl
set_option maxRecDepth 100000 in
theorem told_11 (l : List UInt8) (a0 a1 : Int) (a2 : List UInt8) (b0 b1 : Int) (b2 : List UInt8) (c0 c1 : Int) (c2 : List UInt8) (x : Option Addr) (ln cp : Nat) (n : Int) (y : Bool) :
    isTrue (callAt Tryz.prog (trueEnv 9) 100000 3 [opA 11 (.s l) a0 a1 a2 b0 b1 b2 c0 c1 c2 x ln cp n y] St.nil) = true := by kernel_rfl
set_option maxRecDepth 100000 in
theorem told_12_0 (a0 a1 : Int) (a2 : List UInt8) (b0 b1 : Int) (b2 : List UInt8) (c0 c1 : Int) (c2 : List UInt8) (x : Option Addr) (ln cp : Nat) (n : Int) (y : Bool) :
    isTrue (callAt Tryz.prog (trueEnv 9) 100000 3 [opA 12 (.s [108, 101, 110, 103, 116, 104]) a0 a1 a2 b0 b1 b2 c0 c1 c2 x ln cp n y] St.nil) = true := by kernel_rfl
set_option maxRecDepth 100000 in
theorem told_12_1 (a0 a1 : Int) (a2 : List UInt8) (b0 b1 : Int) (b2 : List UInt8) (c0 c1 : Int) (c2 : List UInt8) (x : Option Addr) (ln cp : Nat) (n : Int) (y : Bool) :
    isTrue (callAt Tryz.prog (trueEnv 9) 100000 3 [opA 12 (.s [115, 114, 97, 110, 100]) a0 a1 a2 b0 b1 b2 c0 c1 c2 x ln cp n y] St.nil) = true := by kernel_rfl
set_option maxRecDepth 100000 in
theorem told_12_2 (a0 a1 : Int) (a2 : List UInt8) (b0 b1 : Int) (b2 : List UInt8) (c0 c1 : Int) (c2 : List UInt8) (x : Option Addr) (ln cp : Nat) (n : Int) (y : Bool) :
    isTrue (callAt Tryz.prog (trueEnv 9) 100000 3 [opA 12 (.s [115, 117, 98, 115, 116, 114]) a0 a1 a2 b0 b1 b2 c0 c1 c2 x ln cp n y] St.nil) = true := by kernel_rfl
set_option maxRecDepth 100000 in
theorem told_12_3 (a0 a1 : Int) (a2 : List UInt8) (b0 b1 : Int) (b2 : List UInt8) (c0 c1 : Int) (c2 : List UInt8) (x : Option Addr) (ln cp : Nat) (n : Int) (y : Bool) :
    isTrue (callAt Tryz.prog (trueEnv 9) 100000 3 [opA 12 (.s [105, 110, 100, 101, 120]) a0 a1 a2 b0 b1 b2 c0 c1 c2 x ln cp n y] St.nil) = true := by kernel_rfl
set_option maxRecDepth 100000 in
theorem told_12_4 (a0 a1 : Int) (a2 : List UInt8) (b0 b1 : Int) (b2 : List UInt8) (c0 c1 : Int) (c2 : List UInt8) (x : Option Addr) (ln cp : Nat) (n : Int) (y : Bool) :
    isTrue (callAt Tryz.prog (trueEnv 9) 100000 3 [opA 12 (.s [109, 97, 116, 99, 104]) a0 a1 a2 b0 b1 b2 c0 c1 c2 x ln cp n y] St.nil) = true := by kernel_rfl
set_option maxRecDepth 100000 in
theorem told_12_5 (a0 a1 : Int) (a2 : List UInt8) (b0 b1 : Int) (b2 : List UInt8) (c0 c1 : Int) (c2 : List UInt8) (x : Option Addr) (ln cp : Nat) (n : Int) (y : Bool) :
    isTrue (callAt Tryz.prog (trueEnv 9) 100000 3 [opA 12 (.s [115, 112, 114, 105, 110, 116, 102]) a0 a1 a2 b0 b1 b2 c0 c1 c2 x ln cp n y] St.nil) = true := by kernel_rfl
set_option maxRecDepth 100000 in
theorem told_12_6 (a0 a1 : Int) (a2 : List UInt8) (b0 b1 : Int) (b2 : List UInt8) (c0 c1 : Int) (c2 : List UInt8) (x : Option Addr) (ln cp : Nat) (n : Int) (y : Bool) :
    isTrue (callAt Tryz.prog (trueEnv 9) 100000 3 [opA 12 (.s [114, 97, 110, 100]) a0 a1 a2 b0 b1 b2 c0 c1 c2 x ln cp n y] St.nil) = true := by kernel_rfl
set_option maxRecDepth 100000 in
theorem told_12_7 (a0 a1 : Int) (a2 : List UInt8) (b0 b1 : Int) (b2 : List UInt8) (c0 c1 : Int) (c2 : List UInt8) (x : Option Addr) (ln cp : Nat) (n : Int) (y : Bool) :
    isTrue (callAt Tryz.prog (trueEnv 9) 100000 3 [opA 12 (.s [116, 111, 108, 111, 119, 101, 114]) a0 a1 a2 b0 b1 b2 c0 c1 c2 x ln cp n y] St.nil) = true := by kernel_rfl
set_option maxRecDepth 100000 in
theorem told_12_8 (a0 a1 : Int) (a2 : List UInt8) (b0 b1 : Int) (b2 : List UInt8) (c0 c1 : Int) (c2 : List UInt8) (x : Option Addr) (ln cp : Nat) (n : Int) (y : Bool) :
    isTrue (callAt Tryz.prog (trueEnv 9) 100000 3 [opA 12 (.s [116, 111, 117, 112, 112, 101, 114]) a0 a1 a2 b0 b1 b2 c0 c1 c2 x ln cp n y] St.nil) = true := by kernel_rfl
set_option maxRecDepth 100000 in
theorem told_12_9 (a0 a1 : Int) (a2 : List UInt8) (b0 b1 : Int) (b2 : List UInt8) (c0 c1 : Int) (c2 : List UInt8) (x : Option Addr) (ln cp : Nat) (n : Int) (y : Bool) :
    isTrue (callAt Tryz.prog (trueEnv 9) 100000 3 [opA 12 (.s [105, 110, 116]) a0 a1 a2 b0 b1 b2 c0 c1 c2 x ln cp n y] St.nil) = true := by kernel_rfl
set_option maxRecDepth 100000 in
theorem told_12_10 (a0 a1 : Int) (a2 : List UInt8) (b0 b1 : Int) (b2 : List UInt8) (c0 c1 : Int) (c2 : List UInt8) (x : Option Addr) (ln cp : Nat) (n : Int) (y : Bool) :
    isTrue (callAt Tryz.prog (trueEnv 9) 100000 3 [opA 12 (.s [99, 108, 111, 115, 101]) a0 a1 a2 b0 b1 b2 c0 c1 c2 x ln cp n y] St.nil) = true := by kernel_rfl
set_option maxRecDepth 100000 in
theorem told_12_11 (a0 a1 : Int) (a2 : List UInt8) (b0 b1 : Int) (b2 : List UInt8) (c0 c1 : Int) (c2 : List UInt8) (x : Option Addr) (ln cp : Nat) (n : Int) (y : Bool) :
    isTrue (callAt Tryz.prog (trueEnv 9) 100000 3 [opA 12 (.s [115, 121, 115, 116, 101, 109]) a0 a1 a2 b0 b1 b2 c0 c1 c2 x ln cp n y] St.nil) = true := by kernel_rfl
set_option maxRecDepth 100000 in
theorem told_12_x (a0 a1 : Int) (a2 : List UInt8) (b0 b1 : Int) (b2 : List UInt8) (c0 c1 : Int) (c2 : List UInt8) (x : Option Addr) (ln cp : Nat) (n : Int) (y : Bool) :
    isTrue (callAt Tryz.prog (trueEnv 9) 100000 3 [opA 12 (.tx names) a0 a1 a2 b0 b1 b2 c0 c1 c2 x ln cp n y] St.nil) = true := by kernel_rfl
set_option maxRecDepth 100000 in
theorem told_13 (l : List UInt8) (a0 a1 : Int) (a2 : List UInt8) (b0 b1 : Int) (b2 : List UInt8) (c0 c1 : Int) (c2 : List UInt8) (x : Option Addr) (ln cp : Nat) (n : Int) (y : Bool) :
    isTrue (callAt Tryz.prog (trueEnv 9) 100000 3 [opA 13 (.s l) a0 a1 a2 b0 b1 b2 c0 c1 c2 x ln cp n y] St.nil) = true := by kernel_rfl
set_option maxRecDepth 100000 in
theorem told_14 (l : List UInt8) (a0 a1 : Int) (a2 : List UInt8) (b0 b1 : Int) (b2 : List UInt8) (c0 c1 : Int) (c2 : List UInt8) (x : Option Addr) (ln cp : Nat) (n : Int) (y : Bool) :
    isTrue (callAt Tryz.prog (trueEnv 9) 100000 3 [opA 14 (.s l) a0 a1 a2 b0 b1 b2 c0 c1 c2 x ln cp n y] St.nil) = true := by kernel_rfl
set_option maxRecDepth 100000 in
theorem told_15 (l : List UInt8) (a0 a1 : Int) (a2 : List UInt8) (b0 b1 : Int) (b2 : List UInt8) (c0 c1 : Int) (c2 : List UInt8) (x : Option Addr) (ln cp : Nat) (n : Int) (y : Bool) :
    isTrue (callAt Tryz.prog (trueEnv 9) 100000 3 [opA 15 (.s l) a0 a1 a2 b0 b1 b2 c0 c1 c2 x ln cp n y] St.nil) = true := by kernel_rfl

theorem walk (k : Int) (l : List UInt8) (a0 a1 : Int) (a2 : ByteArray) (b0 b1 : Int) (b2 : ByteArray) (c0 c1 : Int) (c2 : ByteArray) (x : Option Addr) (ln cp : Nat) (n : Int) (y : Bool) (w : World) :
    Calls Tryz.prog 3 #[.agg #[.int .i64 k, .string ⟨⟨l⟩⟩, .int .u8 a0, .int .u64 a1, .string a2, .int .u8 b0, .int .u64 b1, .string b2, .int .u8 c0, .int .u64 c1, .string c2, .slice x ln cp, .int .i64 n, .bool y]] w fun e w' => e = .returned (.bool true) ∧ Below w.heap.size w w' := by
  have h1 : k.tmod 16 < 16 := Int.tmod_lt_of_pos k (by decide)
  have h2 : -16 < k.tmod 16 := by
    rcases Int.le_total 0 k with h | h
    · have := Int.tmod_nonneg 16 h; omega
    · have := Int.tmod_lt_of_pos (-k) (show (0 : Int) < 16 by decide)
      rw [Int.neg_tmod] at this; omega
  have key : ∀ (j : Int) (nm : AV), isTrue (callAt Tryz.prog (trueEnv 9) 100000 3 [opA j nm a0 a1 a2.data.toList b0 b1 b2.data.toList c0 c1 c2.data.toList x ln cp n y] St.nil) = true → k.tmod 16 = j → VR Ren.nil nm (.string ⟨⟨l⟩⟩) →
      Calls Tryz.prog 3 #[.agg #[.int .i64 k, .string ⟨⟨l⟩⟩, .int .u8 a0, .int .u64 a1, .string a2, .int .u8 b0, .int .u64 b1, .string b2, .int .u8 c0, .int .u64 c1, .string c2, .slice x ln cp, .int .i64 n, .bool y]] w fun e w' => e = .returned (.bool true) ∧ Below w.heap.size w w' := fun j nm h e hn =>
    callAt_true (trueEnv_ok awake) (by kernel_rfl) h (.cons (.agg (.cons (.tm e) (.cons hn (.cons (.i _ _) (.cons (.i _ _) (.cons (.s _) (.cons (.i _ _) (.cons (.i _ _) (.cons (.s _) (.cons (.i _ _) (.cons (.i _ _) (.cons (.s _) (.cons (.c _) (.cons (.i _ _) (.cons (.b _) .nil))))))))))))))) .nil) w
  generalize k.tmod 16 = j at h1 h2 key
  have hj : j = -15 ∨ j = -14 ∨ j = -13 ∨ j = -12 ∨ j = -11 ∨ j = -10 ∨ j = -9 ∨ j = -8 ∨ j = -7 ∨ j = -6 ∨ j = -5 ∨ j = -4 ∨ j = -3 ∨ j = -2 ∨ j = -1 ∨ j = 0 ∨ j = 1 ∨ j = 2 ∨ j = 3 ∨ j = 4 ∨ j = 5 ∨ j = 6 ∨ j = 7 ∨ j = 8 ∨ j = 9 ∨ j = 10 ∨ j = 11 ∨ j = 12 ∨ j = 13 ∨ j = 14 ∨ j = 15 := by omega
  rcases hj with h | h | h | h | h | h | h | h | h | h | h | h | h | h | h | h | h | h | h | h | h | h | h | h | h | h | h | h | h | h | h
  · exact key _ _ (told_m15 l _ _ _ _ _ _ _ _ _ _ _ _ _ _) h (.s _)
  · exact key _ _ (told_m14 l _ _ _ _ _ _ _ _ _ _ _ _ _ _) h (.s _)
  · exact key _ _ (told_m13 l _ _ _ _ _ _ _ _ _ _ _ _ _ _) h (.s _)
  · exact key _ _ (told_m12 l _ _ _ _ _ _ _ _ _ _ _ _ _ _) h (.s _)
  · exact key _ _ (told_m11 l _ _ _ _ _ _ _ _ _ _ _ _ _ _) h (.s _)
  · exact key _ _ (told_m10 l _ _ _ _ _ _ _ _ _ _ _ _ _ _) h (.s _)
  · exact key _ _ (told_m9 l _ _ _ _ _ _ _ _ _ _ _ _ _ _) h (.s _)
  · exact key _ _ (told_m8 l _ _ _ _ _ _ _ _ _ _ _ _ _ _) h (.s _)
  · exact key _ _ (told_m7 l _ _ _ _ _ _ _ _ _ _ _ _ _ _) h (.s _)
  · exact key _ _ (told_m6 l _ _ _ _ _ _ _ _ _ _ _ _ _ _) h (.s _)
  · exact key _ _ (told_m5 l _ _ _ _ _ _ _ _ _ _ _ _ _ _) h (.s _)
  · by_cases hl : l ∈ names
    · simp only [names, List.mem_cons, List.not_mem_nil, or_false] at hl
      rcases hl with e | e | e | e | e | e | e | e | e | e | e | e
      · exact key _ _ (told_m4_0 _ _ _ _ _ _ _ _ _ _ _ _ _ _) h (by rw [e]; exact .s _)
      · exact key _ _ (told_m4_1 _ _ _ _ _ _ _ _ _ _ _ _ _ _) h (by rw [e]; exact .s _)
      · exact key _ _ (told_m4_2 _ _ _ _ _ _ _ _ _ _ _ _ _ _) h (by rw [e]; exact .s _)
      · exact key _ _ (told_m4_3 _ _ _ _ _ _ _ _ _ _ _ _ _ _) h (by rw [e]; exact .s _)
      · exact key _ _ (told_m4_4 _ _ _ _ _ _ _ _ _ _ _ _ _ _) h (by rw [e]; exact .s _)
      · exact key _ _ (told_m4_5 _ _ _ _ _ _ _ _ _ _ _ _ _ _) h (by rw [e]; exact .s _)
      · exact key _ _ (told_m4_6 _ _ _ _ _ _ _ _ _ _ _ _ _ _) h (by rw [e]; exact .s _)
      · exact key _ _ (told_m4_7 _ _ _ _ _ _ _ _ _ _ _ _ _ _) h (by rw [e]; exact .s _)
      · exact key _ _ (told_m4_8 _ _ _ _ _ _ _ _ _ _ _ _ _ _) h (by rw [e]; exact .s _)
      · exact key _ _ (told_m4_9 _ _ _ _ _ _ _ _ _ _ _ _ _ _) h (by rw [e]; exact .s _)
      · exact key _ _ (told_m4_10 _ _ _ _ _ _ _ _ _ _ _ _ _ _) h (by rw [e]; exact .s _)
      · exact key _ _ (told_m4_11 _ _ _ _ _ _ _ _ _ _ _ _ _ _) h (by rw [e]; exact .s _)
    · exact key _ _ (told_m4_x _ _ _ _ _ _ _ _ _ _ _ _ _ _) h (.tx hl)
  · exact key _ _ (told_m3 l _ _ _ _ _ _ _ _ _ _ _ _ _ _) h (.s _)
  · exact key _ _ (told_m2 l _ _ _ _ _ _ _ _ _ _ _ _ _ _) h (.s _)
  · exact key _ _ (told_m1 l _ _ _ _ _ _ _ _ _ _ _ _ _ _) h (.s _)
  · exact key _ _ (told_0 l _ _ _ _ _ _ _ _ _ _ _ _ _ _) h (.s _)
  · exact key _ _ (told_1 l _ _ _ _ _ _ _ _ _ _ _ _ _ _) h (.s _)
  · exact key _ _ (told_2 l _ _ _ _ _ _ _ _ _ _ _ _ _ _) h (.s _)
  · exact key _ _ (told_3 l _ _ _ _ _ _ _ _ _ _ _ _ _ _) h (.s _)
  · exact key _ _ (told_4 l _ _ _ _ _ _ _ _ _ _ _ _ _ _) h (.s _)
  · exact key _ _ (told_5 l _ _ _ _ _ _ _ _ _ _ _ _ _ _) h (.s _)
  · exact key _ _ (told_6 l _ _ _ _ _ _ _ _ _ _ _ _ _ _) h (.s _)
  · exact key _ _ (told_7 l _ _ _ _ _ _ _ _ _ _ _ _ _ _) h (.s _)
  · exact key _ _ (told_8 l _ _ _ _ _ _ _ _ _ _ _ _ _ _) h (.s _)
  · exact key _ _ (told_9 l _ _ _ _ _ _ _ _ _ _ _ _ _ _) h (.s _)
  · exact key _ _ (told_10 l _ _ _ _ _ _ _ _ _ _ _ _ _ _) h (.s _)
  · exact key _ _ (told_11 l _ _ _ _ _ _ _ _ _ _ _ _ _ _) h (.s _)
  · by_cases hl : l ∈ names
    · simp only [names, List.mem_cons, List.not_mem_nil, or_false] at hl
      rcases hl with e | e | e | e | e | e | e | e | e | e | e | e
      · exact key _ _ (told_12_0 _ _ _ _ _ _ _ _ _ _ _ _ _ _) h (by rw [e]; exact .s _)
      · exact key _ _ (told_12_1 _ _ _ _ _ _ _ _ _ _ _ _ _ _) h (by rw [e]; exact .s _)
      · exact key _ _ (told_12_2 _ _ _ _ _ _ _ _ _ _ _ _ _ _) h (by rw [e]; exact .s _)
      · exact key _ _ (told_12_3 _ _ _ _ _ _ _ _ _ _ _ _ _ _) h (by rw [e]; exact .s _)
      · exact key _ _ (told_12_4 _ _ _ _ _ _ _ _ _ _ _ _ _ _) h (by rw [e]; exact .s _)
      · exact key _ _ (told_12_5 _ _ _ _ _ _ _ _ _ _ _ _ _ _) h (by rw [e]; exact .s _)
      · exact key _ _ (told_12_6 _ _ _ _ _ _ _ _ _ _ _ _ _ _) h (by rw [e]; exact .s _)
      · exact key _ _ (told_12_7 _ _ _ _ _ _ _ _ _ _ _ _ _ _) h (by rw [e]; exact .s _)
      · exact key _ _ (told_12_8 _ _ _ _ _ _ _ _ _ _ _ _ _ _) h (by rw [e]; exact .s _)
      · exact key _ _ (told_12_9 _ _ _ _ _ _ _ _ _ _ _ _ _ _) h (by rw [e]; exact .s _)
      · exact key _ _ (told_12_10 _ _ _ _ _ _ _ _ _ _ _ _ _ _) h (by rw [e]; exact .s _)
      · exact key _ _ (told_12_11 _ _ _ _ _ _ _ _ _ _ _ _ _ _) h (by rw [e]; exact .s _)
    · exact key _ _ (told_12_x _ _ _ _ _ _ _ _ _ _ _ _ _ _) h (.tx hl)
  · exact key _ _ (told_13 l _ _ _ _ _ _ _ _ _ _ _ _ _ _) h (.s _)
  · exact key _ _ (told_14 l _ _ _ _ _ _ _ _ _ _ _ _ _ _) h (.s _)
  · exact key _ _ (told_15 l _ _ _ _ _ _ _ _ _ _ _ _ _ _) h (.s _)

end Go.Proofs.YtomcadipdacanaaGreatDoor.hostNone
