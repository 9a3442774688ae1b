/-
  The abstract heap of the engine, and how it stands to a world of the model: values, blocks, epochs; what a step keeps.
-/
import GoSem.Dispatch
import Derived.MapKept
import Derived.Test.YtomcadipdacanaaGreatDoorEngA
namespace Go.Eng
open Go

/-- an abstract block as it is held by a value: its number, its epoch (how often it was appended to), how many cells it has then -/
structure Hd where
  A : Nat
  e : Nat
  stop : Nat
  fz : Bool

/-- abstract values: `c v` is a value of the model as it is; the others bear abstract blocks -/
inductive AV where
  | i (k : IntKind) (n : Int)
  | b (b : Bool)
  | s (l : List UInt8)
  | c (v : Value)
  | ptr (h : Hd) (i : Nat)
  | sl (h : Hd) (off len sz : Nat)
  | mp (m : Nat)
  | clo (fn : Fn) (first captured : List AV)
  | ifc (t : TypeId) (v : AV)
  | agg (l : List AV)
  | tup (l : List AV)
  | it (m : Nat)
  | u
  | tm (n : Nat) (j : Int)
  | stp (id : Nat)
  | tx (ns : List (List UInt8))

instance : Inhabited AV := ⟨.c (.tuple #[])⟩

/-- where a block of an epoch lies: the cell `i` (from start on) of the abstract block is the cell `base + (i - start)` of the block `blk` -/
structure Loc where
  blk : Nat
  base : Nat
  start : Nat
  stop : Nat
  size : Nat
  fz : Bool

def Loc.at_ (l : Loc) (i : Nat) : Addr := ⟨l.blk, l.base + (i - l.start), none⟩

/-- what is held of an object while others are at work: the object itself, or what a map holds -/
inductive Ghost where
  | ob (o : Obj)
  | li (l : List (AV × AV)) (clk : Nat)

structure Ren where
  blk : Nat → Nat → Option Loc
  obj : Nat → Option Nat
  gh : Nat → Option Ghost
  st : Nat → Option Nat

mutual
inductive VR (ρ : Ren) : AV → Value → Prop
  | i (k : IntKind) (n : Int) : VR ρ (.i k n) (.int k n)
  | b (b : Bool) : VR ρ (.b b) (.bool b)
  | s (l : List UInt8) : VR ρ (.s l) (.string ⟨⟨l⟩⟩)
  | c (v : Value) : VR ρ (.c v) v
  | ptr {h : Hd} {i : Nat} {l : Loc} (hl : ρ.blk h.A h.e = some l) (hs : l.stop = h.stop) (hf : l.fz = h.fz) (h0 : l.start ≤ i) (h1 : i < h.stop) :
      VR ρ (.ptr h i) (.pointer (some (l.at_ i)))
  | sl {h : Hd} {off len sz cap : Nat} {l : Loc} (hl : ρ.blk h.A h.e = some l) (hs : l.stop = h.stop) (hf : l.fz = h.fz) (h0 : l.start ≤ off) (h1 : off + len * sz ≤ h.stop)
      (hz : 0 < sz) (hc : len ≤ cap) (hr : l.base + (off - l.start) + cap * sz ≤ l.size) : VR ρ (.sl h off len sz) (.slice (some (l.at_ off)) len cap)
  | sl0 {h : Hd} {off sz : Nat} (a : Addr) : VR ρ (.sl h off 0 sz) (.slice (some a) 0 0)
  | mp {m b : Nat} (hm : ρ.obj m = some b) : VR ρ (.mp m) (.map (some b))
  | clo {fn : Fn} {first cap : List AV} {first' cap' : List Value} (hf : VRs ρ first first') (hc : VRs ρ cap cap') : VR ρ (.clo fn first cap) (.func fn ⟨first'⟩ ⟨cap'⟩)
  | ifc {t : TypeId} {v : AV} {v' : Value} (h : VR ρ v v') : VR ρ (.ifc t v) (.iface t v')
  | agg {l : List AV} {l' : List Value} (h : VRs ρ l l') : VR ρ (.agg l) (.agg ⟨l'⟩)
  | tup {l : List AV} {l' : List Value} (h : VRs ρ l l') : VR ρ (.tup l) (.tuple ⟨l'⟩)
  | it {m b : Nat} (hm : ρ.obj m = some b) : VR ρ (.it m) (.pointer (some ⟨b, 0, none⟩))
  | u (v : Value) : VR ρ .u v
  | tm {n : Nat} {j k : Int} (h : k.tmod n = j) : VR ρ (.tm n j) (.int .i64 k)
  | stp {id n : Nat} (h : ρ.st id = some n) : VR ρ (.stp id) (.int .i64 n)
  | tx {ns : List (List UInt8)} {l : List UInt8} (h : l ∉ ns) : VR ρ (.tx ns) (.string ⟨⟨l⟩⟩)
inductive VRs (ρ : Ren) : List AV → List Value → Prop
  | nil : VRs ρ [] []
  | cons {a : AV} {v : Value} {l : List AV} {l' : List Value} (h : VR ρ a v) (hr : VRs ρ l l') : VRs ρ (a :: l) (v :: l')
end

/-- ρ' tells all that ρ tells -/
structure ObjLe (ρ ρ' : Ren) : Prop where
  o : ∀ m b, ρ.obj m = some b → ρ'.obj m = some b
  s : ∀ i n, ρ.st i = some n → ρ'.st i = some n
instance (ρ ρ' : Ren) : CoeFun (ObjLe ρ ρ') fun _ => ∀ m b, ρ.obj m = some b → ρ'.obj m = some b := ⟨ObjLe.o⟩
def Ren.leV (ρ ρ' : Ren) : Prop := (∀ A e l, ρ.blk A e = some l → ρ'.blk A e = some l) ∧ ObjLe ρ ρ'
def Ren.le (ρ ρ' : Ren) : Prop := ρ.leV ρ' ∧ ∀ i g, ρ.gh i = some g → ρ'.gh i = some g

theorem Ren.le_refl (ρ : Ren) : ρ.le ρ := ⟨⟨fun _ _ _ h => h, fun _ _ h => h, fun _ _ h => h⟩, fun _ _ h => h⟩
theorem Ren.le_trans {ρ ρ' ρ'' : Ren} (h : ρ.le ρ') (h' : ρ'.le ρ'') : ρ.le ρ'' :=
  ⟨⟨fun A e l x => h'.1.1 A e l (h.1.1 A e l x), fun m b x => h'.1.2 m b (h.1.2 m b x), fun i n x => h'.1.2.s i n (h.1.2.s i n x)⟩, fun i g x => h'.2 i g (h.2 i g x)⟩

mutual
theorem VR.monoV {ρ ρ' : Ren} (hle : ρ.leV ρ') : ∀ {a : AV} {v : Value}, VR ρ a v → VR ρ' a v
  | _, _, .i k n => .i k n
  | _, _, .b b => .b b
  | _, _, .s l => .s l
  | _, _, .c v => .c v
  | _, _, .ptr hl hs hf h0 h1 => .ptr (hle.1 _ _ _ hl) hs hf h0 h1
  | _, _, .sl hl hs hf h0 h1 hz hc hr => .sl (hle.1 _ _ _ hl) hs hf h0 h1 hz hc hr
  | _, _, .sl0 a => .sl0 a
  | _, _, .mp hm => .mp (hle.2 _ _ hm)
  | _, _, .clo hf hc => .clo (VRs.monoV hle hf) (VRs.monoV hle hc)
  | _, _, .ifc h => .ifc (VR.monoV hle h)
  | _, _, .agg h => .agg (VRs.monoV hle h)
  | _, _, .tup h => .tup (VRs.monoV hle h)
  | _, _, .it hm => .it (hle.2 _ _ hm)
  | _, _, .u v => .u v
  | _, _, .tm h => .tm h
  | _, _, .stp h => .stp (hle.2.s _ _ h)
  | _, _, .tx h => .tx h
theorem VRs.monoV {ρ ρ' : Ren} (hle : ρ.leV ρ') : ∀ {l : List AV} {l' : List Value}, VRs ρ l l' → VRs ρ' l l'
  | _, _, .nil => .nil
  | _, _, .cons h hr => .cons (VR.monoV hle h) (VRs.monoV hle hr)
end

theorem VR.mono {ρ ρ' : Ren} (hle : ρ.le ρ') {a : AV} {v : Value} (h : VR ρ a v) : VR ρ' a v := VR.monoV hle.1 h
theorem VRs.mono {ρ ρ' : Ren} (hle : ρ.le ρ') {l : List AV} {l' : List Value} (h : VRs ρ l l') : VRs ρ' l l' := VRs.monoV hle.1 h

theorem VRs.length {ρ : Ren} : ∀ {l : List AV} {l' : List Value}, VRs ρ l l' → l'.length = l.length
  | _, _, .nil => rfl
  | _, _, .cons _ hr => congrArg (· + 1) (VRs.length hr)

theorem VRs.append {ρ : Ren} : ∀ {l : List AV} {l' : List Value} {m : List AV} {m' : List Value}, VRs ρ l l' → VRs ρ m m' → VRs ρ (l ++ m) (l' ++ m')
  | _, _, _, _, .nil, h => h
  | _, _, _, _, .cons h hr, h' => .cons h (VRs.append hr h')

theorem VRs.get {ρ : Ren} : ∀ {l : List AV} {l' : List Value}, VRs ρ l l' → ∀ (i : Nat) {a : AV}, l[i]? = some a → ∃ v, l'[i]? = some v ∧ VR ρ a v
  | _, _, .nil, i, a, h => by simp at h
  | _, _, .cons (v := v) h hr, 0, a, hi => by simp at hi; subst hi; exact ⟨v, by simp, h⟩
  | _, _, .cons h hr, i + 1, a, hi => by
    simp at hi
    obtain ⟨v, h1, h2⟩ := VRs.get hr i hi
    exact ⟨v, by simpa using h1, h2⟩

/-- a value of the model's as an abstract one -/
def ofV (v : Value) : AV := match v with
  | .int k n => .i k n
  | .bool b => .b b
  | .string s => .s s.data.toList
  | v => .c v

theorem VR.of (ρ : Ren) (v : Value) : VR ρ (ofV v) v := by
  unfold ofV; split
  · exact .i _ _
  · exact .b _
  · exact .s _
  · exact .c _

theorem VRs.consts (ρ : Ren) : ∀ (l : List Value), VRs ρ (l.map ofV) l
  | [] => .nil
  | v :: l => .cons (.of ρ v) (VRs.consts ρ l)

theorem VRs.drop {ρ : Ren} : ∀ {l : List AV} {l' : List Value}, VRs ρ l l' → ∀ n, VRs ρ (l.drop n) (l'.drop n)
  | _, _, h, 0 => by simpa using h
  | _, _, .nil, n + 1 => by simpa using .nil
  | _, _, .cons _ hr, n + 1 => by simpa using VRs.drop hr n
theorem VRs.take {ρ : Ren} : ∀ {l : List AV} {l' : List Value}, VRs ρ l l' → ∀ n, VRs ρ (l.take n) (l'.take n)
  | _, _, _, 0 => by simpa using .nil
  | _, _, .nil, n + 1 => by simpa using .nil
  | _, _, .cons h hr, n + 1 => by simpa using .cons h (VRs.take hr n)

/-- what stands at an abstract number -/
inductive AOb where
  | blk (el : TypeId) (n : Nat) (cs : T4 AV) (lo hi : Nat)
  | iter (l : List UInt8) (pos : Nat)
  | map (kd : Option IntKind) (l : List (AV × AV)) (clk : Nat)
  | mit (m since : Nat)
  | dead
  | lmap (id : Nat) (kd : Option IntKind) (u : Option (AV × AV))
  | pin (id : Nat)
  | cur (id m idm : Nat) (k v : AV)
  | mape (kd : Option IntKind) (l : List (AV × AV)) (clk : Nat) (k : AV) (id : Nat)

structure St where
  heap : T4 AOb
  next : Nat
  ds : List (FuncId × List AV)
  raw : Nat → Nat → Option Value

/-- why there is no answer -/
inductive Ev where
  | s (x : String)
  | at_ (g : FuncId) (args : List AV) (st : St)
instance : Coe String Ev := ⟨Ev.s⟩

noncomputable def St.blk? (s : St) (A : Nat) : Option AOb := s.heap.at_ A

def kNum (k : IntKind) : Nat := match k with
  | .i8 => 0 | .i16 => 1 | .i32 => 2 | .i64 => 3 | .u8 => 4 | .u16 => 5 | .u32 => 6 | .u64 => 7
def kEq (j k : IntKind) : Bool := Nat.beq (kNum j) (kNum k)

/-- a key as the model has it: a text, or a number of a kind -/
def keyV (kd : Option IntKind) (a : AV) : Option Value := match kd, a with
  | none, .s l => some (.string ⟨⟨l⟩⟩)
  | some k, .i k' n => bif kEq k k' then some (.int k n) else none
  | _, _ => none

/-- a map's entries are as they are told, in whatever order -/
structure MapOK (ρ : Ren) (kd : Option IntKind) (l : List (AV × AV)) (es : Array MapEntry) (clk : Nat) : Prop where
  size : es.size = l.length
  fwd : ∀ k v, (k, v) ∈ l → ∃ e ∈ es.toList, keyV kd k = some e.key ∧ VR ρ v e.val
  bwd : ∀ e ∈ es.toList, ∃ k v, (k, v) ∈ l ∧ keyV kd k = some e.key
  st : MapKept.Stamped es clk
  dist : l.Pairwise fun x y => keyV kd x.1 ≠ keyV kd y.1

/-- an object that is no row of cells -/
def isOb : AOb → Bool
  | .iter _ _ => true
  | .map _ _ _ => true
  | .mit _ _ => true
  | .lmap _ _ _ => true
  | .pin _ => true
  | .cur _ _ _ _ _ => true
  | .mape _ _ _ _ _ => true
  | _ => false
/-- one that is held apart -/
def isGh : AOb → Bool
  | .lmap _ _ _ => true
  | .pin _ => true
  | .cur _ _ _ _ _ => true
  | _ => false
def ObOK (ρ : Ren) (ob : AOb) (o : Obj) : Prop := match ob with
  | .iter l pos => o = .stringIter ⟨⟨l⟩⟩ pos
  | .map kd l clk => ∃ es, o = .map es clk ∧ MapOK ρ kd l es clk
  | .mit m since => ∃ b, o = .mapIter (some b) since #[] since ∧ ρ.obj m = some b
  | .lmap id kd none => ∃ l clk es, ρ.gh id = some (.li l clk) ∧ o = .map es clk ∧ MapOK ρ kd l es clk
  | .lmap id kd (some (k, v)) => ∃ l clk, ρ.gh id = some (.li l clk) ∧ (∃ kv, keyV kd k = some kv) ∧ ((∀ x ∈ l, keyV kd x.1 ≠ keyV kd k) → ∃ es, o = .map es (clk + 1) ∧ MapOK ρ kd (l ++ [(k, v)]) es (clk + 1))
  | .pin id => ρ.gh id = some (.ob o)
  | .cur id m idm k v => ρ.gh id = some (.ob o) ∧ ∃ b es e seen c0 since, o = .mapIter (some b) since (Array.push seen e.born) c0 ∧ ρ.obj m = some b ∧ ρ.gh idm = some (.ob (.map es c0)) ∧ e ∈ es.toList ∧ (es.toList.map (·.born)).Nodup ∧ VR ρ k e.key ∧ VR ρ v e.val
  | .mape kd l clk k id => ∃ es, o = .map es clk ∧ MapOK ρ kd l es clk ∧ ∃ e ∈ es.toList, keyV kd k = some e.key ∧ ρ.st id = some e.born
  | _ => False

/-- no cell of a row is frozen -/
def Thawed (c : Array Value) (fr : Nat × Nat) : Prop := ∀ i, i < c.size → ¬ (fr.1 ≤ i ∧ i < fr.2)

/-- a block's cells lie in the world as they are told -/
def LocOK (ρ : Ren) (l : Loc) (el : TypeId) (cs : T4 AV) (w : World) : Prop :=
  ∃ c fr, w.heap[l.blk]? = some (.cells c el fr) ∧ Thawed c fr ∧ c.size = l.size ∧ l.start ≤ l.stop ∧ l.base + (l.stop - l.start) ≤ l.size ∧
    ∀ i, l.start ≤ i → i < l.stop → ∃ a v, cs.at_ i = some a ∧ c[l.base + (i - l.start)]? = some v ∧ VR ρ a v

/-- blocks that are none of ours -/
def Ren.free (ρ : Ren) (b : Nat) : Prop := (∀ A e l, ρ.blk A e = some l → l.blk ≠ b) ∧ (∀ m, ρ.obj m ≠ some b)

structure SR (ρ : Ren) (s : St) (w : World) : Prop where
  blks : ∀ A el n cs lo hi, s.heap.at_ A = some (.blk el n cs lo hi) → ∀ e, lo ≤ e → e ≤ hi →
    ∃ l, ρ.blk A e = some l ∧ l.stop ≤ n ∧ (e = hi → l.stop = n) ∧ LocOK ρ l el cs w
  dom : ∀ A e l, ρ.blk A e = some l → A < s.next ∧ l.blk < w.heap.size
  top : ∀ A e l, ρ.blk A e = some l → ∀ el n cs lo hi, s.heap.at_ A = some (.blk el n cs lo hi) → e ≤ hi
  inj : ∀ A e l A' e' l', ρ.blk A e = some l → ρ.blk A' e' = some l' → l.blk = l'.blk → A = A'
  objdom : ∀ m b, ρ.obj m = some b → m < s.next ∧ b < w.heap.size
  objinj : ∀ m b m', ρ.obj m = some b → ρ.obj m' = some b → m = m'
  sep : ∀ A e l m b, ρ.blk A e = some l → ρ.obj m = some b → l.blk ≠ b
  fresh : ∀ A, s.next ≤ A → s.heap.at_ A = none
  same : ∀ A e l e' l', ρ.blk A e = some l → ρ.blk A e' = some l' → l.blk = l'.blk → l.base = l'.base ∧ l.start = l'.start ∧ l.fz = l'.fz
  rows : ∀ A e l, ρ.blk A e = some l → ∃ c el fr, w.heap[l.blk]? = some (.cells c el fr) ∧ (l.fz = false → fr = (0, 0)) ∧ c.size = l.size ∧ l.base + (l.stop - l.start) ≤ l.size
  objs : ∀ m ob, s.heap.at_ m = some ob → isOb ob = true → ∃ b o, ρ.obj m = some b ∧ w.heap[b]? = some o ∧ ObOK ρ ob o
  zero : ∀ A l, ρ.blk A 0 = some l → l.base = 0 ∧ l.start = 0
  stdom : ∀ i n, ρ.st i = some n → i < s.next
  raws : ∀ b i v, s.raw b i = some v → ρ.free b ∧ w.cell? ⟨b, i, none⟩ = some v

theorem MapOK.monoV {ρ ρ' : Ren} (hle : ρ.leV ρ') {kd : Option IntKind} {l : List (AV × AV)} {es : Array MapEntry} {clk : Nat} (h : MapOK ρ kd l es clk) : MapOK ρ' kd l es clk :=
  ⟨h.size, fun k v hm => let ⟨e, a, b, c⟩ := h.fwd k v hm; ⟨e, a, b, c.monoV hle⟩, h.bwd, h.st, h.dist⟩
theorem MapOK.mono {ρ ρ' : Ren} (hle : ρ.le ρ') {kd : Option IntKind} {l : List (AV × AV)} {es : Array MapEntry} {clk : Nat} (h : MapOK ρ kd l es clk) : MapOK ρ' kd l es clk := h.monoV hle.1
theorem ObOK.monoV {ρ ρ' : Ren} (hle : ρ.leV ρ') {ob : AOb} {o : Obj} (hg : isGh ob = false) (h : ObOK ρ ob o) : ObOK ρ' ob o := by
  cases ob with
  | iter l pos => exact h
  | map kd l clk => obtain ⟨es, a, b⟩ := h; exact ⟨es, a, b.monoV hle⟩
  | mit m since => obtain ⟨b, a, c⟩ := h; exact ⟨b, a, hle.2 _ _ c⟩
  | blk => exact h
  | dead => exact h
  | mape kd l clk k id => obtain ⟨es, a, b, e, c, d, f⟩ := h; exact ⟨es, a, b.monoV hle, e, c, d, hle.2.s _ _ f⟩
  | lmap => cases hg
  | pin => cases hg
  | cur => cases hg
theorem ObOK.mono {ρ ρ' : Ren} (hle : ρ.le ρ') {ob : AOb} {o : Obj} (h : ObOK ρ ob o) : ObOK ρ' ob o := by
  cases hg : isGh ob with
  | false => exact h.monoV hle.1 hg
  | true =>
    cases ob with
    | lmap id kd u =>
      cases u with
      | none => obtain ⟨l, clk, es, a, b, c⟩ := h; exact ⟨l, clk, es, hle.2 _ _ a, b, c.mono hle⟩
      | some x =>
        obtain ⟨k, v⟩ := x
        obtain ⟨l, clk, a, b, c⟩ := h
        exact ⟨l, clk, hle.2 _ _ a, b, fun hx => let ⟨es, d, e⟩ := c hx; ⟨es, d, e.mono hle⟩⟩
    | pin id => exact hle.2 _ _ h
    | cur id m idm k v =>
      obtain ⟨a, b, es, e, seen, c0, since, h1, h2, h3, h4, h5, h6, h7⟩ := h
      exact ⟨hle.2 _ _ a, b, es, e, seen, c0, since, h1, hle.1.2 _ _ h2, hle.2 _ _ h3, h4, h5, h6.mono hle, h7.mono hle⟩
    | _ => cases hg

/-- what a step adds is new, or lay in one of ours -/
structure Ext (w : World) (ρ ρ' : Ren) : Prop where
  le : ρ.le ρ'
  new : ∀ b, ¬ ρ'.free b → ¬ ρ.free b ∨ w.heap.size ≤ b

/-- what a step keeps -/
structure Keeps (ρ : Ren) (w w' : World) : Prop where
  size : w.heap.size ≤ w'.heap.size
  os : w'.os = w.os
  output : w'.output = w.output
  tape : w'.tape = w.tape
  old : ∀ b, b < w.heap.size → ρ.free b → w'.heap[b]? = w.heap[b]?

theorem Ext.refl (w : World) (ρ : Ren) : Ext w ρ ρ := ⟨ρ.le_refl, fun _ h => .inl h⟩
theorem Keeps.refl (ρ : Ren) (w : World) : Keeps ρ w w := ⟨Nat.le_refl _, rfl, rfl, rfl, fun _ _ _ => rfl⟩

theorem cell_same {w w' : World} {b i : Nat} (h : w'.heap[b]? = w.heap[b]?) : w'.cell? ⟨b, i, none⟩ = w.cell? ⟨b, i, none⟩ := by
  simp only [World.cell?, h]
theorem lt_of_cell {w : World} {b i : Nat} {v : Value} (h : w.cell? ⟨b, i, none⟩ = some v) : b < w.heap.size := by
  rcases Nat.lt_or_ge b w.heap.size with x | x
  · exact x
  · simp [World.cell?, Array.getElem?_eq_none x] at h
theorem lt_of_heap {w : World} {b : Nat} {o : Obj} (h : w.heap[b]? = some o) : b < w.heap.size := by
  rcases Nat.lt_or_ge b w.heap.size with x | x
  · exact x
  · rw [Array.getElem?_eq_none x] at h; cases h
/-- what lies apart stays there -/
theorem SR.rawStep {ρ ρ' : Ren} {s s' : St} {w w' : World} (h : SR ρ s w) (he : Ext w ρ ρ') (hk : Keeps ρ w w') (hr : s'.raw = s.raw) : ∀ b i v, s'.raw b i = some v → ρ'.free b ∧ w'.cell? ⟨b, i, none⟩ = some v := by
  intro b i v hb
  rw [hr] at hb
  obtain ⟨hf, hc⟩ := h.raws b i v hb
  have hlt := lt_of_cell hc
  refine ⟨Classical.byContradiction fun hn => ?_, (cell_same (hk.old b hlt hf)).trans hc⟩
  rcases he.new b hn with x | x
  · exact x hf
  · omega

theorem Ext.trans {w w1 : World} {ρ ρ1 ρ2 : Ren} (h : Ext w ρ ρ1) (hk : Keeps ρ w w1) (h' : Ext w1 ρ1 ρ2) : Ext w ρ ρ2 :=
  ⟨Ren.le_trans h.le h'.le, fun b hb => (h'.new b hb).elim (fun x => h.new b x) (fun x => .inr (Nat.le_trans hk.size x))⟩

theorem Keeps.trans {w w1 w2 : World} {ρ ρ1 : Ren} (h : Ext w ρ ρ1) (hk : Keeps ρ w w1) (hk' : Keeps ρ1 w1 w2) : Keeps ρ w w2 where
  size := Nat.le_trans hk.size hk'.size
  os := hk'.os.trans hk.os
  output := hk'.output.trans hk.output
  tape := hk'.tape.trans hk.tape
  old := by
    intro b hb hf
    have hf1 : ρ1.free b := by
      refine Classical.byContradiction fun hn => ?_
      rcases h.new b hn with x | x
      · exact x hf
      · omega
    rw [hk'.old b (Nat.lt_of_lt_of_le hb hk.size) hf1, hk.old b hb hf]

/-- the step's whole: a renaming that tells more, what is kept, the relation behind it, and more -/
def Post (ρ : Ren) (w : World) (s' : St) (w' : World) (X : Ren → Prop) : Prop := ∃ ρ', Ext w ρ ρ' ∧ Keeps ρ w w' ∧ SR ρ' s' w' ∧ X ρ'

theorem Post.here {ρ : Ren} {w : World} {s : St} {X : Ren → Prop} (h : SR ρ s w) (hx : X ρ) : Post ρ w s w X := ⟨ρ, Ext.refl w ρ, Keeps.refl ρ w, h, hx⟩

theorem Post.then {ρ ρ1 : Ren} {w w1 w2 : World} {s2 : St} {X : Ren → Prop} (h : Ext w ρ ρ1) (hk : Keeps ρ w w1) (hp : Post ρ1 w1 s2 w2 X) : Post ρ w s2 w2 X :=
  let ⟨ρ2, h2, hk2, hs2, hx⟩ := hp
  ⟨ρ2, h.trans hk h2, hk.trans h hk2, hs2, hx⟩

theorem Post.imp {ρ : Ren} {w w' : World} {s' : St} {X Y : Ren → Prop} (h : Post ρ w s' w' X) (hxy : ∀ ρ', ρ.le ρ' → X ρ' → Y ρ') : Post ρ w s' w' Y :=
  let ⟨ρ2, h2, hk2, hs2, hx⟩ := h
  ⟨ρ2, h2, hk2, hs2, hxy ρ2 h2.le hx⟩

/-- calls put off are no part of memory -/
theorem SR.ds {ρ : Ren} {s s' : St} {w : World} (h : SR ρ s w) (h1 : s'.heap = s.heap) (h2 : s'.next = s.next) (h3 : s'.raw = s.raw) : SR ρ s' w where
  blks := by rw [h1]; exact h.blks
  dom := by rw [h2]; exact h.dom
  top := by rw [h1]; exact h.top
  inj := h.inj
  objdom := by rw [h2]; exact h.objdom
  objinj := h.objinj
  sep := h.sep
  fresh := by rw [h1, h2]; exact h.fresh
  same := h.same
  rows := h.rows
  objs := by rw [h1]; exact h.objs
  zero := h.zero
  stdom := by rw [h2]; exact h.stdom
  raws := by rw [h3]; exact h.raws

/-- a draw changes nothing that is told of -/
theorem SR.drawn {ρ : Ren} {s : St} {w : World} (h : SR ρ s w) (n : Nat) : SR ρ s { w with drawn := n } := ⟨h.blks, h.dom, h.top, h.inj, h.objdom, h.objinj, h.sep, h.fresh, h.same, h.rows, h.objs, h.zero, h.stdom, h.raws⟩
theorem Keeps.drawn (ρ : Ren) (w : World) (n : Nat) : Keeps ρ w { w with drawn := n } := ⟨Nat.le_refl _, rfl, rfl, rfl, fun _ _ _ => rfl⟩

end Go.Eng
