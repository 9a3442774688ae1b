/-
  What an operation's class promises: the quiet ones tell the same wherever they stand; a load tells the same behind new memory.
-/
import Derived.Test.YtomcadipdacanaaGreatDoorEngK
namespace Go.Eng
open Go
set_option linter.unusedVariables false

/-- an answer that memory has no part in -/
def PureO (r : St → OR) : Prop := ∀ s v s', r s = .val v s' → s' = s ∧ ∀ s2, r s2 = .val v s2

theorem PureO.val (v : AV) : PureO fun s => .val v s := fun s w s' h => by cases h; exact ⟨rfl, fun _ => rfl⟩
theorem PureO.no (w : List Ev) : PureO fun _ => .no w := fun s v s' h => by cases h
theorem PureO.bif {c : Bool} {x y : St → OR} (hx : PureO x) (hy : PureO y) : PureO fun s => bif_ c (x s) (y s) := by cases c <;> assumption
theorem PureO.opt {α : Type} {o : Option α} {F : α → St → OR} {w : List Ev} (h : ∀ a, PureO (F a)) : PureO fun s => Option.rec (motive := fun _ => OR) (.no w) (fun a => F a s) o := by
  cases o with
  | none => exact .no w
  | some a => exact h a
theorem PureO.opt' {α : Type} {o : Option α} {F : α → St → OR} {G : St → OR} (hg : PureO G) (h : ∀ a, PureO (F a)) : PureO fun s => Option.rec (motive := fun _ => OR) (G s) (fun a => F a s) o := by
  cases o with
  | none => exact hg
  | some a => exact h a
theorem PureO.congr {r r' : St → OR} (h : PureO r) (he : ∀ s, r' s = r s) : PureO r' := fun s v s' hr => by
  rw [he] at hr
  obtain ⟨h1, h2⟩ := h s v s' hr
  exact ⟨h1, fun s2 => by rw [he]; exact h2 s2⟩
theorem PureO.n {n : Nat} {F : Nat → St → OR} (h : ∀ m, PureO (F m)) : PureO fun s => forceN n fun m => F m s := (h n).congr fun s => forceN_eq _ _
theorem PureO.l {α : Type} {l : List α} {F : List α → St → OR} (h : ∀ m, PureO (F m)) : PureO fun s => forceL l fun m => F m s := (h l).congr fun s => forceL_eq _ _
theorem PureO.i {n : Int} {F : Int → St → OR} (h : ∀ m, PureO (F m)) : PureO fun s => forceI n fun m => F m s := (h n).congr fun s => forceI_eq _ _
theorem PureO.a {v : AV} {F : AV → St → OR} (h : ∀ m, PureO (F m)) : PureO fun s => forceA v fun m => F m s := (h v).congr fun s => forceA_eq _ _

theorem pure_optA (o : Option AV) : PureO fun s => optA s o := .opt fun a => .a fun m => .val m
theorem pure_optV (o : Option AV) : PureO fun s => optV s o := .opt fun a => .val a
theorem pure_valB (b : Bool) : PureO (valB b) := by cases b <;> exact .val _
theorem pure_wrapK (k : IntKind) (n : Int) : PureO (wrapK k n) := .bif (.i fun m => .val _) (.i fun m => .val _)
theorem pure_aGen (P : Program) (sem : Sem Value) : PureO (aGen P sem) := by
  unfold aGen; cases pureRun P sem with
  | none => exact .no _
  | some v => exact .val _
theorem pure_aggOpt (o : Option (List AV)) : PureO fun s => aggOpt s o := .opt fun l => .l fun m => .val _

theorem pure_aBuild (P : Program) (t : TypeId) (parts : List (Nat × AV)) : PureO (aBuild P t parts) := by
  unfold aBuild; cases placesOf P t with
  | struct z l => exact pure_aggOpt _
  | array z sz => exact pure_aggOpt _
  | no => exact .no _
theorem pure_aNilCheck (a : AV) : PureO (aNilCheck a) := by
  unfold aNilCheck; cases asP a with
  | some h i => exact .val _
  | none => cases asR a with
    | some b i => exact .val _
    | none => exact .no _
theorem pure_aFieldAddr (P : Program) (t : TypeId) (a : AV) (i : Nat) : PureO (aFieldAddr P t a i) := by
  unfold aFieldAddr; cases asP a with
  | none =>
    show PureO fun s => fieldAddrR s (fieldOf P t i) (asR a)
    unfold fieldAddrR; cases asR a with
    | none => exact .no _
    | some b j => cases fieldOf P t i with
      | no => exact .no _
      | some off sz ft => exact .bif (.val _) (.no _)
  | some h j =>
    show PureO fun s => fieldAddr1 h j s (fieldOf P t i)
    unfold fieldAddr1; cases fieldOf P t i with
    | no => exact .no _
    | some off sz ft => exact .bif (.bif (.n fun m => .val _) (.no _)) (.no _)
theorem pure_aField (P : Program) (t : TypeId) (a : AV) (i : Nat) : PureO (aField P t a i) := .opt fun l => by
  cases fieldOf P t i with
  | no => exact .no _
  | some off sz ft => exact pure_optA _
theorem pure_indexSl (sz i : Nat) (r : RW) (x : OS) : PureO fun s => indexSl sz i s r x := by
  unfold indexSl; cases x with
  | some h off len z => exact .bif (.bif (.n fun m => .val _) (.no _)) (.no _)
  | nil => exact .no _
  | none => cases r with
    | some b o len cap => exact .bif (.val _) (.no _)
    | none => exact .no _
theorem pure_indexAr (n sz i : Nat) (r : RP) (x : OP) : PureO fun s => indexAr n sz i s r x := by
  unfold indexAr; cases x with
  | some h j => exact .bif (.bif (.bif (.n fun m => .val _) (.no _)) (.no _)) (.no _)
  | none => cases r with
    | some b j => exact .bif (.val _) (.no _)
    | none => exact .no _
theorem pure_aIndexAddr (P : Program) (t : TypeId) (a b : AV) : PureO (aIndexAddr P t a b) := by
  unfold aIndexAddr; cases asN b with
  | none => exact .no _
  | some i => cases indexOf P t with
    | slice sz => exact pure_indexSl _ _ _ _
    | array n sz e => exact pure_indexAr _ _ _ _ _
    | str => exact .no _
    | no => exact .no _
theorem pure_aIndex (P : Program) (t : TypeId) (a b : AV) : PureO (aIndex P t a b) := by
  unfold aIndex; cases asN b with
  | none => exact .no _
  | some i => cases indexOf P t with
    | slice sz => exact .no _
    | array n sz e => exact .opt fun l => .bif (pure_optA _) (.no _)
    | str => exact .opt fun l => .opt fun x => .n fun m => .val _
    | no => exact .no _
theorem pure_bounds (lo hi : Option AV) (n : Nat) (w : List Ev) (K : Nat → Nat → St → OR) (h : ∀ l m, PureO (K l m)) : PureO fun s => bounds lo hi n (.no w) fun l m => K l m s := by
  unfold bounds; cases bound hi n with
  | none => exact .no _
  | some hh => cases bound lo 0 with
    | none => exact .no _
    | some l => exact .bif (.bif (.n fun l => .n fun m => h l m) (.no _)) (.no _)
theorem pure_aSlice (P : Program) (t : TypeId) (x : AV) (lo hi mx : Option AV) : PureO (aSlice P t x lo hi mx) := by
  unfold aSlice; cases mx with
  | some _ => exact .no _
  | none => cases indexOf P t with
    | slice sz =>
      show PureO fun s => OS.rec (motive := fun _ => OR) _ _ _ (asS x)
      cases asS x with
      | some hd off len z => exact .bif (pure_bounds lo hi len _ (fun l h s => forceN (off + l * sz) fun off => forceN (h - l) fun n => .val (.sl hd off n sz) s) fun l m => .n fun o => .n fun q => .val _) (.no _)
      | nil => exact pure_bounds lo hi 0 _ (fun _ _ s => .val (.c (.slice none 0 0)) s) fun l m => .val _
      | none =>
        show PureO fun s => sliceR sz lo hi s (asRS x)
        unfold sliceR; cases asRS x with
        | none => exact .no _
        | some b o len cap => exact pure_bounds lo hi len _ (fun l h s => bif_ (Nat.ble len cap) (bif_ (Nat.beq l cap) (.val (.c (.slice (some ⟨b, o, none⟩) (h - l) (cap - l))) s) (.val (.c (.slice (some ⟨b, o + l * sz, none⟩) (h - l) (cap - l))) s)) (.no ["slice: cap"])) fun l m => .bif (.bif (.val _) (.val _)) (.no _)
    | array n sz e => exact .no _
    | str => exact .opt fun b => pure_bounds lo hi b.length _ (fun l h s => forceL ((b.drop l).take (h - l)) fun r => .val (.s r) s) fun l m => .l fun r => .val _
    | no => exact .no _
theorem pure_aLen (x : AV) (t : LT) (ht : t ≠ .mp) : PureO fun s => aLen x s t := by
  unfold aLen; cases t with
  | mp => exact absurd rfl ht
  | str => exact .opt fun l => .n fun m => .val _
  | sl =>
    show PureO fun s => lenS s (asRS x) (asS x)
    unfold lenS; cases asS x with
    | some _ _ len _ => exact .val _
    | nil => exact .val _
    | none => cases asRS x with
      | some b o len cap => exact .val _
      | none => exact .no _
  | n n => exact .val _
  | no => exact .no _
theorem pure_aUn (P : Program) (op : UnOp) (a : AV) : PureO fun s => aUn P op s a := by
  unfold aUn; split
  · exact pure_valB _
  · exact pure_wrapK _ _
  · exact pure_aGen _ _
  · exact pure_aGen _ _
  · exact .no _
theorem pure_aConv (P : Program) (src dst : TypeId) (a : AV) (hc : clsC P src dst = 0) : PureO (aConv P src dst a) := by
  unfold clsC at hc
  unfold aConv; cases hcv : convOf P src dst with
  | up => rw [hcv] at hc; cases hc
  | ptr u => rw [hcv] at hc; cases hc
  | bytes e => rw [hcv] at hc; cases hc
  | str => rw [hcv] at hc; cases hc
  | int k =>
    show PureO fun s => OI.rec (motive := fun _ => OR) (fun _ n => wrapK k n s) (.no _) (asI a)
    cases asI a with
    | some k' n => exact pure_wrapK _ _
    | none => exact .no _
  | gen =>
    show PureO (convG P src dst a)
    unfold convG; split
    · exact pure_aGen _ _
    · exact pure_aGen _ _
    · exact pure_aGen _ _
    · exact .no _
  | no => exact .no _
theorem pure_aExtract (a : AV) (i : Nat) : PureO (aExtract a i) := .opt fun l => pure_optV _
theorem pure_pickV (f : T4 AV) (a b : Operand) (c : AV) : PureO fun s => pickV f a b s c := by
  unfold pickV; cases asB c <;> first | exact .val _ | exact .no _

def PureB (g : BF) : Prop := ∀ P lit t a b, PureO (g P lit t a b)
theorem pure_bin2 {g : IntKind → Int → Int → St → OR} {slow : BF} (hg : ∀ k m n, PureO (g k m n)) (hs : PureB slow) : PureB (bin2 g slow) := by
  intro P lit t a b
  unfold bin2; cases as2 a b with
  | ii k m n => exact hg k m n
  | no => exact hs P lit t a b
theorem pure_slowGen (op : BinOp) : PureB (slowGen op) := by
  intro P lit t a b; unfold slowGen; split
  · exact pure_aGen _ _
  · exact .no _
theorem pure_slowRem : PureB slowRem := by
  intro P lit t a b; unfold slowRem; split
  · exact .bif (.val _) (.no _)
  · exact pure_slowGen _ P lit t _ _
theorem pure_slowInt (op : BinOp) : PureB (slowInt op) := by
  intro P lit t a b; unfold slowInt; split
  · exact pure_aGen _ _
  · exact pure_aGen _ _
  · exact .no _
theorem pure_slowAdd : PureB slowAdd := fun P lit t a b => .opt' (pure_slowGen _ P lit t a b) fun l => .opt fun m => .l fun r => .bif (.val _) (.no _)
theorem pure_slowCmp (op : BinOp) (g : List UInt8 → List UInt8 → Bool) : PureB (slowCmp op g) := fun P lit t a b => .opt' (pure_slowGen _ P lit t a b) fun l => .opt fun m => pure_valB _
theorem pure_slowEq : PureB slowEq := by
  intro P lit t a b; unfold slowEq; split
  · exact pure_aGen _ _
  · exact .opt fun r => pure_valB _
theorem pure_slowNe : PureB slowNe := by
  intro P lit t a b; unfold slowNe; split
  · exact pure_aGen _ _
  · exact .opt fun r => pure_valB _
theorem pure_quoI (k : IntKind) (m n : Int) : PureO (quoI k m n) := by
  unfold quoI; cases m with
  | negSucc => exact .no _
  | ofNat x => cases n with
    | negSucc => exact .no _
    | ofNat y => exact .bif (pure_wrapK _ _) (.no _)
theorem pure_remI (k : IntKind) (m n : Int) : PureO (remI k m n) := by
  unfold remI; cases m with
  | negSucc => exact .no _
  | ofNat x => cases n with
    | negSucc => exact .no _
    | ofNat y => exact .bif (.n fun r => .val _) (.no _)
theorem pure_binBox (op : BinOp) : ∃ g, binBox op = .mk g ∧ PureB g := by
  cases op with
  | add => exact ⟨_, rfl, pure_bin2 (fun k m n => pure_wrapK _ _) pure_slowAdd⟩
  | sub => exact ⟨_, rfl, pure_bin2 (fun k m n => pure_wrapK _ _) (pure_slowGen _)⟩
  | mul => exact ⟨_, rfl, pure_bin2 (fun k m n => pure_wrapK _ _) (pure_slowGen _)⟩
  | quo => exact ⟨_, rfl, pure_bin2 pure_quoI (pure_slowGen _)⟩
  | rem => exact ⟨_, rfl, pure_bin2 pure_remI pure_slowRem⟩
  | eql => exact ⟨_, rfl, pure_bin2 (fun k m n => pure_valB _) pure_slowEq⟩
  | neq => exact ⟨_, rfl, pure_bin2 (fun k m n => pure_valB _) pure_slowNe⟩
  | lss => exact ⟨_, rfl, pure_bin2 (fun k m n => pure_valB _) (pure_slowCmp _ _)⟩
  | leq => exact ⟨_, rfl, pure_bin2 (fun k m n => pure_valB _) (pure_slowCmp _ _)⟩
  | gtr => exact ⟨_, rfl, pure_bin2 (fun k m n => pure_valB _) (pure_slowCmp _ _)⟩
  | geq => exact ⟨_, rfl, pure_bin2 (fun k m n => pure_valB _) (pure_slowCmp _ _)⟩
  | and => exact ⟨_, rfl, pure_slowInt _⟩
  | or => exact ⟨_, rfl, pure_slowInt _⟩
  | xor => exact ⟨_, rfl, pure_slowInt _⟩
  | shl => exact ⟨_, rfl, pure_slowInt _⟩
  | shr => exact ⟨_, rfl, pure_slowInt _⟩
  | andNot => exact ⟨_, rfl, pure_slowInt _⟩

/-- an operation's answer -/
noncomputable def ans (P : Program) (env : Env) (o : Oper) (f : T4 AV) (s : St) : OR := OpB.rec (motive := fun _ => OR) (fun g => g P env o.type f s) (aop o.op)

theorem pure_minmax (P : Program) (env : Env) (ty : TypeId) (c : Call) (sem : Array TypeId → TypeId → Array Value → Sem Value) (f : T4 AV) : PureO (minmax c sem P env ty f) := by
  unfold minmax; cases allV (evL f c.args.toList) with
  | none => exact .no _
  | some vs => exact pure_aGen _ _

theorem pure_fails (P : Program) (t : TypeId) (ok : Bool) : PureO (fails P t ok) := .bif (.opt fun z => .val _) (.no _)
theorem pure_aTypeAssert (P : Program) (x : AV) (t : TypeId) (ok : Bool) : PureO (aTypeAssert P x t ok) := by
  unfold aTypeAssert; split
  · exact .bif (pure_fails _ _ _) (.no _)
  · exact .bif (.bif (.val _) (pure_fails _ _ _)) (.no _)
  · exact .no _
theorem pure_aCap (x : AV) (t : LT) : PureO fun s => aCap x s t := by
  unfold aCap; cases t with
  | sl =>
    show PureO fun s => OS.rec (motive := fun _ => OR) _ _ _ (asS x)
    cases asS x with
    | some _ _ len _ => exact .no _
    | nil => exact .val _
    | none => exact .no _
  | _ => exact .no _
theorem pure_aSliceData (x : AV) : PureO (aSliceData x) := by
  unfold aSliceData; cases asS x with
  | some _ _ len _ => exact .bif (.val _) (.no _)
  | nil => exact .val _
  | none => exact .no _

theorem ans_pure (P : Program) (env : Env) (o : Oper) (f : T4 AV) (h : cls P o.op = 0) : PureO (ans P env o f) := by
  obtain ⟨dst, op, ty, pos, after, guard⟩ := o
  unfold ans
  cases op <;> (unfold aop; dsimp only at h ⊢)
  case move x => exact .val _
  case assign x => exact .val _
  case pick c x y => exact pure_pickV _ _ _ _
  case build t parts => exact pure_aBuild _ _ _
  case nilCheck x => exact pure_aNilCheck _
  case binOp op t x y yt =>
    obtain ⟨g, h1, h2⟩ := pure_binBox op
    show PureO fun s => BB.rec (motive := fun _ => OR) (fun g => g P (isLit x y) t (evO f x) (evO f y) s) (binBox op)
    rw [h1]; exact h2 _ _ _ _ _
  case unOp op t x => exact pure_aUn _ _ _
  case convert src dst x => exact pure_aConv _ _ _ _ h
  case typeAssert x xt t ok => exact pure_aTypeAssert _ _ _ _
  case makeInterface t x => exact .bif (.val _) (.no _)
  case makeFunc fn first captured => exact .l fun l => .l fun m => .val _
  case slice t x lo hi mx => exact pure_aSlice _ _ _ _ _ _
  case fieldAddr t x i => exact pure_aFieldAddr _ _ _ _
  case field t x i => exact pure_aField _ _ _ _
  case indexAddr t x ix => exact pure_aIndexAddr _ _ _ _
  case index t x ix => exact pure_aIndex _ _ _ _
  case extract t ix => exact pure_aExtract _ _
  case call c =>
    unfold cls at h
    dsimp only at h
    unfold callBox
    split
    · rename_i g hc; rw [hc] at h; cases h
    · rename_i x hn hc; rw [hc] at h; cases h
    · rename_i hc
      rw [hc] at h
      dsimp only at h
      unfold clsL at h
      split
      · refine pure_aLen _ _ fun e => ?_
        rw [e] at h; cases h
      · exact .no _
    · rename_i hc; rw [hc] at h; cases h
    · exact pure_minmax _ _ _ _ _ _
    · exact pure_minmax _ _ _ _ _ _
    · split
      · exact pure_aCap _ _
      · exact .no _
    · rename_i hc; rw [hc] at h; cases h
    · rename_i hc; rw [hc] at h; cases h
    · split
      · exact pure_aSliceData _
      · exact .no _
    · rename_i hc; rw [hc] at h; cases h
    · exact .no _
  all_goals first | (cases h; done) | exact .no _

/-- memory that holds what was there -/
def Grows (s s' : St) : Prop := s'.raw = s.raw ∧ ∀ A o, s.heap.at_ A = some o → s'.heap.at_ A = some o
theorem Grows.refl (s : St) : Grows s s := ⟨rfl, fun _ _ h => h⟩
theorem Grows.trans {s s1 s2 : St} (h : Grows s s1) (h' : Grows s1 s2) : Grows s s2 := ⟨h'.1.trans h.1, fun A o x => h'.2 A o (h.2 A o x)⟩
def Fresh (s : St) : Prop := ∀ A, s.next ≤ A → s.heap.at_ A = none

theorem blkAt_of {s : St} {A : Nat} {el : TypeId} {n : Nat} {cs : T4 AV} {lo hi : Nat} (h : s.heap.at_ A = some (.blk el n cs lo hi)) : blkAt s A = .some el n cs lo hi := by
  unfold blkAt; rw [h]

theorem aLoad_grows {P : Program} {t : TypeId} {a v : AV} {s s' : St} (h : aLoad P t a s = .val v s') : s' = s ∧ ∀ s2, Grows s s2 → aLoad P t a s2 = .val v s2 := by
  unfold aLoad at h ⊢
  cases ha : asP a with
  | none =>
    rw [ha] at h
    change loadR P t s (asR a) = _ at h
    show _ ∧ ∀ s2, Grows s s2 → loadR P t s2 (asR a) = _
    unfold loadR at h ⊢
    cases hx : asR a with
    | none => rw [hx] at h; cases h
    | some b i =>
      rw [hx] at h
      dsimp only at h ⊢
      have main : ∀ r : Nat → Nat → Option Value, PureO fun s => TS.rec (motive := fun _ => OR) (optV s ((r b i).map ofV)) (fun k => optL s (readR r b k i)) (.no ["load: size"]) (tySize P t) := by
        intro r
        cases tySize P t with
        | one => exact pure_optV _
        | many k => exact .opt fun l => .val _
        | no => exact .no _
      obtain ⟨h1, h2⟩ := main s.raw s v s' h
      refine ⟨h1, fun s2 hg => ?_⟩
      rw [hg.1]
      exact h2 s2
  | some hd i =>
    rw [ha] at h
    obtain ⟨el, n, cs, lo, hi, hb, hr⟩ := VB_inv h
    obtain ⟨hlo, hr⟩ := bif_inv hr
    have main : PureO fun s => load1 cs i hd.stop s (tySize P t) := by
      unfold load1; cases tySize P t with
      | one => exact pure_optV _
      | many k => exact .bif (.opt fun l => .val _) (.no _)
      | no => exact .no _
    obtain ⟨h1, h2⟩ := main s v s' hr
    refine ⟨h1, fun s2 hg => ?_⟩
    show load0 P t hd i s2 (blkAt s2 hd.A) = _
    rw [blkAt_of (hg.2 _ _ hb)]
    show bif_ (Nat.ble lo hd.e) _ _ = _
    rw [bif_t hlo]
    exact h2 s2

/-- an answer that memory has a part in, but no more of it than what was there -/
def ReadO (r : St → OR) : Prop := ∀ s v s', r s = .val v s' → s' = s ∧ ∀ s2, Grows s s2 → r s2 = .val v s2
theorem PureO.read {r : St → OR} (h : PureO r) : ReadO r := fun s v s' hr => ⟨(h s v s' hr).1, fun s2 _ => (h s v s' hr).2 s2⟩
theorem ReadO.blk {A : Nat} {F : TypeId → Nat → T4 AV → Nat → Nat → St → OR} {w : List Ev} (h : ∀ el n cs lo hi, ReadO (F el n cs lo hi)) : ReadO fun s => VB.rec (motive := fun _ => OR) (fun el n cs lo hi => F el n cs lo hi s) (.no w) (blkAt s A) := by
  intro s v s' hr
  obtain ⟨el, n, cs, lo, hi, hb, hr⟩ := VB_inv hr
  obtain ⟨h1, h2⟩ := h el n cs lo hi s v s' hr
  refine ⟨h1, fun s2 hg => ?_⟩
  dsimp only
  rw [blkAt_of (hg.2 _ _ hb)]
  exact h2 s2 hg
theorem read_lenM (x : AV) : ReadO (lenM x) := by
  intro s v s' hr
  unfold lenM at hr ⊢
  split at hr
  · cases hr; exact ⟨rfl, fun _ _ => rfl⟩
  · obtain ⟨o, ho, hr⟩ := Opt_inv hr
    cases o with
    | map kd l clk =>
      change (forceN l.length fun n => OR.val (.i .i64 (.ofNat n)) s) = .val v s' at hr
      rw [forceN_eq] at hr
      cases hr
      refine ⟨rfl, fun s2 hg => ?_⟩
      rw [hg.2 _ _ ho]
      show (forceN l.length fun n => OR.val (.i .i64 (.ofNat n)) s2) = _
      rw [forceN_eq]
    | _ => cases hr
  · cases hr
theorem read_aLen (x : AV) (t : LT) : ReadO fun s => aLen x s t := by
  by_cases ht : t = .mp
  · subst ht; exact read_lenM x
  · exact (pure_aLen x t ht).read
theorem read_convStr (x : AV) : ReadO (convStr x) := by
  intro s v s' hr
  unfold convStr at hr ⊢
  have hgo : ∀ c : SC, convStr1 s c = .val v s' → s' = s ∧ ∀ s2, convStr1 s2 c = .val v s2 := by
    intro c hc
    cases c with
    | none => cases hc
    | some m l =>
      obtain ⟨t, ht, rfl, rfl⟩ := textOf_inv (show textOf s (bytesOfL l) = _ from hc)
      refine ⟨rfl, fun s2 => ?_⟩
      show textOf s2 (bytesOfL l) = _
      rw [ht]
      show (forceL t fun l => OR.val (.s l) s2) = _
      rw [forceL_eq]
  cases hx : asS x with
  | none => rw [hx] at hr; cases hr
  | nil =>
    rw [hx] at hr
    obtain ⟨h1, h2⟩ := hgo _ hr
    exact ⟨h1, fun s2 _ => h2 s2⟩
  | some h off len z =>
    rw [hx] at hr
    obtain ⟨h1, h2⟩ := hgo _ hr
    refine ⟨h1, fun s2 hg => ?_⟩
    cases hb : blkAt s h.A with
    | none =>
      exfalso
      change convStr1 s (bif_ (Nat.beq z 1) (sliceCells1 h off len 1 (blkAt s h.A)) .none) = _ at hr
      rw [hb] at hr
      cases hz : Nat.beq z 1 <;> rw [hz] at hr <;> cases hr
    | some el n cs lo hi =>
      have := h2 s2
      have e : sliceCells 1 s2 (OS.some h off len z) = sliceCells 1 s (OS.some h off len z) := by
        show bif_ (Nat.beq z 1) (sliceCells1 h off len 1 (blkAt s2 h.A)) .none = bif_ (Nat.beq z 1) (sliceCells1 h off len 1 (blkAt s h.A)) .none
        rw [blkAt_of (hg.2 _ _ (blkAt_some hb)), hb]
      rw [e]
      exact this
theorem pure_looked (P : Program) (et : TypeId) (ok : Bool) (o : Option AV) : PureO fun s => looked P et ok s o := .opt fun z => .val _
theorem read_aLookup (P : Program) (t : TypeId) (x ix : AV) (ok : Bool) : ReadO (aLookup P t x ix ok) := by
  unfold aLookup
  cases mapOf P t with
  | no => exact (PureO.no _).read
  | some kd kt et =>
    show ReadO fun s => bif_ (keyOk kd ix) _ _
    cases keyOk kd ix with
    | false =>
      intro s v s' hr
      obtain ⟨ns, m, l, clk, rfl, rfl, rfl, hat, hall, hl⟩ := lookX_inv (show lookX P et ok kd x s (asX ix) = .val v s' from hr)
      obtain ⟨h1, h2⟩ := pure_looked P et ok _ s v s' hl
      refine ⟨h1, fun s2 hg => ?_⟩
      have : mapAt s2 m = .some none l clk := by
        obtain ⟨o, ho, hx⟩ : ∃ o, s.heap.at_ m = some o ∧ mapAt s m = mapAt s m := by
          cases ho : s.heap.at_ m with
          | none => unfold mapAt at hat; rw [ho] at hat; cases hat
          | some o => exact ⟨o, rfl, rfl⟩
        unfold mapAt at hat ⊢
        rw [hg.2 _ _ ho]
        rw [ho] at hat
        exact hat
      show MB.rec (motive := fun _ => OR) _ _ (mapAt s2 m) = _
      rw [this]
      show bif_ (allTs ns l) _ _ = _
      rw [hall]
      exact h2 s2
    | true =>
      cases hm : asM x with
      | none => exact (PureO.no _).read
      | nil => exact (pure_looked P et ok none).read
      | some m =>
        intro s v s' hr
        obtain ⟨kd', l, clk, hat, hr⟩ := MB_inv hr
        obtain ⟨hkd, hr⟩ := bif_inv hr
        obtain ⟨h1, h2⟩ := pure_looked P et ok _ s v s' hr
        refine ⟨h1, fun s2 hg => ?_⟩
        have : mapAt s2 m = .some kd' l clk := by unfold mapAt; rw [hg.2 _ _ hat]
        show MB.rec (motive := fun _ => OR) _ _ (mapAt s2 m) = _
        rw [this]
        show bif_ (kdEq kd kd') _ _ = _
        rw [hkd]
        exact h2 s2
theorem read_aConv (P : Program) (src dst : TypeId) (a : AV) (hc : clsC P src dst = 1) : ReadO (aConv P src dst a) := by
  unfold clsC at hc
  unfold aConv
  cases hcv : convOf P src dst with
  | up =>
    show ReadO (convUp a)
    unfold convUp; split
    · exact (PureO.val _).read
    · exact .blk fun el n cs lo hi => (PureO.bif (.val _) (.no _)).read
    · exact (PureO.no _).read
  | ptr u =>
    show ReadO (convPtr P u a)
    unfold convPtr; split
    · exact (PureO.val _).read
    · exact .blk fun el n cs lo hi => (PureO.bif (.bif (.bif (.val _) (.no _)) (.no _)) (.no _)).read
    · exact (PureO.no _).read
  | str => exact read_convStr a
  | int k => rw [hcv] at hc; cases hc
  | gen => rw [hcv] at hc; cases hc
  | bytes e => rw [hcv] at hc; cases hc
  | no => rw [hcv] at hc; cases hc

theorem ans_read {P : Program} {env : Env} {o : Oper} {f : T4 AV} (h : cls P o.op = 1) {s s' : St} {v : AV} (hr : ans P env o f s = .val v s') : s' = s ∧ ∀ s2, Grows s s2 → ans P env o f s2 = .val v s2 := by
  obtain ⟨dst, op, ty, pos, after, guard⟩ := o
  unfold ans at hr ⊢
  cases op <;> (unfold aop at hr ⊢; dsimp only at h hr ⊢)
  case load t x => exact aLoad_grows hr
  case convert src dst x => exact read_aConv P src dst _ h _ _ _ hr
  case lookup t x ix ok => exact read_aLookup P t _ _ ok _ _ _ hr
  case call c =>
    unfold cls at h
    dsimp only at h
    split at h <;> first | (cases h; done) | (
      rename_i hc
      unfold callBox at hr ⊢
      rw [hc] at hr ⊢
      dsimp only at hr ⊢
      split at hr
      · unfold clsL at h
        cases hl : lenOf P c.argTypes[0]? with
        | mp =>
          rename_i x _
          change aLen (evO f x) s (lenOf P c.argTypes[0]?) = .val v s' at hr
          show _ ∧ ∀ s2, Grows s s2 → aLen (evO f x) s2 (lenOf P c.argTypes[0]?) = .val v s2
          rw [hl] at hr ⊢
          exact read_lenM _ _ _ _ hr
        | _ => rw [hl] at h; cases h
      · cases hr)
  all_goals cases h

theorem new_grows {s : St} (hf : Fresh s) (ob : AOb) : Grows s (s.newO ob) := by
  refine ⟨rfl, ?_⟩
  intro A o h
  show (s.heap.put s.next _).at_ A = some o
  rw [T4.at_put, if_neg]
  · exact h
  · intro e; subst e; rw [hf s.next (Nat.le_refl _)] at h; cases h
theorem new_fresh {s : St} (hf : Fresh s) (ob : AOb) : Fresh (s.newO ob) := by
  intro A hA
  have hA' : s.next + 1 ≤ A := hA
  show (s.heap.put s.next _).at_ A = none
  rw [T4.at_put, if_neg (by omega)]
  exact hf A (by omega)

theorem aNewVar_new {el : TypeId} {cells : List AV} {s s' : St} {v : AV} (h : aNewVar el cells s = .val v s') : s' = s.new el cells := by
  obtain ⟨_, h⟩ := bif_inv h
  obtain ⟨_, h⟩ := bif_inv h
  rw [stNew_eq] at h
  cases h; rfl

theorem ans_new {P : Program} {env : Env} {o : Oper} {f : T4 AV} (h : cls P o.op = 2) {s s' : St} {v : AV} (hr : ans P env o f s = .val v s') : ∃ ob, s' = s.newO ob := by
  have key : (∃ el cells, s' = s.new el cells) → ∃ ob, s' = s.newO ob := fun ⟨el, cells, e⟩ => ⟨_, e⟩
  obtain ⟨dst, op, ty, pos, after, guard⟩ := o
  unfold ans at hr
  cases op <;> (unfold aop at hr; dsimp only at h hr)
  case alloc el =>
    obtain ⟨z, _, hr⟩ := Opt_inv hr
    exact key ⟨_, _, aNewVar_new hr⟩
  case box el x =>
    change (forceL (cellsL (evO f x)) fun l => aNewVar el l s) = .val v s' at hr
    rw [forceL_eq] at hr
    exact key ⟨_, _, aNewVar_new hr⟩
  case makeMap t r =>
    obtain ⟨_, hr⟩ := bif_inv hr
    obtain ⟨_, hr⟩ := bif_inv hr
    rw [newOb_eq] at hr
    cases hr
    exact ⟨_, rfl⟩
  case buildSlice t len parts =>
    obtain ⟨e, i, zv, _, _, _, _, _, hr⟩ := EL_inv hr
    obtain ⟨_, hr⟩ := bif_inv hr
    obtain ⟨_, hr⟩ := bif_inv hr
    obtain ⟨out, _, hr⟩ := Opt_inv hr
    rw [forceL_eq] at hr
    obtain ⟨_, _, _, _, rfl⟩ := aNewRow_inv hr
    exact key ⟨_, _, rfl⟩
  case makeSlice t l c =>
    obtain ⟨k, l', _, hr⟩ := ON_inv hr
    obtain ⟨k', c', _, hr⟩ := ON_inv hr
    rw [forceN_eq] at hr
    obtain ⟨e, i, zv, _, _, _, _, _, hr⟩ := EL_inv hr
    obtain ⟨_, hr⟩ := bif_inv hr
    obtain ⟨_, hr⟩ := bif_inv hr
    obtain ⟨_, hr⟩ := bif_inv hr
    obtain ⟨_, _, _, _, rfl⟩ := aNewRow_inv hr
    exact key ⟨_, _, rfl⟩
  case convert src dst x =>
    change clsC P src dst = 2 at h
    unfold clsC at h
    change aConv P src dst (evO f x) s = .val v s' at hr
    unfold aConv at hr
    cases hcv : convOf P src dst with
    | bytes e =>
      rw [hcv] at hr
      obtain ⟨l, _, hr⟩ := Opt_inv hr
      rw [forceN_eq, forceL_eq] at hr
      obtain ⟨_, _, _, _, rfl⟩ := aNewRow_inv hr
      exact key ⟨_, _, rfl⟩
    | _ => rw [hcv] at h; cases h
  case call c =>
    unfold cls at h
    dsimp only at h
    split at h <;> first | (cases h; done) | (unfold clsL at h; split at h <;> cases h)
  all_goals cases h

theorem ans_alloc {P : Program} {env : Env} {o : Oper} {f : T4 AV} (h : cls P o.op = 2) {s s' : St} {v : AV} (hr : ans P env o f s = .val v s') (hf : Fresh s) : Grows s s' := by
  obtain ⟨ob, rfl⟩ := ans_new h hr
  exact new_grows hf _

/-- an answer hangs on the operands alone -/
theorem ans_congr {P : Program} {env : Env} {o : Oper} {f f' : T4 AV} (h : ∀ x ∈ o.op.operands.toList, evO f' x = evO f x) (s : St) : ans P env o f' s = ans P env o f s := by
  obtain ⟨dst, op, ty, pos, after, guard⟩ := o
  have hL : ∀ l : List Operand, (∀ x ∈ l, evO f' x = evO f x) → evL f' l = evL f l := fun l hl => List.map_congr_left hl
  unfold ans
  cases op <;> (unfold aop; dsimp only at h ⊢)
  case move x => show OR.val _ s = _; rw [h x (by simp [Op.operands])]; rfl
  case assign x => show OR.val _ s = _; rw [h x (by simp [Op.operands])]; rfl
  case pick c x y => show pickV f' x y s (evO f' c) = pickV f x y s (evO f c); unfold pickV; rw [h c (by simp [Op.operands]), h x (by simp [Op.operands]), h y (by simp [Op.operands])]
  case box el x => show (forceL (cellsL (evO f' x)) fun l => aNewVar el l s) = _; rw [h x (by simp [Op.operands])]; rfl
  case build t parts =>
    show aBuild P t (parts.toList.map fun x => (x.1, evO f' x.2)) s = aBuild P t (parts.toList.map fun x => (x.1, evO f x.2)) s
    rw [List.map_congr_left fun x hx => by rw [h x.2 (by simp only [Op.operands]; exact List.mem_map_of_mem hx)]]
  case buildSlice t len parts =>
    show aBuildSlice P t len (parts.toList.map fun x => (x.1, evO f' x.2)) s = aBuildSlice P t len (parts.toList.map fun x => (x.1, evO f x.2)) s
    rw [List.map_congr_left fun x hx => by rw [h x.2 (by simp only [Op.operands]; exact List.mem_map_of_mem hx)]]
  case load t x => show aLoad P t (evO f' x) s = _; rw [h x (by simp [Op.operands])]; rfl
  case store t x y => show aStore P t (evO f' x) (evO f' y) s = _; rw [h x (by simp [Op.operands]), h y (by simp [Op.operands])]; rfl
  case nilCheck x => show aNilCheck (evO f' x) s = _; rw [h x (by simp [Op.operands])]; rfl
  case binOp op t x y yt =>
    show BB.rec (motive := fun _ => OR) (fun g => g P (isLit x y) t (evO f' x) (evO f' y) s) (binBox op) = _
    rw [h x (by simp [Op.operands]), h y (by simp [Op.operands])]; rfl
  case unOp op t x => show aUn P op s (evO f' x) = _; rw [h x (by simp [Op.operands])]; rfl
  case convert src dst x => show aConv P src dst (evO f' x) s = _; rw [h x (by simp [Op.operands])]; rfl
  case makeInterface t x => show bif_ (ifaceOk P t) (OR.val (.ifc t (evO f' x)) s) _ = _; rw [h x (by simp [Op.operands])]; rfl
  case makeFunc fn first captured =>
    show (forceL (evL f' first.toList) fun l => forceL (evL f' captured.toList) fun m => OR.val (.clo fn l m) s) = _
    rw [hL _ fun x hx => h x (by simp only [Op.operands, Array.toList_append, List.mem_append]; exact .inl hx), hL _ fun x hx => h x (by simp only [Op.operands, Array.toList_append, List.mem_append]; exact .inr hx)]; rfl
  case makeSlice t l c => show aMakeSlice P t (evO f' l) (evO f' c) s = _; rw [h l (by simp [Op.operands]), h c (by simp [Op.operands])]; rfl
  case slice t x lo hi mx =>
    have hO : ∀ y : Option Operand, (∀ z, y = some z → evO f' z = evO f z) → y.map (evO f') = y.map (evO f) := by
      intro y hy; cases y with
      | none => rfl
      | some z => simp [hy z rfl]
    show aSlice P t (evO f' x) (lo.map (evO f')) (hi.map (evO f')) (mx.map (evO f')) s = _
    rw [h x (by simp [Op.operands]), hO lo (by rintro z rfl; exact h z (by simp [Op.operands])), hO hi (by rintro z rfl; exact h z (by simp [Op.operands])), hO mx (by rintro z rfl; exact h z (by simp [Op.operands]))]; rfl
  case fieldAddr t x i => show aFieldAddr P t (evO f' x) i s = _; rw [h x (by simp [Op.operands])]; rfl
  case field t x i => show aField P t (evO f' x) i s = _; rw [h x (by simp [Op.operands])]; rfl
  case indexAddr t x ix => show aIndexAddr P t (evO f' x) (evO f' ix) s = _; rw [h x (by simp [Op.operands]), h ix (by simp [Op.operands])]; rfl
  case index t x ix => show aIndex P t (evO f' x) (evO f' ix) s = _; rw [h x (by simp [Op.operands]), h ix (by simp [Op.operands])]; rfl
  case extract t ix => show aExtract (evO f' t) ix s = _; rw [h t (by simp [Op.operands])]; rfl
  case call c =>
    have hargs : evL f' c.args.toList = evL f c.args.toList := hL _ fun x hx => h x (by simp only [Op.operands, Call.operands, Array.toList_append, List.mem_append]; exact .inr hx)
    unfold callBox
    split
    · show (forceL (evL f' c.args.toList) fun args => aCallF P env _ args s) = _; rw [hargs]
    · rename_i x hn hc
      show callVal (evL f' c.args.toList) P env s (evO f' x) = callVal (evL f c.args.toList) P env s (evO f x)
      rw [hargs, h x (by simp only [Op.operands, Call.operands, hc, Array.toList_append, List.mem_append]; exact .inl (by simp))]
    · split
      · rename_i x hx
        show aLen (evO f' x) s _ = aLen (evO f x) s _
        rw [h x (by simp only [Op.operands, Call.operands, Array.toList_append, List.mem_append, hx]; exact .inr (by simp))]
      · rfl
    · split
      · rename_i x y hxy hsz
        show aAppend (evO f' x) (evO f' y) s _ = aAppend (evO f x) (evO f y) s _
        rw [h x (by simp only [Op.operands, Call.operands, Array.toList_append, List.mem_append, hxy]; exact .inr (by simp)), h y (by simp only [Op.operands, Call.operands, Array.toList_append, List.mem_append, hxy]; exact .inr (by simp))]
      · rfl
    · show minmax c _ P env ty f' s = minmax c _ P env ty f s; unfold minmax; rw [hargs]
    · show minmax c _ P env ty f' s = minmax c _ P env ty f s; unfold minmax; rw [hargs]
    · split
      · rename_i x hx
        show aCap (evO f' x) s _ = aCap (evO f x) s _
        rw [h x (by simp only [Op.operands, Call.operands, Array.toList_append, List.mem_append, hx]; exact .inr (by simp))]
      · rfl
    · split
      · rename_i x y hxy
        show aCopy (evO f' x) (evO f' y) s _ = aCopy (evO f x) (evO f y) s _
        rw [h x (by simp only [Op.operands, Call.operands, Array.toList_append, List.mem_append, hxy]; exact .inr (by simp)), h y (by simp only [Op.operands, Call.operands, Array.toList_append, List.mem_append, hxy]; exact .inr (by simp))]
      · rfl
    · split
      · rename_i x y hxy
        show aDelete P _ (evO f' x) (evO f' y) s = aDelete P _ (evO f x) (evO f y) s
        rw [h x (by simp only [Op.operands, Call.operands, Array.toList_append, List.mem_append, hxy]; exact .inr (by simp)), h y (by simp only [Op.operands, Call.operands, Array.toList_append, List.mem_append, hxy]; exact .inr (by simp))]
      · rfl
    · split
      · rename_i x hx
        show aSliceData (evO f' x) s = aSliceData (evO f x) s
        rw [h x (by simp only [Op.operands, Call.operands, Array.toList_append, List.mem_append, hx]; exact .inr (by simp))]
      · rfl
    · split
      · rename_i x y hxy
        show aUnsafeString P _ (evO f' x) (evO f' y) s = aUnsafeString P _ (evO f x) (evO f y) s
        rw [h x (by simp only [Op.operands, Call.operands, Array.toList_append, List.mem_append, hxy]; exact .inr (by simp)), h y (by simp only [Op.operands, Call.operands, Array.toList_append, List.mem_append, hxy]; exact .inr (by simp))]
      · rfl
    · rfl
  case range t x => show aRange P t (evO f' x) s = _; rw [h x (by simp [Op.operands])]; rfl
  case typeAssert x xt t ok => show aTypeAssert P (evO f' x) t ok s = _; rw [h x (by simp [Op.operands])]; rfl
  case makeMap t r =>
    show aMakeMap P t (r.map (evO f')) s = aMakeMap P t (r.map (evO f)) s
    have : r.map (evO f') = r.map (evO f) := by
      cases r with
      | none => rfl
      | some z => simp [h z (by simp [Op.operands])]
    rw [this]
  case entry x => show aEntry (evO f' x) s = _; rw [h x (by simp [Op.operands])]; rfl
  case lookup t x ix ok => show aLookup P t (evO f' x) (evO f' ix) ok s = _; rw [h x (by simp [Op.operands]), h ix (by simp [Op.operands])]; rfl
  case mapUpdate t m k x => show aMapUpd P t (evO f' m) (evO f' k) (evO f' x) s = _; rw [h m (by simp [Op.operands]), h k (by simp [Op.operands]), h x (by simp [Op.operands])]; rfl
  case mapEntry t m k => show aMapEntry P t (evO f' m) (evO f' k) s = _; rw [h m (by simp [Op.operands]), h k (by simp [Op.operands])]; rfl
  case entryStore t m st x => show aEntryStore (evO f' m) (evO f' st) (evO f' x) s = _; rw [h m (by simp [Op.operands]), h st (by simp [Op.operands]), h x (by simp [Op.operands])]; rfl
  case insert t m k x => show aMapUpd P t (evO f' m) (evO f' k) (evO f' x) s = _; rw [h m (by simp [Op.operands]), h k (by simp [Op.operands]), h x (by simp [Op.operands])]; rfl
  case next x b => show bif_ b (aNext (evO f' x) s) _ = _; rw [h x (by simp [Op.operands])]; rfl
  case defer c =>
    have hargs : evL f' c.args.toList = evL f c.args.toList := hL _ fun x hx => h x (by simp only [Op.operands, Call.operands, Array.toList_append, List.mem_append]; exact .inr hx)
    unfold deferBox
    split
    · rename_i x hc
      show deferV (evL f' c.args.toList) P s (evO f' x) = deferV (evL f c.args.toList) P s (evO f x)
      rw [hargs, h x (by simp only [Op.operands, Call.operands, hc, Array.toList_append, List.mem_append]; exact .inl (by simp))]
    · rfl
  all_goals rfl

/-! ## the calls put off -/

theorem aStore_ds {P : Program} {t : TypeId} {a x v : AV} {s s' : St} (hr : aStore P t a x s = .val v s') : s'.ds = s.ds := by
  obtain ⟨hd, i, _, hr⟩ := OP_inv hr
  obtain ⟨el, n, cs, lo, hi, _, hr⟩ := VB_inv hr
  obtain ⟨k, _, hr⟩ := Opt_inv hr
  obtain ⟨_, hr⟩ := bif_inv hr
  obtain ⟨_, hr⟩ := bif_inv hr
  obtain ⟨_, hr⟩ := bif_inv hr
  obtain ⟨_, hr⟩ := bif_inv hr
  obtain ⟨_, hr⟩ := bif_inv hr
  unfold store2 at hr
  rw [putLK_eq, stPut_eq] at hr
  cases hr; rfl

theorem append0_ds {a : AV} {v : AV} {s s' : St} {e sz bytes m : Nat} {news : List AV} (hr : append0 (asS a) s e sz bytes m news = .val v s') : s'.ds = s.ds := by
  obtain ⟨_, hr⟩ := bif_inv hr
  rcases OS_inv hr with ⟨hd, off, len, z, rfl, hr⟩ | ⟨rfl, hr⟩
  · cases m with
    | zero => cases hr; rfl
    | succ k =>
      obtain ⟨_, _, _, _, _, _, _, _, _, _, _, _, _, _, _, rfl⟩ := append1_inv hr
      rfl
  · cases m with
    | zero => cases hr; rfl
    | succ k =>
      obtain ⟨_, hr⟩ := bif_inv hr
      obtain ⟨_, hr⟩ := bif_inv hr
      obtain ⟨_, _, _, _, rfl⟩ := aNewRow_inv hr
      rfl
theorem aAppend_ds {a x v : AV} {s s' : St} {t : AT} (hr : aAppend a x s t = .val v s') : s'.ds = s.ds := by
  unfold aAppend at hr
  cases t with
  | no => cases hr
  | tx e =>
    obtain ⟨l, _, hr⟩ := Opt_inv hr
    rw [forceN_eq, forceL_eq] at hr
    exact append0_ds hr
  | sl e sz bytes =>
    dsimp only at hr
    cases hsc : sliceCells sz s (asS x) with
    | none => rw [hsc] at hr; cases hr
    | some m news =>
      rw [hsc] at hr
      exact append0_ds hr

theorem aExt_ds {P : Program} {args : List AV} {x : XF} {v : AV} {s s' : St} (hr : aExt P args s x = .val v s') : s'.ds = s.ds := by
  unfold aExt at hr
  cases x with
  | no => cases hr
  | mk k fn =>
    dsimp only at hr
    cases k with
    | same =>
      dsimp only at hr
      split at hr
      · cases hr; rfl
      · cases hr
    | noZero =>
      change noZeroV P fn args s = .val v s' at hr
      unfold noZeroV at hr
      split at hr
      · cases hz : noZeroT P fn with
        | no => rw [hz] at hr; cases hr
        | some e =>
          rw [hz] at hr
          obtain ⟨k, n, _, hr⟩ := OI_inv hr
          obtain ⟨_, hr⟩ := bif_inv hr
          cases n with
          | negSucc m => cases hr
          | ofNat n =>
            obtain ⟨_, hr⟩ := bif_inv (show noZero1 e n s = .val v s' from hr)
            rw [stNew_eq] at hr
            cases hr; rfl
      · cases hr
    | pure e =>
      change pureV P e args s = .val v s' at hr
      unfold pureV at hr
      split at hr
      · rw [((pure_aGen _ _) s v s' hr).1]
      · cases hr
    | no => cases hr

theorem aCallF_ds {P : Program} {env : Env} {g : FuncId} {args : List AV} {v : AV} {s s' : St} (hr : aCallF P env g args s = .val v s') : s'.ds = s.ds := by
  rcases bif2_inv hr with ⟨_, hr⟩ | ⟨_, hr⟩
  · cases hx : env g args s with
    | ret v1 s1 => rw [hx] at hr; cases hr; rfl
    | no w1 => rw [hx] at hr; cases hr
  · exact aExt_ds hr

theorem aCopy_ds {P : Program} {t : Option TypeId} {a x v : AV} {s s' : St} (hr : aCopy a x s (copyOf P t) = .val v s') : s'.ds = s.ds := by
  obtain ⟨_, e, i, _, _, _, hr⟩ := KT_inv hr
  cases hsc : sliceCells i.size s (asS x) with
  | none => rw [hsc] at hr; cases hr
  | some m news =>
    rw [hsc] at hr
    rcases OS_inv hr with ⟨hd, off, len, z, _, hr⟩ | ⟨_, hr⟩
    · obtain ⟨_, hr⟩ := bif_inv hr
      rw [forceN_eq] at hr
      rcases bif2_inv hr with ⟨_, hr⟩ | ⟨_, hr⟩
      · cases hr; rfl
      · rw [forceL_eq] at hr
        unfold copy2 at hr
        cases hst : store1 hd off (news.take (Nat.min m len * i.size)) (some (Nat.min m len * i.size)) s (blkAt s hd.A) with
        | no w1 => rw [hst] at hr; cases hr
        | val v1 s1 =>
          rw [hst] at hr
          cases hr
          obtain ⟨el, n, cs, lo, hi, _, hst⟩ := VB_inv hst
          obtain ⟨_, hst⟩ := bif_inv hst
          obtain ⟨_, hst⟩ := bif_inv hst
          obtain ⟨_, hst⟩ := bif_inv hst
          obtain ⟨_, hst⟩ := bif_inv hst
          obtain ⟨_, hst⟩ := bif_inv hst
          unfold store2 at hst
          rw [putLK_eq, stPut_eq] at hst
          cases hst; rfl
    · cases hr; rfl

theorem aMakeMap_ds {P : Program} {t : TypeId} {r : Option AV} {v : AV} {s s' : St} (hr : aMakeMap P t r s = .val v s') : s'.ds = s.ds := by
  obtain ⟨_, hr⟩ := bif_inv hr
  obtain ⟨_, hr⟩ := bif_inv hr
  rw [newOb_eq] at hr
  cases hr; rfl
theorem aMapUpd_ds {P : Program} {t : TypeId} {a b x v : AV} {s s' : St} (hr : aMapUpd P t a b x s = .val v s') : s'.ds = s.ds := by
  obtain ⟨_, m, X, rfl, _⟩ := aMapUpd_inv hr
  rfl
theorem aMapEntry_ds {P : Program} {t : TypeId} {a b v : AV} {s s' : St} (hr : aMapEntry P t a b s = .val v s') : s'.ds = s.ds := by
  obtain ⟨kd, kt, et, _, _, hr⟩ := MT_inv hr
  obtain ⟨_, hr⟩ := bif_inv hr
  rcases OM_inv hr with ⟨m, _, hr⟩ | ⟨_, hr⟩
  · obtain ⟨kd', l, clk, _, hr⟩ := MB_inv hr
    obtain ⟨_, hr⟩ := bif_inv hr
    unfold entry1 at hr
    cases hf : findL b l with
    | none =>
      rw [hf] at hr
      obtain ⟨z, _, hr⟩ := Opt_inv hr
      rw [forceN_eq, entryNew_eq] at hr
      cases hr; rfl
    | some v0 =>
      rw [hf] at hr
      change entryNew m kd' (updL b v0 l) clk b v0 s = .val v s' at hr
      rw [entryNew_eq] at hr
      cases hr; rfl
  · cases hr
theorem aEntryStore_ds {a st x v : AV} {s s' : St} (hr : aEntryStore a st x s = .val v s') : s'.ds = s.ds := by
  rcases OM_inv hr with ⟨m, _, hr⟩ | ⟨_, hr⟩
  · obtain ⟨kd, l, clk, k, id, _, hr⟩ := EB_inv hr
    unfold stpN at hr
    split at hr
    · obtain ⟨_, hr⟩ := bif_inv hr
      rw [setMap_eq] at hr
      cases hr; rfl
    · cases hr
  · cases hr
theorem aDelete_ds {P : Program} {t : Option TypeId} {a b v : AV} {s s' : St} (hr : aDelete P t a b s = .val v s') : s'.ds = s.ds := by
  obtain ⟨t, _, hr⟩ := Opt_inv hr
  obtain ⟨kd, kt, et, _, _, hr⟩ := MT_inv hr
  obtain ⟨_, hr⟩ := bif_inv hr
  rcases OM_inv hr with ⟨m, _, hr⟩ | ⟨_, hr⟩
  · obtain ⟨kd', l, clk, _, hr⟩ := MB_inv hr
    obtain ⟨_, hr⟩ := bif_inv hr
    rw [setMap_eq] at hr
    cases hr; rfl
  · cases hr; rfl

theorem aUnsafeString_ds {P : Program} {t : Option TypeId} {a x v : AV} {s s' : St} (hr : aUnsafeString P t a x s = .val v s') : s'.ds = s.ds := by
  obtain ⟨_, u, _, _, hr⟩ := PT_inv hr
  obtain ⟨k, n, rfl, hr⟩ := OI_inv hr
  obtain ⟨_, hr⟩ := bif_inv hr
  cases n with
  | negSucc m => cases hr
  | ofNat n =>
    change unsafeStr0 P u a n s = .val v s' at hr
    unfold unsafeStr0 at hr
    split at hr
    · obtain ⟨_, hr⟩ := bif_inv hr
      cases hr; rfl
    · rcases bif2_inv hr with ⟨_, hr⟩ | ⟨_, hr⟩
      · cases hr; rfl
      · obtain ⟨_, hr⟩ := bif_inv hr
        obtain ⟨el, m, cs, lo, hi, _, hr⟩ := VB_inv hr
        obtain ⟨_, hr⟩ := bif_inv hr
        obtain ⟨_, hr⟩ := bif_inv hr
        obtain ⟨_, hr⟩ := bif_inv hr
        obtain ⟨_, hr⟩ := bif_inv hr
        obtain ⟨as, _, hr⟩ := Opt_inv hr
        obtain ⟨tx, _, hr⟩ := Opt_inv hr
        unfold frozen1 at hr
        rw [forceL_eq, T4.setK_eq] at hr
        cases hr; rfl
    · cases hr

theorem aNext_ds {a v : AV} {s s' : St} (hr : aNext a s = .val v s') : s'.ds = s.ds := by
  unfold aNext at hr
  cases hm : itN a with
  | none => rw [hm] at hr; cases hr
  | some m =>
    rw [hm] at hr
    change next1 m s (iterAt s m) = .val v s' at hr
    unfold next1 at hr
    cases hi : iterAt s m with
    | none => rw [hi] at hr; cases hr
    | some l pos =>
      rw [hi] at hr
      change bif_ (R := OR) (Nat.blt pos l.length) _ _ = OR.val v s' at hr
      cases hlt : Nat.blt pos l.length with
      | false => rw [hlt] at hr; cases hr; rfl
      | true =>
        rw [hlt] at hr
        change next2 _ _ _ _ _ _ = .val v s' at hr
        unfold next2 at hr
        rw [forceN_eq, forceN_eq, T4.setK_eq] at hr
        cases hr; rfl

/-- no operation but defer touches the calls put off -/
theorem ans_ds {P : Program} {env : Env} {o : Oper} {f : T4 AV} (hnd : ∀ c, o.op ≠ .defer c) {s s' : St} {v : AV} (hr : ans P env o f s = .val v s') : s'.ds = s.ds := by
  by_cases h0 : cls P o.op = 0
  · rw [(ans_pure P env o f h0 s v s' hr).1]
  by_cases h1 : cls P o.op = 1
  · rw [(ans_read h1 hr).1]
  by_cases h2 : cls P o.op = 2
  · obtain ⟨ob, rfl⟩ := ans_new h2 hr
    rfl
  obtain ⟨dst, op, ty, pos, after, guard⟩ := o
  unfold ans at hr
  cases op <;> (unfold aop at hr; dsimp only at h0 h1 h2 hr)
  case convert src dst x =>
    exfalso
    have hc : clsC P src dst = 0 ∨ clsC P src dst = 1 ∨ clsC P src dst = 2 := by unfold clsC; split <;> simp
    rcases hc with hc | hc | hc
    · exact h0 hc
    · exact h1 hc
    · exact h2 hc
  case store t x y => exact aStore_ds hr
  case makeMap t r => exact absurd rfl h2
  case mapUpdate t m k x => exact aMapUpd_ds hr
  case entry x => rw [(aEntry_inv hr).1]
  case insert t m k x => exact aMapUpd_ds hr
  case mapEntry t m k => exact aMapEntry_ds hr
  case entryStore t m st x => exact aEntryStore_ds hr
  case defer c => exact absurd rfl (hnd c)
  case range t x =>
    rcases bif2_inv hr with ⟨_, hr⟩ | ⟨_, hr⟩
    · obtain ⟨l, _, hr⟩ := Opt_inv hr
      rw [newIter_eq] at hr
      cases hr; rfl
    · obtain ⟨_, hr⟩ := bif_inv hr
      rcases OM_inv hr with ⟨m, _, hr⟩ | ⟨_, hr⟩
      · obtain ⟨kd, l, clk, _, hr⟩ := MB_inv hr
        rw [newOb_eq] at hr
        cases hr; rfl
      · cases hr
  case next x b =>
    obtain ⟨_, hr⟩ := bif_inv hr
    exact aNext_ds hr
  case call c =>
    unfold callBox at hr
    split at hr
    · dsimp only at hr
      rw [forceL_eq] at hr
      exact aCallF_ds hr
    · rename_i x _ hcal
      change callVal (evL f c.args.toList) P env s (evO f x) = .val v s' at hr
      unfold callVal at hr
      split at hr
      · rw [forceL_eq] at hr; exact aCallF_ds hr
      · cases hr
    · rename_i hcal
      split at hr
      · rw [(read_aLen _ _ s v s' hr).1]
      · cases hr
    · split at hr
      · exact aAppend_ds hr
      · cases hr
    · rw [(pure_minmax P env ty c Builtin.min_ f s v s' hr).1]
    · rw [(pure_minmax P env ty c Builtin.max_ f s v s' hr).1]
    · split at hr
      · rw [(pure_aCap _ _ s v s' hr).1]
      · cases hr
    · split at hr
      · exact aCopy_ds hr
      · cases hr
    · split at hr
      · exact aDelete_ds hr
      · cases hr
    · split at hr
      · rw [(pure_aSliceData _ s v s' hr).1]
      · cases hr
    · split at hr
      · exact aUnsafeString_ds hr
      · cases hr
    · cases hr
  all_goals first | (cases hr; done) | exact absurd rfl h0 | exact absurd rfl h1 | exact absurd rfl h2

end Go.Eng
