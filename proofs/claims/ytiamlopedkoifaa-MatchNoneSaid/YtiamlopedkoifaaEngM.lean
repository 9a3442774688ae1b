/-
  What an operation's class promises: the quiet ones tell the same wherever they stand; a load tells the same behind new memory.
-/
import Derived.Test.YtiamlopedkoifaaEngL
namespace Go.Eng
open Go
set_option linter.unusedVariables false

/-- an answer that memory has no part in -/
def PureO (r : St → OR) : Prop := ∀ s v s', r s = .val v s' → s' = s ∧ ∀ s2, r s2 = .val v s2

theorem PureO.val (v : AV) : PureO fun s => .val v s := fun s w s' h => by cases h; exact ⟨rfl, fun _ => rfl⟩
theorem PureO.no (w : List String) : PureO fun _ => .no w := fun s v s' h => by cases h
theorem PureO.bif {c : Bool} {x y : St → OR} (hx : PureO x) (hy : PureO y) : PureO fun s => bif_ c (x s) (y s) := by cases c <;> assumption
theorem PureO.opt {α : Type} {o : Option α} {F : α → St → OR} {w : List String} (h : ∀ a, PureO (F a)) : PureO fun s => Option.rec (motive := fun _ => OR) (.no w) (fun a => F a s) o := by
  cases o with
  | none => exact .no w
  | some a => exact h a
theorem PureO.opt' {α : Type} {o : Option α} {F : α → St → OR} {G : St → OR} (hg : PureO G) (h : ∀ a, PureO (F a)) : PureO fun s => Option.rec (motive := fun _ => OR) (G s) (fun a => F a s) o := by
  cases o with
  | none => exact hg
  | some a => exact h a
theorem PureO.congr {r r' : St → OR} (h : PureO r) (he : ∀ s, r' s = r s) : PureO r' := fun s v s' hr => by
  rw [he] at hr
  obtain ⟨h1, h2⟩ := h s v s' hr
  exact ⟨h1, fun s2 => by rw [he]; exact h2 s2⟩
theorem PureO.n {n : Nat} {F : Nat → St → OR} (h : ∀ m, PureO (F m)) : PureO fun s => forceN n fun m => F m s := (h n).congr fun s => forceN_eq _ _
theorem PureO.l {α : Type} {l : List α} {F : List α → St → OR} (h : ∀ m, PureO (F m)) : PureO fun s => forceL l fun m => F m s := (h l).congr fun s => forceL_eq _ _
theorem PureO.i {n : Int} {F : Int → St → OR} (h : ∀ m, PureO (F m)) : PureO fun s => forceI n fun m => F m s := (h n).congr fun s => forceI_eq _ _
theorem PureO.a {v : AV} {F : AV → St → OR} (h : ∀ m, PureO (F m)) : PureO fun s => forceA v fun m => F m s := (h v).congr fun s => forceA_eq _ _

theorem pure_optA (o : Option AV) : PureO fun s => optA s o := .opt fun a => .a fun m => .val m
theorem pure_optV (o : Option AV) : PureO fun s => optV s o := .opt fun a => .val a
theorem pure_valB (b : Bool) : PureO (valB b) := by cases b <;> exact .val _
theorem pure_wrapK (k : IntKind) (n : Int) : PureO (wrapK k n) := .bif (.i fun m => .val _) (.i fun m => .val _)
theorem pure_aGen (P : Program) (sem : Sem Value) : PureO (aGen P sem) := by
  unfold aGen; cases pureRun P sem with
  | none => exact .no _
  | some v => exact .val _
theorem pure_aggOpt (o : Option (List AV)) : PureO fun s => aggOpt s o := .opt fun l => .l fun m => .val _

theorem pure_aBuild (P : Program) (t : TypeId) (parts : List (Nat × AV)) : PureO (aBuild P t parts) := by
  unfold aBuild; cases placesOf P t with
  | struct z l => exact pure_aggOpt _
  | array z sz => exact pure_aggOpt _
  | no => exact .no _
theorem pure_aNilCheck (a : AV) : PureO (aNilCheck a) := by
  unfold aNilCheck; cases asP a with
  | some h i => exact .val _
  | none => exact .no _
theorem pure_aFieldAddr (P : Program) (t : TypeId) (a : AV) (i : Nat) : PureO (aFieldAddr P t a i) := by
  unfold aFieldAddr; cases asP a with
  | none => exact .no _
  | some h j =>
    show PureO fun s => fieldAddr1 h j s (fieldOf P t i)
    unfold fieldAddr1; cases fieldOf P t i with
    | no => exact .no _
    | some off sz ft => exact .bif (.bif (.n fun m => .val _) (.no _)) (.no _)
theorem pure_aField (P : Program) (t : TypeId) (a : AV) (i : Nat) : PureO (aField P t a i) := .opt fun l => by
  cases fieldOf P t i with
  | no => exact .no _
  | some off sz ft => exact pure_optA _
theorem pure_indexSl (sz i : Nat) (x : OS) : PureO fun s => indexSl sz i s x := by
  unfold indexSl; cases x with
  | some h off len z => exact .bif (.bif (.n fun m => .val _) (.no _)) (.no _)
  | nil => exact .no _
  | none => exact .no _
theorem pure_indexAr (n sz i : Nat) (x : OP) : PureO fun s => indexAr n sz i s x := by
  unfold indexAr; cases x with
  | some h j => exact .bif (.bif (.bif (.n fun m => .val _) (.no _)) (.no _)) (.no _)
  | none => exact .no _
theorem pure_aIndexAddr (P : Program) (t : TypeId) (a b : AV) : PureO (aIndexAddr P t a b) := by
  unfold aIndexAddr; cases asN b with
  | none => exact .no _
  | some i => cases indexOf P t with
    | slice sz => exact pure_indexSl _ _ _
    | array n sz e => exact pure_indexAr _ _ _ _
    | str => exact .no _
    | no => exact .no _
theorem pure_aIndex (P : Program) (t : TypeId) (a b : AV) : PureO (aIndex P t a b) := by
  unfold aIndex; cases asN b with
  | none => exact .no _
  | some i => cases indexOf P t with
    | slice sz => exact .no _
    | array n sz e => exact .opt fun l => .bif (pure_optA _) (.no _)
    | str => exact .opt fun l => .opt fun x => .n fun m => .val _
    | no => exact .no _
theorem pure_bounds (lo hi : Option AV) (n : Nat) (w : List String) (K : Nat → Nat → St → OR) (h : ∀ l m, PureO (K l m)) : PureO fun s => bounds lo hi n (.no w) fun l m => K l m s := by
  unfold bounds; cases bound hi n with
  | none => exact .no _
  | some hh => cases bound lo 0 with
    | none => exact .no _
    | some l => exact .bif (.bif (.n fun l => .n fun m => h l m) (.no _)) (.no _)
theorem pure_aSlice (P : Program) (t : TypeId) (x : AV) (lo hi mx : Option AV) : PureO (aSlice P t x lo hi mx) := by
  unfold aSlice; cases mx with
  | some _ => exact .no _
  | none => cases indexOf P t with
    | slice sz =>
      show PureO fun s => OS.rec (motive := fun _ => OR) _ _ _ (asS x)
      cases asS x with
      | some hd off len z => exact .bif (pure_bounds lo hi len _ (fun l h s => forceN (off + l * sz) fun off => forceN (h - l) fun n => .val (.sl hd off n sz) s) fun l m => .n fun o => .n fun q => .val _) (.no _)
      | nil => exact pure_bounds lo hi 0 _ (fun _ _ s => .val (.c (.slice none 0 0)) s) fun l m => .val _
      | none => exact .no _
    | array n sz e => exact .no _
    | str => exact .opt fun b => pure_bounds lo hi b.length _ (fun l h s => forceL ((b.drop l).take (h - l)) fun r => .val (.s r) s) fun l m => .l fun r => .val _
    | no => exact .no _
theorem pure_aLen (x : AV) (t : LT) : PureO fun s => aLen x s t := by
  unfold aLen; cases t with
  | str => exact .opt fun l => .n fun m => .val _
  | sl =>
    show PureO fun s => lenS s (asS x)
    unfold lenS; cases asS x with
    | some _ _ len _ => exact .val _
    | nil => exact .val _
    | none => exact .no _
  | n n => exact .val _
  | no => exact .no _
theorem pure_aUn (P : Program) (op : UnOp) (a : AV) : PureO fun s => aUn P op s a := by
  unfold aUn; split
  · exact pure_valB _
  · exact pure_wrapK _ _
  · exact pure_aGen _ _
  · exact pure_aGen _ _
  · exact .no _
theorem pure_aConv (P : Program) (src dst : TypeId) (a : AV) : PureO (aConv P src dst a) := by
  unfold aConv; cases convOf P src dst with
  | int k =>
    show PureO fun s => OI.rec (motive := fun _ => OR) (fun _ n => wrapK k n s) (.no _) (asI a)
    cases asI a with
    | some k' n => exact pure_wrapK _ _
    | none => exact .no _
  | gen =>
    show PureO (convG P src dst a)
    unfold convG; split
    · exact pure_aGen _ _
    · exact pure_aGen _ _
    · exact pure_aGen _ _
    · exact .no _
  | no => exact .no _
theorem pure_aExtract (a : AV) (i : Nat) : PureO (aExtract a i) := .opt fun l => pure_optV _
theorem pure_pickV (f : T4 AV) (a b : Operand) (c : AV) : PureO fun s => pickV f a b s c := by
  unfold pickV; cases asB c <;> first | exact .val _ | exact .no _

def PureB (g : BF) : Prop := ∀ P lit t a b, PureO (g P lit t a b)
theorem pure_bin2 {g : IntKind → Int → Int → St → OR} {slow : BF} (hg : ∀ k m n, PureO (g k m n)) (hs : PureB slow) : PureB (bin2 g slow) := by
  intro P lit t a b
  unfold bin2; cases as2 a b with
  | ii k m n => exact hg k m n
  | no => exact hs P lit t a b
theorem pure_slowGen (op : BinOp) : PureB (slowGen op) := by
  intro P lit t a b; unfold slowGen; split
  · exact pure_aGen _ _
  · exact .no _
theorem pure_slowInt (op : BinOp) : PureB (slowInt op) := by
  intro P lit t a b; unfold slowInt; split
  · exact pure_aGen _ _
  · exact pure_aGen _ _
  · exact .no _
theorem pure_slowAdd : PureB slowAdd := fun P lit t a b => .opt' (pure_slowGen _ P lit t a b) fun l => .opt fun m => .l fun r => .bif (.val _) (.no _)
theorem pure_slowCmp (op : BinOp) (g : List UInt8 → List UInt8 → Bool) : PureB (slowCmp op g) := fun P lit t a b => .opt' (pure_slowGen _ P lit t a b) fun l => .opt fun m => pure_valB _
theorem pure_slowEq : PureB slowEq := by
  intro P lit t a b; unfold slowEq; split
  · exact pure_aGen _ _
  · exact .opt fun r => pure_valB _
theorem pure_slowNe : PureB slowNe := by
  intro P lit t a b; unfold slowNe; split
  · exact pure_aGen _ _
  · exact .opt fun r => pure_valB _
theorem pure_quoI (k : IntKind) (m n : Int) : PureO (quoI k m n) := by
  unfold quoI; cases m with
  | negSucc => exact .no _
  | ofNat x => cases n with
    | negSucc => exact .no _
    | ofNat y => exact .bif (pure_wrapK _ _) (.no _)
theorem pure_remI (k : IntKind) (m n : Int) : PureO (remI k m n) := by
  unfold remI; cases m with
  | negSucc => exact .no _
  | ofNat x => cases n with
    | negSucc => exact .no _
    | ofNat y => exact .bif (.n fun r => .val _) (.no _)
theorem pure_binBox (op : BinOp) : ∃ g, binBox op = .mk g ∧ PureB g := by
  cases op with
  | add => exact ⟨_, rfl, pure_bin2 (fun k m n => pure_wrapK _ _) pure_slowAdd⟩
  | sub => exact ⟨_, rfl, pure_bin2 (fun k m n => pure_wrapK _ _) (pure_slowGen _)⟩
  | mul => exact ⟨_, rfl, pure_bin2 (fun k m n => pure_wrapK _ _) (pure_slowGen _)⟩
  | quo => exact ⟨_, rfl, pure_bin2 pure_quoI (pure_slowGen _)⟩
  | rem => exact ⟨_, rfl, pure_bin2 pure_remI (pure_slowGen _)⟩
  | eql => exact ⟨_, rfl, pure_bin2 (fun k m n => pure_valB _) pure_slowEq⟩
  | neq => exact ⟨_, rfl, pure_bin2 (fun k m n => pure_valB _) pure_slowNe⟩
  | lss => exact ⟨_, rfl, pure_bin2 (fun k m n => pure_valB _) (pure_slowCmp _ _)⟩
  | leq => exact ⟨_, rfl, pure_bin2 (fun k m n => pure_valB _) (pure_slowCmp _ _)⟩
  | gtr => exact ⟨_, rfl, pure_bin2 (fun k m n => pure_valB _) (pure_slowCmp _ _)⟩
  | geq => exact ⟨_, rfl, pure_bin2 (fun k m n => pure_valB _) (pure_slowCmp _ _)⟩
  | and => exact ⟨_, rfl, pure_slowInt _⟩
  | or => exact ⟨_, rfl, pure_slowInt _⟩
  | xor => exact ⟨_, rfl, pure_slowInt _⟩
  | shl => exact ⟨_, rfl, pure_slowInt _⟩
  | shr => exact ⟨_, rfl, pure_slowInt _⟩
  | andNot => exact ⟨_, rfl, pure_slowInt _⟩

/-- an operation's answer -/
noncomputable def ans (P : Program) (env : Env) (o : Oper) (f : T4 AV) (s : St) : OR := OpB.rec (motive := fun _ => OR) (fun g => g P env o.type f s) (aop o.op)

theorem pure_minmax (P : Program) (env : Env) (ty : TypeId) (c : Call) (sem : Array TypeId → TypeId → Array Value → Sem Value) (f : T4 AV) : PureO (minmax c sem P env ty f) := by
  unfold minmax; cases allV (evL f c.args.toList) with
  | none => exact .no _
  | some vs => exact pure_aGen _ _

theorem ans_pure (P : Program) (env : Env) (o : Oper) (f : T4 AV) (h : cls o.op = 0) : PureO (ans P env o f) := by
  obtain ⟨dst, op, ty, pos, after, guard⟩ := o
  unfold ans
  cases op <;> (unfold aop; dsimp only at h ⊢)
  case move x => exact .val _
  case assign x => exact .val _
  case pick c x y => exact pure_pickV _ _ _ _
  case build t parts => exact pure_aBuild _ _ _
  case nilCheck x => exact pure_aNilCheck _
  case binOp op t x y yt =>
    obtain ⟨g, h1, h2⟩ := pure_binBox op
    show PureO fun s => BB.rec (motive := fun _ => OR) (fun g => g P (isLit x y) t (evO f x) (evO f y) s) (binBox op)
    rw [h1]; exact h2 _ _ _ _ _
  case unOp op t x => exact pure_aUn _ _ _
  case convert src dst x => exact pure_aConv _ _ _ _
  case makeInterface t x => exact .bif (.val _) (.no _)
  case makeFunc fn first captured => exact .l fun l => .l fun m => .val _
  case slice t x lo hi mx => exact pure_aSlice _ _ _ _ _ _
  case fieldAddr t x i => exact pure_aFieldAddr _ _ _ _
  case field t x i => exact pure_aField _ _ _ _
  case indexAddr t x ix => exact pure_aIndexAddr _ _ _ _
  case index t x ix => exact pure_aIndex _ _ _ _
  case extract t ix => exact pure_aExtract _ _
  case call c =>
    unfold cls at h
    dsimp only at h
    unfold callBox
    split
    · rename_i g hc; rw [hc] at h; cases h
    · rename_i x hn hc; rw [hc] at h; cases h
    · split
      · exact pure_aLen _ _
      · exact .no _
    · rename_i hc; rw [hc] at h; cases h
    · exact pure_minmax _ _ _ _ _ _
    · exact pure_minmax _ _ _ _ _ _
    · exact .no _
  all_goals first | (cases h; done) | exact .no _

/-- memory that holds what was there -/
def Grows (s s' : St) : Prop := ∀ A o, s.heap.at_ A = some o → s'.heap.at_ A = some o
theorem Grows.refl (s : St) : Grows s s := fun _ _ h => h
theorem Grows.trans {s s1 s2 : St} (h : Grows s s1) (h' : Grows s1 s2) : Grows s s2 := fun A o x => h' A o (h A o x)
def Fresh (s : St) : Prop := ∀ A, s.next ≤ A → s.heap.at_ A = none

theorem blkAt_of {s : St} {A : Nat} {el : TypeId} {n : Nat} {cs : T4 AV} {lo hi : Nat} (h : s.heap.at_ A = some (.blk el n cs lo hi)) : blkAt s A = .some el n cs lo hi := by
  unfold blkAt; rw [h]

theorem aLoad_grows {P : Program} {t : TypeId} {a v : AV} {s s' : St} (h : aLoad P t a s = .val v s') : s' = s ∧ ∀ s2, Grows s s2 → aLoad P t a s2 = .val v s2 := by
  unfold aLoad at h ⊢
  cases ha : asP a with
  | none => rw [ha] at h; cases h
  | some hd i =>
    rw [ha] at h
    obtain ⟨el, n, cs, lo, hi, hb, hr⟩ := VB_inv h
    obtain ⟨hlo, hr⟩ := bif_inv hr
    have main : PureO fun s => load1 cs i hd.stop s (tySize P t) := by
      unfold load1; cases tySize P t with
      | one => exact pure_optV _
      | many k => exact .bif (.opt fun l => .val _) (.no _)
      | no => exact .no _
    obtain ⟨h1, h2⟩ := main s v s' hr
    refine ⟨h1, fun s2 hg => ?_⟩
    show load0 P t hd i s2 (blkAt s2 hd.A) = _
    rw [blkAt_of (hg _ _ hb)]
    show bif_ (Nat.ble lo hd.e) _ _ = _
    rw [bif_t hlo]
    exact h2 s2

theorem ans_read {P : Program} {env : Env} {o : Oper} {f : T4 AV} (h : cls o.op = 1) {s s' : St} {v : AV} (hr : ans P env o f s = .val v s') : s' = s ∧ ∀ s2, Grows s s2 → ans P env o f s2 = .val v s2 := by
  obtain ⟨dst, op, ty, pos, after, guard⟩ := o
  unfold ans at hr ⊢
  cases op <;> (unfold aop at hr ⊢; dsimp only at h hr ⊢)
  case load t x => exact aLoad_grows hr
  case call c =>
    unfold cls at h
    dsimp only at h
    split at h <;> cases h
  all_goals cases h

theorem new_grows {s : St} (hf : Fresh s) (el : TypeId) (cells : List AV) : Grows s (s.new el cells) := by
  intro A o h
  show (s.heap.put s.next _).at_ A = some o
  rw [T4.at_put, if_neg]
  · exact h
  · intro e; subst e; rw [hf s.next (Nat.le_refl _)] at h; cases h
theorem new_fresh {s : St} (hf : Fresh s) (el : TypeId) (cells : List AV) : Fresh (s.new el cells) := by
  intro A hA
  have hA' : s.next + 1 ≤ A := hA
  show (s.heap.put s.next _).at_ A = none
  rw [T4.at_put, if_neg (by omega)]
  exact hf A (by omega)

theorem aNewVar_new {el : TypeId} {cells : List AV} {s s' : St} {v : AV} (h : aNewVar el cells s = .val v s') : s' = s.new el cells := by
  obtain ⟨_, h⟩ := bif_inv h
  obtain ⟨_, h⟩ := bif_inv h
  rw [stNew_eq] at h
  cases h; rfl

theorem ans_alloc {P : Program} {env : Env} {o : Oper} {f : T4 AV} (h : cls o.op = 2) {s s' : St} {v : AV} (hr : ans P env o f s = .val v s') (hf : Fresh s) : Grows s s' := by
  obtain ⟨dst, op, ty, pos, after, guard⟩ := o
  unfold ans at hr
  cases op <;> (unfold aop at hr; dsimp only at h hr)
  case alloc el =>
    obtain ⟨z, _, hr⟩ := Opt_inv hr
    rw [aNewVar_new hr]; exact new_grows hf _ _
  case box el x =>
    change (forceL (cellsL (evO f x)) fun l => aNewVar el l s) = .val v s' at hr
    rw [forceL_eq] at hr
    rw [aNewVar_new hr]; exact new_grows hf _ _
  case buildSlice t len parts =>
    obtain ⟨e, i, zv, _, _, _, _, _, hr⟩ := EL_inv hr
    obtain ⟨_, hr⟩ := bif_inv hr
    obtain ⟨_, hr⟩ := bif_inv hr
    obtain ⟨out, _, hr⟩ := Opt_inv hr
    rw [forceL_eq] at hr
    obtain ⟨_, _, _, _, rfl⟩ := aNewRow_inv hr
    exact new_grows hf _ _
  case makeSlice t l c =>
    obtain ⟨k, l', _, hr⟩ := ON_inv hr
    obtain ⟨k', c', _, hr⟩ := ON_inv hr
    rw [forceN_eq] at hr
    obtain ⟨e, i, zv, _, _, _, _, _, hr⟩ := EL_inv hr
    obtain ⟨_, hr⟩ := bif_inv hr
    obtain ⟨_, hr⟩ := bif_inv hr
    obtain ⟨_, hr⟩ := bif_inv hr
    obtain ⟨_, _, _, _, rfl⟩ := aNewRow_inv hr
    exact new_grows hf _ _
  case call c =>
    unfold cls at h
    dsimp only at h
    split at h <;> cases h
  all_goals cases h

/-- an answer hangs on the operands alone -/
theorem ans_congr {P : Program} {env : Env} {o : Oper} {f f' : T4 AV} (h : ∀ x ∈ o.op.operands.toList, evO f' x = evO f x) (s : St) : ans P env o f' s = ans P env o f s := by
  obtain ⟨dst, op, ty, pos, after, guard⟩ := o
  have hL : ∀ l : List Operand, (∀ x ∈ l, evO f' x = evO f x) → evL f' l = evL f l := fun l hl => List.map_congr_left hl
  unfold ans
  cases op <;> (unfold aop; dsimp only at h ⊢)
  case move x => show OR.val _ s = _; rw [h x (by simp [Op.operands])]; rfl
  case assign x => show OR.val _ s = _; rw [h x (by simp [Op.operands])]; rfl
  case pick c x y => show pickV f' x y s (evO f' c) = pickV f x y s (evO f c); unfold pickV; rw [h c (by simp [Op.operands]), h x (by simp [Op.operands]), h y (by simp [Op.operands])]
  case box el x => show (forceL (cellsL (evO f' x)) fun l => aNewVar el l s) = _; rw [h x (by simp [Op.operands])]; rfl
  case build t parts =>
    show aBuild P t (parts.toList.map fun x => (x.1, evO f' x.2)) s = aBuild P t (parts.toList.map fun x => (x.1, evO f x.2)) s
    rw [List.map_congr_left fun x hx => by rw [h x.2 (by simp only [Op.operands]; exact List.mem_map_of_mem hx)]]
  case buildSlice t len parts =>
    show aBuildSlice P t len (parts.toList.map fun x => (x.1, evO f' x.2)) s = aBuildSlice P t len (parts.toList.map fun x => (x.1, evO f x.2)) s
    rw [List.map_congr_left fun x hx => by rw [h x.2 (by simp only [Op.operands]; exact List.mem_map_of_mem hx)]]
  case load t x => show aLoad P t (evO f' x) s = _; rw [h x (by simp [Op.operands])]; rfl
  case store t x y => show aStore P t (evO f' x) (evO f' y) s = _; rw [h x (by simp [Op.operands]), h y (by simp [Op.operands])]; rfl
  case nilCheck x => show aNilCheck (evO f' x) s = _; rw [h x (by simp [Op.operands])]; rfl
  case binOp op t x y yt =>
    show BB.rec (motive := fun _ => OR) (fun g => g P (isLit x y) t (evO f' x) (evO f' y) s) (binBox op) = _
    rw [h x (by simp [Op.operands]), h y (by simp [Op.operands])]; rfl
  case unOp op t x => show aUn P op s (evO f' x) = _; rw [h x (by simp [Op.operands])]; rfl
  case convert src dst x => show aConv P src dst (evO f' x) s = _; rw [h x (by simp [Op.operands])]; rfl
  case makeInterface t x => show bif_ (ifaceOk P t) (OR.val (.ifc t (evO f' x)) s) _ = _; rw [h x (by simp [Op.operands])]; rfl
  case makeFunc fn first captured =>
    show (forceL (evL f' first.toList) fun l => forceL (evL f' captured.toList) fun m => OR.val (.clo fn l m) s) = _
    rw [hL _ fun x hx => h x (by simp only [Op.operands, Array.toList_append, List.mem_append]; exact .inl hx), hL _ fun x hx => h x (by simp only [Op.operands, Array.toList_append, List.mem_append]; exact .inr hx)]; rfl
  case makeSlice t l c => show aMakeSlice P t (evO f' l) (evO f' c) s = _; rw [h l (by simp [Op.operands]), h c (by simp [Op.operands])]; rfl
  case slice t x lo hi mx =>
    have hO : ∀ y : Option Operand, (∀ z, y = some z → evO f' z = evO f z) → y.map (evO f') = y.map (evO f) := by
      intro y hy; cases y with
      | none => rfl
      | some z => simp [hy z rfl]
    show aSlice P t (evO f' x) (lo.map (evO f')) (hi.map (evO f')) (mx.map (evO f')) s = _
    rw [h x (by simp [Op.operands]), hO lo (by rintro z rfl; exact h z (by simp [Op.operands])), hO hi (by rintro z rfl; exact h z (by simp [Op.operands])), hO mx (by rintro z rfl; exact h z (by simp [Op.operands]))]; rfl
  case fieldAddr t x i => show aFieldAddr P t (evO f' x) i s = _; rw [h x (by simp [Op.operands])]; rfl
  case field t x i => show aField P t (evO f' x) i s = _; rw [h x (by simp [Op.operands])]; rfl
  case indexAddr t x ix => show aIndexAddr P t (evO f' x) (evO f' ix) s = _; rw [h x (by simp [Op.operands]), h ix (by simp [Op.operands])]; rfl
  case index t x ix => show aIndex P t (evO f' x) (evO f' ix) s = _; rw [h x (by simp [Op.operands]), h ix (by simp [Op.operands])]; rfl
  case extract t ix => show aExtract (evO f' t) ix s = _; rw [h t (by simp [Op.operands])]; rfl
  case call c =>
    have hargs : evL f' c.args.toList = evL f c.args.toList := hL _ fun x hx => h x (by simp only [Op.operands, Call.operands, Array.toList_append, List.mem_append]; exact .inr hx)
    unfold callBox
    split
    · show (forceL (evL f' c.args.toList) fun args => aCallF P env _ args s) = _; rw [hargs]
    · rename_i x hn hc
      show callVal (evL f' c.args.toList) P env s (evO f' x) = callVal (evL f c.args.toList) P env s (evO f x)
      rw [hargs, h x (by simp only [Op.operands, Call.operands, hc, Array.toList_append, List.mem_append]; exact .inl (by simp))]
    · split
      · rename_i x hx
        show aLen (evO f' x) s _ = aLen (evO f x) s _
        rw [h x (by simp only [Op.operands, Call.operands, Array.toList_append, List.mem_append, hx]; exact .inr (by simp))]
      · rfl
    · split
      · rename_i x y hxy hsz
        show aAppend (evO f' x) (evO f' y) s _ = aAppend (evO f x) (evO f y) s _
        rw [h x (by simp only [Op.operands, Call.operands, Array.toList_append, List.mem_append, hxy]; exact .inr (by simp)), h y (by simp only [Op.operands, Call.operands, Array.toList_append, List.mem_append, hxy]; exact .inr (by simp))]
      · rfl
    · show minmax c _ P env ty f' s = minmax c _ P env ty f s; unfold minmax; rw [hargs]
    · show minmax c _ P env ty f' s = minmax c _ P env ty f s; unfold minmax; rw [hargs]
    · rfl
  all_goals rfl

end Go.Eng
