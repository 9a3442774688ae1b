/-
  A trie keyed by numbers, made for the kernel's evaluation: its laws. (No program in sight.)
-/
namespace Go.Eng

/-- the way to a place of a trie -/
inductive Pth where
  | o
  | a (p : Pth)
  | b (p : Pth)
  | c (p : Pth)
  | d (p : Pth)

/-- a trie of four branches a node -/
inductive T4 (α : Type) where
  | e
  | n (v : Option α) (a b c d : T4 α)

namespace T4
variable {α : Type}

noncomputable def get (p : Pth) : T4 α → Option α :=
  Pth.rec (motive := fun _ => T4 α → Option α)
    (fun t => T4.rec (motive := fun _ => Option α) none (fun v _ _ _ _ _ _ _ _ => v) t)
    (fun _ ih t => T4.rec (motive := fun _ => Option α) none (fun _ a _ _ _ _ _ _ _ => ih a) t)
    (fun _ ih t => T4.rec (motive := fun _ => Option α) none (fun _ _ b _ _ _ _ _ _ => ih b) t)
    (fun _ ih t => T4.rec (motive := fun _ => Option α) none (fun _ _ _ c _ _ _ _ _ => ih c) t)
    (fun _ ih t => T4.rec (motive := fun _ => Option α) none (fun _ _ _ _ d _ _ _ _ => ih d) t) p

noncomputable def setK {R : Type} (x : α) (p : Pth) : T4 α → (T4 α → R) → R :=
  Pth.rec (motive := fun _ => T4 α → (T4 α → R) → R)
    (fun t k => T4.rec (motive := fun _ => R) (k (.n (some x) .e .e .e .e)) (fun _ a b c d _ _ _ _ => k (.n (some x) a b c d)) t)
    (fun _ ih t k => T4.rec (motive := fun _ => R) (ih .e fun y => k (.n none y .e .e .e)) (fun v a b c d _ _ _ _ => ih a fun y => k (.n v y b c d)) t)
    (fun _ ih t k => T4.rec (motive := fun _ => R) (ih .e fun y => k (.n none .e y .e .e)) (fun v a b c d _ _ _ _ => ih b fun y => k (.n v a y c d)) t)
    (fun _ ih t k => T4.rec (motive := fun _ => R) (ih .e fun y => k (.n none .e .e y .e)) (fun v a b c d _ _ _ _ => ih c fun y => k (.n v a b y d)) t)
    (fun _ ih t k => T4.rec (motive := fun _ => R) (ih .e fun y => k (.n none .e .e .e y)) (fun v a b c d _ _ _ _ => ih d fun y => k (.n v a b c y)) t) p

noncomputable def set (x : α) (p : Pth) : T4 α → T4 α :=
  Pth.rec (motive := fun _ => T4 α → T4 α)
    (fun t => T4.casesOn t (.n (some x) .e .e .e .e) (fun _ a b c d => .n (some x) a b c d))
    (fun _ ih t => T4.casesOn t (.n none (ih .e) .e .e .e) (fun v a b c d => .n v (ih a) b c d))
    (fun _ ih t => T4.casesOn t (.n none .e (ih .e) .e .e) (fun v a b c d => .n v a (ih b) c d))
    (fun _ ih t => T4.casesOn t (.n none .e .e (ih .e) .e) (fun v a b c d => .n v a b (ih c) d))
    (fun _ ih t => T4.casesOn t (.n none .e .e .e (ih .e)) (fun v a b c d => .n v a b c (ih d))) p

theorem setK_eq {R : Type} (x : α) (p : Pth) : ∀ (t : T4 α) (k : T4 α → R), setK x p t k = k (set x p t) := by
  induction p with
  | o => intro t k; cases t <;> rfl
  | a p ih => intro t k; cases t <;> exact ih _ _
  | b p ih => intro t k; cases t <;> exact ih _ _
  | c p ih => intro t k; cases t <;> exact ih _ _
  | d p ih => intro t k; cases t <;> exact ih _ _

theorem get_e (p : Pth) : get p (.e : T4 α) = none := by cases p <;> rfl

theorem set_o (x : α) (t : T4 α) : set x .o t = match t with | .e => .n (some x) .e .e .e .e | .n _ a b c d => .n (some x) a b c d := by cases t <;> rfl
theorem set_a (x : α) (p : Pth) (t : T4 α) : set x (.a p) t = match t with | .e => .n none (set x p .e) .e .e .e | .n v a b c d => .n v (set x p a) b c d := by
  cases t <;> rfl
theorem set_b (x : α) (p : Pth) (t : T4 α) : set x (.b p) t = match t with | .e => .n none .e (set x p .e) .e .e | .n v a b c d => .n v a (set x p b) c d := by
  cases t <;> rfl
theorem set_c (x : α) (p : Pth) (t : T4 α) : set x (.c p) t = match t with | .e => .n none .e .e (set x p .e) .e | .n v a b c d => .n v a b (set x p c) d := by
  cases t <;> rfl
theorem set_d (x : α) (p : Pth) (t : T4 α) : set x (.d p) t = match t with | .e => .n none .e .e .e (set x p .e) | .n v a b c d => .n v a b c (set x p d) := by
  cases t <;> rfl

theorem get_set_self (x : α) (p : Pth) : ∀ t : T4 α, get p (set x p t) = some x := by
  induction p with
  | o => intro t; cases t <;> rfl
  | a p ih => intro t; rw [set_a]; cases t <;> exact ih _
  | b p ih => intro t; rw [set_b]; cases t <;> exact ih _
  | c p ih => intro t; rw [set_c]; cases t <;> exact ih _
  | d p ih => intro t; rw [set_d]; cases t <;> exact ih _

theorem get_set_ne (x : α) (p : Pth) : ∀ (q : Pth), q ≠ p → ∀ t : T4 α, get q (set x p t) = get q t := by
  induction p with
  | o => intro q hq t; rw [set_o]; cases q <;> cases t <;> first | exact absurd rfl hq | rfl | exact get_e _
  | a p ih =>
    intro q hq t; rw [set_a]
    cases q with
    | a q => cases t with
      | e => exact (ih q (fun h => hq (h ▸ rfl)) .e).trans (get_e _)
      | n v a b c d => exact ih q (fun h => hq (h ▸ rfl)) a
    | _ => cases t <;> first | rfl | exact get_e _
  | b p ih =>
    intro q hq t; rw [set_b]
    cases q with
    | b q => cases t with
      | e => exact (ih q (fun h => hq (h ▸ rfl)) .e).trans (get_e _)
      | n v a b c d => exact ih q (fun h => hq (h ▸ rfl)) b
    | _ => cases t <;> first | rfl | exact get_e _
  | c p ih =>
    intro q hq t; rw [set_c]
    cases q with
    | c q => cases t with
      | e => exact (ih q (fun h => hq (h ▸ rfl)) .e).trans (get_e _)
      | n v a b c d => exact ih q (fun h => hq (h ▸ rfl)) c
    | _ => cases t <;> first | rfl | exact get_e _
  | d p ih =>
    intro q hq t; rw [set_d]
    cases q with
    | d q => cases t with
      | e => exact (ih q (fun h => hq (h ▸ rfl)) .e).trans (get_e _)
      | n v a b c d => exact ih q (fun h => hq (h ▸ rfl)) d
    | _ => cases t <;> first | rfl | exact get_e _
end T4

def D4 (r : Nat) (p : Pth) : Pth := Nat.casesOn r (.a p) (fun r => Nat.casesOn r (.b p) (fun r => Nat.casesOn r (.c p) (fun _ => .d p)))

noncomputable def pathF (f : Nat) : Nat → Pth :=
  Nat.rec (motive := fun _ => Nat → Pth) (fun _ => .o) (fun _ ih n => Nat.casesOn n .o (fun m => D4 (Nat.mod m 4) (ih (Nat.div m 4)))) f

noncomputable def pathOf (n : Nat) : Pth := pathF n n

def Pth.num : Pth → Nat
  | .o => 0
  | .a p => 4 * p.num + 1
  | .b p => 4 * p.num + 2
  | .c p => 4 * p.num + 3
  | .d p => 4 * p.num + 4

theorem num_D4 (r : Nat) (h : r < 4) (p : Pth) : (D4 r p).num = 4 * p.num + r + 1 := by
  match r with
  | 0 => rfl
  | 1 => rfl
  | 2 => rfl
  | 3 => rfl
  | n + 4 => omega

theorem num_pathF (f : Nat) : ∀ n, n ≤ f → (pathF f n).num = n := by
  induction f with
  | zero => intro n h; have : n = 0 := by omega
            subst this; rfl
  | succ f ih =>
    intro n h
    cases n with
    | zero => rfl
    | succ m =>
      show (D4 (m % 4) (pathF f (m / 4))).num = m + 1
      rw [num_D4 _ (Nat.mod_lt _ (by decide)), ih _ (by omega)]
      omega

theorem num_pathOf (n : Nat) : (pathOf n).num = n := num_pathF n n (Nat.le_refl n)
theorem pathOf_inj {m n : Nat} (h : pathOf m = pathOf n) : m = n := by rw [← num_pathOf m, ← num_pathOf n, h]

namespace T4
variable {α : Type}
/-- what stands at a number -/
noncomputable def at_ (t : T4 α) (i : Nat) : Option α := t.get (pathOf i)
/-- the trie with something at a number -/
noncomputable def put (t : T4 α) (i : Nat) (x : α) : T4 α := set x (pathOf i) t

theorem set_comm (x y : α) (p : Pth) : ∀ (q : Pth), p ≠ q → ∀ t : T4 α, set x p (set y q t) = set y q (set x p t) := by
  induction p with
  | o => intro q hq t; cases q <;> cases t <;> first | exact absurd rfl hq | rfl
  | a p ih =>
    intro q hq t
    cases q with
    | a q => cases t with
      | e => simp only [set_a]; rw [ih q (fun h => hq (h ▸ rfl)) .e]
      | n v a b c d => simp only [set_a]; rw [ih q (fun h => hq (h ▸ rfl)) a]
    | _ => cases t <;> rfl
  | b p ih =>
    intro q hq t
    cases q with
    | b q => cases t with
      | e => simp only [set_b]; rw [ih q (fun h => hq (h ▸ rfl)) .e]
      | n v a b c d => simp only [set_b]; rw [ih q (fun h => hq (h ▸ rfl)) b]
    | _ => cases t <;> rfl
  | c p ih =>
    intro q hq t
    cases q with
    | c q => cases t with
      | e => simp only [set_c]; rw [ih q (fun h => hq (h ▸ rfl)) .e]
      | n v a b c d => simp only [set_c]; rw [ih q (fun h => hq (h ▸ rfl)) c]
    | _ => cases t <;> rfl
  | d p ih =>
    intro q hq t
    cases q with
    | d q => cases t with
      | e => simp only [set_d]; rw [ih q (fun h => hq (h ▸ rfl)) .e]
      | n v a b c d => simp only [set_d]; rw [ih q (fun h => hq (h ▸ rfl)) d]
    | _ => cases t <;> rfl
theorem put_comm (t : T4 α) (i j : Nat) (x y : α) (h : i ≠ j) : (t.put i x).put j y = (t.put j y).put i x := (set_comm x y (pathOf i) (pathOf j) (fun e => h (pathOf_inj e)) t).symm

theorem at_e (i : Nat) : (.e : T4 α).at_ i = none := get_e _
theorem at_put (t : T4 α) (i : Nat) (x : α) (j : Nat) : (t.put i x).at_ j = if j = i then some x else t.at_ j := by
  unfold at_ put
  by_cases h : j = i
  · subst h; rw [if_pos rfl]; exact get_set_self _ _ _
  · rw [if_neg h]; exact get_set_ne _ _ _ (fun e => h (pathOf_inj e)) _
theorem at_put_self (t : T4 α) (i : Nat) (x : α) : (t.put i x).at_ i = some x := by rw [at_put, if_pos rfl]
theorem at_put_ne (t : T4 α) (i : Nat) (x : α) (j : Nat) (h : j ≠ i) : (t.put i x).at_ j = t.at_ j := by rw [at_put, if_neg h]
/-- is it so of each? -/
noncomputable def all (q : α → Bool) (t : T4 α) : Bool :=
  T4.rec (motive := fun _ => Bool) true (fun v _ _ _ _ a b c d => Option.rec (motive := fun _ => Bool) true q v && (a && (b && (c && d)))) t
theorem all_get {q : α → Bool} (p : Pth) : ∀ (t : T4 α), all q t = true → ∀ x, get p t = some x → q x = true := by
  induction p with
  | o =>
    intro t h x hx
    cases t with
    | e => cases hx
    | n v a b c d =>
      obtain rfl : v = some x := hx
      exact (Bool.and_eq_true _ _ ▸ (show (q x && (all q a && (all q b && (all q c && all q d)))) = true from h)).1
  | a p ih =>
    intro t h x hx
    cases t with
    | e => cases hx
    | n v a b c d =>
      have h' : (Option.rec (motive := fun _ => Bool) true q v && (all q a && (all q b && (all q c && all q d)))) = true := h
      simp only [Bool.and_eq_true] at h'
      exact ih a h'.2.1 x hx
  | b p ih =>
    intro t h x hx
    cases t with
    | e => cases hx
    | n v a b c d =>
      have h' : (Option.rec (motive := fun _ => Bool) true q v && (all q a && (all q b && (all q c && all q d)))) = true := h
      simp only [Bool.and_eq_true] at h'
      exact ih b h'.2.2.1 x hx
  | c p ih =>
    intro t h x hx
    cases t with
    | e => cases hx
    | n v a b c d =>
      have h' : (Option.rec (motive := fun _ => Bool) true q v && (all q a && (all q b && (all q c && all q d)))) = true := h
      simp only [Bool.and_eq_true] at h'
      exact ih c h'.2.2.2.1 x hx
  | d p ih =>
    intro t h x hx
    cases t with
    | e => cases hx
    | n v a b c d =>
      have h' : (Option.rec (motive := fun _ => Bool) true q v && (all q a && (all q b && (all q c && all q d)))) = true := h
      simp only [Bool.and_eq_true] at h'
      exact ih d h'.2.2.2.2 x hx
theorem all_at {q : α → Bool} {t : T4 α} (h : all q t = true) {i : Nat} {x : α} (hx : t.at_ i = some x) : q x = true := all_get _ t h x hx
theorem put_put (t : T4 α) (i : Nat) (x y : α) : (t.put i x).put i y = t.put i y := by
  have key : ∀ (p : Pth) (t : T4 α), set y p (set x p t) = set y p t := by
    intro p
    induction p with
    | o => intro t; cases t <;> rfl
    | a p ih => intro t; cases t <;> (simp only [set_a]; rw [ih])
    | b p ih => intro t; cases t <;> (simp only [set_b]; rw [ih])
    | c p ih => intro t; cases t <;> (simp only [set_c]; rw [ih])
    | d p ih => intro t; cases t <;> (simp only [set_d]; rw [ih])
  exact key _ _

end T4
end Go.Eng
